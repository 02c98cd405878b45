/- What the document's Put does to four rows. Conditions: as each law says. -/
import Derived.Test.YtjgfmanahimpoaaDoorGa
namespace Go.Proofs.YtjgfmanahimpoaaDoor
open Go.AM
set_option maxHeartbeats 8000000
set_option maxRecDepth 10000
theorem put4_lk (C : Nat) (r0 r1 r2 r3 : Row) (r c : Int) (x : Cl) (hC : C ≤ 1000) (l0 : r0.length = C) (o0 : OkR r0) (l1 : r1.length = C) (o1 : OkR r1) (l2 : r2.length = C) (o2 : OkR r2) (l3 : r3.length = C) (o3 : OkR r3) : CR Tryd.prog 37 [[0], [1], [2], [3], [4]] [.la [0] 1 0 4, .p (.int .i64 r), .p (.int .i64 c), .p (clP x)] (g4 C r0 r1 r2 r3)
    (fun v rs' => v = .p (.bool (putB C 4 r c x)) ∧ lookT rs' [0] = some [.la [1] 2 0 C, .la [2] 2 0 C, .la [3] 2 0 C, .la [4] 2 0 C] ∧ lookT rs' [1] = some (cw (putI C 4 r c x 0 r0)) ∧ lookT rs' [2] = some (cw (putI C 4 r c x 1 r1)) ∧ lookT rs' [3] = some (cw (putI C 4 r c x 2 r2)) ∧ lookT rs' [4] = some (cw (putI C 4 r c x 3 r3))) := by
  obtain ⟨t, w⟩ := x
  refine CR_of_wp mixed 9 [] Tryd.func37 rfl (by kernel_rfl) rfl (by simp) (by simp) ?_
  have hin := in4_cr C r0 r1 r2 r3 r c hC
  by_cases hB : (decide (0 ≤ r) && decide (r < 4) && decide (0 ≤ c) && decide (c < C)) = true
  · rw [hB] at hin
    obtain ⟨⟨⟨h0, h1⟩, h2⟩, h3⟩ : ((0 ≤ r ∧ r < 4) ∧ 0 ≤ c) ∧ c < C := by simpa using hB
    obtain ⟨q, rfl⟩ : ∃ q : Nat, c = q := ⟨c.toNat, by omega⟩
    have hq : q < C := by omega
    clear hB
    by_cases hw1 : w = 1
    · subst hw1
      have hpb : putB C 4 r q ⟨t, 1⟩ = true := by simp [putB, h0, h1, hq]
      rw [hpb]
      have hpi : ∀ i l, putI C 4 r q ⟨t, 1⟩ i l = if r = (i : Int) then putR l q ⟨t, 1⟩ else l := fun i l => by rw [putI, hpb]; simp
      simp only [hpi]
      obtain ⟨k, rfl⟩ : ∃ k : Nat, r = k := ⟨r.toNat, by omega⟩
      have hk : k < 4 := by omega
      clear hpi hpb
      rcases k with _ | _ | _ | _ | k
      · have hq' : q < r0.length := by omega
        have hlo := loose_c r0 q C l0 hq' hC o0
        have ll := looseR_len r0 q
        have hpr : putR r0 q ⟨t, 1⟩ = (looseR r0 q).set q ⟨t, 1⟩ := by simp [putR]
        have ew := cw_put (l := looseR r0 q) (c := q) t 1 (by omega)
        simp (maxSteps := 1000000) (disch := omega) [go_sem, Tryd.f37, g4, clP]
        refine ⟨⟨rfl, by simp [Tryd.f49]⟩, CallK_of [([0], [0]), ([1], [1]), ([2], [2]), ([3], [3]), ([4], [4])] hin (by simp [go_sem]) ⟨by simp [go_sem], by simp [go_sem]⟩ (by simp [go_sem, g4, cw_ren, cw_upd]) ?_⟩
        rintro y rs ⟨rfl, rfl⟩
        simp (maxSteps := 1000000) (disch := omega) [go_sem, wrap64, g4, cw_ren, cw_upd]
        refine ⟨⟨rfl, by simp [Tryd.f50]⟩, CallK_of [([0], [1])] hlo (by simp [go_sem]) ⟨by simp [go_sem], by simp [go_sem]⟩ (by simp [go_sem, rowRoot, cw_ren]) ?_⟩
        rintro y rs ⟨rfl, rfl⟩
        simp (maxSteps := 1000000) (disch := omega) [go_sem, rowRoot, cw_ren, cw_upd, cw_len, ll, l0, ew]
        refine ⟨by omega, by omega, ?_⟩
        exact ret_keep [[0], [1], [2], [3], [4]] _ (by simp) (by simp [go_sem, resOf, leA]) ⟨rfl, by simp [go_sem, cw_upd, hpr]⟩
      · have hq' : q < r1.length := by omega
        have hlo := loose_c r1 q C l1 hq' hC o1
        have ll := looseR_len r1 q
        have hpr : putR r1 q ⟨t, 1⟩ = (looseR r1 q).set q ⟨t, 1⟩ := by simp [putR]
        have ew := cw_put (l := looseR r1 q) (c := q) t 1 (by omega)
        simp (maxSteps := 1000000) (disch := omega) [go_sem, Tryd.f37, g4, clP]
        refine ⟨⟨rfl, by simp [Tryd.f49]⟩, CallK_of [([0], [0]), ([1], [1]), ([2], [2]), ([3], [3]), ([4], [4])] hin (by simp [go_sem]) ⟨by simp [go_sem], by simp [go_sem]⟩ (by simp [go_sem, g4, cw_ren, cw_upd]) ?_⟩
        rintro y rs ⟨rfl, rfl⟩
        simp (maxSteps := 1000000) (disch := omega) [go_sem, wrap64, g4, cw_ren, cw_upd]
        refine ⟨⟨rfl, by simp [Tryd.f50]⟩, CallK_of [([0], [2])] hlo (by simp [go_sem]) ⟨by simp [go_sem], by simp [go_sem]⟩ (by simp [go_sem, rowRoot, cw_ren]) ?_⟩
        rintro y rs ⟨rfl, rfl⟩
        simp (maxSteps := 1000000) (disch := omega) [go_sem, rowRoot, cw_ren, cw_upd, cw_len, ll, l1, ew]
        refine ⟨by omega, by omega, ?_⟩
        exact ret_keep [[0], [1], [2], [3], [4]] _ (by simp) (by simp [go_sem, resOf, leA]) ⟨rfl, by simp [go_sem, cw_upd, hpr]⟩
      · have hq' : q < r2.length := by omega
        have hlo := loose_c r2 q C l2 hq' hC o2
        have ll := looseR_len r2 q
        have hpr : putR r2 q ⟨t, 1⟩ = (looseR r2 q).set q ⟨t, 1⟩ := by simp [putR]
        have ew := cw_put (l := looseR r2 q) (c := q) t 1 (by omega)
        simp (maxSteps := 1000000) (disch := omega) [go_sem, Tryd.f37, g4, clP]
        refine ⟨⟨rfl, by simp [Tryd.f49]⟩, CallK_of [([0], [0]), ([1], [1]), ([2], [2]), ([3], [3]), ([4], [4])] hin (by simp [go_sem]) ⟨by simp [go_sem], by simp [go_sem]⟩ (by simp [go_sem, g4, cw_ren, cw_upd]) ?_⟩
        rintro y rs ⟨rfl, rfl⟩
        simp (maxSteps := 1000000) (disch := omega) [go_sem, wrap64, g4, cw_ren, cw_upd]
        refine ⟨⟨rfl, by simp [Tryd.f50]⟩, CallK_of [([0], [3])] hlo (by simp [go_sem]) ⟨by simp [go_sem], by simp [go_sem]⟩ (by simp [go_sem, rowRoot, cw_ren]) ?_⟩
        rintro y rs ⟨rfl, rfl⟩
        simp (maxSteps := 1000000) (disch := omega) [go_sem, rowRoot, cw_ren, cw_upd, cw_len, ll, l2, ew]
        refine ⟨by omega, by omega, ?_⟩
        exact ret_keep [[0], [1], [2], [3], [4]] _ (by simp) (by simp [go_sem, resOf, leA]) ⟨rfl, by simp [go_sem, cw_upd, hpr]⟩
      · have hq' : q < r3.length := by omega
        have hlo := loose_c r3 q C l3 hq' hC o3
        have ll := looseR_len r3 q
        have hpr : putR r3 q ⟨t, 1⟩ = (looseR r3 q).set q ⟨t, 1⟩ := by simp [putR]
        have ew := cw_put (l := looseR r3 q) (c := q) t 1 (by omega)
        simp (maxSteps := 1000000) (disch := omega) [go_sem, Tryd.f37, g4, clP]
        refine ⟨⟨rfl, by simp [Tryd.f49]⟩, CallK_of [([0], [0]), ([1], [1]), ([2], [2]), ([3], [3]), ([4], [4])] hin (by simp [go_sem]) ⟨by simp [go_sem], by simp [go_sem]⟩ (by simp [go_sem, g4, cw_ren, cw_upd]) ?_⟩
        rintro y rs ⟨rfl, rfl⟩
        simp (maxSteps := 1000000) (disch := omega) [go_sem, wrap64, g4, cw_ren, cw_upd]
        refine ⟨⟨rfl, by simp [Tryd.f50]⟩, CallK_of [([0], [4])] hlo (by simp [go_sem]) ⟨by simp [go_sem], by simp [go_sem]⟩ (by simp [go_sem, rowRoot, cw_ren]) ?_⟩
        rintro y rs ⟨rfl, rfl⟩
        simp (maxSteps := 1000000) (disch := omega) [go_sem, rowRoot, cw_ren, cw_upd, cw_len, ll, l3, ew]
        refine ⟨by omega, by omega, ?_⟩
        exact ret_keep [[0], [1], [2], [3], [4]] _ (by simp) (by simp [go_sem, resOf, leA]) ⟨rfl, by simp [go_sem, cw_upd, hpr]⟩
      · omega
    · by_cases hw2 : w = 2
      · subst hw2
        by_cases hq1 : q + 1 < C
        · have hpb : putB C 4 r q ⟨t, 2⟩ = true := by simp [putB, h0, h1, hq]; omega
          rw [hpb]
          have hpi : ∀ i l, putI C 4 r q ⟨t, 2⟩ i l = if r = (i : Int) then putR l q ⟨t, 2⟩ else l := fun i l => by rw [putI, hpb]; simp
          simp only [hpi]
          have hin2 := in4_cr C r0 r1 r2 r3 r ((q : Int) + 1) hC
          have hB2 : (decide (0 ≤ r) && decide (r < 4) && decide (0 ≤ (q : Int) + 1) && decide ((q : Int) + 1 < C)) = true := by simp [h0, h1]; omega
          rw [hB2] at hin2
          clear hB2
          obtain ⟨k, rfl⟩ : ∃ k : Nat, r = k := ⟨r.toNat, by omega⟩
          have hk : k < 4 := by omega
          clear hpi hpb
          rcases k with _ | _ | _ | _ | k
          · have hq' : q < r0.length := by omega
            have ll := looseR_len r0 q
            have hlo := loose_c r0 q C l0 hq' hC o0
            have hlo2 := loose_c (looseR r0 q) (q + 1) C (by omega) (by omega) hC (o0.looseR q)
            have ll2 := looseR_len (looseR r0 q) (q + 1)
            have hpr : putR r0 q ⟨t, 2⟩ = ((looseR (looseR r0 q) (q + 1)).set (q + 1) ⟨[], 0⟩).set q ⟨t, 2⟩ := by simp [putR]
            have ew1 := cw_put (l := looseR (looseR r0 q) (q + 1)) (c := q + 1) [] 0 (by omega)
            have ew2 := cw_put (l := (looseR (looseR r0 q) (q + 1)).set (q + 1) ⟨[], 0⟩) (c := q) t 2 (by rw [List.length_set]; omega)
            simp (maxSteps := 1000000) (disch := omega) [go_sem, Tryd.f37, g4, clP]
            refine ⟨⟨rfl, by simp [Tryd.f49]⟩, CallK_of [([0], [0]), ([1], [1]), ([2], [2]), ([3], [3]), ([4], [4])] hin (by simp [go_sem]) ⟨by simp [go_sem], by simp [go_sem]⟩ (by simp [go_sem, g4, cw_ren, cw_upd]) ?_⟩
            rintro y rs ⟨rfl, rfl⟩
            simp (maxSteps := 1000000) (disch := omega) [go_sem, wrap64, g4, cw_ren, cw_upd]
            refine ⟨⟨rfl, by simp [Tryd.f49]⟩, CallK_of [([0], [0]), ([1], [1]), ([2], [2]), ([3], [3]), ([4], [4])] hin2 (by simp [go_sem]) ⟨by simp [go_sem], by simp [go_sem]⟩ (by simp [go_sem, g4, cw_ren]) ?_⟩
            rintro y rs ⟨rfl, rfl⟩
            simp (maxSteps := 1000000) (disch := omega) [go_sem, g4, cw_ren, cw_upd]
            refine ⟨⟨rfl, by simp [Tryd.f50]⟩, CallK_of [([0], [1])] hlo (by simp [go_sem]) ⟨by simp [go_sem], by simp [go_sem]⟩ (by simp [go_sem, rowRoot, cw_ren]) ?_⟩
            rintro y rs ⟨rfl, rfl⟩
            simp (maxSteps := 1000000) (disch := omega) [go_sem, wrap64, rowRoot, cw_ren, cw_upd]
            refine ⟨⟨rfl, by simp [Tryd.f50]⟩, CallK_of [([0], [1])] hlo2 (by simp [go_sem]) ⟨by simp [go_sem], by simp [go_sem]⟩ (by simp [go_sem, rowRoot, cw_ren]) ?_⟩
            rintro y rs ⟨rfl, rfl⟩
            simp (maxSteps := 1000000) (disch := omega) [go_sem, wrap64, rowRoot, cw_ren, cw_upd, cw_len, ll, ll2, l0, ew1, ew2]
            refine ⟨⟨by omega, by omega⟩, by omega, by omega, by omega, ?_⟩
            exact ret_keep [[0], [1], [2], [3], [4]] _ (by simp) (by simp [go_sem, resOf, leA]) ⟨rfl, by simp [go_sem, cw_upd, hpr]⟩
          · have hq' : q < r1.length := by omega
            have ll := looseR_len r1 q
            have hlo := loose_c r1 q C l1 hq' hC o1
            have hlo2 := loose_c (looseR r1 q) (q + 1) C (by omega) (by omega) hC (o1.looseR q)
            have ll2 := looseR_len (looseR r1 q) (q + 1)
            have hpr : putR r1 q ⟨t, 2⟩ = ((looseR (looseR r1 q) (q + 1)).set (q + 1) ⟨[], 0⟩).set q ⟨t, 2⟩ := by simp [putR]
            have ew1 := cw_put (l := looseR (looseR r1 q) (q + 1)) (c := q + 1) [] 0 (by omega)
            have ew2 := cw_put (l := (looseR (looseR r1 q) (q + 1)).set (q + 1) ⟨[], 0⟩) (c := q) t 2 (by rw [List.length_set]; omega)
            simp (maxSteps := 1000000) (disch := omega) [go_sem, Tryd.f37, g4, clP]
            refine ⟨⟨rfl, by simp [Tryd.f49]⟩, CallK_of [([0], [0]), ([1], [1]), ([2], [2]), ([3], [3]), ([4], [4])] hin (by simp [go_sem]) ⟨by simp [go_sem], by simp [go_sem]⟩ (by simp [go_sem, g4, cw_ren, cw_upd]) ?_⟩
            rintro y rs ⟨rfl, rfl⟩
            simp (maxSteps := 1000000) (disch := omega) [go_sem, wrap64, g4, cw_ren, cw_upd]
            refine ⟨⟨rfl, by simp [Tryd.f49]⟩, CallK_of [([0], [0]), ([1], [1]), ([2], [2]), ([3], [3]), ([4], [4])] hin2 (by simp [go_sem]) ⟨by simp [go_sem], by simp [go_sem]⟩ (by simp [go_sem, g4, cw_ren]) ?_⟩
            rintro y rs ⟨rfl, rfl⟩
            simp (maxSteps := 1000000) (disch := omega) [go_sem, g4, cw_ren, cw_upd]
            refine ⟨⟨rfl, by simp [Tryd.f50]⟩, CallK_of [([0], [2])] hlo (by simp [go_sem]) ⟨by simp [go_sem], by simp [go_sem]⟩ (by simp [go_sem, rowRoot, cw_ren]) ?_⟩
            rintro y rs ⟨rfl, rfl⟩
            simp (maxSteps := 1000000) (disch := omega) [go_sem, wrap64, rowRoot, cw_ren, cw_upd]
            refine ⟨⟨rfl, by simp [Tryd.f50]⟩, CallK_of [([0], [2])] hlo2 (by simp [go_sem]) ⟨by simp [go_sem], by simp [go_sem]⟩ (by simp [go_sem, rowRoot, cw_ren]) ?_⟩
            rintro y rs ⟨rfl, rfl⟩
            simp (maxSteps := 1000000) (disch := omega) [go_sem, wrap64, rowRoot, cw_ren, cw_upd, cw_len, ll, ll2, l1, ew1, ew2]
            refine ⟨⟨by omega, by omega⟩, by omega, by omega, by omega, ?_⟩
            exact ret_keep [[0], [1], [2], [3], [4]] _ (by simp) (by simp [go_sem, resOf, leA]) ⟨rfl, by simp [go_sem, cw_upd, hpr]⟩
          · have hq' : q < r2.length := by omega
            have ll := looseR_len r2 q
            have hlo := loose_c r2 q C l2 hq' hC o2
            have hlo2 := loose_c (looseR r2 q) (q + 1) C (by omega) (by omega) hC (o2.looseR q)
            have ll2 := looseR_len (looseR r2 q) (q + 1)
            have hpr : putR r2 q ⟨t, 2⟩ = ((looseR (looseR r2 q) (q + 1)).set (q + 1) ⟨[], 0⟩).set q ⟨t, 2⟩ := by simp [putR]
            have ew1 := cw_put (l := looseR (looseR r2 q) (q + 1)) (c := q + 1) [] 0 (by omega)
            have ew2 := cw_put (l := (looseR (looseR r2 q) (q + 1)).set (q + 1) ⟨[], 0⟩) (c := q) t 2 (by rw [List.length_set]; omega)
            simp (maxSteps := 1000000) (disch := omega) [go_sem, Tryd.f37, g4, clP]
            refine ⟨⟨rfl, by simp [Tryd.f49]⟩, CallK_of [([0], [0]), ([1], [1]), ([2], [2]), ([3], [3]), ([4], [4])] hin (by simp [go_sem]) ⟨by simp [go_sem], by simp [go_sem]⟩ (by simp [go_sem, g4, cw_ren, cw_upd]) ?_⟩
            rintro y rs ⟨rfl, rfl⟩
            simp (maxSteps := 1000000) (disch := omega) [go_sem, wrap64, g4, cw_ren, cw_upd]
            refine ⟨⟨rfl, by simp [Tryd.f49]⟩, CallK_of [([0], [0]), ([1], [1]), ([2], [2]), ([3], [3]), ([4], [4])] hin2 (by simp [go_sem]) ⟨by simp [go_sem], by simp [go_sem]⟩ (by simp [go_sem, g4, cw_ren]) ?_⟩
            rintro y rs ⟨rfl, rfl⟩
            simp (maxSteps := 1000000) (disch := omega) [go_sem, g4, cw_ren, cw_upd]
            refine ⟨⟨rfl, by simp [Tryd.f50]⟩, CallK_of [([0], [3])] hlo (by simp [go_sem]) ⟨by simp [go_sem], by simp [go_sem]⟩ (by simp [go_sem, rowRoot, cw_ren]) ?_⟩
            rintro y rs ⟨rfl, rfl⟩
            simp (maxSteps := 1000000) (disch := omega) [go_sem, wrap64, rowRoot, cw_ren, cw_upd]
            refine ⟨⟨rfl, by simp [Tryd.f50]⟩, CallK_of [([0], [3])] hlo2 (by simp [go_sem]) ⟨by simp [go_sem], by simp [go_sem]⟩ (by simp [go_sem, rowRoot, cw_ren]) ?_⟩
            rintro y rs ⟨rfl, rfl⟩
            simp (maxSteps := 1000000) (disch := omega) [go_sem, wrap64, rowRoot, cw_ren, cw_upd, cw_len, ll, ll2, l2, ew1, ew2]
            refine ⟨⟨by omega, by omega⟩, by omega, by omega, by omega, ?_⟩
            exact ret_keep [[0], [1], [2], [3], [4]] _ (by simp) (by simp [go_sem, resOf, leA]) ⟨rfl, by simp [go_sem, cw_upd, hpr]⟩
          · have hq' : q < r3.length := by omega
            have ll := looseR_len r3 q
            have hlo := loose_c r3 q C l3 hq' hC o3
            have hlo2 := loose_c (looseR r3 q) (q + 1) C (by omega) (by omega) hC (o3.looseR q)
            have ll2 := looseR_len (looseR r3 q) (q + 1)
            have hpr : putR r3 q ⟨t, 2⟩ = ((looseR (looseR r3 q) (q + 1)).set (q + 1) ⟨[], 0⟩).set q ⟨t, 2⟩ := by simp [putR]
            have ew1 := cw_put (l := looseR (looseR r3 q) (q + 1)) (c := q + 1) [] 0 (by omega)
            have ew2 := cw_put (l := (looseR (looseR r3 q) (q + 1)).set (q + 1) ⟨[], 0⟩) (c := q) t 2 (by rw [List.length_set]; omega)
            simp (maxSteps := 1000000) (disch := omega) [go_sem, Tryd.f37, g4, clP]
            refine ⟨⟨rfl, by simp [Tryd.f49]⟩, CallK_of [([0], [0]), ([1], [1]), ([2], [2]), ([3], [3]), ([4], [4])] hin (by simp [go_sem]) ⟨by simp [go_sem], by simp [go_sem]⟩ (by simp [go_sem, g4, cw_ren, cw_upd]) ?_⟩
            rintro y rs ⟨rfl, rfl⟩
            simp (maxSteps := 1000000) (disch := omega) [go_sem, wrap64, g4, cw_ren, cw_upd]
            refine ⟨⟨rfl, by simp [Tryd.f49]⟩, CallK_of [([0], [0]), ([1], [1]), ([2], [2]), ([3], [3]), ([4], [4])] hin2 (by simp [go_sem]) ⟨by simp [go_sem], by simp [go_sem]⟩ (by simp [go_sem, g4, cw_ren]) ?_⟩
            rintro y rs ⟨rfl, rfl⟩
            simp (maxSteps := 1000000) (disch := omega) [go_sem, g4, cw_ren, cw_upd]
            refine ⟨⟨rfl, by simp [Tryd.f50]⟩, CallK_of [([0], [4])] hlo (by simp [go_sem]) ⟨by simp [go_sem], by simp [go_sem]⟩ (by simp [go_sem, rowRoot, cw_ren]) ?_⟩
            rintro y rs ⟨rfl, rfl⟩
            simp (maxSteps := 1000000) (disch := omega) [go_sem, wrap64, rowRoot, cw_ren, cw_upd]
            refine ⟨⟨rfl, by simp [Tryd.f50]⟩, CallK_of [([0], [4])] hlo2 (by simp [go_sem]) ⟨by simp [go_sem], by simp [go_sem]⟩ (by simp [go_sem, rowRoot, cw_ren]) ?_⟩
            rintro y rs ⟨rfl, rfl⟩
            simp (maxSteps := 1000000) (disch := omega) [go_sem, wrap64, rowRoot, cw_ren, cw_upd, cw_len, ll, ll2, l3, ew1, ew2]
            refine ⟨⟨by omega, by omega⟩, by omega, by omega, by omega, ?_⟩
            exact ret_keep [[0], [1], [2], [3], [4]] _ (by simp) (by simp [go_sem, resOf, leA]) ⟨rfl, by simp [go_sem, cw_upd, hpr]⟩
          · omega
        · have hpb : putB C 4 r q ⟨t, 2⟩ = false := by simp [putB]; omega
          rw [hpb]
          have hpi : ∀ i l, putI C 4 r q ⟨t, 2⟩ i l = l := fun i l => by rw [putI, hpb]; rfl
          simp only [hpi]
          have hin2 := in4_cr C r0 r1 r2 r3 r ((q : Int) + 1) hC
          have hB2 : (decide (0 ≤ r) && decide (r < 4) && decide (0 ≤ (q : Int) + 1) && decide ((q : Int) + 1 < C)) = false := by
            have : ¬ ((q : Int) + 1 < C) := by omega
            simp [this]
          rw [hB2] at hin2
          clear hB2 hpi hpb
          simp (maxSteps := 1000000) (disch := omega) [go_sem, Tryd.f37, g4, clP]
          refine ⟨⟨rfl, by simp [Tryd.f49]⟩, CallK_of [([0], [0]), ([1], [1]), ([2], [2]), ([3], [3]), ([4], [4])] hin (by simp [go_sem]) ⟨by simp [go_sem], by simp [go_sem]⟩ (by simp [go_sem, g4, cw_ren, cw_upd]) ?_⟩
          rintro y rs ⟨rfl, rfl⟩
          simp (maxSteps := 1000000) (disch := omega) [go_sem, wrap64, g4, cw_ren, cw_upd]
          refine ⟨⟨rfl, by simp [Tryd.f49]⟩, CallK_of [([0], [0]), ([1], [1]), ([2], [2]), ([3], [3]), ([4], [4])] hin2 (by simp [go_sem]) ⟨by simp [go_sem], by simp [go_sem]⟩ (by simp [go_sem, g4, cw_ren]) ?_⟩
          rintro y rs ⟨rfl, rfl⟩
          simp (maxSteps := 1000000) (disch := omega) [go_sem, g4, cw_ren, cw_upd]
          exact ret_keep [[0], [1], [2], [3], [4]] _ (by simp) (by simp [go_sem, resOf, leA]) ⟨rfl, by simp [go_sem, cw_upd]⟩
      · have hpb : putB C 4 r q ⟨t, w⟩ = false := by simp [putB, hw1, hw2]
        rw [hpb]
        have hpi : ∀ i l, putI C 4 r q ⟨t, w⟩ i l = l := fun i l => by rw [putI, hpb]; rfl
        simp only [hpi]
        clear hpi hpb
        simp (maxSteps := 1000000) (disch := omega) [go_sem, Tryd.f37, g4, clP]
        refine ⟨⟨rfl, by simp [Tryd.f49]⟩, CallK_of [([0], [0]), ([1], [1]), ([2], [2]), ([3], [3]), ([4], [4])] hin (by simp [go_sem]) ⟨by simp [go_sem], by simp [go_sem]⟩ (by simp [go_sem, g4, cw_ren, cw_upd]) ?_⟩
        rintro y rs ⟨rfl, rfl⟩
        simp (maxSteps := 1000000) (disch := omega) [go_sem, wrap64, g4, cw_ren, cw_upd, hw1, hw2]
        exact ret_keep [[0], [1], [2], [3], [4]] _ (by simp) (by simp [go_sem, resOf, leA]) ⟨rfl, by simp [go_sem, cw_upd]⟩
  · have hB' : (decide (0 ≤ r) && decide (r < 4) && decide (0 ≤ c) && decide (c < C)) = false := by simpa using hB
    rw [hB'] at hin
    have hpb : putB C 4 r c ⟨t, w⟩ = false := by
      have e : putB C 4 r c ⟨t, w⟩ = ((decide (0 ≤ r) && decide (r < 4) && decide (0 ≤ c) && decide (c < C)) && (decide (w = 1) || decide (w = 2)) && (!decide (w = 2) || decide (c + 1 < C))) := rfl
      rw [e, hB']; rfl
    rw [hpb]
    have hpi : ∀ i l, putI C 4 r c ⟨t, w⟩ i l = l := fun i l => by rw [putI, hpb]; rfl
    simp only [hpi]
    clear hpi hpb hB hB'
    simp (maxSteps := 1000000) (disch := omega) [go_sem, Tryd.f37, g4, clP]
    refine ⟨⟨rfl, by simp [Tryd.f49]⟩, CallK_of [([0], [0]), ([1], [1]), ([2], [2]), ([3], [3]), ([4], [4])] hin (by simp [go_sem]) ⟨by simp [go_sem], by simp [go_sem]⟩ (by simp [go_sem, g4, cw_ren, cw_upd]) ?_⟩
    rintro y rs ⟨rfl, rfl⟩
    simp (maxSteps := 1000000) (disch := omega) [go_sem, g4, cw_ren, cw_upd]
    exact ret_keep [[0], [1], [2], [3], [4]] _ (by simp) (by simp [go_sem, resOf, leA]) ⟨rfl, by simp [go_sem, cw_upd]⟩
theorem put4_cr (C : Nat) (r0 r1 r2 r3 : Row) (r c : Int) (x : Cl) (hC : C ≤ 1000) (l0 : r0.length = C) (o0 : OkR r0) (l1 : r1.length = C) (o1 : OkR r1) (l2 : r2.length = C) (o2 : OkR r2) (l3 : r3.length = C) (o3 : OkR r3) : CR Tryd.prog 37 [[0], [1], [2], [3], [4]] [.la [0] 1 0 4, .p (.int .i64 r), .p (.int .i64 c), .p (clP x)] (g4 C r0 r1 r2 r3)
    (fun v rs' => v = .p (.bool (putB C 4 r c x)) ∧ rs' = g4 C (putI C 4 r c x 0 r0) (putI C 4 r c x 1 r1) (putI C 4 r c x 2 r2) (putI C 4 r c x 3 r3)) := by
  refine (put4_lk C r0 r1 r2 r3 r c x hC l0 o0 l1 o1 l2 o2 l3 o3).ren 1000 ?_
  rintro v rs' ⟨rfl, h0, h1, h2, h3, h4⟩
  exact ⟨[([0], [0]), ([1], [1]), ([2], [2]), ([3], [3]), ([4], [4])], rfl, rfl, rfl, by simp [rootsR, St.ofR, h0, h1, h2, h3, h4, g4, cw_ren, AV.ren, AV.upd, renG, renF, inM]⟩
end Go.Proofs.YtjgfmanahimpoaaDoor
