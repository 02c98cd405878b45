/- RingMost, as a contract of the abstract machine: true for every number. No conditions. -/
import Derived.Test.YtjgfmanahimpoaaRingH
namespace Go.Proofs.Ytjgfmanahimpoaa
open Go.AM
set_option maxHeartbeats 1600000
set_option maxRecDepth 10000
/-- The ring behind so many texts. -/
def mostL : Nat → Txts
  | 0 => []
  | n + 1 => addL (mostL n) [(n : Int)]
theorem mostL_len (n : Nat) : (mostL n).length = min n 60 := by
  induction n with
  | zero => rfl
  | succ n ih => simp only [mostL, addL, List.length_take, List.length_cons, ih]; omega
theorem mostL_at (n i : Nat) (h : i < (mostL n).length) : (mostL n)[i] = [((n - 1 - i : Nat) : Int)] := by
  induction n generalizing i with
  | zero => simp [mostL] at h
  | succ n ih =>
    simp only [mostL, addL, List.getElem_take]
    cases i with
    | zero => simp
    | succ i =>
      have hl := mostL_len (n + 1)
      have hl' := mostL_len n
      rw [hl] at h
      simp only [List.getElem_cons_succ]
      rw [ih i (by rw [hl']; omega)]
      congr 2
      omega
theorem mostL_good (n : Nat) : Good (mostL n) 0 := by
  refine ⟨?_, by rw [mostL_len]; omega, fun t ht => ?_⟩
  · cases n with
    | zero => exact .inl ⟨rfl, rfl⟩
    | succ n => exact .inr (by rw [mostL_len]; omega)
  · obtain ⟨i, hi, rfl⟩ := List.getElem_of_mem ht
    rw [mostL_at]; simp
theorem most_cr (n : Int) : CR Try.prog 9 [] [.p (.int .i64 n)] [] (is (.p (.bool true))) := by
  refine CR_of_wp mixed 9 [] Try.func9 rfl (by kernel_rfl) rfl (by simp) (by simp) ?_
  simp (maxSteps := 1000000) (disch := omega) [go_sem, Try.f9, wrap64]
  refine ⟨rfl, ?_⟩
  generalize he : IntKind.i64.wrap _ = v
  obtain ⟨m, hm, rfl⟩ : ∃ m : Nat, m ≤ 127 ∧ v = m := by
    have h0 : IntKind.i64.wrap ((BitVec.ofInt 64 n &&& 127#64).toNat : Int) = v := he
    have h1 : (BitVec.ofInt 64 n &&& 127#64).toNat ≤ 127 := by rw [BitVec.toNat_and]; exact Nat.and_le_right
    exact ⟨_, h1, by rw [← h0]; exact wrap64 (by omega) (by omega)⟩
  clear he n
  refine wpA_loop (fun i : Nat => i ≤ m) (fun i => { n := 52, nv := 9, vs := [(0, .p (.int .i64 m)), (2, .p (.bool false)), (3, .lp [3] 0), (4, .p (.int .i64 i))], ts := [], rs := [([3], [.p (lP (mostL i)), .p (.int .i64 0)])] }) (fun i => m - i) 0 (by simp) (by simp [go_sem, LeS, leV, leR, leA, leL, mostL, lP]) ?_
  intro i hi
  simp (maxSteps := 1000000) (disch := omega) [go_sem, wrap64]
  refine condK_if (fun h1 => ?_) (fun h1 => ?_)
  · have h1' : i < m := by omega
    have g := mostL_good i
    have w32 : IntKind.i32.wrap (i : Int) = i := by
      simp only [IntKind.wrap, IntKind.signed, IntKind.bits]
      simp
      omega
    have ha := add_cr (mostL i) 0 [(i : Int)] g.len g.txt (by simp)
    simp (maxSteps := 1000000) (disch := omega) [go_sem, wrap64, w32]
    refine ⟨⟨rfl, by simp [Try.f29]⟩, CallK_of [] ha (by simp [go_sem]) ⟨by simp [go_sem], by simp [go_sem, ringP, txt, rn]⟩ (by simp [go_sem]) ?_⟩
    rintro y rs ⟨rfl, rfl⟩
    simp (maxSteps := 1000000) (disch := omega) [go_sem, wrap64, ringP, lP_one, lP_fits, lP_cells]
    refine LoopK_next (i + 1) (by omega) (by simp [go_sem, LeS, leV, leR, leA, leL, mostL]) (by omega)
  · obtain rfl : m = i := by omega
    have g := mostL_good m
    have hl := mostL_len m
    have hal := all_cr (mostL m) 0 g.len g.txt
    simp (maxSteps := 1000000) (disch := omega) [go_sem, wrap64]
    refine ⟨⟨rfl, by simp [Try.f25]⟩, CallK_of [] hal (by simp [go_sem]) ⟨by simp [go_sem], by simp [go_sem, ringP]⟩ (by simp [go_sem]) ?_⟩
    rintro y rs ⟨rfl, rfl⟩
    simp (maxSteps := 1000000) (disch := omega) [go_sem, wrap64]
    refine condK_join (ι := List (Nat × AV)) (fun ts => { n := 52, nv := 9, vs := [(0, .p (.int .i64 m)), (2, .p (.bool false)), (3, .lp [3] 0), (4, .p (.int .i64 m)), (5, .p (.sl 1 ((mostL m).map txt))), (6, .p (.int .i64 0)), (7, .p (.int .i64 (mostL m).length))], ts := ts, rs := [([3], [.p (lP (mostL m)), .p (.int .i64 0)])] }) (condK_if (fun h => ?_) (fun h => ?_)) ?_
    · have e : ((mostL m).length : Int) = 60 := by omega
      simp (maxSteps := 1000000) (disch := omega) [go_sem, wrap64]
      exact JoinK_in _ (by rw [e])
    · have e : ((mostL m).length : Int) = m := by omega
      simp (maxSteps := 1000000) (disch := omega) [go_sem, wrap64]
      exact JoinK_in _ (by rw [e])
    · intro ts
      simp (maxSteps := 1000000) (disch := omega) [go_sem, wrap64]
      refine wpA_loop (fun j : Nat => j ≤ (mostL m).length) (fun j => { n := 52, nv := 9, vs := [(0, .p (.int .i64 m)), (2, .p (.bool false)), (5, .p (.sl 1 ((mostL m).map txt))), (8, .p (.int .i64 j))], ts := [], rs := [] }) (fun j => (mostL m).length - j) 0 (by simp) (by simp [go_sem, LeS, leV, leR, leA, leL]) ?_
      intro j hj
      simp (maxSteps := 1000000) (disch := omega) [go_sem, wrap64]
      refine condK_if (fun h2 => ?_) (fun h2 => ?_)
      · have h2' : j < (mostL m).length := by omega
        have ej := mostL_at m j h2'
        have em : ((m - 1 - j : Nat) : Int) = (m : Int) - 1 - j := by omega
        rw [em] at ej
        have w32 : IntKind.i32.wrap ((m : Int) - 1 - j) = (m : Int) - 1 - j := by
          simp only [IntKind.wrap, IntKind.signed, IntKind.bits]
          simp
          omega
        simp (maxSteps := 1000000) (disch := omega) [go_sem, wrap64, txt_at h2', ej, txt, rn, w32]
        refine ⟨h2', ⟨rfl, by simp [Try.f27]⟩, CallK_of [] (same_cr [(m : Int) - 1 - j] [(m : Int) - 1 - j] (by simp) (by simp)) (by simp [go_sem]) ⟨by simp [go_sem], by simp [go_sem, txt, rn]⟩ (by simp [go_sem]) ?_⟩
        rintro y rs ⟨rfl, rfl⟩
        simp (maxSteps := 1000000) (disch := omega) [go_sem, wrap64]
        refine LoopK_next (j + 1) (by omega) (by simp [go_sem, LeS, leV, leR, leA, leL]) (by omega)
      · simp (maxSteps := 1000000) (disch := omega) [go_sem, wrap64]
        refine ⟨⟨rfl, by simp [Try.f24]⟩, CallK_of [] awake_cr (by simp [go_sem]) ⟨by simp [go_sem], by simp [go_sem]⟩ (by simp [go_sem]) ?_⟩
        rintro y rs ⟨rfl, rfl⟩
        simp (maxSteps := 1000000) (disch := omega) [go_sem, wrap64]
        exact ret_is _ rfl (by simp [go_sem, resOf, leA]) ⟨rfl, rfl⟩
end Go.Proofs.Ytjgfmanahimpoaa
