/- What the program's grid's functions do, as contracts of the abstract machine. Conditions: as each law says. -/
import Derived.Test.YtjgfmanahimpoaaDifB
namespace Go.Proofs.Ytjgfmanahimpoaa
open Go.AM
set_option maxHeartbeats 1600000
set_option maxRecDepth 10000
theorem gblank_cr : CR Try.prog 56 [] [] [] (is (.p (clP blk))) := by
  refine CR_of_wp mixed 1 [] Try.func56 rfl (by kernel_rfl) rfl (by simp) (by simp) ?_
  simp (maxSteps := 1000000) (disch := omega) [go_sem, Try.f56]
  exact ret_is _ rfl (by simp [go_sem, resOf, leA, clP, blk]) ⟨rfl, rfl⟩
/-- A grid, as its pointer leads to it. -/
def gp (R C N : Nat) (l : Row) : List (Tok × List AV) := [([0], [.p (.int .i64 R), .p (.int .i64 C), .la [1] 2 0 N]), ([1], cw l)]
def zc : Cl := ⟨[], 0⟩
/-- So many cells are blank, the others not yet. -/
def nw (n i : Nat) : Row := List.replicate i blk ++ List.replicate (n - i) zc
theorem nw_len {n i : Nat} (h : i ≤ n) : (nw n i).length = n := by simp [nw]; omega
theorem nw_zero (n : Nat) : (List.replicate n [AV.p (PV.str []), AV.p (PV.int .i64 0)]).flatten = cw (nw n 0) := by
  have : ∀ n, (List.replicate n [AV.p (PV.str []), AV.p (PV.int .i64 0)]).flatten = cw (List.replicate n zc) := by
    intro n
    induction n with
    | zero => rfl
    | succ n ih =>
      simp only [List.replicate_succ, List.flatten_cons] at ih ⊢
      rw [ih]; rfl
  rw [this, nw]; rfl
theorem nw_set {n i : Nat} (h : i < n) : (nw n i).set i blk = nw n (i + 1) := by
  apply List.ext_getElem?
  intro j
  simp only [nw, List.getElem?_set, List.getElem?_append, List.length_append, List.length_replicate, List.getElem?_replicate]
  repeat' split
  all_goals first | rfl | (exfalso; omega)
theorem nw_all (n : Nat) : nw n n = List.replicate n blk := by simp [nw]
theorem gnew_lk (R C : Nat) (hR : 1 ≤ R ∧ R ≤ 500) (hC : 2 ≤ C ∧ C ≤ 1000) : CR Try.prog 36 [] [.p (.int .i64 R), .p (.int .i64 C)] []
    (fun x rs' => x = .lp [28] 0 ∧ lookT rs' [28] = some [.p (.int .i64 R), .p (.int .i64 C), .la [26] 2 0 (R * C)] ∧ lookT rs' [26] = some (cw (List.replicate (R * C) blk))) := by
  refine CR_of_wpD [7] mixed 7 [33, 34] Try.func36 rfl (by kernel_rfl) rfl (by simp) (by simp) ?_
  have a1 : ¬ ((R : Int) < 1) := by omega
  have a2 : ¬ ((500 : Int) < R) := by omega
  have a3 : ¬ ((C : Int) < 2) := by omega
  have a4 : ¬ ((1000 : Int) < C) := by omega
  obtain ⟨N, hN⟩ : ∃ N, N = R * C := ⟨_, rfl⟩
  have hN' : (R : Int) * (C : Int) = (N : Int) := by rw [hN]; simp
  have hNb : N ≤ 500000 := by rw [hN]; exact Nat.mul_le_mul hR.2 hC.2
  rw [← hN]
  clear hN
  simp (maxSteps := 1000000) (disch := omega) [go_sem, Try.f36, wrap64, a1, a2, a3, a4, hN']
  rw [nw_zero]
  refine ⟨by omega, rfl, ?_⟩
  refine wpA_loop (fun i : Nat => i ≤ N) (fun i => { n := 46, nv := 7, vs := [(5, .lp [28] 0), (33, .p (.int .i64 N)), (34, .p (.int .i64 i))], ts := [], rs := [([26], cw (nw N i)), ([28], [.p (.int .i64 R), .p (.int .i64 C), .la [26] 2 0 N])], ex := [33, 34] }) (fun i => N - i) 0 (by simp) (by simp [go_sem, LeS, leV, leR, leA, leL, leL_refl, cw_upd]) ?_
  intro i hi
  have hl := nw_len hi
  simp (maxSteps := 1000000) (disch := omega) [go_sem]
  refine condK_if (fun h1 => ?_) (fun h1 => ?_)
  · have h1' : i < N := by omega
    have ew := cw_put (l := nw N i) (c := i) [32] 1 (by omega)
    have es : (nw N i).set i ⟨[32], 1⟩ = nw N (i + 1) := nw_set h1'
    rw [es] at ew
    simp (maxSteps := 1000000) (disch := omega) [go_sem]
    refine HCallK_of (.p (clP blk)) rfl rfl (fun _ => pcallA_of 56 gblank_cr rfl ⟨rfl, by simp [Try.f56]⟩ ⟨by simp [go_sem], by simp [go_sem]⟩) ?_
    simp (maxSteps := 1000000) (disch := omega) [go_sem, wrap64, clP, blk, cw_len, hl, ew]
    refine ⟨h1', by omega, ?_⟩
    refine LoopK_next (i + 1) (by omega) (by simp [go_sem, LeS, leV, leR, leA, leL, leL_refl, cw_upd]) (by omega)
  · obtain rfl : i = N := by omega
    rw [nw_all]
    simp (maxSteps := 1000000) (disch := omega) [go_sem]
    exact ret_keep [[28], [26]] _ (by simp) (by simp [go_sem, resOf, leA]) ⟨rfl, by simp [go_sem, cw_upd]⟩
theorem gnew_cr (R C : Nat) (hR : 1 ≤ R ∧ R ≤ 500) (hC : 2 ≤ C ∧ C ≤ 1000) : CR Try.prog 36 [] [.p (.int .i64 R), .p (.int .i64 C)] []
    (fun x rs' => x = .lp [0] 0 ∧ rs' = gp R C (R * C) (List.replicate (R * C) blk)) := by
  refine (gnew_lk R C hR hC).ren 1000 ?_
  rintro x rs' ⟨rfl, h0, h1⟩
  exact ⟨[([0], [28]), ([1], [26])], rfl, rfl, rfl, by simp [rootsR, St.ofR, h0, h1, gp, cw_ren, AV.ren, AV.upd, renG, renF, inM]⟩
def inB (R C : Nat) (r c : Int) : Bool := decide (0 ≤ r) && decide (r < R) && decide (0 ≤ c) && decide (c < C)
theorem gin_cr (R C N : Nat) (l : Row) (r c : Int) : CR Try.prog 58 [[0], [1]] [.lp [0] 0, .p (.int .i64 r), .p (.int .i64 c)] (gp R C N l) (fun x rs' => x = .p (.bool (inB R C r c)) ∧ rs' = gp R C N l) := by
  refine CR_of_wp mixed 7 [] Try.func58 rfl (by kernel_rfl) rfl (by simp) (by simp) ?_
  simp (maxSteps := 1000000) (disch := omega) [go_sem, Try.f58, gp]
  exact ret_keep [[0], [1]] (.p (.bool (inB R C r c))) (by simp) (by simp [go_sem, resOf, leA, inB]) ⟨rfl, by simp [go_sem, cw_upd]⟩
/-- What a cell belongs to, made blank. -/
def gloo1 (l : Row) (i : Nat) : Row := if (l.getD i blk).w = 0 then l.set (i - 1) blk else if (l.getD i blk).w = 2 then l.set (i + 1) blk else l
def gloose (l : Row) (i : Nat) : Row := (gloo1 l i).set i blk
theorem gloo1_len (l : Row) (i : Nat) : (gloo1 l i).length = l.length := by unfold gloo1; split <;> (try split) <;> simp
theorem gloose_len (l : Row) (i : Nat) : (gloose l i).length = l.length := by rw [gloose, List.length_set, gloo1_len]
theorem OkR.gloose {l : Row} (h : OkR l) (i : Nat) : OkR (gloose l i) := by
  unfold Go.Proofs.Ytjgfmanahimpoaa.gloose gloo1
  split
  · exact (h.blank _).blank _
  · split
    · exact (h.blank _).blank _
    · exact h.blank _
theorem gloose_cr (R C N : Nat) (l : Row) (i : Nat) (hl : l.length = N) (hb : N ≤ 1000000) (hi : i < N) (ho : OkR l) : CR Try.prog 59 [[0], [1]] [.lp [0] 0, .p (.int .i64 i)] (gp R C N l) (fun x rs' => x = .tup [] ∧ rs' = gp R C N (gloose l i)) := by
  have hi' : i < l.length := by omega
  refine CR_of_wpD [2, 4, 5] mixed 12 [] Try.func59 rfl (by kernel_rfl) rfl (by simp) (by simp) ?_
  simp (maxSteps := 1000000) (disch := omega) [go_sem, Try.f59, gp, cw_at1 hi']
  have ll := gloo1_len l i
  have ew2 := cw_put (l := gloo1 l i) (c := i) [32] 1 (by omega)
  have er : gloose l i = (gloo1 l i).set i ⟨[32], 1⟩ := rfl
  rw [er]
  refine ⟨hi, condK_if (fun h => ?_) (fun h => ?_)⟩
  · have h0 := (ho i l[i] (List.getElem?_eq_getElem hi')).1 h
    obtain ⟨k, rfl⟩ : ∃ k, i = k + 1 := ⟨i - 1, by omega⟩
    have ea : gloo1 l (k + 1) = l.set k ⟨[32], 1⟩ := by rw [gloo1, row_getD hi', if_pos h]; rfl
    have ew := cw_put (l := l) (c := k) [32] 1 (by omega)
    rw [ea] at ew2 ll
    simp (maxSteps := 1000000) (disch := omega) [go_sem, wrap64]
    refine HCallK_of (.p (clP blk)) rfl rfl (fun _ => pcallA_of 56 gblank_cr rfl ⟨rfl, by simp [Try.f56]⟩ ⟨by simp [go_sem], by simp [go_sem]⟩) ?_
    simp (maxSteps := 1000000) (disch := omega) [go_sem, clP, blk, cw_len, hl, ew]
    refine ⟨by omega, by omega, ?_⟩
    refine HCallK_of (.p (clP blk)) rfl rfl (fun _ => pcallA_of 56 gblank_cr rfl ⟨rfl, by simp [Try.f56]⟩ ⟨by simp [go_sem], by simp [go_sem]⟩) ?_
    simp (maxSteps := 1000000) (disch := omega) [go_sem, clP, blk, cw_len, hl, ew2]
    exact ⟨⟨by omega, by omega⟩, by omega, ret_keep [[0], [1]] _ (by simp) (by simp [go_sem, resOf]) ⟨rfl, by simp [go_sem, cw_upd, ea]⟩⟩
  · simp (maxSteps := 1000000) (disch := omega) [go_sem]
    refine condK_if (fun h2 => ?_) (fun h2 => ?_)
    · have h0 := (ho i l[i] (List.getElem?_eq_getElem hi')).2 h2
      have ea : gloo1 l i = l.set (i + 1) ⟨[32], 1⟩ := by rw [gloo1, row_getD hi', if_neg h, if_pos h2]; rfl
      have ew := cw_put (l := l) (c := i + 1) [32] 1 h0
      rw [ea] at ew2 ll
      simp (maxSteps := 1000000) (disch := omega) [go_sem, wrap64]
      refine HCallK_of (.p (clP blk)) rfl rfl (fun _ => pcallA_of 56 gblank_cr rfl ⟨rfl, by simp [Try.f56]⟩ ⟨by simp [go_sem], by simp [go_sem]⟩) ?_
      simp (maxSteps := 1000000) (disch := omega) [go_sem, clP, blk, cw_len, hl, ew]
      refine ⟨⟨by omega, by omega⟩, by omega, ?_⟩
      refine HCallK_of (.p (clP blk)) rfl rfl (fun _ => pcallA_of 56 gblank_cr rfl ⟨rfl, by simp [Try.f56]⟩ ⟨by simp [go_sem], by simp [go_sem]⟩) ?_
      simp (maxSteps := 1000000) (disch := omega) [go_sem, clP, blk, cw_len, hl, ew2]
      exact ⟨hi, by omega, ret_keep [[0], [1]] _ (by simp) (by simp [go_sem, resOf]) ⟨rfl, by simp [go_sem, cw_upd, ea]⟩⟩
    · have ea : gloo1 l i = l := by rw [gloo1, row_getD hi', if_neg h, if_neg h2]
      rw [ea] at ew2 ll
      simp (maxSteps := 1000000) (disch := omega) [go_sem]
      refine HCallK_of (.p (clP blk)) rfl rfl (fun _ => pcallA_of 56 gblank_cr rfl ⟨rfl, by simp [Try.f56]⟩ ⟨by simp [go_sem], by simp [go_sem]⟩) ?_
      simp (maxSteps := 1000000) (disch := omega) [go_sem, clP, blk, cw_len, hl, ew2]
      exact ⟨hi, by omega, ret_keep [[0], [1]] _ (by simp) (by simp [go_sem, resOf]) ⟨rfl, by simp [go_sem, cw_upd, ea]⟩⟩
end Go.Proofs.Ytjgfmanahimpoaa
