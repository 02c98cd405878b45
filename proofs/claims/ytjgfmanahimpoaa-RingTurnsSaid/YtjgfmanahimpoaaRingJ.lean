/- RingTurns, as a contract of the abstract machine: true for all deeds. No conditions. -/
import Derived.Test.YtjgfmanahimpoaaRingI
namespace Go.Proofs.Ytjgfmanahimpoaa
open Go.AM
set_option maxHeartbeats 1600000
set_option maxRecDepth 10000
/-- The place on top behind so many turns. -/
def posI (L : Txts) (K j : Nat) : Nat := if L = [] then K else (K + j) % L.length
theorem posI_zero {L : Txts} {K : Nat} (h : Good L K) : posI L K 0 = K := by
  unfold posI
  split
  · rfl
  · rename_i h0; exact Nat.mod_eq_of_lt (h.at'.resolve_left h0)
theorem posI_next (L : Txts) (K j : Nat) : turnI L (posI L K j) = posI L K (j + 1) := by
  unfold turnI posI
  split
  · rfl
  · rw [Nat.mod_add_mod]; rfl
theorem posI_all {L : Txts} {K : Nat} (h : Good L K) : posI L K L.length = K := by
  unfold posI
  split
  · rfl
  · rename_i h0; rw [Nat.add_mod_right]; exact Nat.mod_eq_of_lt (h.at'.resolve_left h0)
theorem posI_good {L : Txts} {K : Nat} (h : Good L K) (j : Nat) : Good L (posI L K j) := by
  refine ⟨?_, h.len, h.txt⟩
  unfold posI
  split
  · rename_i h0
    refine .inl ⟨h0, ?_⟩
    rcases h.at_ with h | h
    · exact h.2
    · subst h0; simp at h
  · rename_i h0; exact .inr (Nat.mod_lt _ (List.length_pos_iff.2 h0))
theorem turns_cr (ds : List Deed) : CR Try.prog 8 [] [.p (.sl 2 (ds.map deedP))] [] (is (.p (.bool true))) := by
  refine CR_of_wp mixed 13 [] Try.func8 rfl (by kernel_rfl) rfl (by simp) (by simp) ?_
  simp (maxSteps := 1000000) (disch := omega) [go_sem, Try.f8, wrap64]
  refine ⟨rfl, ?_⟩
  refine wpA_loop (fun i : Nat => i ≤ ds.length ∧ i ≤ 150) (fun i => { n := 79, nv := 13, vs := [(0, .p (.sl 2 (ds.map deedP))), (2, .p (.bool false)), (3, .lp [3] 0), (4, .p (.int .i64 i))], ts := [], rs := [([3], [.p (lP (sts ds i).1), .p (.int .i64 (sts ds i).2)])] }) (fun i => ds.length - i) 0 (by simp) (by simp [go_sem, LeS, leV, leR, leA, leL, sts, lP]) ?_
  rintro i ⟨hi, hi2⟩
  have g := sts_good ds i hi
  have hst := fun h => sts_step (ds := ds) (i := i) h
  simp (maxSteps := 1000000) (disch := omega) [go_sem, wrap64]
  refine condK_split (fun h => ?_) (fun h => ?_)
  · obtain ⟨h1, h2⟩ : i < ds.length ∧ (i : Int) < 150 := by simpa using h
    have hst' := hst h1
    clear hst
    generalize sts ds i = p at g hst' ⊢
    obtain ⟨L, K⟩ := p
    simp only [] at g
    have g1 := g.good (by omega)
    have hdo := does_cr L K (few ds[i]) g1 (few_len' _)
    have hfew := few_cr ds[i].s 20 (by omega)
    simp (maxSteps := 1000000) (disch := omega) [go_sem, wrap64, deed_at h1, deedP, txt]
    simp only [rst] at hst'
    generalize stepL L (few ds[i]) = L' at hdo hst'
    generalize stepI L K (few ds[i]) = K' at hdo hst'
    refine ⟨h1, rfl, ⟨rfl, by simp [Try.f20]⟩, CallK_of [] hfew (by simp [go_sem]) ⟨by simp [go_sem], by simp [go_sem, ringP, deedP, few, txt]⟩ (by simp [go_sem]) ?_⟩
    rintro y rs ⟨rfl, rfl⟩
    simp (maxSteps := 1000000) (disch := omega) [go_sem, wrap64, ringP, lP_one, lP_fits, lP_cells, txt]
    refine ⟨⟨rfl, by simp [Try.f21]⟩, CallK_of [] hdo (by simp [go_sem]) ⟨by simp [go_sem], by simp [go_sem, ringP, deedP, few, txt]⟩ (by simp [go_sem]) ?_⟩
    rintro y rs ⟨rfl, rfl⟩
    simp (maxSteps := 1000000) (disch := omega) [go_sem, wrap64, ringP, lP_one, lP_fits, lP_cells, txt]
    refine LoopK_next (i + 1) (by omega) (by simp [go_sem, LeS, leV, leR, leA, leL, hst']) (by omega)
  · have g1 := g.good (by omega)
    clear hst g
    generalize sts ds i = p at g1 ⊢
    obtain ⟨L, K⟩ := p
    simp only [] at g1
    have hal := all_cr L K g1.len g1.txt
    simp (maxSteps := 1000000) (disch := omega) [go_sem, wrap64]
    refine ⟨⟨rfl, by simp [Try.f25]⟩, CallK_of [] hal (by simp [go_sem]) ⟨by simp [go_sem], by simp [go_sem, ringP, deedP, few, txt]⟩ (by simp [go_sem]) ?_⟩
    rintro y rs ⟨rfl, rfl⟩
    simp (maxSteps := 1000000) (disch := omega) [go_sem, wrap64, ringP, lP_one, lP_fits, lP_cells, txt]
    have hp0 := posI_zero g1
    refine wpA_loop (fun j : Nat => j ≤ L.length) (fun j => { n := 79, nv := 13, vs := [(2, .p (.bool false)), (3, .lp [3] 0), (6, .p (.sl 1 (L.map txt))), (7, .p (.int .i64 K)), (8, .p (.int .i64 j))], ts := [], rs := [([3], [.p (lP L), .p (.int .i64 (posI L K j))])] }) (fun j => L.length - j) 0 (by simp) (by simp [go_sem, LeS, leV, leR, leA, leL, hp0]) ?_
    intro j hj
    have gj := posI_good g1 j
    simp (maxSteps := 1000000) (disch := omega) [go_sem, wrap64]
    refine condK_if (fun h2 => ?_) (fun h2 => ?_)
    · have h2' : j < L.length := by omega
      have h0 : L ≠ [] := fun e => by subst e; simp at h2'
      have hk : posI L K j < L.length := gj.at'.resolve_left h0
      have htop := top_cr L (posI L K j) gj.at' gj.len gj.txt
      have htu := turn_cr L (posI L K j) gj.at' gj.len
      rw [topP, if_neg h0, getD_lt hk] at htop
      rw [posI_next] at htu
      have ht := g1.txt L[posI L K j] (List.getElem_mem hk)
      have hsm := same_cr L[posI L K j] L[posI L K j] (by omega) (by omega)
      have hKL : K < L.length := g1.at'.resolve_left h0
      have hL60 := g1.len
      have hm : Int.tmod ((K : Int) + (j : Int)) (L.length : Int) = (posI L K j : Int) := by
        rw [posI, if_neg h0, Int.tmod_eq_emod_of_nonneg (by omega)]; simp
      generalize posI L K j = q at hk htop htu hsm hm ht
      have hne : ¬ ((L.length : Int) = 0) := by omega
      simp (maxSteps := 1000000) (disch := omega) [go_sem, wrap64, lP_one, lP_fits, lP_cells]
      refine ⟨⟨rfl, by simp [Try.f26]⟩, CallK_of [] htop (by simp [go_sem]) ⟨by simp [go_sem], by simp [go_sem, ringP, deedP, few, txt]⟩ (by simp [go_sem]) ?_⟩
      rintro y rs ⟨rfl, rfl⟩
      simp (maxSteps := 1000000) (disch := omega) [go_sem, wrap64, ringP, lP_one, lP_fits, lP_cells, txt, hm, txt_at hk]
      refine ⟨h0, hk, ⟨rfl, by simp [Try.f27]⟩, CallK_of [] hsm (by simp [go_sem]) ⟨by simp [go_sem], by simp [go_sem, ringP, deedP, few, txt]⟩ (by simp [go_sem]) ?_⟩
      rintro y rs ⟨rfl, rfl⟩
      simp (maxSteps := 1000000) (disch := omega) [go_sem, wrap64, ringP, lP_one, lP_fits, lP_cells, txt]
      refine ⟨⟨rfl, by simp [Try.f28]⟩, CallK_of [] htu (by simp [go_sem]) ⟨by simp [go_sem], by simp [go_sem, ringP, deedP, few, txt]⟩ (by simp [go_sem]) ?_⟩
      rintro y rs ⟨rfl, rfl⟩
      simp (maxSteps := 1000000) (disch := omega) [go_sem, wrap64, ringP, lP_one, lP_fits, lP_cells, txt]
      refine LoopK_next (j + 1) (by omega) (by simp [go_sem, LeS, leV, leR, leA, leL]) (by omega)
    · obtain rfl : j = L.length := by omega
      have hpl := posI_all g1
      rw [hpl]
      simp (maxSteps := 1000000) (disch := omega) [go_sem, wrap64]
      refine ⟨⟨rfl, by simp [Try.f25]⟩, CallK_of [] hal (by simp [go_sem]) ⟨by simp [go_sem], by simp [go_sem, ringP, deedP, few, txt]⟩ (by simp [go_sem]) ?_⟩
      rintro y rs ⟨rfl, rfl⟩
      simp (maxSteps := 1000000) (disch := omega) [go_sem, wrap64, ringP, lP_one, lP_fits, lP_cells, txt]
      refine ⟨⟨rfl, by simp [Try.f24]⟩, CallK_of [] awake_cr (by simp [go_sem]) ⟨by simp [go_sem], by simp [go_sem, ringP, deedP, few, txt]⟩ (by simp [go_sem]) ?_⟩
      rintro y rs ⟨rfl, rfl⟩
      simp (maxSteps := 1000000) (disch := omega) [go_sem, wrap64, ringP, lP_one, lP_fits, lP_cells, txt]
      exact ret_is _ rfl (by simp [go_sem, resOf, leA]) ⟨rfl, rfl⟩
end Go.Proofs.Ytjgfmanahimpoaa
