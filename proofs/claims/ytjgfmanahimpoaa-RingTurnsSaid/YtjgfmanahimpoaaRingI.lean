/- RingPlays, as a contract of the abstract machine: true for all deeds. No conditions. -/
import Derived.Test.YtjgfmanahimpoaaRingH
namespace Go.Proofs.Ytjgfmanahimpoaa
open Go.AM
set_option maxHeartbeats 1600000
set_option maxRecDepth 10000
def few (d : Deed) : Deed := ⟨d.kind, d.s.take 20⟩
theorem few_len (d : Deed) : (few d).s.length ≤ 20 := by simp [few]; omega
theorem few_len' (d : Deed) : (few d).s.length ≤ 100000 := Nat.le_trans (few_len d) (by omega)
def rst (p : Txts × Nat) (d : Deed) : Txts × Nat := (stepL p.1 (few d), stepI p.1 p.2 (few d))
def sts (ds : List Deed) (i : Nat) : Txts × Nat := (ds.take i).foldl rst ([], 0)
theorem sts_step {ds : List Deed} {i : Nat} (h : i < ds.length) : sts ds (i + 1) = rst (sts ds i) ds[i] := by
  rw [sts, List.take_succ_eq_append_getElem h, List.foldl_append]; rfl
structure GoodN (n : Nat) (l : Txts) (k : Nat) : Prop where
  at_ : l = [] ∧ k = 0 ∨ k < l.length
  len : l.length ≤ 60
  txt : ∀ t ∈ l, t.length ≤ 20 * n
theorem GoodN.good {n : Nat} {l : Txts} {k : Nat} (h : GoodN n l k) (hn : n ≤ 5000) : Good l k := ⟨h.at_, h.len, fun t ht => by have := h.txt t ht; omega⟩
theorem good_add {n : Nat} {l : Txts} {s : List Int} (hl : ∀ t ∈ l, t.length ≤ 20 * n) (hs : s.length ≤ 20) : GoodN (n + 1) (addL l s) 0 := by
  refine ⟨.inr ?_, by simp [addL]; omega, fun t ht => ?_⟩
  · simp [addL]
  · rcases List.mem_cons.1 (List.mem_of_mem_take ht) with rfl | h
    · omega
    · have := hl t h; omega
theorem good_join {n : Nat} {l : Txts} {s : List Int} (b : Bool) (h60 : l.length ≤ 60) (hl : ∀ t ∈ l, t.length ≤ 20 * n) (hs : s.length ≤ 20) : GoodN (n + 1) (joinL l s b) 0 := by
  cases l with
  | nil => exact ⟨.inr (by simp [joinL]), by simp [joinL], fun t ht => by simp [joinL] at ht; subst ht; omega⟩
  | cons t l =>
    have ht := hl t (by simp)
    refine ⟨.inr (by simp [joinL]), by simpa [joinL] using h60, fun u hu => ?_⟩
    rcases List.mem_cons.1 hu with rfl | h
    · split
      · simp; omega
      · simp; omega
    · have := hl u (by simp [h]); omega
theorem good_turn {n : Nat} {l : Txts} {k : Nat} (h : GoodN n l k) : GoodN (n + 1) l (turnI l k) := by
  refine ⟨?_, h.len, fun t ht => by have := h.txt t ht; omega⟩
  rcases h.at_ with ⟨rfl, rfl⟩ | h
  · exact .inl ⟨rfl, rfl⟩
  · right
    rw [turnI, if_neg (by intro e; subst e; simp at h)]
    exact Nat.mod_lt _ (by omega)
theorem GoodN.step {n : Nat} {l : Txts} {k : Nat} (h : GoodN n l k) (d : Deed) (hs : d.s.length ≤ 20) : GoodN (n + 1) (stepL l d) (stepI l k d) := by
  unfold stepL stepI
  split
  · exact good_add h.txt hs
  · split
    · exact good_join true h.len h.txt hs
    · split
      · exact good_join false h.len h.txt hs
      · exact good_turn h
theorem sts_good (ds : List Deed) : ∀ i, i ≤ ds.length → GoodN i (sts ds i).1 (sts ds i).2
  | 0, _ => ⟨.inl ⟨rfl, rfl⟩, by simp [sts], fun t ht => by simp [sts] at ht⟩
  | i + 1, h => by
    rw [sts_step (by omega)]
    exact (sts_good ds i (by omega)).step _ (few_len _)
theorem deed_at {ds : List Deed} {i : Nat} (h : i < ds.length) : elemAt (ds.map deedP) i = deedP ds[i] := by simp [elemAt, h]
theorem plays_cr (ds : List Deed) : CR Try.prog 7 [] [.p (.sl 2 (ds.map deedP))] [] (is (.p (.bool true))) := by
  refine CR_of_wp mixed 8 [] Try.func7 rfl (by kernel_rfl) rfl (by simp) (by simp) ?_
  simp (maxSteps := 1000000) (disch := omega) [go_sem, Try.f7, wrap64]
  refine ⟨rfl, ?_⟩
  refine wpA_loop (fun i : Nat => i ≤ ds.length ∧ i ≤ 150) (fun i => { n := 43, nv := 8, vs := [(0, .p (.sl 2 (ds.map deedP))), (2, .p (.bool false)), (3, .lp [3] 0), (4, .lp [4] 0), (5, .p (.int .i64 i))], ts := [], rs := [([3], [.p (lP (sts ds i).1), .p (.int .i64 (sts ds i).2)]), ([4], [.p (lP (sts ds i).1), .p (.int .i64 (sts ds i).2)])] }) (fun i => ds.length - i) 0 (by simp) (by simp [go_sem, LeS, leV, leR, leA, leL, sts, lP]) ?_
  rintro i ⟨hi, hi2⟩
  have g := sts_good ds i hi
  have hst := fun h => sts_step (ds := ds) (i := i) h
  simp (maxSteps := 1000000) (disch := omega) [go_sem, wrap64]
  refine condK_split (fun h => ?_) (fun h => ?_)
  · obtain ⟨h1, h2⟩ : i < ds.length ∧ (i : Int) < 150 := by simpa using h
    have hst' := hst h1
    clear hst
    generalize sts ds i = p at g hst' ⊢
    obtain ⟨L, K⟩ := p
    simp only [] at g
    have g2 := (g.step (few ds[i]) (few_len _)).good (by omega)
    have g1 := g.good (by omega)
    have hdo := does_cr L K (few ds[i]) g1 (few_len' _)
    have hme := means_cr L K (few ds[i]) g1 (few_len' _)
    have hs1 := is_same_cr L K g1
    have hs2 := is_same_cr _ _ g2
    have hfew := few_cr ds[i].s 20 (by omega)
    simp (maxSteps := 1000000) (disch := omega) [go_sem, wrap64, deed_at h1, deedP, txt]
    simp only [rst] at hst'
    generalize stepL L (few ds[i]) = L' at hdo hme hs2 g2 hst'
    generalize stepI L K (few ds[i]) = K' at hdo hme hs2 g2 hst'
    refine ⟨h1, rfl, ⟨rfl, by simp [Try.f20]⟩, CallK_of [] hfew (by simp [go_sem]) ⟨by simp [go_sem], by simp [go_sem, ringP, deedP, few, txt]⟩ (by simp [go_sem]) ?_⟩
    rintro y rs ⟨rfl, rfl⟩
    simp (maxSteps := 1000000) (disch := omega) [go_sem, wrap64, ringP, lP_one, lP_fits, lP_cells, txt]
    refine ⟨⟨rfl, by simp [Try.f21]⟩, CallK_of [] hdo (by simp [go_sem]) ⟨by simp [go_sem], by simp [go_sem, ringP, deedP, few, txt]⟩ (by simp [go_sem]) ?_⟩
    rintro y rs ⟨rfl, rfl⟩
    simp (maxSteps := 1000000) (disch := omega) [go_sem, wrap64, ringP, lP_one, lP_fits, lP_cells, txt]
    refine ⟨rfl, ⟨rfl, by simp [Try.f22]⟩, CallK_of [] hs1 (by simp [go_sem]) ⟨by simp [go_sem], by simp [go_sem, ringP, deedP, few, txt]⟩ (by simp [go_sem]) ?_⟩
    rintro y rs ⟨rfl, rfl⟩
    simp (maxSteps := 1000000) (disch := omega) [go_sem, wrap64, ringP, lP_one, lP_fits, lP_cells, txt]
    refine ⟨⟨rfl, by simp [Try.f23]⟩, CallK_of [] hme (by simp [go_sem]) ⟨by simp [go_sem], by simp [go_sem, ringP, deedP, few, txt]⟩ (by simp [go_sem]) ?_⟩
    rintro y rs ⟨rfl, rfl⟩
    simp (maxSteps := 1000000) (disch := omega) [go_sem, wrap64, ringP, lP_one, lP_fits, lP_cells, txt]
    refine ⟨⟨rfl, by simp [Try.f22]⟩, CallK_of [] hs2 (by simp [go_sem]) ⟨by simp [go_sem], by simp [go_sem, ringP, deedP, few, txt]⟩ (by simp [go_sem]) ?_⟩
    rintro y rs ⟨rfl, rfl⟩
    simp (maxSteps := 1000000) (disch := omega) [go_sem, wrap64, ringP, lP_one, lP_fits, lP_cells, txt]
    refine LoopK_next (i + 1) (by omega) (by simp [go_sem, LeS, leV, leR, leA, leL, hst']) (by omega)
  · simp (maxSteps := 1000000) (disch := omega) [go_sem, wrap64]
    refine ⟨⟨rfl, by simp [Try.f24]⟩, CallK_of [] awake_cr (by simp [go_sem]) ⟨by simp [go_sem], by simp [go_sem]⟩ (by simp [go_sem]) ?_⟩
    rintro y rs ⟨rfl, rfl⟩
    simp (maxSteps := 1000000) (disch := omega) [go_sem, wrap64]
    exact ret_is _ rfl (by simp [go_sem, resOf, leA]) ⟨rfl, rfl⟩
end Go.Proofs.Ytjgfmanahimpoaa
