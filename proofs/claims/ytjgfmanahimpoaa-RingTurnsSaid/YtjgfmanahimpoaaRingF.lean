/- What the document's ring's functions do, as contracts of the abstract machine. Conditions: as each law says. -/
import Derived.Test.YtjgfmanahimpoaaRingE
namespace Go.Proofs.Ytjgfmanahimpoaa
open Go.AM
set_option maxHeartbeats 800000
set_option maxRecDepth 10000
theorem refturn_cr (l : Txts) (k : Nat) (hk : l = [] ∧ k = 0 ∨ k < l.length) (hl : l.length ≤ 60) : CR Try.prog 50 [] [.p (ringP l k)] [] (is (.p (ringP l (turnI l k)))) := by
  refine CR_of_wp mixed 4 [] Try.func50 rfl (by kernel_rfl) rfl (by simp) (by simp) ?_
  by_cases h0 : l = []
  · obtain ⟨_, rfl⟩ : l = [] ∧ k = 0 := by
      rcases hk with h | h
      · exact h
      · subst h0; simp at h
    subst h0
    simp (maxSteps := 1000000) (disch := omega) [go_sem, Try.f50, wrap64, ringP, lP, turnI]
    refine ⟨rfl, ?_⟩
    exact ret_is _ rfl (by simp [go_sem, resOf, leA]) ⟨rfl, rfl⟩
  · have hk' : k < l.length := by
      rcases hk with h | h
      · exact absurd h.1 h0
      · exact h
    have e : turnI l k = if k + 1 < l.length then k + 1 else 0 := by
      rw [turnI, if_neg h0]
      split
      · rename_i h; exact Nat.mod_eq_of_lt h
      · rw [show k + 1 = l.length from by omega]; exact Nat.mod_self _
    rw [e]
    simp only [ringP, lP_ne h0]
    simp (maxSteps := 1000000) (disch := omega) [go_sem, Try.f50, wrap64]
    refine ⟨rfl, condK_if (fun h => ?_) (fun h => ?_)⟩
    · rw [if_neg (by omega)]
      simp (maxSteps := 1000000) (disch := omega) [go_sem, wrap64]
      refine ⟨rfl, ?_⟩
      exact ret_is _ rfl (by simp [go_sem, resOf, leA]) ⟨rfl, rfl⟩
    · rw [if_pos (by omega)]
      simp (maxSteps := 1000000) (disch := omega) [go_sem, wrap64]
      refine ⟨rfl, ?_⟩
      exact ret_is _ rfl (by simp [go_sem, resOf, leA]) ⟨rfl, rfl⟩
theorem addL_map {l : Txts} {s : List Int} {i : Nat} (h : i = l.length ∧ i ≤ 59 ∨ i = 59) : (addL l s).map txt = txt s :: (l.map txt).take i := by
  rw [addL, List.take_succ_cons, List.map_cons, List.map_take]
  rcases h with ⟨rfl, h⟩ | rfl
  · rw [List.take_of_length_le (by simpa using h), List.take_of_length_le (by simp)]
  · rfl
theorem refadd_ag (l : Txts) (k : Nat) (s : List Int) (hl : l.length ≤ 60) : CR Try.prog 48 [] [.p (ringP l k), .p (txt s)] [] (fun x rs => rs = [] ∧ ∃ t, x = .ag [.os t 1 ((addL l s).map txt), .p (.int .i64 0)]) := by
  refine CR_of_wpD [5] mixed 7 [] Try.func48 rfl (by kernel_rfl) rfl (by simp) (by simp) ?_
  by_cases h0 : l = []
  · subst h0
    simp (maxSteps := 1000000) (disch := omega) [go_sem, Try.f48, wrap64, ringP, lP, txt]
    refine ⟨rfl, ?_⟩
    refine wpA_loop (fun i : Nat => i = 0) (fun i => { n := 34, nv := 7, vs := [(2, .lp [2] 0), (4, .lp [4] 0), (5, .lp [5] 0), (6, .p (.int .i64 0))], ts := [], rs := [([2], [.p (.opq (.slice none 0 0)), .p (.int .i64 k)]), ([4], [.p (.opq (.slice none 0 0)), .p (.int .i64 0)]), ([5], [.os [8] 1 [txt s], .p (.int .i64 0)])] }) (fun i => 0) 0 rfl (by simp [go_sem, LeS, leV, leR, leA, leL, txt]) ?_
    rintro i rfl
    simp (maxSteps := 1000000) (disch := omega) [go_sem, wrap64]
    exact ret_is _ rfl (by simp [go_sem, resOf, leA]; rfl) ⟨rfl, [8], rfl⟩
  · simp only [ringP, lP_ne h0]
    simp (maxSteps := 1000000) (disch := omega) [go_sem, Try.f48, wrap64, txt]
    refine ⟨rfl, ?_⟩
    refine wpA_loop (fun j : Nat × Tok => j.1 ≤ l.length ∧ j.1 ≤ 59 ∧ (j.2 = [8] ∨ j.2 = [5, 0])) (fun j => { n := 34, nv := 7, vs := [(2, .lp [2] 0), (4, .lp [4] 0), (5, .lp [5] 0), (6, .p (.int .i64 j.1))], ts := [], rs := [([2], [.p (.sl 1 (l.map txt)), .p (.int .i64 k)]), ([4], [.p (.opq (.slice none 0 0)), .p (.int .i64 0)]), ([5], [.os j.2 1 (txt s :: (l.map txt).take j.1), .p (.int .i64 0)])] }) (fun j => l.length - j.1) (0, [8]) (by simp) (by simp [go_sem, LeS, leV, leR, leA, leL, txt]) ?_
    rintro ⟨i, u⟩ ⟨hi, hi2, hu⟩
    simp only [] at hi hi2 hu
    simp (maxSteps := 1000000) (disch := omega) [go_sem, wrap64]
    refine condK_split (fun h => ?_) (fun h => ?_)
    · obtain ⟨h1, h2⟩ : i < l.length ∧ (i : Int) + 1 < 60 := by simpa using h
      have hst : List.take (i + 1) (l.map txt) = List.take i (l.map txt) ++ [txt l[i]] := take_txt h1
      rcases hu with rfl | rfl
      · simp (maxSteps := 1000000) (disch := omega) [go_sem, wrap64, txt_at h1, txt]
        refine ⟨h1, rfl, by omega, ?_⟩
        refine LoopK_next (i + 1, [5, 0]) (by simp; omega) (by simp [go_sem, LeS, leV, leR, leA, leL, txt, hst]) (by simp; omega)
      · simp (maxSteps := 1000000) (disch := omega) [go_sem, wrap64, txt_at h1, txt]
        refine ⟨h1, rfl, by omega, ?_⟩
        refine LoopK_next (i + 1, [5, 0]) (by simp; omega) (by simp [go_sem, LeS, leV, leR, leA, leL, txt, hst]) (by simp; omega)
    · have hm := addL_map (l := l) (s := s) (i := i) (by simp at h; omega)
      simp (maxSteps := 1000000) (disch := omega) [go_sem, wrap64]
      exact ret_is _ rfl (by simp [go_sem, resOf, leA, hm]) ⟨rfl, u, rfl⟩
theorem refadd_cr (l : Txts) (k : Nat) (s : List Int) (hl : l.length ≤ 60) : CR Try.prog 48 [] [.p (ringP l k), .p (txt s)] [] (is (.p (ringP (addL l s) 0))) :=
  CR_le (refadd_ag l k s hl) fun x rs' ⟨h1, t, h2⟩ => ⟨.p (.agg [.sl 1 ((addL l s).map txt), .int .i64 0]), by subst h2; exact LeA.ag rfl, h1, by rw [ringP, lP_ne (addL_ne l s)]; rfl⟩
theorem elemAt_zero (x : PV) (l : List PV) : elemAt (x :: l) 0 = x := rfl
theorem refjoin_ag (t : List Int) (l : Txts) (k : Nat) (s : List Int) (ahead : Bool) (hl : l.length ≤ 59) (ht : t.length ≤ 100000) (hs : s.length ≤ 100000) :
    CR Try.prog 49 [] [.p (ringP (t :: l) k), .p (txt s), .p (.bool ahead)] [] (fun x rs => rs = [] ∧ ∃ u, x = .ag [.os u 1 (txt (if ahead then s ++ t else t ++ s) :: l.map txt), .p (.int .i64 0)]) := by
  refine CR_of_wp mixed 9 [] Try.func49 rfl (by kernel_rfl) rfl (by simp) (by simp) ?_
  have hne : ¬ ((l.length : Int) + 1 = 0) := by omega
  have ec : cut (PV.sl 1 (t.map rn) :: l.map txt) 1 ((l.length : Int) + 1) = l.map txt := by
    simp only [cut]
    rw [List.take_of_length_le (by simp)]
    rfl
  cases ahead with
  | true =>
    simp (maxSteps := 1000000) (disch := omega) [go_sem, Try.f49, wrap64, ringP, lP, hne, txt, elemAt_zero]
    exact ⟨rfl, by omega, by omega, rfl, by omega, by rw [ec]; simp; omega, ret_is _ rfl (by simp [go_sem, resOf, leA, ec]) ⟨rfl, [8, 0], rfl⟩⟩
  | false =>
    simp (maxSteps := 1000000) (disch := omega) [go_sem, Try.f49, wrap64, ringP, lP, hne, txt, elemAt_zero]
    exact ⟨rfl, by omega, by omega, rfl, by omega, by rw [ec]; simp; omega, ret_is _ rfl (by simp [go_sem, resOf, leA, ec]) ⟨rfl, [8, 0], rfl⟩⟩
theorem refjoin_cr (l : Txts) (k : Nat) (s : List Int) (ahead : Bool) (hl : l.length ≤ 60) (hb : ∀ u ∈ l, u.length ≤ 100000) (hs : s.length ≤ 100000) :
    CR Try.prog 49 [] [.p (ringP l k), .p (txt s), .p (.bool ahead)] [] (is (.p (ringP (joinL l s ahead) 0))) := by
  cases l with
  | nil =>
    have ha := refadd_cr [] k s hl
    have e : addL [] s = joinL [] s ahead := rfl
    rw [e] at ha
    refine CR_of_wp mixed 9 [] Try.func49 rfl (by kernel_rfl) rfl (by simp) (by simp) ?_
    simp (maxSteps := 1000000) (disch := omega) [go_sem, Try.f49, wrap64, ringP, lP]
    refine ⟨rfl, ⟨rfl, by simp [Try.f48]⟩, CallK_of [] ha (by simp [go_sem]) ⟨by simp [go_sem], by simp [go_sem, ringP, lP]⟩ (by simp [go_sem]) ?_⟩
    rintro y rs ⟨rfl, rfl⟩
    simp (maxSteps := 1000000) (disch := omega) [go_sem, wrap64, ringP, lP, joinL]
    exact ret_is _ rfl (by simp [go_sem, resOf, leA]) ⟨rfl, rfl⟩
  | cons t l =>
    exact CR_le (refjoin_ag t l k s ahead (by simp at hl; omega) (hb t (by simp)) hs) fun x rs' ⟨h1, u, h2⟩ => ⟨.p (.agg [.sl 1 (txt (if ahead then s ++ t else t ++ s) :: l.map txt), .int .i64 0]), by subst h2; exact LeA.ag rfl, h1, rfl⟩
theorem sames_cr (a b : Txts) (ha : a.length ≤ 60) (hb : b.length ≤ 60) (hta : ∀ t ∈ a, t.length ≤ 100000) (htb : ∀ t ∈ b, t.length ≤ 100000) :
    CR Try.prog 47 [] [.p (.sl 1 (a.map txt)), .p (.sl 1 (b.map txt))] [] (is (.p (.bool (decide (a = b))))) := by
  refine CR_of_wpD [6] mixed 6 [] Try.func47 rfl (by kernel_rfl) rfl (by simp) (by simp) ?_
  simp (maxSteps := 1000000) (disch := omega) [go_sem, Try.f47, wrap64]
  refine condK_ifn (fun h => ?_) (fun h => ?_)
  · have : a ≠ b := fun e => h (by rw [e])
    simp (maxSteps := 1000000) (disch := omega) [go_sem, wrap64, this]
    exact ret_is _ rfl (by simp [go_sem, resOf, leA]) ⟨rfl, rfl⟩
  · have hl : a.length = b.length := by omega
    simp (maxSteps := 1000000) (disch := omega) [go_sem, wrap64]
    refine wpA_loop (fun k : Nat => k ≤ a.length ∧ a.take k = b.take k) (fun k => { n := 27, nv := 6, vs := [(0, .p (.sl 1 (a.map txt))), (1, .p (.sl 1 (b.map txt))), (4, .p (.bool false)), (5, .p (.int .i64 k))], ts := [], rs := [] }) (fun k => a.length - k) 0 (by simp) (by simp [go_sem, LeS, leV, leR, leA, leL, txt]) ?_
    rintro k ⟨hk, he⟩
    simp (maxSteps := 1000000) (disch := omega) [go_sem, wrap64]
    refine condK_if (fun h1 => ?_) (fun h1 => ?_)
    · have h1' : k < a.length := by omega
      have h2 : k < b.length := by omega
      simp (maxSteps := 1000000) (disch := omega) [go_sem, wrap64, txt_at h1', txt_at h2, txt]
      have hta' := hta a[k] (List.getElem_mem h1')
      have htb' := htb b[k] (List.getElem_mem h2)
      refine ⟨h1', h2, HCallK_of (.p (.bool (decide (a[k] = b[k])))) rfl rfl (fun _ => pcallA_of 27 (same_cr a[k] b[k] (by omega) (by omega)) rfl ⟨rfl, by simp [Try.f27]⟩ ⟨by simp [go_sem], by simp [go_sem, txt]⟩) ?_⟩
      simp (maxSteps := 1000000) (disch := omega) [go_sem, wrap64]
      refine condK_ifn (fun h3 => ?_) (fun h3 => ?_)
      · have : a ≠ b := fun e => h3 (by simp [e])
        simp (maxSteps := 1000000) (disch := omega) [go_sem, wrap64, this]
        exact ret_is _ rfl (by simp [go_sem, resOf, leA]) ⟨rfl, rfl⟩
      · have he' : a.take (k + 1) = b.take (k + 1) := by rw [List.take_succ_eq_append_getElem h1', List.take_succ_eq_append_getElem h2, he, h3]
        simp (maxSteps := 1000000) (disch := omega) [go_sem, wrap64]
        refine LoopK_next (k + 1) ⟨by omega, he'⟩ (by simp [go_sem, LeS, leV, leR, leA, leL]) (by omega)
    · have hk' : k = a.length := by omega
      have : a = b := by
        rw [List.take_of_length_le (by omega), List.take_of_length_le (by omega)] at he
        exact he
      simp (maxSteps := 1000000) (disch := omega) [go_sem, wrap64, this]
      exact ret_is _ rfl (by simp [go_sem, resOf, leA]) ⟨rfl, rfl⟩
theorem sames_nil : CR Try.prog 47 [] [.p (.sl 1 []), .p (.opq (.slice none 0 0))] [] (is (.p (.bool true))) := by
  refine CR_of_wpD [6] mixed 6 [] Try.func47 rfl (by kernel_rfl) rfl (by simp) (by simp) ?_
  simp (maxSteps := 1000000) (disch := omega) [go_sem, Try.f47, wrap64]
  refine wpA_loop (fun k : Nat => k = 0) (fun k => { n := 27, nv := 6, vs := [(0, .p (.sl 1 [])), (4, .p (.bool false)), (5, .p (.int .i64 0))], ts := [], rs := [] }) (fun k => 0) 0 (by simp) (by simp [go_sem, LeS, leV, leR, leA, leL]) ?_
  rintro k rfl
  simp (maxSteps := 1000000) (disch := omega) [go_sem, wrap64]
  exact ret_is _ rfl (by simp [go_sem, resOf, leA]) ⟨rfl, rfl⟩
end Go.Proofs.Ytjgfmanahimpoaa
