/- What AnsiPuts does, as a contract of the abstract machine. Conditions: as the law says. -/
import Derived.Test.YtjgfmanahimpoaaDoorJ
namespace Go.Proofs.YtjgfmanahimpoaaDoor
open Go.AM
set_option maxHeartbeats 1600000
set_option maxRecDepth 10000
theorem putL_len2 (o : AOp) : (putL o).length ≤ 13 + o.t.length := by
  by_cases h : o.k = 1
  · rw [putL, if_pos h]; omega
  · have := putL_len o h; omega
theorem allL_len2 : ∀ l : List AOp, (∀ o ∈ l, o.t.length ≤ 300) → (allL l).length ≤ 313 * l.length
  | [], _ => by simp [allL]
  | o :: l, h => by
    have h1 := putL_len2 o
    have h3 := h o (by simp)
    have h2 := allL_len2 l (fun x hx => h x (by simp [hx]))
    have e : allL (o :: l) = putL o ++ allL l := by simp [allL]
    rw [e, List.length_append, List.length_cons]
    omega
theorem puts_cr (l : List AOp) (ho : ∀ o ∈ l, o.ok) : CR Tryd.prog 3 [] [.p (opsP l)] [] (is (.p (.bool true))) := by
  refine CR_of_wpD [8] mixed 6 [13, 22, 35] Tryd.func3 rfl (by kernel_rfl) rfl (by simp) (by simp) ?_
  simp (maxSteps := 1000000) [go_sem, Tryd.f3, opsP]
  refine wpA_loop (fun k : Nat => k ≤ l.length ∧ k ≤ 60 ∧ ∀ o ∈ l.take k, o.t.length ≤ 300) (fun k => { n := 59, nv := 6, ex := [13, 22, 35], vs := [(0, .p (opsP l)), (2, .p (.bool false)), (3, .os [3] 4 ((l.take k).map opP)), (4, .os [4] 4 ((l.take k).map opP)), (5, .p (.int .i64 k))], ts := [], rs := [] }) (fun k => 60 - k) 0 (by simp) (by simp [go_sem, LeS, leV, leR, leA, opsP]) ?_
  rintro k ⟨hk, hk6, ht⟩
  simp (maxSteps := 1000000) [go_sem, opsP]
  refine condK_split (fun h1 => ?_) (fun h1 => ?_)
  · have hk1 : k < l.length := by simp at h1; omega
    have hk2 : k < 60 := by simp at h1; omega
    have hok := ho _ (List.getElem_mem hk1)
    have e0 : ((k : Nat) : Int) = k := rfl
    simp (maxSteps := 1000000) (disch := omega) [go_sem, elemAt_map, hk1, opP]
    refine condK_if (fun h2 => ?_) (fun h2 => ?_)
    · simp (maxSteps := 1000000) [go_sem]
      refine ⟨⟨rfl, by simp [Tryd.f6]⟩, CallK_of [] awake_cr (by simp [go_sem]) ⟨by simp [go_sem], by simp [go_sem]⟩ (by simp [go_sem]) ?_⟩
      rintro y rs ⟨rfl, rfl⟩
      simp (maxSteps := 1000000) [go_sem]
      exact ret_is (.p (.bool true)) rfl (by simp [go_sem, resOf, leA]) ⟨rfl, rfl⟩
    · have c8 := op_cr l[k]
      have c7 := aput_cr l[k] hok.1 hok.2
      have c9 := rput_cr l[k] hok.1 hok.2
      obtain ⟨s, hs⟩ : ∃ s, s = putL l[k] := ⟨_, rfl⟩
      rw [← hs] at c7 c9
      simp (maxSteps := 1000000) (disch := omega) [go_sem, elemAt_map, hk1, opP]
      refine HCallK_of (.p (opP l[k])) rfl rfl (fun _ => pcallA_of 8 c8 rfl ⟨rfl, by simp [Tryd.f8]⟩ ⟨by simp [go_sem], by simp [go_sem, opP]⟩) ?_
      simp (maxSteps := 1000000) (disch := omega) [go_sem, opP]
      refine HCallK_of (.p (.str s)) rfl rfl (fun _ => pcallA_of 7 c7 rfl ⟨rfl, by simp [Tryd.f7]⟩ ⟨by simp [go_sem], by simp [go_sem, opP]⟩) ?_
      simp (maxSteps := 1000000) (disch := omega) [go_sem, elemAt_map, hk1, opP]
      refine HCallK_of (.p (.str s)) rfl rfl (fun _ => pcallA_of 9 c9 rfl ⟨rfl, by simp [Tryd.f9]⟩ ⟨by simp [go_sem], by simp [go_sem, opP]⟩) ?_
      simp (maxSteps := 1000000) (disch := omega) [go_sem, elemAt_map, hk1, opP]
      refine ⟨⟨rfl, by simp [Tryd.f8]⟩, CallK_of [] c8 (by simp [go_sem]) ⟨by simp [go_sem], by simp [go_sem, opP]⟩ (by simp [go_sem]) ?_⟩
      rintro y rs ⟨rfl, rfl⟩
      simp (maxSteps := 1000000) (disch := omega) [go_sem, elemAt_map, hk1, opP]
      have eT : (l.map opP).take (k + 1) = (l.map opP).take k ++ [opP l[k]] := by
        rw [List.take_succ_eq_append_getElem (by simp; exact hk1), List.getElem_map]
      have eW : IntKind.i64.wrap ((k : Int) + 1) = (k : Int) + 1 := wrap64 (by omega) (by omega)
      refine ⟨by omega, LoopK_next (k + 1) ⟨by omega, by omega, fun o h => ?_⟩ (by simp [go_sem, LeS, leV, leR, leA, eT, eW, opP]) (by omega)⟩
      rw [List.take_succ_eq_append_getElem hk1, List.mem_append] at h
      rcases h with h | h
      · exact ht o h
      · simp at h; subst h; omega
  · have hk1 : k = l.length ∨ k = 60 := by simp at h1; omega
    have ot : opsOK (l.take k) := ⟨fun o h => ho o (List.mem_of_mem_take h), by simp; omega, by have := allL_len2 (l.take k) ht; simp at this; omega⟩
    have c10 := aall_cr _ ot.1 ot.2.1 ot.2.2
    have c11 := rall_cr _ ot.1 ot.2.1 ot.2.2
    simp (maxSteps := 1000000) [go_sem]
    refine ⟨⟨rfl, by simp [Tryd.f10]⟩, CallK_of [] c10 (by simp [go_sem]) ⟨by simp [go_sem], by simp [go_sem, opsP]⟩ (by simp [go_sem]) ?_⟩
    rintro y rs ⟨rfl, rfl⟩
    simp (maxSteps := 1000000) [go_sem]
    refine ⟨⟨rfl, by simp [Tryd.f11]⟩, CallK_of [] c11 (by simp [go_sem]) ⟨by simp [go_sem], by simp [go_sem, opsP]⟩ (by simp [go_sem]) ?_⟩
    rintro y rs ⟨rfl, rfl⟩
    simp (maxSteps := 1000000) [go_sem]
    refine ⟨⟨rfl, by simp [Tryd.f6]⟩, CallK_of [] awake_cr (by simp [go_sem]) ⟨by simp [go_sem], by simp [go_sem]⟩ (by simp [go_sem]) ?_⟩
    rintro y rs ⟨rfl, rfl⟩
    simp (maxSteps := 1000000) [go_sem]
    exact ret_is (.p (.bool true)) rfl (by simp [go_sem, resOf, leA]) ⟨rfl, rfl⟩
end Go.Proofs.YtjgfmanahimpoaaDoor
