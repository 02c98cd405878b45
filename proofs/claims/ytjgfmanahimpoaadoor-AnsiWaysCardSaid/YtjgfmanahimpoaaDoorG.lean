/- What is sent for a list of ops, by the program and by the document, as contracts of the abstract machine. Conditions: as each law says. -/
import Derived.Test.YtjgfmanahimpoaaDoorF
namespace Go.Proofs.YtjgfmanahimpoaaDoor
open Go.AM
set_option maxHeartbeats 1600000
set_option maxRecDepth 10000
def opsP (l : List AOp) : PV := .sl 4 (l.map opP)
def allL (l : List AOp) : List UInt8 := l.flatMap putL
def AOp.ok (o : AOp) : Prop := -9223372036854775808 ≤ o.a ∧ -9223372036854775808 ≤ o.b
theorem all_step (l : List AOp) (k : Nat) (h : k < l.length) : allL (l.take (k + 1)) = allL (l.take k) ++ putL l[k] := by
  rw [List.take_succ_eq_append_getElem h, allL, List.flatMap_append]
  simp [allL]
theorem all_len (l : List AOp) (k : Nat) : (allL (l.take k)).length ≤ (allL l).length := by
  have e : allL l = allL (l.take k) ++ allL (l.drop k) := by
    rw [allL, allL, allL, ← List.flatMap_append, List.take_append_drop]
  rw [e, List.length_append]
  exact Nat.le_add_right _ _
theorem aall_cr (l : List AOp) (ho : ∀ o ∈ l, o.ok) (hl : l.length ≤ 1000000) (hs : (allL l).length ≤ 140737488355328) : CR Tryd.prog 10 [] [.p (opsP l)] [] (is (.p (.str (allL l)))) := by
  refine CR_of_wpN [] mixed 9 [9] Tryd.func10 rfl (by kernel_rfl) [] [66] rfl (by simp) (by simp) ?_
  simp (maxSteps := 1000000) (disch := omega) [go_sem, Tryd.f10, opsP]
  refine ⟨⟨rfl, rfl⟩, ?_⟩
  refine wpA_loop (fun k : Nat => k ≤ l.length) (fun k => { n := 17, nv := 9, ex := [9], bt := [66], vs := [(0, .p (opsP l)), (2, .p (.str [])), (3, .lp [3] 0), (6, .p (opsP l)), (7, .p (.int .i64 l.length)), (8, .p (.int .i64 k))], ts := [], rs := [([3], [if k = 0 then .bz [3] 66 2 else .lp [3] 0, .bb [3, 1] 5 (allL (l.take k))])] }) (fun k => l.length - k) 0 (by simp) (by simp [go_sem, LeS, leV, leR, leA, leL, allL, opsP]) ?_
  rintro k hk
  simp (maxSteps := 1000000) (disch := omega) [go_sem]
  refine condK_if (fun h1 => ?_) (fun h1 => ?_)
  · have hp := aput_cr l[k] (ho _ (List.getElem_mem h1)).1 (ho _ (List.getElem_mem h1)).2
    have e := all_step l k h1
    have hle := all_len l (k + 1)
    rw [e, List.length_append] at hle
    obtain ⟨s, hsd⟩ : ∃ s, s = allL (l.take k) := ⟨_, rfl⟩
    rw [← hsd] at hle e
    by_cases h0 : k = 0
    · subst h0
      simp (maxSteps := 1000000) (disch := omega) [go_sem, opsP, elemAt_map, h1, opP]
      refine ⟨⟨rfl, by simp [Tryd.f7]⟩, CallK_of [] hp (by simp [go_sem]) ⟨by simp [go_sem], by simp [go_sem, opP]⟩ (by simp [go_sem]) ?_⟩
      rintro y rs ⟨rfl, rfl⟩
      simp (maxSteps := 1000000) (disch := omega) [go_sem]
      refine ⟨⟨rfl, by simp [Tryd.f29]⟩, CallK_of [([0], [3]), ([1], [3, 1])] (wstr_run (.inl rfl) s (putL l[0]) (by omega)) (by simp [go_sem]) ⟨by simp [go_sem], by simp [go_sem]⟩ (by simp [go_sem, hsd]) ?_⟩
      rintro y rs ⟨rfl, rfl⟩
      simp (maxSteps := 1000000) (disch := omega) [go_sem, wrap64]
      refine LoopK_next 1 (by omega) (by simp [go_sem, LeS, leV, leR, leA, leL, ← e]) (by omega)
    · simp (maxSteps := 1000000) (disch := omega) [go_sem, opsP, elemAt_map, h1, opP, h0, ← hsd]
      refine ⟨⟨rfl, by simp [Tryd.f7]⟩, CallK_of [] hp (by simp [go_sem]) ⟨by simp [go_sem], by simp [go_sem, opP]⟩ (by simp [go_sem]) ?_⟩
      rintro y rs ⟨rfl, rfl⟩
      simp (maxSteps := 1000000) (disch := omega) [go_sem]
      refine ⟨⟨rfl, by simp [Tryd.f29]⟩, CallK_of [([0], [3]), ([1], [3, 1])] (wstr_run (.inr rfl) s (putL l[k]) (by omega)) (by simp [go_sem]) ⟨by simp [go_sem], by simp [go_sem]⟩ (by simp [go_sem, hsd]) ?_⟩
      rintro y rs ⟨rfl, rfl⟩
      simp (maxSteps := 1000000) (disch := omega) [go_sem, wrap64]
      refine LoopK_next (k + 1) (by omega) (by simp [go_sem, LeS, leV, leR, leA, leL, e, h0]) (by omega)
  · have hk' : k = l.length := by omega
    subst hk'
    simp (maxSteps := 1000000) (disch := omega) [go_sem]
    refine ⟨⟨rfl, by simp [Tryd.f30]⟩, CallK_of [([0], [3]), ([1], [3, 1])] (str_cr (if l.length = 0 then .bz [0] 66 2 else .lp [0] 0) (allL l)) (by simp [go_sem]) ⟨by simp [go_sem], by simp [go_sem]⟩ (by split <;> simp_all [go_sem]) ?_⟩
    rintro y rs ⟨rfl, rfl⟩
    simp (maxSteps := 1000000) (disch := omega) [go_sem]
    exact ret_is (.p (.str (allL l))) rfl (by simp [go_sem, resOf, leA]) ⟨rfl, rfl⟩
theorem rall_cr (l : List AOp) (ho : ∀ o ∈ l, o.ok) (hl : l.length ≤ 1000000) (hs : (allL l).length ≤ 140737488355328) : CR Tryd.prog 11 [] [.p (opsP l)] [] (is (.p (.str (allL l)))) := by
  refine CR_of_wp mixed 5 [8] Tryd.func11 rfl (by kernel_rfl) rfl (by simp) (by simp) ?_
  simp (maxSteps := 1000000) (disch := omega) [go_sem, Tryd.f11, opsP]
  refine wpA_loop (fun k : Nat => k ≤ l.length) (fun k => { n := 19, nv := 5, ex := [8], vs := [(0, .p (opsP l)), (2, .p (.str [])), (3, .p (.str (allL (l.take k)))), (4, .p (.int .i64 k))], ts := [], rs := [] }) (fun k => l.length - k) 0 (by simp) (by simp [go_sem, LeS, leV, leR, leA, allL, opsP]) ?_
  rintro k hk
  simp (maxSteps := 1000000) (disch := omega) [go_sem, opsP]
  refine condK_if (fun h1 => ?_) (fun h1 => ?_)
  · have hp := rput_cr l[k] (ho _ (List.getElem_mem h1)).1 (ho _ (List.getElem_mem h1)).2
    have e := all_step l k h1
    have hle := all_len l (k + 1)
    rw [e, List.length_append] at hle
    simp (maxSteps := 1000000) (disch := omega) [go_sem, elemAt_map, h1, opP]
    refine ⟨⟨rfl, by simp [Tryd.f9]⟩, CallK_of [] hp (by simp [go_sem]) ⟨by simp [go_sem], by simp [go_sem, opP]⟩ (by simp [go_sem]) ?_⟩
    rintro y rs ⟨rfl, rfl⟩
    simp (maxSteps := 1000000) (disch := omega) [go_sem, wrap64]
    refine ⟨by omega, LoopK_next (k + 1) (by omega) (by simp [go_sem, LeS, leV, leR, leA, e]) (by omega)⟩
  · have hk' : k = l.length := by omega
    subst hk'
    simp (maxSteps := 1000000) (disch := omega) [go_sem]
    exact ret_is (.p (.str (allL l))) rfl (by simp [go_sem, resOf, leA]) ⟨rfl, rfl⟩
end Go.Proofs.YtjgfmanahimpoaaDoor
