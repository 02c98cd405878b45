/- What the law's own functions do at rings, as contracts of the abstract machine: are they the same; the chapter's example. Conditions: as each law says. -/
import Derived.Test.YtjgfmanahimpoaaRingG
namespace Go.Proofs.Ytjgfmanahimpoaa
open Go.AM
set_option maxHeartbeats 1600000
set_option maxRecDepth 10000
theorem is_same_cr (l : Txts) (k : Nat) (h : Good l k) : CR Try.prog 22 [] [.p (ringP l k), .p (ringP l k)] [] (is (.p (.bool true))) := by
  refine CR_of_wp mixed 9 [] Try.func22 rfl (by kernel_rfl) rfl (by simp) (by simp) ?_
  have hal := all_cr l k h.len h.txt
  have htop := top_cr l k h.at' h.len h.txt
  by_cases h0 : l = []
  · subst h0
    simp (maxSteps := 1000000) (disch := omega) [go_sem, Try.f22, wrap64, ringP, lP]
    refine ⟨⟨rfl, by simp [Try.f25]⟩, CallK_of [] hal (by simp [go_sem]) ⟨by simp [go_sem], by simp [go_sem, ringP, lP]⟩ (by simp [go_sem]) ?_⟩
    rintro y rs ⟨rfl, rfl⟩
    simp (maxSteps := 1000000) (disch := omega) [go_sem, wrap64]
    refine ⟨⟨rfl, by simp [Try.f26]⟩, CallK_of [] htop (by simp [go_sem]) ⟨by simp [go_sem], by simp [go_sem, ringP, lP]⟩ (by simp [go_sem]) ?_⟩
    rintro y rs ⟨rfl, rfl⟩
    rw [topP, if_pos rfl]
    simp (maxSteps := 1000000) (disch := omega) [go_sem, wrap64]
    refine ⟨⟨rfl, by simp [Try.f47]⟩, CallK_of [] sames_nil (by simp [go_sem]) ⟨by simp [go_sem], by simp [go_sem]⟩ (by simp [go_sem]) ?_⟩
    rintro y rs ⟨rfl, rfl⟩
    simp (maxSteps := 1000000) (disch := omega) [go_sem, wrap64]
    exact ret_is _ rfl (by simp [go_sem, resOf, leA]) ⟨rfl, rfl⟩
  · have hk : k < l.length := h.at'.resolve_left h0
    have hp : 0 < l.length := by omega
    have ht := h.txt l[k] (List.getElem_mem hk)
    rw [topP, if_neg h0, getD_lt hk] at htop
    simp only [ringP, lP_ne h0]
    simp (maxSteps := 1000000) (disch := omega) [go_sem, Try.f22, wrap64]
    refine ⟨⟨rfl, by simp [Try.f25]⟩, CallK_of [] hal (by simp [go_sem]) ⟨by simp [go_sem], by simp [go_sem, ringP, lP_ne h0]⟩ (by simp [go_sem]) ?_⟩
    rintro y rs ⟨rfl, rfl⟩
    simp (maxSteps := 1000000) (disch := omega) [go_sem, wrap64]
    refine ⟨⟨rfl, by simp [Try.f26]⟩, CallK_of [] htop (by simp [go_sem]) ⟨by simp [go_sem], by simp [go_sem, ringP, lP_ne h0]⟩ (by simp [go_sem]) ?_⟩
    rintro y rs ⟨rfl, rfl⟩
    simp (maxSteps := 1000000) (disch := omega) [go_sem, wrap64, txt, hp, txt_at hk]
    refine ⟨hk, ⟨rfl, by simp [Try.f27]⟩, CallK_of [] (same_cr l[k] l[k] (by omega) (by omega)) (by simp [go_sem]) ⟨by simp [go_sem], by simp [go_sem, txt]⟩ (by simp [go_sem]) ?_⟩
    rintro y rs ⟨rfl, rfl⟩
    simp (maxSteps := 1000000) (disch := omega) [go_sem, wrap64]
    refine ⟨⟨rfl, by simp [Try.f47]⟩, CallK_of [] (sames_cr l l h.len h.len h.txt h.txt) (by simp [go_sem]) ⟨by simp [go_sem], by simp [go_sem]⟩ (by simp [go_sem]) ?_⟩
    rintro y rs ⟨rfl, rfl⟩
    simp (maxSteps := 1000000) (disch := omega) [go_sem, wrap64]
    exact ret_is _ rfl (by simp [go_sem, resOf, leA]) ⟨rfl, rfl⟩
theorem awake_cr : CR Try.prog 24 [] [] [] (is (.p (.bool true))) := by
  refine CR_of_wp mixed 8 [] Try.func24 rfl (by kernel_rfl) rfl (by simp) (by simp) ?_
  have e0 : ringP [] 0 = .agg [.opq (.slice none 0 0), .int .i64 0] := rfl
  have a1 := add_cr [] 0 [97] (by simp) (by simp) (by simp)
  have a2 := add_cr [[97]] 0 [98] (by simp) (by simp) (by simp)
  have e1 : addL [] [97] = [[97]] := rfl
  have e2 : addL [[97]] [98] = [[98], [97]] := rfl
  have e3 : ringP [[97]] 0 = .agg [.sl 1 [.sl 1 [.int .i32 97]], .int .i64 0] := rfl
  have e4 : ringP [[98], [97]] 0 = .agg [.sl 1 [.sl 1 [.int .i32 98], .sl 1 [.int .i32 97]], .int .i64 0] := rfl
  have e5 : ringP [[98], [97]] 1 = .agg [.sl 1 [.sl 1 [.int .i32 98], .sl 1 [.int .i32 97]], .int .i64 1] := rfl
  have e6 : ringP [[98, 99], [97]] 0 = .agg [.sl 1 [.sl 1 [.int .i32 98, .int .i32 99], .sl 1 [.int .i32 97]], .int .i64 0] := rfl
  rw [e1] at a1
  rw [e2] at a2
  have t1 := top_cr [[98], [97]] 0 (by simp) (by simp) (by simp)
  have u1 := turn_cr [[98], [97]] 0 (by simp) (by simp)
  have t2 := top_cr [[98], [97]] 1 (by simp) (by simp) (by simp)
  have j1 := join_cr [[98], [97]] 0 [99] false (by simp) (by simp) (by simp)
  have t3 := top_cr [[98, 99], [97]] 0 (by simp) (by simp) (by simp)
  have e7 : turnI [[98], [97]] 0 = 1 := rfl
  have e8 : joinL [[98], [97]] [99] false = [[98, 99], [97]] := rfl
  rw [e7] at u1
  rw [e8] at j1
  have f1 : topP [[98], [97]] 0 = .tup [.p (.sl 1 [.int .i32 98]), .p (.bool true)] := rfl
  have f2 : topP [[98], [97]] 1 = .tup [.p (.sl 1 [.int .i32 97]), .p (.bool true)] := rfl
  have f3 : topP [[98, 99], [97]] 0 = .tup [.p (.sl 1 [.int .i32 98, .int .i32 99]), .p (.bool true)] := rfl
  rw [f1] at t1
  rw [f2] at t2
  rw [f3] at t3
  have q1 := same_cr [98] [98] (by simp) (by simp)
  have q2 := same_cr [97] [97] (by simp) (by simp)
  have q3 := same_cr [98, 99] [98, 99] (by simp) (by simp)
  simp (maxSteps := 1000000) (disch := omega) [go_sem, Try.f24, wrap64]
  refine ⟨rfl, ⟨rfl, by simp [Try.f29]⟩, CallK_of [] a1 (by simp [go_sem]) ⟨by simp [go_sem], by simp [go_sem, e0, txt, rn]⟩ (by simp [go_sem]) ?_⟩
  rintro y rs ⟨rfl, rfl⟩
  simp (maxSteps := 1000000) (disch := omega) [go_sem, wrap64, e3]
  refine ⟨⟨rfl, by simp [Try.f29]⟩, CallK_of [] a2 (by simp [go_sem]) ⟨by simp [go_sem], by simp [go_sem, e0, e3, e4, e5, e6, txt, rn]⟩ (by simp [go_sem]) ?_⟩
  rintro y rs ⟨rfl, rfl⟩
  simp (maxSteps := 1000000) (disch := omega) [go_sem, wrap64, e3, e4, e5, e6]
  refine ⟨⟨rfl, by simp [Try.f26]⟩, CallK_of [] t1 (by simp [go_sem]) ⟨by simp [go_sem], by simp [go_sem, e0, e3, e4, e5, e6, txt, rn]⟩ (by simp [go_sem]) ?_⟩
  rintro y rs ⟨rfl, rfl⟩
  simp (maxSteps := 1000000) (disch := omega) [go_sem, wrap64, e3, e4, e5, e6]
  refine ⟨⟨rfl, by simp [Try.f28]⟩, CallK_of [] u1 (by simp [go_sem]) ⟨by simp [go_sem], by simp [go_sem, e0, e3, e4, e5, e6, txt, rn]⟩ (by simp [go_sem]) ?_⟩
  rintro y rs ⟨rfl, rfl⟩
  simp (maxSteps := 1000000) (disch := omega) [go_sem, wrap64, e3, e4, e5, e6]
  refine ⟨⟨rfl, by simp [Try.f26]⟩, CallK_of [] t2 (by simp [go_sem]) ⟨by simp [go_sem], by simp [go_sem, e0, e3, e4, e5, e6, txt, rn]⟩ (by simp [go_sem]) ?_⟩
  rintro y rs ⟨rfl, rfl⟩
  simp (maxSteps := 1000000) (disch := omega) [go_sem, wrap64, e3, e4, e5, e6]
  refine ⟨⟨rfl, by simp [Try.f46]⟩, CallK_of [] j1 (by simp [go_sem]) ⟨by simp [go_sem], by simp [go_sem, e0, e3, e4, e5, e6, txt, rn]⟩ (by simp [go_sem]) ?_⟩
  rintro y rs ⟨rfl, rfl⟩
  simp (maxSteps := 1000000) (disch := omega) [go_sem, wrap64, e3, e4, e5, e6]
  refine ⟨⟨rfl, by simp [Try.f26]⟩, CallK_of [] t3 (by simp [go_sem]) ⟨by simp [go_sem], by simp [go_sem, e0, e3, e4, e5, e6, txt, rn]⟩ (by simp [go_sem]) ?_⟩
  rintro y rs ⟨rfl, rfl⟩
  simp (maxSteps := 1000000) (disch := omega) [go_sem, wrap64, e3, e4, e5, e6]
  refine ⟨⟨rfl, by simp [Try.f27]⟩, CallK_of [] q1 (by simp [go_sem]) ⟨by simp [go_sem], by simp [go_sem, e0, e3, e4, e5, e6, txt, rn]⟩ (by simp [go_sem]) ?_⟩
  rintro y rs ⟨rfl, rfl⟩
  simp (maxSteps := 1000000) (disch := omega) [go_sem, wrap64, e3, e4, e5, e6]
  refine ⟨⟨rfl, by simp [Try.f27]⟩, CallK_of [] q2 (by simp [go_sem]) ⟨by simp [go_sem], by simp [go_sem, e0, e3, e4, e5, e6, txt, rn]⟩ (by simp [go_sem]) ?_⟩
  rintro y rs ⟨rfl, rfl⟩
  simp (maxSteps := 1000000) (disch := omega) [go_sem, wrap64, e3, e4, e5, e6]
  refine ⟨rfl, ⟨rfl, by simp [Try.f27]⟩, CallK_of [] q3 (by simp [go_sem]) ⟨by simp [go_sem], by simp [go_sem, e0, e3, e4, e5, e6, txt, rn]⟩ (by simp [go_sem]) ?_⟩
  rintro y rs ⟨rfl, rfl⟩
  simp (maxSteps := 1000000) (disch := omega) [go_sem, wrap64, e3, e4, e5, e6]
  exact ret_is _ rfl (by simp [go_sem, resOf, leA]) ⟨rfl, rfl⟩
end Go.Proofs.Ytjgfmanahimpoaa
