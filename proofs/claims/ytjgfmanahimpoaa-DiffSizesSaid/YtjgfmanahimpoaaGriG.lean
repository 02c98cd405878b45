/- Chapter 32's examples, as a contract of the abstract machine. Conditions: as each law says. -/
import Derived.Test.YtjgfmanahimpoaaGriF
namespace Go.Proofs.Ytjgfmanahimpoaa
open Go.AM
set_option maxHeartbeats 1600000
set_option maxRecDepth 10000
def awA : Cl := ⟨[97], 1⟩
def awB : Cl := ⟨[98], 1⟩
theorem aw_rows : dRs 5 [awA, awB, blk, blk, blk] [awA, blk, blk, blk, blk] 1 = [.agg [.int .i64 0, .int .i64 1, .int .i64 1, .str [], .bool true]] := by rfl
theorem aw_ok0 : OkR (List.replicate 5 blk) := fun k x hx => by
  have : x = blk := by
    have := List.mem_of_getElem? hx
    exact (List.mem_replicate.1 this).2
  subst this
  exact ⟨fun h => absurd h (by decide), fun h => absurd h (by decide)⟩
theorem awake_cr : CR Try.prog 18 [] [] [] (is (.p (.bool true))) := by
  have hn := gnew_cr 1 5 (by decide) (by decide)
  have ok0 := aw_ok0
  have ok1 : OkR [awA, blk, blk, blk, blk] := gputI_ok 1 5 0 0 awA _ (by decide) ok0
  have hp1 := gput_cr 1 5 5 (List.replicate 5 blk) 0 0 awA rfl (by decide) (by decide) rfl ok0
  have hp2 := gput_cr 1 5 5 [awA, blk, blk, blk, blk] 0 1 awB rfl (by decide) (by decide) rfl ok1
  have e1 : gputI 1 5 0 0 awA (List.replicate 5 blk) = [awA, blk, blk, blk, blk] := by decide
  have e2 : gputI 1 5 0 1 awB [awA, blk, blk, blk, blk] = [awA, awB, blk, blk, blk] := by decide
  have b1 : gputB 1 5 0 0 awA = true := by decide
  have b2 : gputB 1 5 0 1 awB = true := by decide
  rw [e1, b1] at hp1
  rw [e2, b2] at hp2
  have hr := rows_cr 1 5 5 [awA, awB, blk, blk, blk] [awA, blk, blk, blk, blk] rfl (by decide) (by decide) rfl rfl (fun k hk _ c hc => by
    obtain rfl : k = 0 := by omega
    revert c
    decide)
  rw [aw_rows] at hr
  have hs := rows_self 1 5 5 [awA, awB, blk, blk, blk] rfl (by decide) (by decide) rfl
  generalize hw0 : List.replicate (1 * 5) blk = w0 at hn
  have hw0' : List.replicate 5 blk = w0 := hw0
  rw [hw0'] at hp1
  generalize [awA, blk, blk, blk, blk] = w1 at *
  generalize [awA, awB, blk, blk, blk] = w2 at *
  clear hw0 hw0' e1 e2 b1 b2 ok0 ok1
  refine CR_of_wp mixed 4 [] Try.func18 rfl (by kernel_rfl) rfl (by simp) (by simp) ?_
  simp (maxSteps := 1000000) (disch := omega) [go_sem, Try.f18]
  refine ⟨⟨rfl, by simp [Try.f36]⟩, CallK_of [] hn (by simp [go_sem]) ⟨by simp [go_sem], by simp [go_sem]⟩ (by simp [go_sem]) ?_⟩
  rintro y rs ⟨rfl, rfl⟩
  simp (maxSteps := 1000000) (disch := omega) [go_sem, gp, cw_ren]
  refine ⟨⟨rfl, by simp [Try.f36]⟩, CallK_of [] hn (by simp [go_sem]) ⟨by simp [go_sem], by simp [go_sem]⟩ (by simp [go_sem]) ?_⟩
  rintro y rs ⟨rfl, rfl⟩
  simp (maxSteps := 1000000) (disch := omega) [go_sem, gp, cw_ren, cw_upd]
  refine ⟨⟨rfl, by simp [Try.f40]⟩, CallK_of [([0], [4, 0]), ([1], [4, 1])] hp1 (by simp [go_sem]) ⟨by simp [go_sem], by simp [go_sem, clP, awA]⟩ (by simp [go_sem, gp, cw_ren]) ?_⟩
  rintro y rs ⟨rfl, rfl⟩
  simp (maxSteps := 1000000) (disch := omega) [go_sem, gp, cw_ren, cw_upd]
  refine ⟨⟨rfl, by simp [Try.f40]⟩, CallK_of [([0], [4, 0]), ([1], [4, 1])] hp2 (by simp [go_sem]) ⟨by simp [go_sem], by simp [go_sem, clP, awB]⟩ (by simp [go_sem, gp, cw_ren]) ?_⟩
  rintro y rs ⟨rfl, rfl⟩
  simp (maxSteps := 1000000) (disch := omega) [go_sem, gp, cw_ren, cw_upd]
  refine ⟨⟨rfl, by simp [Try.f40]⟩, CallK_of [([0], [5, 0]), ([1], [5, 1])] hp1 (by simp [go_sem]) ⟨by simp [go_sem], by simp [go_sem, clP, awA]⟩ (by simp [go_sem, gp, cw_ren]) ?_⟩
  rintro y rs ⟨rfl, rfl⟩
  simp (maxSteps := 1000000) (disch := omega) [go_sem, gp, cw_ren, cw_upd]
  refine ⟨⟨rfl, by simp [Try.f17]⟩, CallK_of [([0], [4, 0]), ([1], [4, 1]), ([2], [5, 0]), ([3], [5, 1])] hr (by simp [go_sem]) ⟨by simp [go_sem], by simp [go_sem]⟩ (by simp [go_sem, gpp, cw_ren]) ?_⟩
  rintro y rs ⟨rfl, rfl⟩
  simp (maxSteps := 1000000) (disch := omega) [go_sem, elemAt, gpp, cw_ren, cw_upd]
  refine ⟨⟨rfl, by simp [Try.f17]⟩, CallK_of [([0], [4, 0]), ([1], [4, 1])] hs (by simp [go_sem]) ⟨by simp [go_sem], by simp [go_sem]⟩ (by simp [go_sem, gp, cw_ren]) ?_⟩
  rintro y rs ⟨rfl, rfl⟩
  simp (maxSteps := 1000000) (disch := omega) [go_sem, gp, cw_ren, cw_upd]
  exact ret_is _ rfl (by simp [go_sem, resOf, leA]) ⟨rfl, rfl⟩
end Go.Proofs.Ytjgfmanahimpoaa
