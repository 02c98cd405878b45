/- What made does; DiffSizes, as a contract of the abstract machine. Conditions: as each law says. -/
import Derived.Test.YtjgfmanahimpoaaMad1
import Derived.Test.YtjgfmanahimpoaaMad2
import Derived.Test.YtjgfmanahimpoaaMad3
import Derived.Test.YtjgfmanahimpoaaMad4
namespace Go.Proofs.Ytjgfmanahimpoaa
open Go.AM
set_option maxHeartbeats 1600000
set_option maxRecDepth 10000
/-- What a grid of deeds is, in the end. -/
def gEnd (R C : Nat) (ds : List GDeed) : Row := gMade R C ds (min 30 ds.length)
theorem gEnd_len (R C : Nat) (ds : List GDeed) : (gEnd R C ds).length = R * C := gMade_len _ _ _ _
theorem made_cr (R C : Nat) (ds : List GDeed) (hR : 1 ≤ R ∧ R ≤ 4) (hC : 2 ≤ C ∧ C ≤ 1000) : CR Try.prog 16 [] [.p (.int .i64 R), .p (.int .i64 C), .p (.sl 5 (ds.map gdeedP))] []
    (fun x rs' => x = .tup [.lp [0] 0, .junk] ∧ rs' = gp R C (R * C) (gEnd R C ds)) := by
  have h : R = 1 ∨ R = 2 ∨ R = 3 ∨ R = 4 := by omega
  rcases h with rfl | rfl | rfl | rfl
  · refine (made1_lk C ds hC).ren 1000 ?_
    rintro x rs' ⟨rfl, h0, h1, _⟩
    exact ⟨[([0], [14, 0]), ([1], [14, 1])], rfl, rfl, by simp [AV.ren, AV.upd, renG, renF, inM], by simp [rootsR, St.ofR, h0, h1, gp, gEnd, cw_ren, AV.ren, AV.upd, renG, renF, inM]⟩
  · refine (made2_lk C ds hC).ren 1000 ?_
    rintro x rs' ⟨rfl, h0, h1, _⟩
    exact ⟨[([0], [14, 0]), ([1], [14, 1])], rfl, rfl, by simp [AV.ren, AV.upd, renG, renF, inM], by simp [rootsR, St.ofR, h0, h1, gp, gEnd, cw_ren, AV.ren, AV.upd, renG, renF, inM]⟩
  · refine (made3_lk C ds hC).ren 1000 ?_
    rintro x rs' ⟨rfl, h0, h1, _⟩
    exact ⟨[([0], [14, 0]), ([1], [14, 1])], rfl, rfl, by simp [AV.ren, AV.upd, renG, renF, inM], by simp [rootsR, St.ofR, h0, h1, gp, gEnd, cw_ren, AV.ren, AV.upd, renG, renF, inM]⟩
  · refine (made4_lk C ds hC).ren 1000 ?_
    rintro x rs' ⟨rfl, h0, h1, _⟩
    exact ⟨[([0], [14, 0]), ([1], [14, 1])], rfl, rfl, by simp [AV.ren, AV.upd, renG, renF, inM], by simp [rootsR, St.ofR, h0, h1, gp, gEnd, cw_ren, AV.ren, AV.upd, renG, renF, inM]⟩
theorem and_lt (a : Int) (k : Nat) (hk : k ≤ 32) (y : Int) (hy : (BitVec.ofInt 64 y).toNat = 2 ^ k - 1) : ∃ p : Nat, p < 2 ^ k ∧ IntKind.i64.wrap (BitVec.ofInt IntKind.i64.bits a &&& BitVec.ofInt IntKind.i64.bits y).toNat = p := by
  refine ⟨(BitVec.ofInt 64 a).toNat % 2 ^ k, Nat.mod_lt _ (Nat.two_pow_pos k), ?_⟩
  show IntKind.i64.wrap ((BitVec.ofInt 64 a &&& BitVec.ofInt 64 y).toNat : Int) = _
  rw [BitVec.toNat_and, hy, Nat.and_two_pow_sub_one_eq_mod]
  have h1 : (BitVec.ofInt 64 a).toNat % 2 ^ k < 2 ^ k := Nat.mod_lt _ (Nat.two_pow_pos k)
  have h2 : 2 ^ k ≤ 2 ^ 32 := Nat.pow_le_pow_right (by decide) hk
  rw [wrap64 (by omega) (by omega)]
theorem sizes_cr (a b n m : Int) (ds : List GDeed) : CR Try.prog 6 [] [.p (.int .i64 a), .p (.int .i64 b), .p (.int .i64 n), .p (.int .i64 m), .p (.sl 5 (ds.map gdeedP))] [] (is (.p (.bool true))) := by
  obtain ⟨p, hp, ep⟩ := and_lt a 2 (by decide) 3 rfl
  obtain ⟨q, hq, eq⟩ := and_lt b 3 (by decide) 7 rfl
  obtain ⟨p', hp', ep'⟩ := and_lt n 2 (by decide) 3 rfl
  obtain ⟨q', hq', eq'⟩ := and_lt m 3 (by decide) 7 rfl
  simp [go_sem] at ep eq ep' eq'
  have hg := made_cr (1 + p) (2 + q) ds (by omega) (by omega)
  have hh := made_cr (1 + p') (2 + q') ds (by omega) (by omega)
  have lg := gEnd_len (1 + p) (2 + q) ds
  refine CR_of_wp mixed 15 [] Try.func6 rfl (by kernel_rfl) rfl (by simp) (by simp) ?_
  simp (maxSteps := 1000000) (disch := omega) [go_sem, Try.f6, wrap64, ep, eq]
  refine ⟨⟨rfl, by simp [Try.f16]⟩, CallK_of [] hg (by simp [go_sem]) ⟨by simp [go_sem], by simp [go_sem]⟩ (by simp [go_sem]) ?_⟩
  rintro y rs ⟨rfl, rfl⟩
  simp (maxSteps := 1000000) (disch := omega) [go_sem, wrap64, gp, cw_ren, ep', eq']
  refine ⟨⟨rfl, by simp [Try.f16]⟩, CallK_of [] hh (by simp [go_sem]) ⟨by simp [go_sem], by simp [go_sem]⟩ (by simp [go_sem]) ?_⟩
  rintro y rs ⟨rfl, rfl⟩
  by_cases hs : p = p' ∧ q = q'
  · obtain ⟨rfl, rfl⟩ := hs
    generalize gEnd (1 + p) (2 + q) ds = l at *
    have hr := rows_cr (1 + p) (2 + q) ((1 + p) * (2 + q)) l l rfl (by omega) (by omega) lg lg (fun k _ h => by rw [dF_self] at h; omega)
    rw [dRs_self] at hr
    have hN : (1 + p) * (2 + q) ≤ 500 * 1000 := Nat.mul_le_mul (by omega) (by omega)
    have hsm := same_cr (1 + p) (2 + q) ((1 + p) * (2 + q)) l l (by omega) lg lg
    simp only [beq_self_eq_true] at hsm
    simp (maxSteps := 1000000) (disch := omega) [go_sem, gp, cw_ren, cw_upd, ep, eq, ep', eq']
    refine ⟨⟨rfl, by simp [Try.f17]⟩, CallK_of [([0], [23, 0]), ([1], [23, 1]), ([2], [34, 0]), ([3], [34, 1])] hr (by simp [go_sem]) ⟨by simp [go_sem], by simp [go_sem]⟩ (by simp [go_sem, gpp, cw_ren]) ?_⟩
    rintro y rs ⟨rfl, rfl⟩
    simp (maxSteps := 1000000) (disch := omega) [go_sem, gpp, cw_ren, cw_upd]
    refine ⟨⟨rfl, by simp [Try.f19]⟩, CallK_of [([0], [23, 0]), ([1], [23, 1]), ([2], [34, 0]), ([3], [34, 1])] hsm (by simp [go_sem]) ⟨by simp [go_sem], by simp [go_sem]⟩ (by simp [go_sem, gpp, cw_ren]) ?_⟩
    rintro y rs ⟨rfl, rfl⟩
    simp (maxSteps := 1000000) (disch := omega) [go_sem, gpp, cw_ren, cw_upd]
    refine ⟨⟨rfl, by simp [Try.f18]⟩, CallK_of [] awake_cr (by simp [go_sem]) ⟨by simp [go_sem], by simp [go_sem]⟩ (by simp [go_sem]) ?_⟩
    rintro y rs ⟨rfl, rfl⟩
    simp (maxSteps := 1000000) (disch := omega) [go_sem, cw_upd]
    exact ret_is _ rfl (by simp [go_sem, resOf, leA]) ⟨rfl, rfl⟩
  · have hr := rows_no (1 + p) (2 + q) ((1 + p) * (2 + q)) (gEnd (1 + p) (2 + q) ds) (1 + p') (2 + q') ((1 + p') * (2 + q')) (gEnd (1 + p') (2 + q') ds) (by omega)
    simp (maxSteps := 1000000) (disch := omega) [go_sem, gp, cw_ren, cw_upd, ep, eq, ep', eq']
    refine condK_split (fun h => ?_) (fun h => ?_)
    · simp (maxSteps := 1000000) (disch := omega) [go_sem]
      refine ⟨⟨rfl, by simp [Try.f17]⟩, CallK_of [([0], [23, 0]), ([1], [23, 1]), ([2], [34, 0]), ([3], [34, 1])] hr (by simp [go_sem]) ⟨by simp [go_sem], by simp [go_sem]⟩ (by simp [go_sem, gpp, cw_ren]) ?_⟩
      rintro y rs ⟨rfl, rfl⟩
      simp (maxSteps := 1000000) (disch := omega) [go_sem, gpp, cw_ren, cw_upd]
      refine ⟨⟨rfl, by simp [Try.f18]⟩, CallK_of [] awake_cr (by simp [go_sem]) ⟨by simp [go_sem], by simp [go_sem]⟩ (by simp [go_sem]) ?_⟩
      rintro y rs ⟨rfl, rfl⟩
      simp (maxSteps := 1000000) (disch := omega) [go_sem, cw_upd]
      exact ret_is _ rfl (by simp [go_sem, resOf, leA]) ⟨rfl, rfl⟩
    · refine absurd ?_ hs
      simp at h
      omega
end Go.Proofs.Ytjgfmanahimpoaa
