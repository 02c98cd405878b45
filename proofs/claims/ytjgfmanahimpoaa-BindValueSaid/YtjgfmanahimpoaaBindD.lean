/- A part of the proof of this seat's statements, by an abstract machine: what each operation does to values, proved over the model, whatever the program. No condition beyond those that stand. -/
import Derived.Test.YtjgfmanahimpoaaBindB
namespace Go.Proofs.Ytjgfmanahimpoaa
open Go.AM
set_option maxHeartbeats 800000
set_option maxRecDepth 10000
def pairP (x : Int × Int) : PV := .agg [.int .i64 x.1, .int .i64 x.2]
def rowL (l : List (Int × Int)) (n : Int) : Int := match l with
  | [] => 0
  | x :: l => if x.1 = n then x.2 else rowL l n
theorem rowL_drop (l : List (Int × Int)) (n : Int) (k : Nat) (h : k < l.length) : rowL (l.drop k) n = if l[k].1 = n then l[k].2 else rowL (l.drop (k + 1)) n := by
  rw [List.drop_eq_getElem_cons h, rowL]
theorem row_cr (l : List (Int × Int)) (n : Int) (h : l.length ≤ 1000) : CR Try.prog 55 [] [.p (.sl 2 (l.map pairP)), .p (.int .i64 n)] [] (is (.p (.int .i64 (rowL l n)))) := by
  refine CR_of_wp mixed 6 [] Try.func55 rfl (by kernel_rfl) rfl (by simp) (by simp) ?_
  simp (disch := omega) [go_sem, Try.f55]
  refine wpA_loop (fun k : Nat => k ≤ l.length ∧ rowL (l.drop k) n = rowL l n) (fun k => { n := 24, nv := 6, vs := [(0, .p (.sl 2 (l.map pairP))), (1, .p (.int .i64 n)), (4, .p (.int .i64 0)), (5, .p (.int .i64 k))], ts := [], rs := [] }) (fun k => l.length - k) 0 (by simp) (by simp [go_sem, LeS, leV, leR, leA]) ?_
  rintro k ⟨hk, hr⟩
  simp (disch := omega) [go_sem]
  refine condK_if (fun h1 => ?_) (fun h1 => ?_)
  · have e := rowL_drop l n k h1
    simp (disch := omega) [go_sem, elemAt_map, h1, pairP]
    refine condK_if (fun h2 => ?_) (fun h2 => ?_)
    · simp (disch := omega) [go_sem, elemAt_map, h1, pairP]
      refine ret_is (.p (.int .i64 (rowL l n))) rfl ?_ ⟨rfl, rfl⟩
      rw [← hr, e, if_pos h2]
      simp [go_sem, resOf, leA]
    · simp (disch := omega) [go_sem, wrap64]
      refine LoopK_next (k + 1) ⟨by omega, by rw [← hr, e, if_neg h2]⟩ (by simp [go_sem, LeS, leV, leR, leA]) (by omega)
  · simp (disch := omega) [go_sem]
    have hk' : k = l.length := by omega
    subst hk'
    refine ret_is (.p (.int .i64 (rowL l n))) rfl ?_ ⟨rfl, rfl⟩
    rw [← hr]
    simp [go_sem, resOf, leA, rowL]
theorem rowL_none {l : List (Int × Int)} {n : Int} (h : ∀ x ∈ l, x.1 ≠ n) : rowL l n = 0 := by
  induction l with
  | nil => rfl
  | cons x l ih =>
    rw [rowL, if_neg (h x (by simp)), ih (fun y hy => h y (by simp [hy]))]
def tN : List (Int × Int) := [(1, 22), (2, 23), (3, 3), (4, 4), (5, 7), (6, 8), (8, 9)]
def tC : List (Int × Int) := [(0, 17), (1, 7), (2, 4), (4, 9), (5, 8), (6, 3), (7, 26), (8, 10), (127, 10), (10, 2), (13, 2), (11, 13), (12, 27), (14, 23), (16, 22), (17, 28), (18, 24), (19, 25), (20, 31), (21, 14), (23, 15), (24, 33), (25, 19), (31, 21)]
def tM : List (Int × Int) := [(45, 30), (98, 6), (102, 5), (100, 11), (119, 16), (121, 20)]
theorem tN_eq (r : Int) : rowL tN r = namedL r := by
  simp only [tN, rowL, namedL, eq_comm (b := r)]
theorem tM_eq (r : Int) : rowL tM r = if r = 45 then 30 else if r = 98 then 6 else if r = 102 then 5 else if r = 100 then 11 else if r = 119 then 16 else if r = 121 then 20 else 0 := by
  simp only [tM, rowL, eq_comm (b := r)]
theorem tC_fin : ∀ r : Fin 128, rowL tC (r.val : Int) = controlL (r.val : Int) := by decide
theorem tC_eq (r : Int) : rowL tC r = controlL r := by
  by_cases h : 0 ≤ r ∧ r < 128
  · obtain ⟨n, rfl⟩ := Int.eq_ofNat_of_zero_le h.1
    exact tC_fin ⟨n, by omega⟩
  · have hb : ∀ x ∈ tC, 0 ≤ x.1 ∧ x.1 < 128 := by decide
    rw [rowL_none (fun x hx e => h (by have := hb x hx; omega)), controlL, if_neg (by omega), if_pos (by omega)]
def Stroke.ok (s : Stroke) : Prop := -2147483648 ≤ s.r ∧ s.r ≤ 2147483647
theorem usual_cr (s : Stroke) (hs : s.ok) : CR Try.prog 35 [] [.p (strokeP s)] [] (is (.p (.int .i64 (usualL s)))) := by
  obtain ⟨hs1, hs2⟩ := hs
  refine CR_of_wp mixed 4 [] Try.func35 rfl (by kernel_rfl) rfl (by simp) (by simp) ?_
  simp (disch := omega) [go_sem, Try.f35, strokeP, wrap64]
  have fin : ∀ {S : St} (n : Int), n = usualL s → S.pin = [] → S.get 2 = .p (.int .i64 n) → retA Try.prog [] [(2, none)] (is (.p (.int .i64 (usualL s)))) S := by
    intro S n e hp hg
    exact ret_is (.p (.int .i64 (usualL s))) hp (by simp [resOf, resV, hg, e, AV.upd, fil, fil1, leT, leA]) ⟨rfl, rfl⟩
  refine condK_if (fun h1 => ?_) (fun h1 => ?_)
  · simp (disch := omega) [go_sem]
    exact fin 32 (by simp [usualL, h1]) rfl (by simp [go_sem])
  simp (disch := omega) [go_sem]
  refine condK_split (fun h2 => ?_) (fun h2 => ?_)
  · simp (disch := omega) [go_sem]
    have hb : usualL s = behindL s := by simp [usualL, h1, h2]
    refine condK_split (fun h3 => ?_) (fun h3 => ?_)
    · simp (disch := omega) [go_sem]
      exact fin 0 (by rw [hb]; simp [behindL, eqS, h3]) rfl (by simp [go_sem])
    simp (disch := omega) [go_sem]
    refine condK_if (fun h4 => ?_) (fun h4 => ?_)
    · simp (disch := omega) [go_sem]
      refine ⟨rfl, ⟨rfl, by simp [Try.f55]⟩, ?_⟩
      refine CallK_of [] (row_cr [(24, 18), (21, 21), (7, 26)] s.r (by simp)) (by simp [go_sem]) ⟨by simp [go_sem], by simp [go_sem, pairP]⟩ (by simp [go_sem]) ?_
      rintro y rs ⟨rfl, rfl⟩
      simp (disch := omega) [go_sem]
      exact fin (rowL [(24, 18), (21, 21), (7, 26)] s.r) (by rw [hb]; simp [behindL, eqS, h2, h3, h4, rowL, eq_comm (b := s.r)]) rfl (by simp [go_sem])
    simp (disch := omega) [go_sem]
    refine condK_if (fun h5 => ?_) (fun h5 => ?_)
    · simp (disch := omega) [go_sem]
      refine ⟨⟨rfl, by simp [Try.f55]⟩, ?_⟩
      refine CallK_of [] (row_cr [(117, 21)] s.r (by simp)) (by simp [go_sem]) ⟨by simp [go_sem], by simp [go_sem, pairP]⟩ (by simp [go_sem]) ?_
      rintro y rs ⟨rfl, rfl⟩
      simp (disch := omega) [go_sem]
      exact fin (rowL [(117, 21)] s.r) (by rw [hb]; simp [behindL, eqS, h2, h3, h5, rowL, eq_comm (b := s.r)]) rfl (by simp [go_sem])
    · simp (disch := omega) [go_sem]
      exact fin 0 (by rw [hb]; simp [behindL, eqS, h4, h5]) rfl (by simp [go_sem])
  simp (disch := omega) [go_sem]
  refine condK_split (fun h3 => ?_) (fun h3 => ?_)
  · have e3 : s.k = 3 ∧ s.m = false := by simpa using h3
    simp (disch := omega) [go_sem]
    refine ⟨rfl, ⟨rfl, by simp [Try.f55]⟩, ?_⟩
    refine CallK_of [] (row_cr tN s.r (by simp [tN])) (by simp [go_sem]) ⟨by simp [go_sem], by simp [go_sem, pairP, tN]⟩ (by simp [go_sem]) ?_
    rintro y rs ⟨rfl, rfl⟩
    simp (disch := omega) [go_sem]
    exact fin (rowL tN s.r) (by rw [tN_eq]; simp [usualL, h2, e3]) rfl (by simp [go_sem])
  have e3 : ¬ (s.k = 3 ∧ s.m = false) := by rintro ⟨a, b⟩; simp [a, b] at h3
  simp (disch := omega) [go_sem]
  refine condK_split (fun h4 => ?_) (fun h4 => ?_)
  · have e4 : s.k = 2 ∧ s.m = true := by simpa using h4
    simp (disch := omega) [go_sem]
    refine ⟨rfl, ⟨rfl, by simp [Try.f55]⟩, ?_⟩
    refine CallK_of [] (row_cr [(127, 12), (8, 12)] s.r (by simp)) (by simp [go_sem]) ⟨by simp [go_sem], by simp [go_sem, pairP]⟩ (by simp [go_sem]) ?_
    rintro y rs ⟨rfl, rfl⟩
    simp (disch := omega) [go_sem]
    exact fin (rowL [(127, 12), (8, 12)] s.r) (by simp [usualL, h2, e4, rowL, eq_comm (b := s.r)]; by_cases q1 : s.r = 127 <;> by_cases q2 : s.r = 8 <;> simp [q1, q2]) rfl (by simp [go_sem])
  have e4 : ¬ (s.k = 2 ∧ s.m = true) := by rintro ⟨a, b⟩; simp [a, b] at h4
  simp (disch := omega) [go_sem]
  refine condK_if (fun h5 => ?_) (fun h5 => ?_)
  · have hm : s.m = false := by cases hq : s.m with | false => rfl | true => exact absurd ⟨h5, hq⟩ e4
    simp (disch := omega) [go_sem]
    refine ⟨rfl, ⟨rfl, by simp [Try.f55]⟩, ?_⟩
    refine CallK_of [] (row_cr tC s.r (by simp [tC])) (by simp [go_sem]) ⟨by simp [go_sem], by simp [go_sem, pairP, tC]⟩ (by simp [go_sem]) ?_
    rintro y rs ⟨rfl, rfl⟩
    simp (disch := omega) [go_sem]
    exact fin (rowL tC s.r) (by rw [tC_eq]; simp [usualL, h2, h5, hm]) rfl (by simp [go_sem])
  simp (disch := omega) [go_sem]
  refine condK_split (fun h6 => ?_) (fun h6 => ?_)
  · have e6 : s.k = 1 ∧ s.m = true := by simpa using h6
    have hb : usualL s = metaL s.r := by simp [usualL, h2, e6]
    simp (disch := omega) [go_sem]
    refine condK_split (fun h7 => ?_) (fun h7 => ?_)
    · have e7 : 48 ≤ s.r ∧ s.r ≤ 57 := by simpa using h7
      simp (disch := omega) [go_sem]
      exact fin 29 (by rw [hb, metaL, if_pos e7]) rfl (by simp [go_sem])
    have e7 : ¬ (48 ≤ s.r ∧ s.r ≤ 57) := by rintro ⟨a, b⟩; simp [a, b] at h7
    simp (disch := omega) [go_sem]
    refine ⟨rfl, ⟨rfl, by simp [Try.f55]⟩, ?_⟩
    refine CallK_of [] (row_cr tM s.r (by simp [tM])) (by simp [go_sem]) ⟨by simp [go_sem], by simp [go_sem, pairP, tM]⟩ (by simp [go_sem]) ?_
    rintro y rs ⟨rfl, rfl⟩
    simp (disch := omega) [go_sem]
    exact fin (rowL tM s.r) (by rw [tM_eq, hb, metaL, if_neg e7]) rfl (by simp [go_sem])
  simp (disch := omega) [go_sem]
  have e6 : ¬ (s.k = 1 ∧ s.m = true) := by rintro ⟨a, b⟩; simp [a, b] at h6
  refine condK_if (fun h7 => ?_) (fun h7 => ?_)
  · simp (disch := omega) [go_sem]
    have hm : s.m = false := by cases hq : s.m with | false => rfl | true => exact absurd ⟨h7, hq⟩ e6
    exact fin 1 (by simp [usualL, h2, h7, hm]) rfl (by simp [go_sem])
  · simp (disch := omega) [go_sem]
    exact fin 0 (by simp [usualL, h1, h2, e3, h5, h7]) rfl (by simp [go_sem])
end Go.Proofs.Ytjgfmanahimpoaa
