/- A part of the proof of this seat's statements, by an abstract machine: what each operation does to values, proved over the model, whatever the program. No condition beyond those that stand. -/
import Derived.Test.YtklhmamefbehjaaGapG
import Derived.Test.YtklhmamefbehjaaAmT
namespace Go.Proofs.Ytklhmamefbehjaa
open Go.AM
set_option maxHeartbeats 400000
set_option maxRecDepth 10000
structure Deed where
  a : Int
  b : Int
  ins : List Int
def deedP (x : Deed) : PV := .agg [.int .i64 x.a, .int .i64 x.b, ints x.ins]
def deeds (l : List Deed) : PV := .sl 3 (l.map deedP)
structure Playing where
  k : Nat
  r : List Int
  L : List Int
  f : Nat
  t : Nat
def Playing.ok (n : Nat) (i : Playing) : Prop := i.k ≤ 60 ∧ i.k ≤ n ∧ i.f ≤ i.t ∧ i.t ≤ i.L.length ∧ i.L.length ≤ 10000 ∧ i.r.length ≤ 200 + 50 * i.k ∧ held i.L i.f i.t = i.r
def playSt (l : List Int) (ds : List Deed) (i : Playing) : St :=
  { n := 78, nv := 11, vs := [(0, .p (.sl 1 (isrc l))), (1, .p (.sl 3 (ds.map deedP))), (4, .p (.bool false)), (5, .p (.sl 1 (isrc i.r))), (6, .lp [20, 0] 0), (7, .p (.int .i64 i.k))], ts := [],
    rs := [([20, 0], [.la [20, 0, 0] 1 0 i.L.length, .p (.int .i64 (i.f : Int)), .p (.int .i64 (i.t : Int))]), ([20, 0, 0], icells i.L)] }
def midSt (l : List Int) (ds : List Deed) (i : Playing) (a b : Int) (ins : List Int) (ts : List (Nat × AV)) : St :=
  { n := 78, nv := 11, vs := [(0, .p (.sl 1 (isrc l))), (1, .p (.sl 3 (ds.map deedP))), (4, .p (.bool false)), (5, .p (.sl 1 (isrc i.r))), (6, .lp [20, 0] 0), (7, .p (.int .i64 i.k)), (8, .lp [8] 0)], ts := ts,
    rs := [([20, 0], [.la [20, 0, 0] 1 0 i.L.length, .p (.int .i64 (i.f : Int)), .p (.int .i64 (i.t : Int))]), ([20, 0, 0], icells i.L), ([8], [.p (.int .i64 a), .p (.int .i64 b), .p (.sl 1 (isrc ins))])] }
theorem plays_cr (l : List Int) (ds : List Deed) :
    CR Try.prog 3 [] [.p (ints l), .p (deeds ds)] [] yes := by
  refine CR_of_wp mixed 11 [] Try.func3 rfl (by kernel_rfl) rfl (by simp) (by simp) ?_
  simp (disch := omega) [go_sem, Try.f3, wrap64, ints, deeds]
  refine condK_join (ι := { l' : List Int // l'.length ≤ 200 } × List (Nat × AV)) (fun i => { n := 78, nv := 11, vs := [(0, AV.p (PV.sl 1 (isrc i.1.1))), (1, AV.p (PV.sl 3 (List.map deedP ds))), (4, AV.p (PV.bool false))], ts := i.2, rs := [] }) (condK_if (fun h => ?_) (fun h => ?_)) ?_
  · simp (disch := omega) [go_sem, wrap64]
    refine ⟨by omega, JoinK_in ⟨⟨cut l 0 200, by simp [cut]; omega⟩, _⟩ rfl⟩
  · simp (disch := omega) [go_sem, wrap64]
    exact JoinK_in ⟨⟨l, by omega⟩, _⟩ rfl
  · clear l
    rintro ⟨⟨l, hl⟩, ts⟩
    simp (disch := omega) [go_sem, wrap64]
    refine ⟨by omega, ⟨rfl, by simp [Try.f5]⟩, ?_⟩
    refine CallK_of [] (new_cr l (by omega)) (by simp [go_sem]) ⟨by simp [go_sem], by simp [go_sem, ints]⟩ (by simp [go_sem]) ?_
    rintro x rs ⟨l1, rfl, hl1, rfl, hh1⟩
    simp (disch := omega) [go_sem, gapR, gapT, wrap64]
    refine wpA_loop (Playing.ok ds.length) (playSt l ds) (fun i => 60 - i.k) ⟨0, l, l1, l.length, l.length + 8⟩ ⟨by simp, by simp, by simp, by simp [hl1], by simp; omega, by simp; omega, hh1⟩ (by simp [go_sem, LeS, leV, leR, leA, leL, leL_refl, playSt]) ?_
    rintro ⟨k, r, L, f, t⟩ ⟨i1, i2, i3, i4, i5, i6, i7⟩
    simp only at i1 i2 i3 i4 i5 i6 i7
    simp (disch := omega) [go_sem, wrap64, playSt]
    refine condK_split (fun h => ?_) (fun h => ?_)
    · have hk : k < ds.length ∧ k < 60 := by simp at h; omega
      have hd : (ds.map deedP).length = ds.length := by simp
      simp (disch := omega) [go_sem, wrap64, playSt, elemAt_map, hk.1, deedP, ints]
      refine ⟨rfl, ?_⟩
      generalize ds[k].a = a
      generalize ds[k].b = b
      generalize ds[k].ins = ins0
      refine condK_join (ι := { ins : List Int // ins.length ≤ 50 } × List (Nat × AV)) (fun i => midSt l ds ⟨k, r, L, f, t⟩ a b i.1.1 i.2) (condK_if (fun h => ?_) (fun h => ?_)) ?_
      · simp (disch := omega) [go_sem, wrap64]
        refine ⟨by omega, JoinK_in ⟨⟨cut ins0 0 50, by simp [cut]; omega⟩, _⟩ rfl⟩
      · simp (disch := omega) [go_sem, wrap64]
        exact JoinK_in ⟨⟨ins0, by omega⟩, _⟩ rfl
      · clear h
        rintro ⟨⟨ins, hins⟩, ts'⟩
        simp (disch := omega) [go_sem, wrap64, midSt]
        refine ⟨⟨rfl, by simp [Try.f6]⟩, ?_⟩
        refine CallK_of [] (refsplice_cr r a b ins (by omega) (by omega)) (by simp [go_sem]) ⟨by simp [go_sem], by simp [go_sem, ints]⟩ (by simp [go_sem]) ?_
        rintro x rs ⟨rfl, rfl⟩
        simp (disch := omega) [go_sem, gapR, gapT, wrap64, ints]
        have hr := held_length L f t i3 i4
        rw [i7] at hr
        have hok : okS L f t a b = okL r a b := by
          unfold okS okL
          congr 1
          apply propext
          omega
        refine ⟨⟨rfl, by simp [Try.f7]⟩, ?_⟩
        refine CallK_of [([0], [20, 0]), ([0, 0], [20, 0, 0])] (splice_cr L f t a b ins i3 i4 (by omega)) (by simp [go_sem]) ⟨by simp [go_sem], by simp [go_sem, ints]⟩ (by simp [go_sem, gapR]) ?_
        rintro x rs ⟨L', f', t', rfl, j1, j2, j3, rfl, j4⟩
        rw [hok, i7] at j4
        rw [hok]
        have hj : held L' f' t' = refS r a b ins := j4
        clear j4
        have hr' := held_length L' f' t' j1 j2
        have hrl : (refS r a b ins).length ≤ r.length + 50 := by
          unfold refS
          split
          · rename_i ho
            simp [okL] at ho
            simp [spliced]
            omega
          · omega
        rw [hj] at hr'
        simp (disch := omega) [go_sem, gapR, gapT, wrap64, ints]
        have jL : L'.length ≤ 10000 := by
          rcases j3 with h | ⟨h, h'⟩
          · omega
          · omega
        refine ⟨⟨rfl, by simp [Try.f8]⟩, ?_⟩
        refine CallK_of [([0], [20, 0]), ([0, 0], [20, 0, 0])] (len_cr L' f' t' j1 j2 (by omega)) (by simp [go_sem, gapT]) ⟨by simp [go_sem], by simp [go_sem]⟩ (by simp [go_sem, gapR]) ?_
        rintro x rs ⟨rfl, rfl⟩
        have e1 : (L'.length : Int) - (t' - f') = ((refS r a b ins).length : Nat) := by omega
        rw [e1]
        simp (disch := omega) [go_sem, gapR, gapT, wrap64, ints]
        refine ⟨⟨rfl, by simp [Try.f10]⟩, ?_⟩
        refine CallK_of [([0], [20, 0]), ([0, 0], [20, 0, 0])] (all_cr L' f' t' j1 j2 (by omega)) (by simp [go_sem, gapT]) ⟨by simp [go_sem], by simp [go_sem]⟩ (by simp [go_sem, gapR]) ?_
        rintro x rs ⟨rfl, rfl⟩
        rw [hj]
        simp (disch := omega) [go_sem, gapR, gapT, wrap64, ints]
        refine ⟨⟨rfl, by simp [Try.f9]⟩, ?_⟩
        refine CallK_of [] (same_cr (refS r a b ins) (refS r a b ins) (by omega)) (by simp [go_sem]) ⟨by simp [go_sem], by simp [go_sem, ints]⟩ (by simp [go_sem]) ?_
        rintro x rs ⟨rfl, rfl⟩
        simp (disch := omega) [go_sem, gapR, gapT, wrap64]
        refine LoopK_next ⟨k + 1, refS r a b ins, L', f', t'⟩ ⟨by simp only; omega, by simp only; omega, j1, j2, jL, by simp only; omega, hj⟩ (by simp [go_sem, LeS, leV, leR, leA, leL, leL_refl, playSt]) (by simp only; omega)
    · simp (disch := omega) [go_sem, wrap64, playSt]
      refine ⟨⟨rfl, by simp [Try.f11]⟩, ?_⟩
      refine CallK_of [] awake_cr (by simp [go_sem]) ⟨by simp [go_sem], by simp [go_sem]⟩ (by simp [go_sem]) ?_
      rintro x rs ⟨rfl, rfl⟩
      simp (disch := omega) [go_sem, wrap64]
      exact ret_is (.p (.bool true)) rfl (by simp [go_sem, resOf, leA]) ⟨rfl, rfl⟩
end Go.Proofs.Ytklhmamefbehjaa
