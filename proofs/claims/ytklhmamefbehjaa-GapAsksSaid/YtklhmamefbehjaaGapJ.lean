/- A part of the proof of this seat's statements, by an abstract machine: what each operation does to values, proved over the model, whatever the program. No condition beyond those that stand. -/
import Derived.Test.YtklhmamefbehjaaGapI
namespace Go.Proofs.Ytklhmamefbehjaa
open Go.AM
set_option maxHeartbeats 400000
set_option maxRecDepth 10000
theorem isrc_out (l : List Int) (n : Nat) (h : l.length ≤ n) : elemAt (isrc l) n = .int .i8 0 := by
  unfold elemAt isrc
  rw [List.getD_eq_getElem?_getD, List.getElem?_eq_none (by simpa using h)]
  rfl
structure Asking where
  k : Nat
  r : List Int
  L : List Int
  f : Nat
  t : Nat
def Asking.ok (n : Nat) (i : Asking) : Prop := i.k ≤ 20 ∧ i.k ≤ n ∧ i.f ≤ i.t ∧ i.t ≤ i.L.length ∧ i.L.length ≤ 10000 ∧ i.r.length ≤ 200 + 50 * i.k ∧ held i.L i.f i.t = i.r
def askSt (l : List Int) (ds : List Deed) (a b : Int) (i : Asking) : St :=
  { n := 143, nv := 20, vs := [(0, .p (.sl 1 (isrc l))), (1, .p (.sl 3 (ds.map deedP))), (2, .p (.int .i64 a)), (3, .p (.int .i64 b)), (8, .p (.bool false)), (9, .p (.sl 1 (isrc i.r))), (10, .lp [29, 0] 0), (11, .p (.int .i64 i.k))], ts := [],
    rs := [([29, 0], [.la [29, 0, 0] 1 0 i.L.length, .p (.int .i64 (i.f : Int)), .p (.int .i64 (i.t : Int))]), ([29, 0, 0], icells i.L)] }
def askMid (l : List Int) (ds : List Deed) (a b : Int) (i : Asking) (x y : Int) (ins : List Int) (ts : List (Nat × AV)) : St :=
  { n := 143, nv := 20, vs := [(0, .p (.sl 1 (isrc l))), (1, .p (.sl 3 (ds.map deedP))), (2, .p (.int .i64 a)), (3, .p (.int .i64 b)), (8, .p (.bool false)), (9, .p (.sl 1 (isrc i.r))), (10, .lp [29, 0] 0), (11, .p (.int .i64 i.k)), (12, .lp [12] 0)], ts := ts,
    rs := [([29, 0], [.la [29, 0, 0] 1 0 i.L.length, .p (.int .i64 (i.f : Int)), .p (.int .i64 (i.t : Int))]), ([29, 0, 0], icells i.L), ([12], [.p (.int .i64 x), .p (.int .i64 y), .p (.sl 1 (isrc ins))])] }
theorem asks_cr (l : List Int) (ds : List Deed) (a b : Int) :
    CR Try.prog 4 [] [.p (ints l), .p (deeds ds), .p (.int .i64 a), .p (.int .i64 b)] [] yes := by
  refine CR_of_wp mixed 20 [] Try.func4 rfl (by kernel_rfl) rfl (by simp) (by simp) ?_
  simp (disch := omega) [go_sem, Try.f4, wrap64, ints, deeds]
  refine condK_join (ι := { l' : List Int // l'.length ≤ 200 } × List (Nat × AV)) (fun i => { n := 143, nv := 20, vs := [(0, AV.p (PV.sl 1 (isrc i.1.1))), (1, AV.p (PV.sl 3 (List.map deedP ds))), (2, .p (.int .i64 a)), (3, .p (.int .i64 b)), (8, AV.p (PV.bool false))], ts := i.2, rs := [] }) (condK_if (fun h => ?_) (fun h => ?_)) ?_
  · simp (disch := omega) [go_sem, wrap64]
    refine ⟨by omega, JoinK_in ⟨⟨cut l 0 200, by simp [cut]; omega⟩, _⟩ rfl⟩
  · simp (disch := omega) [go_sem, wrap64]
    exact JoinK_in ⟨⟨l, by omega⟩, _⟩ rfl
  · clear l
    rintro ⟨⟨l, hl⟩, ts⟩
    simp (disch := omega) [go_sem, wrap64]
    refine ⟨by omega, ⟨rfl, by simp [Try.f5]⟩, ?_⟩
    refine CallK_of [] (new_cr l (by omega)) (by simp [go_sem]) ⟨by simp [go_sem], by simp [go_sem, ints]⟩ (by simp [go_sem]) ?_
    rintro x rs ⟨l1, rfl, hl1, rfl, hh1⟩
    simp (disch := omega) [go_sem, gapR, gapT, wrap64]
    refine wpA_loop (Asking.ok ds.length) (askSt l ds a b) (fun i => 20 - i.k) ⟨0, l, l1, l.length, l.length + 8⟩ ⟨by simp, by simp, by simp, by simp [hl1], by simp; omega, by simp; omega, hh1⟩ (by simp [go_sem, LeS, leV, leR, leA, leL, leL_refl, askSt]) ?_
    rintro ⟨k, r, L, f, t⟩ ⟨i1, i2, i3, i4, i5, i6, i7⟩
    simp only at i1 i2 i3 i4 i5 i6 i7
    simp (disch := omega) [go_sem, wrap64, askSt]
    refine condK_split (fun h => ?_) (fun h => ?_)
    · have hk : k < ds.length ∧ k < 20 := by simp at h; omega
      have hd : (ds.map deedP).length = ds.length := by simp
      simp (disch := omega) [go_sem, wrap64, askSt, elemAt_map, hk.1, deedP, ints]
      refine ⟨rfl, ?_⟩
      generalize ds[k].a = x
      generalize ds[k].b = y
      generalize ds[k].ins = ins0
      refine condK_join (ι := { ins : List Int // ins.length ≤ 50 } × List (Nat × AV)) (fun i => askMid l ds a b ⟨k, r, L, f, t⟩ x y i.1.1 i.2) (condK_if (fun h => ?_) (fun h => ?_)) ?_
      · simp (disch := omega) [go_sem, wrap64]
        refine ⟨by omega, JoinK_in ⟨⟨cut ins0 0 50, by simp [cut]; omega⟩, _⟩ rfl⟩
      · simp (disch := omega) [go_sem, wrap64]
        exact JoinK_in ⟨⟨ins0, by omega⟩, _⟩ rfl
      · clear h
        rintro ⟨⟨ins, hins⟩, ts'⟩
        simp (disch := omega) [go_sem, wrap64, askMid]
        refine ⟨⟨rfl, by simp [Try.f6]⟩, ?_⟩
        refine CallK_of [] (refsplice_cr r x y ins (by omega) (by omega)) (by simp [go_sem]) ⟨by simp [go_sem], by simp [go_sem, ints]⟩ (by simp [go_sem]) ?_
        rintro x' rs ⟨rfl, rfl⟩
        simp (disch := omega) [go_sem, gapR, gapT, wrap64, ints]
        have hr := held_length L f t i3 i4
        rw [i7] at hr
        have hok : okS L f t x y = okL r x y := by
          unfold okS okL
          congr 1
          apply propext
          omega
        refine ⟨⟨rfl, by simp [Try.f7]⟩, ?_⟩
        refine CallK_of [([0], [29, 0]), ([0, 0], [29, 0, 0])] (splice_cr L f t x y ins i3 i4 (by omega)) (by simp [go_sem]) ⟨by simp [go_sem], by simp [go_sem, ints]⟩ (by simp [go_sem, gapR]) ?_
        rintro x' rs ⟨L', f', t', rfl, j1, j2, j3, rfl, j4⟩
        rw [hok, i7] at j4
        have hj : held L' f' t' = refS r x y ins := j4
        clear j4
        have hr' := held_length L' f' t' j1 j2
        have hrl : (refS r x y ins).length ≤ r.length + 50 := by
          unfold refS
          split
          · rename_i ho
            simp [okL] at ho
            simp [spliced]
            omega
          · omega
        rw [hj] at hr'
        have jL : L'.length ≤ 10000 := by
          rcases j3 with h | ⟨h, h'⟩
          · omega
          · omega
        simp (disch := omega) [go_sem, gapR, gapT, wrap64, ints]
        refine LoopK_next ⟨k + 1, refS r x y ins, L', f', t'⟩ ⟨by simp only; omega, by simp only; omega, j1, j2, jL, by simp only; omega, hj⟩ (by simp [go_sem, LeS, leV, leR, leA, leL, leL_refl, askSt]) (by simp only; omega)
    · have hr := held_length L f t i3 i4
      rw [i7] at hr
      have hrr : r.length ≤ 1200 := by omega
      simp (disch := omega) [go_sem, wrap64, askSt]
      refine wpA_loop (fun j : Nat => j ≤ r.length + 2) (fun j => { askSt l ds a b ⟨k, r, L, f, t⟩ with vs := (askSt l ds a b ⟨k, r, L, f, t⟩).vs ++ [(15, .p (.int .i64 ((j : Int) - 1)))] }) (fun j => r.length + 2 - j) 0 (by simp) (by simp [go_sem, LeS, leV, leR, leA, leL, leL_refl, askSt]) ?_
      intro j hj
      simp (disch := omega) [go_sem, wrap64, askSt]
      refine condK_if (fun h' => ?_) (fun h' => ?_)
      · simp (disch := omega) [go_sem, wrap64]
        refine ⟨⟨rfl, by simp [Try.f12]⟩, ?_⟩
        refine CallK_of [([0], [29, 0]), ([0, 0], [29, 0, 0])] (at_cr L f t ((j : Int) - 1) i3 i4 (by omega)) (by simp [go_sem, gapT]) ⟨by simp [go_sem], by simp [go_sem]⟩ (by simp [go_sem, gapR]) ?_
        rintro x' rs ⟨rfl, rfl⟩
        rw [i7]
        have key : (∃ n, j = n + 1 ∧ n < r.length) ∨ ((j : Int) - 1 < 0 ∨ (r.length : Int) ≤ (j : Int) - 1) := by
          by_cases h0 : 1 ≤ j ∧ j ≤ r.length
          · exact .inl ⟨j - 1, by omega, by omega⟩
          · right; omega
        rcases key with ⟨n, rfl, hn⟩ | hb
        · have e0 : ((n + 1 : Nat) : Int) - 1 = n := by omega
          have hb : atB r n = true := by simp [atB, hn]
          have hv : atV r n = r[n] := atV_in r n hn
          rw [e0, hb, hv]
          simp (disch := omega) [go_sem, gapR, gapT, wrap64, ints, hn]
          refine LoopK_next (n + 2) (by omega) (by simp [go_sem, LeS, leV, leR, leA, leL, leL_refl, askSt]; omega) (by omega)
        · have hb1 : atB r ((j : Int) - 1) = false := by simp [atB]; omega
          have hb2 : (decide (1 ≤ (j : Int)) && decide ((j : Int) - 1 < r.length)) = false := by simp; omega
          have hv : atV r ((j : Int) - 1) = 0 := atV_out _ _ (by omega)
          rw [hb1, hv]
          by_cases hin : j - 1 < r.length
          · simp (disch := omega) [go_sem, gapR, gapT, wrap64, ints, hb2, isrc_at, hin]
            refine LoopK_next (j + 1) (by omega) (by simp [go_sem, LeS, leV, leR, leA, leL, leL_refl, askSt]) (by omega)
          · simp (disch := omega) [go_sem, gapR, gapT, wrap64, ints, hb2, isrc_out]
            refine LoopK_next (j + 1) (by omega) (by simp [go_sem, LeS, leV, leR, leA, leL, leL_refl, askSt]) (by omega)
      · simp (disch := omega) [go_sem, wrap64]
        refine ⟨⟨rfl, by simp [Try.f12]⟩, ?_⟩
        refine CallK_of [([0], [29, 0]), ([0, 0], [29, 0, 0])] (at_cr L f t a i3 i4 (by omega)) (by simp [go_sem, gapT]) ⟨by simp [go_sem], by simp [go_sem]⟩ (by simp [go_sem, gapR]) ?_
        rintro x' rs ⟨rfl, rfl⟩
        rw [i7]
        simp (disch := omega) [go_sem, gapR, gapT, wrap64, ints]
        refine ⟨⟨rfl, by simp [Try.f13]⟩, ?_⟩
        refine CallK_of [([0], [29, 0]), ([0, 0], [29, 0, 0])] (slice_cr L f t a b i3 i4 (by omega)) (by simp [go_sem, gapT]) ⟨by simp [go_sem], by simp [go_sem]⟩ (by simp [go_sem, gapR]) ?_
        rintro x' rs ⟨rfl, rfl⟩
        rw [i7]
        simp (disch := omega) [go_sem, gapR, gapT, wrap64, ints]
        refine ⟨⟨rfl, by simp [Try.f14]⟩, ?_⟩
        refine CallK_of [] (refslice_cr r a b (by omega)) (by simp [go_sem]) ⟨by simp [go_sem], by simp [go_sem, ints]⟩ (by simp [go_sem]) ?_
        rintro x' rs ⟨rfl, rfl⟩
        simp (disch := omega) [go_sem, gapR, gapT, wrap64, ints]
        have hsl : (sliced r a b).length ≤ r.length := by simp [sliced]; omega
        refine ⟨⟨rfl, by simp [Try.f9]⟩, ?_⟩
        refine CallK_of [] (same_cr (sliced r a b) (sliced r a b) (by omega)) (by simp [go_sem]) ⟨by simp [go_sem], by simp [go_sem, ints]⟩ (by simp [go_sem]) ?_
        rintro x' rs ⟨rfl, rfl⟩
        simp (disch := omega) [go_sem, gapR, gapT, wrap64, ints, atB]
        refine ⟨⟨rfl, by simp [Try.f11]⟩, ?_⟩
        refine CallK_of [] awake_cr (by simp [go_sem]) ⟨by simp [go_sem], by simp [go_sem]⟩ (by simp [go_sem]) ?_
        rintro x rs ⟨rfl, rfl⟩
        simp (disch := omega) [go_sem, wrap64]
        exact ret_is (.p (.bool true)) rfl (by simp [go_sem, resOf, leA]) ⟨rfl, rfl⟩
end Go.Proofs.Ytklhmamefbehjaa
