/- What the document's Way does, as a contract of the abstract machine: the same ops as the program's. Conditions: as each law says. -/
import Derived.Test.YtjgfmanahimpoaaDoorC1
namespace Go.Proofs.YtjgfmanahimpoaaDoor
open Go.AM
set_option maxHeartbeats 3200000
set_option maxRecDepth 10000
theorem rway_cr (r c r' c' : Int) (hr : 0 ≤ r ∧ r ≤ 1000) (hc : 0 ≤ c ∧ c ≤ 1000) (hr' : 0 ≤ r' ∧ r' ≤ 1000) (hc' : 0 ≤ c' ∧ c' ≤ 1000) : CR Tryd.prog 13 [] [.p (spotP r c), .p (spotP r' c')] [] (is (.p (opsP (wayL r c r' c')))) := by
  refine CR_of_wp mixed 9 [13, 27, 50, 64, 80, 100] Tryd.func13 rfl (by kernel_rfl) rfl (by simp) (by simp) ?_
  have w1 : IntKind.i64.wrap (r' - r) = r' - r := wrap64 (by omega) (by omega)
  have w2 : IntKind.i64.wrap (c' - c) = c' - c := wrap64 (by omega) (by omega)
  have w3 : IntKind.i64.wrap (r - r') = r - r' := wrap64 (by omega) (by omega)
  have w4 : IntKind.i64.wrap (c - c') = c - c' := wrap64 (by omega) (by omega)
  simp (maxSteps := 1000000) [go_sem, Tryd.f13, spotP]
  refine condK_if (fun h1 => ?_) (fun h1 => ?_)
  · simp (maxSteps := 1000000) [go_sem, opsP, w1]
    refine condK_if (fun h2 => absurd h2 (by omega)) (fun h2 => ?_)
    simp (maxSteps := 1000000) [go_sem]
    refine condK_if (fun h3 => ?_) (fun h3 => ?_)
    · simp (maxSteps := 1000000) [go_sem, w2]
      refine condK_if (fun h4 => absurd h4 (by omega)) (fun h4 => ?_)
      have hw : wayL r c r' c' = if c' = 0 then shorter [⟨11, r' - r, 0, []⟩, ⟨6, 0, 0, []⟩] (shorter [⟨11, r' - r, 0, []⟩, ⟨8, c' - c, 0, []⟩] [⟨2, r', c', []⟩]) else shorter [⟨11, r' - r, 0, []⟩, ⟨8, c' - c, 0, []⟩] [⟨2, r', c', []⟩] := by
        have e1 : rowsL r r' = [⟨11, r' - r, 0, []⟩] := by rw [rowsL]; exact if_pos (by omega)
        have e2 : colsL c c' = [⟨8, c' - c, 0, []⟩] := by rw [colsL]; exact (if_neg (by omega)).trans (if_pos (by omega))
        rw [wayL, e1, e2]; rfl
      have o1 : opsOK [⟨11, r' - r, 0, []⟩, ⟨8, c' - c, 0, []⟩] := opsOK_of _ (by simp [AOp.ok]; try omega) (by simp)
      have o0 : opsOK [⟨2, r', c', []⟩] := opsOK_of _ (by simp [AOp.ok]; try omega) (by simp)
      have o2 : opsOK [⟨11, r' - r, 0, []⟩, ⟨6, 0, 0, []⟩] := opsOK_of _ (by simp [AOp.ok]; try omega) (by simp)
      rw [hw]
      clear hw
      have a1 := rall_cr _ o1.1 o1.2.1 o1.2.2
      have a0 := rall_cr _ o0.1 o0.2.1 o0.2.2
      have a2 := rall_cr _ o2.1 o2.2.1 o2.2.2
      have ob := opsOK_shorter o1 o0
      obtain ⟨bb, hb⟩ : ∃ bb, bb = shorter [⟨11, r' - r, 0, []⟩, ⟨8, c' - c, 0, []⟩] [⟨2, r', c', []⟩] := ⟨_, rfl⟩
      rw [← hb] at ob ⊢
      rw [shorter] at hb
      have ab := rall_cr _ ob.1 ob.2.1 ob.2.2
      simp (maxSteps := 1000000) [go_sem]
      refine ⟨⟨rfl, by simp [Tryd.f11]⟩, CallK_of [] (a1) (by simp [go_sem]) ⟨by simp [go_sem], by simp [go_sem, opsP, opP]⟩ (by simp [go_sem]) ?_⟩
      rintro y rs ⟨rfl, rfl⟩
      simp (maxSteps := 1000000) [go_sem]
      refine ⟨⟨rfl, by simp [Tryd.f11]⟩, CallK_of [] (a0) (by simp [go_sem]) ⟨by simp [go_sem], by simp [go_sem, opsP, opP]⟩ (by simp [go_sem]) ?_⟩
      rintro y rs ⟨rfl, rfl⟩
      simp (maxSteps := 1000000) [go_sem]
      refine condK_if (fun h5 => ?_) (fun h5 => ?_)
      · rw [if_pos h5] at hb
        subst hb
        by_cases hz : c' = 0
        · rw [if_pos hz, shorter]
          have hd : decide (c' = 0) = true := decide_eq_true hz
          simp (maxSteps := 1000000) [go_sem, hd]
          refine ⟨⟨rfl, by simp [Tryd.f11]⟩, CallK_of [] (a2) (by simp [go_sem]) ⟨by simp [go_sem], by simp [go_sem, opsP, opP]⟩ (by simp [go_sem]) ?_⟩
          rintro y rs ⟨rfl, rfl⟩
          simp (maxSteps := 1000000) [go_sem]
          refine ⟨⟨rfl, by simp [Tryd.f11]⟩, CallK_of [] (ab) (by simp [go_sem]) ⟨by simp [go_sem], by simp [go_sem, opsP, opP]⟩ (by simp [go_sem]) ?_⟩
          rintro y rs ⟨rfl, rfl⟩
          simp (maxSteps := 1000000) [go_sem]
          refine condK_if (fun h6 => ?_) (fun h6 => ?_)
          · rw [if_pos h6]
            simp (maxSteps := 1000000) [go_sem, opP]
            exact ret_is (.p (opsP [⟨11, r' - r, 0, []⟩, ⟨6, 0, 0, []⟩])) rfl (by simp [go_sem, resOf, leA, opsP, opP]) ⟨rfl, rfl⟩
          · rw [if_neg h6]
            simp (maxSteps := 1000000) [go_sem, opP]
            exact ret_is (.p (opsP [⟨11, r' - r, 0, []⟩, ⟨8, c' - c, 0, []⟩])) rfl (by simp [go_sem, resOf, leA, opsP, opP]) ⟨rfl, rfl⟩
        · rw [if_neg hz]
          have hd : decide (c' = 0) = false := decide_eq_false hz
          simp (maxSteps := 1000000) [go_sem, opP, hd]
          exact ret_is (.p (opsP [⟨11, r' - r, 0, []⟩, ⟨8, c' - c, 0, []⟩])) rfl (by simp [go_sem, resOf, leA, opsP, opP]) ⟨rfl, rfl⟩
      · rw [if_neg h5] at hb
        subst hb
        by_cases hz : c' = 0
        · rw [if_pos hz, shorter]
          have hd : decide (c' = 0) = true := decide_eq_true hz
          simp (maxSteps := 1000000) [go_sem, hd]
          refine ⟨⟨rfl, by simp [Tryd.f11]⟩, CallK_of [] (a2) (by simp [go_sem]) ⟨by simp [go_sem], by simp [go_sem, opsP, opP]⟩ (by simp [go_sem]) ?_⟩
          rintro y rs ⟨rfl, rfl⟩
          simp (maxSteps := 1000000) [go_sem]
          refine ⟨⟨rfl, by simp [Tryd.f11]⟩, CallK_of [] (ab) (by simp [go_sem]) ⟨by simp [go_sem], by simp [go_sem, opsP, opP]⟩ (by simp [go_sem]) ?_⟩
          rintro y rs ⟨rfl, rfl⟩
          simp (maxSteps := 1000000) [go_sem]
          refine condK_if (fun h6 => ?_) (fun h6 => ?_)
          · rw [if_pos h6]
            simp (maxSteps := 1000000) [go_sem, opP]
            exact ret_is (.p (opsP [⟨11, r' - r, 0, []⟩, ⟨6, 0, 0, []⟩])) rfl (by simp [go_sem, resOf, leA, opsP, opP]) ⟨rfl, rfl⟩
          · rw [if_neg h6]
            simp (maxSteps := 1000000) [go_sem, opP]
            exact ret_is (.p (opsP [⟨2, r', c', []⟩])) rfl (by simp [go_sem, resOf, leA, opsP, opP]) ⟨rfl, rfl⟩
        · rw [if_neg hz]
          have hd : decide (c' = 0) = false := decide_eq_false hz
          simp (maxSteps := 1000000) [go_sem, opP, hd]
          exact ret_is (.p (opsP [⟨2, r', c', []⟩])) rfl (by simp [go_sem, resOf, leA, opsP, opP]) ⟨rfl, rfl⟩
    · simp (maxSteps := 1000000) [go_sem]
      refine condK_if (fun h4 => ?_) (fun h4 => ?_)
      · have hw : wayL r c r' c' = if c' = 0 then shorter [⟨11, r' - r, 0, []⟩, ⟨6, 0, 0, []⟩] (shorter [⟨11, r' - r, 0, []⟩, ⟨9, c - c', 0, []⟩] [⟨2, r', c', []⟩]) else shorter [⟨11, r' - r, 0, []⟩, ⟨9, c - c', 0, []⟩] [⟨2, r', c', []⟩] := by
          have e1 : rowsL r r' = [⟨11, r' - r, 0, []⟩] := by rw [rowsL]; exact if_pos (by omega)
          have e2 : colsL c c' = [⟨9, c - c', 0, []⟩] := by rw [colsL]; rw [show c - c' = -(c' - c) by omega]; exact (if_neg (by omega)).trans (if_neg (by omega))
          rw [wayL, e1, e2]; rfl
        have o1 : opsOK [⟨11, r' - r, 0, []⟩, ⟨9, c - c', 0, []⟩] := opsOK_of _ (by simp [AOp.ok]; try omega) (by simp)
        have o0 : opsOK [⟨2, r', c', []⟩] := opsOK_of _ (by simp [AOp.ok]; try omega) (by simp)
        have o2 : opsOK [⟨11, r' - r, 0, []⟩, ⟨6, 0, 0, []⟩] := opsOK_of _ (by simp [AOp.ok]; try omega) (by simp)
        rw [hw]
        clear hw
        have a1 := rall_cr _ o1.1 o1.2.1 o1.2.2
        have a0 := rall_cr _ o0.1 o0.2.1 o0.2.2
        have a2 := rall_cr _ o2.1 o2.2.1 o2.2.2
        have ob := opsOK_shorter o1 o0
        obtain ⟨bb, hb⟩ : ∃ bb, bb = shorter [⟨11, r' - r, 0, []⟩, ⟨9, c - c', 0, []⟩] [⟨2, r', c', []⟩] := ⟨_, rfl⟩
        rw [← hb] at ob ⊢
        rw [shorter] at hb
        have ab := rall_cr _ ob.1 ob.2.1 ob.2.2
        simp (maxSteps := 1000000) [go_sem, w4]
        refine ⟨⟨rfl, by simp [Tryd.f11]⟩, CallK_of [] (a1) (by simp [go_sem]) ⟨by simp [go_sem], by simp [go_sem, opsP, opP]⟩ (by simp [go_sem]) ?_⟩
        rintro y rs ⟨rfl, rfl⟩
        simp (maxSteps := 1000000) [go_sem]
        refine ⟨⟨rfl, by simp [Tryd.f11]⟩, CallK_of [] (a0) (by simp [go_sem]) ⟨by simp [go_sem], by simp [go_sem, opsP, opP]⟩ (by simp [go_sem]) ?_⟩
        rintro y rs ⟨rfl, rfl⟩
        simp (maxSteps := 1000000) [go_sem]
        refine condK_if (fun h5 => ?_) (fun h5 => ?_)
        · rw [if_pos h5] at hb
          subst hb
          by_cases hz : c' = 0
          · rw [if_pos hz, shorter]
            have hd : decide (c' = 0) = true := decide_eq_true hz
            simp (maxSteps := 1000000) [go_sem, hd]
            refine ⟨⟨rfl, by simp [Tryd.f11]⟩, CallK_of [] (a2) (by simp [go_sem]) ⟨by simp [go_sem], by simp [go_sem, opsP, opP]⟩ (by simp [go_sem]) ?_⟩
            rintro y rs ⟨rfl, rfl⟩
            simp (maxSteps := 1000000) [go_sem]
            refine ⟨⟨rfl, by simp [Tryd.f11]⟩, CallK_of [] (ab) (by simp [go_sem]) ⟨by simp [go_sem], by simp [go_sem, opsP, opP]⟩ (by simp [go_sem]) ?_⟩
            rintro y rs ⟨rfl, rfl⟩
            simp (maxSteps := 1000000) [go_sem]
            refine condK_if (fun h6 => ?_) (fun h6 => ?_)
            · rw [if_pos h6]
              simp (maxSteps := 1000000) [go_sem, opP]
              exact ret_is (.p (opsP [⟨11, r' - r, 0, []⟩, ⟨6, 0, 0, []⟩])) rfl (by simp [go_sem, resOf, leA, opsP, opP]) ⟨rfl, rfl⟩
            · rw [if_neg h6]
              simp (maxSteps := 1000000) [go_sem, opP]
              exact ret_is (.p (opsP [⟨11, r' - r, 0, []⟩, ⟨9, c - c', 0, []⟩])) rfl (by simp [go_sem, resOf, leA, opsP, opP]) ⟨rfl, rfl⟩
          · rw [if_neg hz]
            have hd : decide (c' = 0) = false := decide_eq_false hz
            simp (maxSteps := 1000000) [go_sem, opP, hd]
            exact ret_is (.p (opsP [⟨11, r' - r, 0, []⟩, ⟨9, c - c', 0, []⟩])) rfl (by simp [go_sem, resOf, leA, opsP, opP]) ⟨rfl, rfl⟩
        · rw [if_neg h5] at hb
          subst hb
          by_cases hz : c' = 0
          · rw [if_pos hz, shorter]
            have hd : decide (c' = 0) = true := decide_eq_true hz
            simp (maxSteps := 1000000) [go_sem, hd]
            refine ⟨⟨rfl, by simp [Tryd.f11]⟩, CallK_of [] (a2) (by simp [go_sem]) ⟨by simp [go_sem], by simp [go_sem, opsP, opP]⟩ (by simp [go_sem]) ?_⟩
            rintro y rs ⟨rfl, rfl⟩
            simp (maxSteps := 1000000) [go_sem]
            refine ⟨⟨rfl, by simp [Tryd.f11]⟩, CallK_of [] (ab) (by simp [go_sem]) ⟨by simp [go_sem], by simp [go_sem, opsP, opP]⟩ (by simp [go_sem]) ?_⟩
            rintro y rs ⟨rfl, rfl⟩
            simp (maxSteps := 1000000) [go_sem]
            refine condK_if (fun h6 => ?_) (fun h6 => ?_)
            · rw [if_pos h6]
              simp (maxSteps := 1000000) [go_sem, opP]
              exact ret_is (.p (opsP [⟨11, r' - r, 0, []⟩, ⟨6, 0, 0, []⟩])) rfl (by simp [go_sem, resOf, leA, opsP, opP]) ⟨rfl, rfl⟩
            · rw [if_neg h6]
              simp (maxSteps := 1000000) [go_sem, opP]
              exact ret_is (.p (opsP [⟨2, r', c', []⟩])) rfl (by simp [go_sem, resOf, leA, opsP, opP]) ⟨rfl, rfl⟩
          · rw [if_neg hz]
            have hd : decide (c' = 0) = false := decide_eq_false hz
            simp (maxSteps := 1000000) [go_sem, opP, hd]
            exact ret_is (.p (opsP [⟨2, r', c', []⟩])) rfl (by simp [go_sem, resOf, leA, opsP, opP]) ⟨rfl, rfl⟩
      · have hw : wayL r c r' c' = if c' = 0 then shorter [⟨11, r' - r, 0, []⟩, ⟨6, 0, 0, []⟩] (shorter [⟨11, r' - r, 0, []⟩] [⟨2, r', c', []⟩]) else shorter [⟨11, r' - r, 0, []⟩] [⟨2, r', c', []⟩] := by
          have e1 : rowsL r r' = [⟨11, r' - r, 0, []⟩] := by rw [rowsL]; exact if_pos (by omega)
          have e2 : colsL c c' = [] := by rw [colsL]; exact if_pos (by omega)
          rw [wayL, e1, e2]; rfl
        have o1 : opsOK [⟨11, r' - r, 0, []⟩] := opsOK_of _ (by simp [AOp.ok]; try omega) (by simp)
        have o0 : opsOK [⟨2, r', c', []⟩] := opsOK_of _ (by simp [AOp.ok]; try omega) (by simp)
        have o2 : opsOK [⟨11, r' - r, 0, []⟩, ⟨6, 0, 0, []⟩] := opsOK_of _ (by simp [AOp.ok]; try omega) (by simp)
        rw [hw]
        clear hw
        have a1 := rall_cr _ o1.1 o1.2.1 o1.2.2
        have a0 := rall_cr _ o0.1 o0.2.1 o0.2.2
        have a2 := rall_cr _ o2.1 o2.2.1 o2.2.2
        have ob := opsOK_shorter o1 o0
        obtain ⟨bb, hb⟩ : ∃ bb, bb = shorter [⟨11, r' - r, 0, []⟩] [⟨2, r', c', []⟩] := ⟨_, rfl⟩
        rw [← hb] at ob ⊢
        rw [shorter] at hb
        have ab := rall_cr _ ob.1 ob.2.1 ob.2.2
        simp (maxSteps := 1000000) [go_sem]
        refine ⟨⟨rfl, by simp [Tryd.f11]⟩, CallK_of [] (a1) (by simp [go_sem]) ⟨by simp [go_sem], by simp [go_sem, opsP, opP]⟩ (by simp [go_sem]) ?_⟩
        rintro y rs ⟨rfl, rfl⟩
        simp (maxSteps := 1000000) [go_sem]
        refine ⟨⟨rfl, by simp [Tryd.f11]⟩, CallK_of [] (a0) (by simp [go_sem]) ⟨by simp [go_sem], by simp [go_sem, opsP, opP]⟩ (by simp [go_sem]) ?_⟩
        rintro y rs ⟨rfl, rfl⟩
        simp (maxSteps := 1000000) [go_sem]
        refine condK_if (fun h5 => ?_) (fun h5 => ?_)
        · rw [if_pos h5] at hb
          subst hb
          by_cases hz : c' = 0
          · rw [if_pos hz, shorter]
            have hd : decide (c' = 0) = true := decide_eq_true hz
            simp (maxSteps := 1000000) [go_sem, hd]
            refine ⟨⟨rfl, by simp [Tryd.f11]⟩, CallK_of [] (a2) (by simp [go_sem]) ⟨by simp [go_sem], by simp [go_sem, opsP, opP]⟩ (by simp [go_sem]) ?_⟩
            rintro y rs ⟨rfl, rfl⟩
            simp (maxSteps := 1000000) [go_sem]
            refine ⟨⟨rfl, by simp [Tryd.f11]⟩, CallK_of [] (ab) (by simp [go_sem]) ⟨by simp [go_sem], by simp [go_sem, opsP, opP]⟩ (by simp [go_sem]) ?_⟩
            rintro y rs ⟨rfl, rfl⟩
            simp (maxSteps := 1000000) [go_sem]
            refine condK_if (fun h6 => ?_) (fun h6 => ?_)
            · rw [if_pos h6]
              simp (maxSteps := 1000000) [go_sem, opP]
              exact ret_is (.p (opsP [⟨11, r' - r, 0, []⟩, ⟨6, 0, 0, []⟩])) rfl (by simp [go_sem, resOf, leA, opsP, opP]) ⟨rfl, rfl⟩
            · rw [if_neg h6]
              simp (maxSteps := 1000000) [go_sem, opP]
              exact ret_is (.p (opsP [⟨11, r' - r, 0, []⟩])) rfl (by simp [go_sem, resOf, leA, opsP, opP]) ⟨rfl, rfl⟩
          · rw [if_neg hz]
            have hd : decide (c' = 0) = false := decide_eq_false hz
            simp (maxSteps := 1000000) [go_sem, opP, hd]
            exact ret_is (.p (opsP [⟨11, r' - r, 0, []⟩])) rfl (by simp [go_sem, resOf, leA, opsP, opP]) ⟨rfl, rfl⟩
        · rw [if_neg h5] at hb
          subst hb
          by_cases hz : c' = 0
          · rw [if_pos hz, shorter]
            have hd : decide (c' = 0) = true := decide_eq_true hz
            simp (maxSteps := 1000000) [go_sem, hd]
            refine ⟨⟨rfl, by simp [Tryd.f11]⟩, CallK_of [] (a2) (by simp [go_sem]) ⟨by simp [go_sem], by simp [go_sem, opsP, opP]⟩ (by simp [go_sem]) ?_⟩
            rintro y rs ⟨rfl, rfl⟩
            simp (maxSteps := 1000000) [go_sem]
            refine ⟨⟨rfl, by simp [Tryd.f11]⟩, CallK_of [] (ab) (by simp [go_sem]) ⟨by simp [go_sem], by simp [go_sem, opsP, opP]⟩ (by simp [go_sem]) ?_⟩
            rintro y rs ⟨rfl, rfl⟩
            simp (maxSteps := 1000000) [go_sem]
            refine condK_if (fun h6 => ?_) (fun h6 => ?_)
            · rw [if_pos h6]
              simp (maxSteps := 1000000) [go_sem, opP]
              exact ret_is (.p (opsP [⟨11, r' - r, 0, []⟩, ⟨6, 0, 0, []⟩])) rfl (by simp [go_sem, resOf, leA, opsP, opP]) ⟨rfl, rfl⟩
            · rw [if_neg h6]
              simp (maxSteps := 1000000) [go_sem, opP]
              exact ret_is (.p (opsP [⟨2, r', c', []⟩])) rfl (by simp [go_sem, resOf, leA, opsP, opP]) ⟨rfl, rfl⟩
          · rw [if_neg hz]
            have hd : decide (c' = 0) = false := decide_eq_false hz
            simp (maxSteps := 1000000) [go_sem, opP, hd]
            exact ret_is (.p (opsP [⟨2, r', c', []⟩])) rfl (by simp [go_sem, resOf, leA, opsP, opP]) ⟨rfl, rfl⟩
  · simp (maxSteps := 1000000) [go_sem, opsP]
    refine condK_if (fun h2 => ?_) (fun h2 => ?_)
    · simp (maxSteps := 1000000) [go_sem, w3]
      refine condK_if (fun h3 => ?_) (fun h3 => ?_)
      · simp (maxSteps := 1000000) [go_sem, w2]
        refine condK_if (fun h4 => absurd h4 (by omega)) (fun h4 => ?_)
        have hw : wayL r c r' c' = if c' = 0 then shorter [⟨10, r - r', 0, []⟩, ⟨6, 0, 0, []⟩] (shorter [⟨10, r - r', 0, []⟩, ⟨8, c' - c, 0, []⟩] [⟨2, r', c', []⟩]) else shorter [⟨10, r - r', 0, []⟩, ⟨8, c' - c, 0, []⟩] [⟨2, r', c', []⟩] := by
          have e1 : rowsL r r' = [⟨10, r - r', 0, []⟩] := by rw [rowsL]; rw [show r - r' = -(r' - r) by omega]; exact (if_neg (by omega)).trans (if_pos (by omega))
          have e2 : colsL c c' = [⟨8, c' - c, 0, []⟩] := by rw [colsL]; exact (if_neg (by omega)).trans (if_pos (by omega))
          rw [wayL, e1, e2]; rfl
        have o1 : opsOK [⟨10, r - r', 0, []⟩, ⟨8, c' - c, 0, []⟩] := opsOK_of _ (by simp [AOp.ok]; try omega) (by simp)
        have o0 : opsOK [⟨2, r', c', []⟩] := opsOK_of _ (by simp [AOp.ok]; try omega) (by simp)
        have o2 : opsOK [⟨10, r - r', 0, []⟩, ⟨6, 0, 0, []⟩] := opsOK_of _ (by simp [AOp.ok]; try omega) (by simp)
        rw [hw]
        clear hw
        have a1 := rall_cr _ o1.1 o1.2.1 o1.2.2
        have a0 := rall_cr _ o0.1 o0.2.1 o0.2.2
        have a2 := rall_cr _ o2.1 o2.2.1 o2.2.2
        have ob := opsOK_shorter o1 o0
        obtain ⟨bb, hb⟩ : ∃ bb, bb = shorter [⟨10, r - r', 0, []⟩, ⟨8, c' - c, 0, []⟩] [⟨2, r', c', []⟩] := ⟨_, rfl⟩
        rw [← hb] at ob ⊢
        rw [shorter] at hb
        have ab := rall_cr _ ob.1 ob.2.1 ob.2.2
        simp (maxSteps := 1000000) [go_sem]
        refine ⟨⟨rfl, by simp [Tryd.f11]⟩, CallK_of [] (a1) (by simp [go_sem]) ⟨by simp [go_sem], by simp [go_sem, opsP, opP]⟩ (by simp [go_sem]) ?_⟩
        rintro y rs ⟨rfl, rfl⟩
        simp (maxSteps := 1000000) [go_sem]
        refine ⟨⟨rfl, by simp [Tryd.f11]⟩, CallK_of [] (a0) (by simp [go_sem]) ⟨by simp [go_sem], by simp [go_sem, opsP, opP]⟩ (by simp [go_sem]) ?_⟩
        rintro y rs ⟨rfl, rfl⟩
        simp (maxSteps := 1000000) [go_sem]
        refine condK_if (fun h5 => ?_) (fun h5 => ?_)
        · rw [if_pos h5] at hb
          subst hb
          by_cases hz : c' = 0
          · rw [if_pos hz, shorter]
            have hd : decide (c' = 0) = true := decide_eq_true hz
            simp (maxSteps := 1000000) [go_sem, hd]
            refine ⟨⟨rfl, by simp [Tryd.f11]⟩, CallK_of [] (a2) (by simp [go_sem]) ⟨by simp [go_sem], by simp [go_sem, opsP, opP]⟩ (by simp [go_sem]) ?_⟩
            rintro y rs ⟨rfl, rfl⟩
            simp (maxSteps := 1000000) [go_sem]
            refine ⟨⟨rfl, by simp [Tryd.f11]⟩, CallK_of [] (ab) (by simp [go_sem]) ⟨by simp [go_sem], by simp [go_sem, opsP, opP]⟩ (by simp [go_sem]) ?_⟩
            rintro y rs ⟨rfl, rfl⟩
            simp (maxSteps := 1000000) [go_sem]
            refine condK_if (fun h6 => ?_) (fun h6 => ?_)
            · rw [if_pos h6]
              simp (maxSteps := 1000000) [go_sem, opP]
              exact ret_is (.p (opsP [⟨10, r - r', 0, []⟩, ⟨6, 0, 0, []⟩])) rfl (by simp [go_sem, resOf, leA, opsP, opP]) ⟨rfl, rfl⟩
            · rw [if_neg h6]
              simp (maxSteps := 1000000) [go_sem, opP]
              exact ret_is (.p (opsP [⟨10, r - r', 0, []⟩, ⟨8, c' - c, 0, []⟩])) rfl (by simp [go_sem, resOf, leA, opsP, opP]) ⟨rfl, rfl⟩
          · rw [if_neg hz]
            have hd : decide (c' = 0) = false := decide_eq_false hz
            simp (maxSteps := 1000000) [go_sem, opP, hd]
            exact ret_is (.p (opsP [⟨10, r - r', 0, []⟩, ⟨8, c' - c, 0, []⟩])) rfl (by simp [go_sem, resOf, leA, opsP, opP]) ⟨rfl, rfl⟩
        · rw [if_neg h5] at hb
          subst hb
          by_cases hz : c' = 0
          · rw [if_pos hz, shorter]
            have hd : decide (c' = 0) = true := decide_eq_true hz
            simp (maxSteps := 1000000) [go_sem, hd]
            refine ⟨⟨rfl, by simp [Tryd.f11]⟩, CallK_of [] (a2) (by simp [go_sem]) ⟨by simp [go_sem], by simp [go_sem, opsP, opP]⟩ (by simp [go_sem]) ?_⟩
            rintro y rs ⟨rfl, rfl⟩
            simp (maxSteps := 1000000) [go_sem]
            refine ⟨⟨rfl, by simp [Tryd.f11]⟩, CallK_of [] (ab) (by simp [go_sem]) ⟨by simp [go_sem], by simp [go_sem, opsP, opP]⟩ (by simp [go_sem]) ?_⟩
            rintro y rs ⟨rfl, rfl⟩
            simp (maxSteps := 1000000) [go_sem]
            refine condK_if (fun h6 => ?_) (fun h6 => ?_)
            · rw [if_pos h6]
              simp (maxSteps := 1000000) [go_sem, opP]
              exact ret_is (.p (opsP [⟨10, r - r', 0, []⟩, ⟨6, 0, 0, []⟩])) rfl (by simp [go_sem, resOf, leA, opsP, opP]) ⟨rfl, rfl⟩
            · rw [if_neg h6]
              simp (maxSteps := 1000000) [go_sem, opP]
              exact ret_is (.p (opsP [⟨2, r', c', []⟩])) rfl (by simp [go_sem, resOf, leA, opsP, opP]) ⟨rfl, rfl⟩
          · rw [if_neg hz]
            have hd : decide (c' = 0) = false := decide_eq_false hz
            simp (maxSteps := 1000000) [go_sem, opP, hd]
            exact ret_is (.p (opsP [⟨2, r', c', []⟩])) rfl (by simp [go_sem, resOf, leA, opsP, opP]) ⟨rfl, rfl⟩
      · simp (maxSteps := 1000000) [go_sem]
        refine condK_if (fun h4 => ?_) (fun h4 => ?_)
        · have hw : wayL r c r' c' = if c' = 0 then shorter [⟨10, r - r', 0, []⟩, ⟨6, 0, 0, []⟩] (shorter [⟨10, r - r', 0, []⟩, ⟨9, c - c', 0, []⟩] [⟨2, r', c', []⟩]) else shorter [⟨10, r - r', 0, []⟩, ⟨9, c - c', 0, []⟩] [⟨2, r', c', []⟩] := by
            have e1 : rowsL r r' = [⟨10, r - r', 0, []⟩] := by rw [rowsL]; rw [show r - r' = -(r' - r) by omega]; exact (if_neg (by omega)).trans (if_pos (by omega))
            have e2 : colsL c c' = [⟨9, c - c', 0, []⟩] := by rw [colsL]; rw [show c - c' = -(c' - c) by omega]; exact (if_neg (by omega)).trans (if_neg (by omega))
            rw [wayL, e1, e2]; rfl
          have o1 : opsOK [⟨10, r - r', 0, []⟩, ⟨9, c - c', 0, []⟩] := opsOK_of _ (by simp [AOp.ok]; try omega) (by simp)
          have o0 : opsOK [⟨2, r', c', []⟩] := opsOK_of _ (by simp [AOp.ok]; try omega) (by simp)
          have o2 : opsOK [⟨10, r - r', 0, []⟩, ⟨6, 0, 0, []⟩] := opsOK_of _ (by simp [AOp.ok]; try omega) (by simp)
          rw [hw]
          clear hw
          have a1 := rall_cr _ o1.1 o1.2.1 o1.2.2
          have a0 := rall_cr _ o0.1 o0.2.1 o0.2.2
          have a2 := rall_cr _ o2.1 o2.2.1 o2.2.2
          have ob := opsOK_shorter o1 o0
          obtain ⟨bb, hb⟩ : ∃ bb, bb = shorter [⟨10, r - r', 0, []⟩, ⟨9, c - c', 0, []⟩] [⟨2, r', c', []⟩] := ⟨_, rfl⟩
          rw [← hb] at ob ⊢
          rw [shorter] at hb
          have ab := rall_cr _ ob.1 ob.2.1 ob.2.2
          simp (maxSteps := 1000000) [go_sem, w4]
          refine ⟨⟨rfl, by simp [Tryd.f11]⟩, CallK_of [] (a1) (by simp [go_sem]) ⟨by simp [go_sem], by simp [go_sem, opsP, opP]⟩ (by simp [go_sem]) ?_⟩
          rintro y rs ⟨rfl, rfl⟩
          simp (maxSteps := 1000000) [go_sem]
          refine ⟨⟨rfl, by simp [Tryd.f11]⟩, CallK_of [] (a0) (by simp [go_sem]) ⟨by simp [go_sem], by simp [go_sem, opsP, opP]⟩ (by simp [go_sem]) ?_⟩
          rintro y rs ⟨rfl, rfl⟩
          simp (maxSteps := 1000000) [go_sem]
          refine condK_if (fun h5 => ?_) (fun h5 => ?_)
          · rw [if_pos h5] at hb
            subst hb
            by_cases hz : c' = 0
            · rw [if_pos hz, shorter]
              have hd : decide (c' = 0) = true := decide_eq_true hz
              simp (maxSteps := 1000000) [go_sem, hd]
              refine ⟨⟨rfl, by simp [Tryd.f11]⟩, CallK_of [] (a2) (by simp [go_sem]) ⟨by simp [go_sem], by simp [go_sem, opsP, opP]⟩ (by simp [go_sem]) ?_⟩
              rintro y rs ⟨rfl, rfl⟩
              simp (maxSteps := 1000000) [go_sem]
              refine ⟨⟨rfl, by simp [Tryd.f11]⟩, CallK_of [] (ab) (by simp [go_sem]) ⟨by simp [go_sem], by simp [go_sem, opsP, opP]⟩ (by simp [go_sem]) ?_⟩
              rintro y rs ⟨rfl, rfl⟩
              simp (maxSteps := 1000000) [go_sem]
              refine condK_if (fun h6 => ?_) (fun h6 => ?_)
              · rw [if_pos h6]
                simp (maxSteps := 1000000) [go_sem, opP]
                exact ret_is (.p (opsP [⟨10, r - r', 0, []⟩, ⟨6, 0, 0, []⟩])) rfl (by simp [go_sem, resOf, leA, opsP, opP]) ⟨rfl, rfl⟩
              · rw [if_neg h6]
                simp (maxSteps := 1000000) [go_sem, opP]
                exact ret_is (.p (opsP [⟨10, r - r', 0, []⟩, ⟨9, c - c', 0, []⟩])) rfl (by simp [go_sem, resOf, leA, opsP, opP]) ⟨rfl, rfl⟩
            · rw [if_neg hz]
              have hd : decide (c' = 0) = false := decide_eq_false hz
              simp (maxSteps := 1000000) [go_sem, opP, hd]
              exact ret_is (.p (opsP [⟨10, r - r', 0, []⟩, ⟨9, c - c', 0, []⟩])) rfl (by simp [go_sem, resOf, leA, opsP, opP]) ⟨rfl, rfl⟩
          · rw [if_neg h5] at hb
            subst hb
            by_cases hz : c' = 0
            · rw [if_pos hz, shorter]
              have hd : decide (c' = 0) = true := decide_eq_true hz
              simp (maxSteps := 1000000) [go_sem, hd]
              refine ⟨⟨rfl, by simp [Tryd.f11]⟩, CallK_of [] (a2) (by simp [go_sem]) ⟨by simp [go_sem], by simp [go_sem, opsP, opP]⟩ (by simp [go_sem]) ?_⟩
              rintro y rs ⟨rfl, rfl⟩
              simp (maxSteps := 1000000) [go_sem]
              refine ⟨⟨rfl, by simp [Tryd.f11]⟩, CallK_of [] (ab) (by simp [go_sem]) ⟨by simp [go_sem], by simp [go_sem, opsP, opP]⟩ (by simp [go_sem]) ?_⟩
              rintro y rs ⟨rfl, rfl⟩
              simp (maxSteps := 1000000) [go_sem]
              refine condK_if (fun h6 => ?_) (fun h6 => ?_)
              · rw [if_pos h6]
                simp (maxSteps := 1000000) [go_sem, opP]
                exact ret_is (.p (opsP [⟨10, r - r', 0, []⟩, ⟨6, 0, 0, []⟩])) rfl (by simp [go_sem, resOf, leA, opsP, opP]) ⟨rfl, rfl⟩
              · rw [if_neg h6]
                simp (maxSteps := 1000000) [go_sem, opP]
                exact ret_is (.p (opsP [⟨2, r', c', []⟩])) rfl (by simp [go_sem, resOf, leA, opsP, opP]) ⟨rfl, rfl⟩
            · rw [if_neg hz]
              have hd : decide (c' = 0) = false := decide_eq_false hz
              simp (maxSteps := 1000000) [go_sem, opP, hd]
              exact ret_is (.p (opsP [⟨2, r', c', []⟩])) rfl (by simp [go_sem, resOf, leA, opsP, opP]) ⟨rfl, rfl⟩
        · have hw : wayL r c r' c' = if c' = 0 then shorter [⟨10, r - r', 0, []⟩, ⟨6, 0, 0, []⟩] (shorter [⟨10, r - r', 0, []⟩] [⟨2, r', c', []⟩]) else shorter [⟨10, r - r', 0, []⟩] [⟨2, r', c', []⟩] := by
            have e1 : rowsL r r' = [⟨10, r - r', 0, []⟩] := by rw [rowsL]; rw [show r - r' = -(r' - r) by omega]; exact (if_neg (by omega)).trans (if_pos (by omega))
            have e2 : colsL c c' = [] := by rw [colsL]; exact if_pos (by omega)
            rw [wayL, e1, e2]; rfl
          have o1 : opsOK [⟨10, r - r', 0, []⟩] := opsOK_of _ (by simp [AOp.ok]; try omega) (by simp)
          have o0 : opsOK [⟨2, r', c', []⟩] := opsOK_of _ (by simp [AOp.ok]; try omega) (by simp)
          have o2 : opsOK [⟨10, r - r', 0, []⟩, ⟨6, 0, 0, []⟩] := opsOK_of _ (by simp [AOp.ok]; try omega) (by simp)
          rw [hw]
          clear hw
          have a1 := rall_cr _ o1.1 o1.2.1 o1.2.2
          have a0 := rall_cr _ o0.1 o0.2.1 o0.2.2
          have a2 := rall_cr _ o2.1 o2.2.1 o2.2.2
          have ob := opsOK_shorter o1 o0
          obtain ⟨bb, hb⟩ : ∃ bb, bb = shorter [⟨10, r - r', 0, []⟩] [⟨2, r', c', []⟩] := ⟨_, rfl⟩
          rw [← hb] at ob ⊢
          rw [shorter] at hb
          have ab := rall_cr _ ob.1 ob.2.1 ob.2.2
          simp (maxSteps := 1000000) [go_sem]
          refine ⟨⟨rfl, by simp [Tryd.f11]⟩, CallK_of [] (a1) (by simp [go_sem]) ⟨by simp [go_sem], by simp [go_sem, opsP, opP]⟩ (by simp [go_sem]) ?_⟩
          rintro y rs ⟨rfl, rfl⟩
          simp (maxSteps := 1000000) [go_sem]
          refine ⟨⟨rfl, by simp [Tryd.f11]⟩, CallK_of [] (a0) (by simp [go_sem]) ⟨by simp [go_sem], by simp [go_sem, opsP, opP]⟩ (by simp [go_sem]) ?_⟩
          rintro y rs ⟨rfl, rfl⟩
          simp (maxSteps := 1000000) [go_sem]
          refine condK_if (fun h5 => ?_) (fun h5 => ?_)
          · rw [if_pos h5] at hb
            subst hb
            by_cases hz : c' = 0
            · rw [if_pos hz, shorter]
              have hd : decide (c' = 0) = true := decide_eq_true hz
              simp (maxSteps := 1000000) [go_sem, hd]
              refine ⟨⟨rfl, by simp [Tryd.f11]⟩, CallK_of [] (a2) (by simp [go_sem]) ⟨by simp [go_sem], by simp [go_sem, opsP, opP]⟩ (by simp [go_sem]) ?_⟩
              rintro y rs ⟨rfl, rfl⟩
              simp (maxSteps := 1000000) [go_sem]
              refine ⟨⟨rfl, by simp [Tryd.f11]⟩, CallK_of [] (ab) (by simp [go_sem]) ⟨by simp [go_sem], by simp [go_sem, opsP, opP]⟩ (by simp [go_sem]) ?_⟩
              rintro y rs ⟨rfl, rfl⟩
              simp (maxSteps := 1000000) [go_sem]
              refine condK_if (fun h6 => ?_) (fun h6 => ?_)
              · rw [if_pos h6]
                simp (maxSteps := 1000000) [go_sem, opP]
                exact ret_is (.p (opsP [⟨10, r - r', 0, []⟩, ⟨6, 0, 0, []⟩])) rfl (by simp [go_sem, resOf, leA, opsP, opP]) ⟨rfl, rfl⟩
              · rw [if_neg h6]
                simp (maxSteps := 1000000) [go_sem, opP]
                exact ret_is (.p (opsP [⟨10, r - r', 0, []⟩])) rfl (by simp [go_sem, resOf, leA, opsP, opP]) ⟨rfl, rfl⟩
            · rw [if_neg hz]
              have hd : decide (c' = 0) = false := decide_eq_false hz
              simp (maxSteps := 1000000) [go_sem, opP, hd]
              exact ret_is (.p (opsP [⟨10, r - r', 0, []⟩])) rfl (by simp [go_sem, resOf, leA, opsP, opP]) ⟨rfl, rfl⟩
          · rw [if_neg h5] at hb
            subst hb
            by_cases hz : c' = 0
            · rw [if_pos hz, shorter]
              have hd : decide (c' = 0) = true := decide_eq_true hz
              simp (maxSteps := 1000000) [go_sem, hd]
              refine ⟨⟨rfl, by simp [Tryd.f11]⟩, CallK_of [] (a2) (by simp [go_sem]) ⟨by simp [go_sem], by simp [go_sem, opsP, opP]⟩ (by simp [go_sem]) ?_⟩
              rintro y rs ⟨rfl, rfl⟩
              simp (maxSteps := 1000000) [go_sem]
              refine ⟨⟨rfl, by simp [Tryd.f11]⟩, CallK_of [] (ab) (by simp [go_sem]) ⟨by simp [go_sem], by simp [go_sem, opsP, opP]⟩ (by simp [go_sem]) ?_⟩
              rintro y rs ⟨rfl, rfl⟩
              simp (maxSteps := 1000000) [go_sem]
              refine condK_if (fun h6 => ?_) (fun h6 => ?_)
              · rw [if_pos h6]
                simp (maxSteps := 1000000) [go_sem, opP]
                exact ret_is (.p (opsP [⟨10, r - r', 0, []⟩, ⟨6, 0, 0, []⟩])) rfl (by simp [go_sem, resOf, leA, opsP, opP]) ⟨rfl, rfl⟩
              · rw [if_neg h6]
                simp (maxSteps := 1000000) [go_sem, opP]
                exact ret_is (.p (opsP [⟨2, r', c', []⟩])) rfl (by simp [go_sem, resOf, leA, opsP, opP]) ⟨rfl, rfl⟩
            · rw [if_neg hz]
              have hd : decide (c' = 0) = false := decide_eq_false hz
              simp (maxSteps := 1000000) [go_sem, opP, hd]
              exact ret_is (.p (opsP [⟨2, r', c', []⟩])) rfl (by simp [go_sem, resOf, leA, opsP, opP]) ⟨rfl, rfl⟩
    · simp (maxSteps := 1000000) [go_sem]
      refine condK_if (fun h3 => ?_) (fun h3 => ?_)
      · simp (maxSteps := 1000000) [go_sem, w2]
        refine condK_if (fun h4 => absurd h4 (by omega)) (fun h4 => ?_)
        have hw : wayL r c r' c' = if c' = 0 then shorter [⟨6, 0, 0, []⟩] (shorter [⟨8, c' - c, 0, []⟩] [⟨2, r', c', []⟩]) else shorter [⟨8, c' - c, 0, []⟩] [⟨2, r', c', []⟩] := by
          have e1 : rowsL r r' = [] := by rw [rowsL]; exact (if_neg (by omega)).trans (if_neg (by omega))
          have e2 : colsL c c' = [⟨8, c' - c, 0, []⟩] := by rw [colsL]; exact (if_neg (by omega)).trans (if_pos (by omega))
          rw [wayL, e1, e2]; rfl
        have o1 : opsOK [⟨8, c' - c, 0, []⟩] := opsOK_of _ (by simp [AOp.ok]; try omega) (by simp)
        have o0 : opsOK [⟨2, r', c', []⟩] := opsOK_of _ (by simp [AOp.ok]; try omega) (by simp)
        have o2 : opsOK [⟨6, 0, 0, []⟩] := opsOK_of _ (by simp [AOp.ok]; try omega) (by simp)
        rw [hw]
        clear hw
        have a1 := rall_cr _ o1.1 o1.2.1 o1.2.2
        have a0 := rall_cr _ o0.1 o0.2.1 o0.2.2
        have a2 := rall_cr _ o2.1 o2.2.1 o2.2.2
        have ob := opsOK_shorter o1 o0
        obtain ⟨bb, hb⟩ : ∃ bb, bb = shorter [⟨8, c' - c, 0, []⟩] [⟨2, r', c', []⟩] := ⟨_, rfl⟩
        rw [← hb] at ob ⊢
        rw [shorter] at hb
        have ab := rall_cr _ ob.1 ob.2.1 ob.2.2
        simp (maxSteps := 1000000) [go_sem]
        refine ⟨⟨rfl, by simp [Tryd.f11]⟩, CallK_of [] (a1) (by simp [go_sem]) ⟨by simp [go_sem], by simp [go_sem, opsP, opP]⟩ (by simp [go_sem]) ?_⟩
        rintro y rs ⟨rfl, rfl⟩
        simp (maxSteps := 1000000) [go_sem]
        refine ⟨⟨rfl, by simp [Tryd.f11]⟩, CallK_of [] (a0) (by simp [go_sem]) ⟨by simp [go_sem], by simp [go_sem, opsP, opP]⟩ (by simp [go_sem]) ?_⟩
        rintro y rs ⟨rfl, rfl⟩
        simp (maxSteps := 1000000) [go_sem]
        refine condK_if (fun h5 => ?_) (fun h5 => ?_)
        · rw [if_pos h5] at hb
          subst hb
          by_cases hz : c' = 0
          · rw [if_pos hz, shorter]
            have hd : decide (c' = 0) = true := decide_eq_true hz
            simp (maxSteps := 1000000) [go_sem, hd]
            refine ⟨⟨rfl, by simp [Tryd.f11]⟩, CallK_of [] (a2) (by simp [go_sem]) ⟨by simp [go_sem], by simp [go_sem, opsP, opP]⟩ (by simp [go_sem]) ?_⟩
            rintro y rs ⟨rfl, rfl⟩
            simp (maxSteps := 1000000) [go_sem]
            refine ⟨⟨rfl, by simp [Tryd.f11]⟩, CallK_of [] (ab) (by simp [go_sem]) ⟨by simp [go_sem], by simp [go_sem, opsP, opP]⟩ (by simp [go_sem]) ?_⟩
            rintro y rs ⟨rfl, rfl⟩
            simp (maxSteps := 1000000) [go_sem]
            refine condK_if (fun h6 => ?_) (fun h6 => ?_)
            · rw [if_pos h6]
              simp (maxSteps := 1000000) [go_sem, opP]
              exact ret_is (.p (opsP [⟨6, 0, 0, []⟩])) rfl (by simp [go_sem, resOf, leA, opsP, opP]) ⟨rfl, rfl⟩
            · rw [if_neg h6]
              simp (maxSteps := 1000000) [go_sem, opP]
              exact ret_is (.p (opsP [⟨8, c' - c, 0, []⟩])) rfl (by simp [go_sem, resOf, leA, opsP, opP]) ⟨rfl, rfl⟩
          · rw [if_neg hz]
            have hd : decide (c' = 0) = false := decide_eq_false hz
            simp (maxSteps := 1000000) [go_sem, opP, hd]
            exact ret_is (.p (opsP [⟨8, c' - c, 0, []⟩])) rfl (by simp [go_sem, resOf, leA, opsP, opP]) ⟨rfl, rfl⟩
        · rw [if_neg h5] at hb
          subst hb
          by_cases hz : c' = 0
          · rw [if_pos hz, shorter]
            have hd : decide (c' = 0) = true := decide_eq_true hz
            simp (maxSteps := 1000000) [go_sem, hd]
            refine ⟨⟨rfl, by simp [Tryd.f11]⟩, CallK_of [] (a2) (by simp [go_sem]) ⟨by simp [go_sem], by simp [go_sem, opsP, opP]⟩ (by simp [go_sem]) ?_⟩
            rintro y rs ⟨rfl, rfl⟩
            simp (maxSteps := 1000000) [go_sem]
            refine ⟨⟨rfl, by simp [Tryd.f11]⟩, CallK_of [] (ab) (by simp [go_sem]) ⟨by simp [go_sem], by simp [go_sem, opsP, opP]⟩ (by simp [go_sem]) ?_⟩
            rintro y rs ⟨rfl, rfl⟩
            simp (maxSteps := 1000000) [go_sem]
            refine condK_if (fun h6 => ?_) (fun h6 => ?_)
            · rw [if_pos h6]
              simp (maxSteps := 1000000) [go_sem, opP]
              exact ret_is (.p (opsP [⟨6, 0, 0, []⟩])) rfl (by simp [go_sem, resOf, leA, opsP, opP]) ⟨rfl, rfl⟩
            · rw [if_neg h6]
              simp (maxSteps := 1000000) [go_sem, opP]
              exact ret_is (.p (opsP [⟨2, r', c', []⟩])) rfl (by simp [go_sem, resOf, leA, opsP, opP]) ⟨rfl, rfl⟩
          · rw [if_neg hz]
            have hd : decide (c' = 0) = false := decide_eq_false hz
            simp (maxSteps := 1000000) [go_sem, opP, hd]
            exact ret_is (.p (opsP [⟨2, r', c', []⟩])) rfl (by simp [go_sem, resOf, leA, opsP, opP]) ⟨rfl, rfl⟩
      · simp (maxSteps := 1000000) [go_sem]
        refine condK_if (fun h4 => ?_) (fun h4 => ?_)
        · have hw : wayL r c r' c' = if c' = 0 then shorter [⟨6, 0, 0, []⟩] (shorter [⟨9, c - c', 0, []⟩] [⟨2, r', c', []⟩]) else shorter [⟨9, c - c', 0, []⟩] [⟨2, r', c', []⟩] := by
            have e1 : rowsL r r' = [] := by rw [rowsL]; exact (if_neg (by omega)).trans (if_neg (by omega))
            have e2 : colsL c c' = [⟨9, c - c', 0, []⟩] := by rw [colsL]; rw [show c - c' = -(c' - c) by omega]; exact (if_neg (by omega)).trans (if_neg (by omega))
            rw [wayL, e1, e2]; rfl
          have o1 : opsOK [⟨9, c - c', 0, []⟩] := opsOK_of _ (by simp [AOp.ok]; try omega) (by simp)
          have o0 : opsOK [⟨2, r', c', []⟩] := opsOK_of _ (by simp [AOp.ok]; try omega) (by simp)
          have o2 : opsOK [⟨6, 0, 0, []⟩] := opsOK_of _ (by simp [AOp.ok]; try omega) (by simp)
          rw [hw]
          clear hw
          have a1 := rall_cr _ o1.1 o1.2.1 o1.2.2
          have a0 := rall_cr _ o0.1 o0.2.1 o0.2.2
          have a2 := rall_cr _ o2.1 o2.2.1 o2.2.2
          have ob := opsOK_shorter o1 o0
          obtain ⟨bb, hb⟩ : ∃ bb, bb = shorter [⟨9, c - c', 0, []⟩] [⟨2, r', c', []⟩] := ⟨_, rfl⟩
          rw [← hb] at ob ⊢
          rw [shorter] at hb
          have ab := rall_cr _ ob.1 ob.2.1 ob.2.2
          simp (maxSteps := 1000000) [go_sem, w4]
          refine ⟨⟨rfl, by simp [Tryd.f11]⟩, CallK_of [] (a1) (by simp [go_sem]) ⟨by simp [go_sem], by simp [go_sem, opsP, opP]⟩ (by simp [go_sem]) ?_⟩
          rintro y rs ⟨rfl, rfl⟩
          simp (maxSteps := 1000000) [go_sem]
          refine ⟨⟨rfl, by simp [Tryd.f11]⟩, CallK_of [] (a0) (by simp [go_sem]) ⟨by simp [go_sem], by simp [go_sem, opsP, opP]⟩ (by simp [go_sem]) ?_⟩
          rintro y rs ⟨rfl, rfl⟩
          simp (maxSteps := 1000000) [go_sem]
          refine condK_if (fun h5 => ?_) (fun h5 => ?_)
          · rw [if_pos h5] at hb
            subst hb
            by_cases hz : c' = 0
            · rw [if_pos hz, shorter]
              have hd : decide (c' = 0) = true := decide_eq_true hz
              simp (maxSteps := 1000000) [go_sem, hd]
              refine ⟨⟨rfl, by simp [Tryd.f11]⟩, CallK_of [] (a2) (by simp [go_sem]) ⟨by simp [go_sem], by simp [go_sem, opsP, opP]⟩ (by simp [go_sem]) ?_⟩
              rintro y rs ⟨rfl, rfl⟩
              simp (maxSteps := 1000000) [go_sem]
              refine ⟨⟨rfl, by simp [Tryd.f11]⟩, CallK_of [] (ab) (by simp [go_sem]) ⟨by simp [go_sem], by simp [go_sem, opsP, opP]⟩ (by simp [go_sem]) ?_⟩
              rintro y rs ⟨rfl, rfl⟩
              simp (maxSteps := 1000000) [go_sem]
              refine condK_if (fun h6 => ?_) (fun h6 => ?_)
              · rw [if_pos h6]
                simp (maxSteps := 1000000) [go_sem, opP]
                exact ret_is (.p (opsP [⟨6, 0, 0, []⟩])) rfl (by simp [go_sem, resOf, leA, opsP, opP]) ⟨rfl, rfl⟩
              · rw [if_neg h6]
                simp (maxSteps := 1000000) [go_sem, opP]
                exact ret_is (.p (opsP [⟨9, c - c', 0, []⟩])) rfl (by simp [go_sem, resOf, leA, opsP, opP]) ⟨rfl, rfl⟩
            · rw [if_neg hz]
              have hd : decide (c' = 0) = false := decide_eq_false hz
              simp (maxSteps := 1000000) [go_sem, opP, hd]
              exact ret_is (.p (opsP [⟨9, c - c', 0, []⟩])) rfl (by simp [go_sem, resOf, leA, opsP, opP]) ⟨rfl, rfl⟩
          · rw [if_neg h5] at hb
            subst hb
            by_cases hz : c' = 0
            · rw [if_pos hz, shorter]
              have hd : decide (c' = 0) = true := decide_eq_true hz
              simp (maxSteps := 1000000) [go_sem, hd]
              refine ⟨⟨rfl, by simp [Tryd.f11]⟩, CallK_of [] (a2) (by simp [go_sem]) ⟨by simp [go_sem], by simp [go_sem, opsP, opP]⟩ (by simp [go_sem]) ?_⟩
              rintro y rs ⟨rfl, rfl⟩
              simp (maxSteps := 1000000) [go_sem]
              refine ⟨⟨rfl, by simp [Tryd.f11]⟩, CallK_of [] (ab) (by simp [go_sem]) ⟨by simp [go_sem], by simp [go_sem, opsP, opP]⟩ (by simp [go_sem]) ?_⟩
              rintro y rs ⟨rfl, rfl⟩
              simp (maxSteps := 1000000) [go_sem]
              refine condK_if (fun h6 => ?_) (fun h6 => ?_)
              · rw [if_pos h6]
                simp (maxSteps := 1000000) [go_sem, opP]
                exact ret_is (.p (opsP [⟨6, 0, 0, []⟩])) rfl (by simp [go_sem, resOf, leA, opsP, opP]) ⟨rfl, rfl⟩
              · rw [if_neg h6]
                simp (maxSteps := 1000000) [go_sem, opP]
                exact ret_is (.p (opsP [⟨2, r', c', []⟩])) rfl (by simp [go_sem, resOf, leA, opsP, opP]) ⟨rfl, rfl⟩
            · rw [if_neg hz]
              have hd : decide (c' = 0) = false := decide_eq_false hz
              simp (maxSteps := 1000000) [go_sem, opP, hd]
              exact ret_is (.p (opsP [⟨2, r', c', []⟩])) rfl (by simp [go_sem, resOf, leA, opsP, opP]) ⟨rfl, rfl⟩
        · have hw : wayL r c r' c' = if c' = 0 then shorter [⟨6, 0, 0, []⟩] (shorter [] [⟨2, r', c', []⟩]) else shorter [] [⟨2, r', c', []⟩] := by
            have e1 : rowsL r r' = [] := by rw [rowsL]; exact (if_neg (by omega)).trans (if_neg (by omega))
            have e2 : colsL c c' = [] := by rw [colsL]; exact if_pos (by omega)
            rw [wayL, e1, e2]; rfl
          have o1 : opsOK [] := opsOK_of _ (by simp [AOp.ok]; try omega) (by simp)
          have o0 : opsOK [⟨2, r', c', []⟩] := opsOK_of _ (by simp [AOp.ok]; try omega) (by simp)
          have o2 : opsOK [⟨6, 0, 0, []⟩] := opsOK_of _ (by simp [AOp.ok]; try omega) (by simp)
          rw [hw]
          clear hw
          have a1 := rall_cr _ o1.1 o1.2.1 o1.2.2
          have a0 := rall_cr _ o0.1 o0.2.1 o0.2.2
          have a2 := rall_cr _ o2.1 o2.2.1 o2.2.2
          have ob := opsOK_shorter o1 o0
          obtain ⟨bb, hb⟩ : ∃ bb, bb = shorter [] [⟨2, r', c', []⟩] := ⟨_, rfl⟩
          rw [← hb] at ob ⊢
          rw [shorter] at hb
          have ab := rall_cr _ ob.1 ob.2.1 ob.2.2
          simp (maxSteps := 1000000) [go_sem]
          refine ⟨⟨rfl, by simp [Tryd.f11]⟩, CallK_of [] (a1) (by simp [go_sem]) ⟨by simp [go_sem], by simp [go_sem, opsP]⟩ (by simp [go_sem]) ?_⟩
          rintro y rs ⟨rfl, rfl⟩
          simp (maxSteps := 1000000) [go_sem]
          refine ⟨⟨rfl, by simp [Tryd.f11]⟩, CallK_of [] (a0) (by simp [go_sem]) ⟨by simp [go_sem], by simp [go_sem, opsP, opP]⟩ (by simp [go_sem]) ?_⟩
          rintro y rs ⟨rfl, rfl⟩
          simp (maxSteps := 1000000) [go_sem]
          refine condK_if (fun h5 => ?_) (fun h5 => ?_)
          · rw [if_pos h5] at hb
            subst hb
            by_cases hz : c' = 0
            · rw [if_pos hz, shorter]
              have hd : decide (c' = 0) = true := decide_eq_true hz
              simp (maxSteps := 1000000) [go_sem, hd]
              refine ⟨⟨rfl, by simp [Tryd.f11]⟩, CallK_of [] (a2) (by simp [go_sem]) ⟨by simp [go_sem], by simp [go_sem, opsP, opP]⟩ (by simp [go_sem]) ?_⟩
              rintro y rs ⟨rfl, rfl⟩
              simp (maxSteps := 1000000) [go_sem]
              refine ⟨⟨rfl, by simp [Tryd.f11]⟩, CallK_of [] (ab) (by simp [go_sem]) ⟨by simp [go_sem], by simp [go_sem, opsP]⟩ (by simp [go_sem]) ?_⟩
              rintro y rs ⟨rfl, rfl⟩
              simp (maxSteps := 1000000) [go_sem]
              refine condK_if (fun h6 => ?_) (fun h6 => ?_)
              · rw [if_pos h6]
                simp (maxSteps := 1000000) [go_sem, opP]
                exact ret_is (.p (opsP [⟨6, 0, 0, []⟩])) rfl (by simp [go_sem, resOf, leA, opsP, opP]) ⟨rfl, rfl⟩
              · rw [if_neg h6]
                simp (maxSteps := 1000000) [go_sem]
                exact ret_is (.p (opsP [])) rfl (by simp [go_sem, resOf, leA, opsP]) ⟨rfl, rfl⟩
            · rw [if_neg hz]
              have hd : decide (c' = 0) = false := decide_eq_false hz
              simp (maxSteps := 1000000) [go_sem, hd]
              exact ret_is (.p (opsP [])) rfl (by simp [go_sem, resOf, leA, opsP]) ⟨rfl, rfl⟩
          · rw [if_neg h5] at hb
            subst hb
            by_cases hz : c' = 0
            · rw [if_pos hz, shorter]
              have hd : decide (c' = 0) = true := decide_eq_true hz
              simp (maxSteps := 1000000) [go_sem, hd]
              refine ⟨⟨rfl, by simp [Tryd.f11]⟩, CallK_of [] (a2) (by simp [go_sem]) ⟨by simp [go_sem], by simp [go_sem, opsP, opP]⟩ (by simp [go_sem]) ?_⟩
              rintro y rs ⟨rfl, rfl⟩
              simp (maxSteps := 1000000) [go_sem]
              refine ⟨⟨rfl, by simp [Tryd.f11]⟩, CallK_of [] (ab) (by simp [go_sem]) ⟨by simp [go_sem], by simp [go_sem, opsP, opP]⟩ (by simp [go_sem]) ?_⟩
              rintro y rs ⟨rfl, rfl⟩
              simp (maxSteps := 1000000) [go_sem]
              refine condK_if (fun h6 => ?_) (fun h6 => ?_)
              · rw [if_pos h6]
                simp (maxSteps := 1000000) [go_sem, opP]
                exact ret_is (.p (opsP [⟨6, 0, 0, []⟩])) rfl (by simp [go_sem, resOf, leA, opsP, opP]) ⟨rfl, rfl⟩
              · rw [if_neg h6]
                simp (maxSteps := 1000000) [go_sem, opP]
                exact ret_is (.p (opsP [⟨2, r', c', []⟩])) rfl (by simp [go_sem, resOf, leA, opsP, opP]) ⟨rfl, rfl⟩
            · rw [if_neg hz]
              have hd : decide (c' = 0) = false := decide_eq_false hz
              simp (maxSteps := 1000000) [go_sem, opP, hd]
              exact ret_is (.p (opsP [⟨2, r', c', []⟩])) rfl (by simp [go_sem, resOf, leA, opsP, opP]) ⟨rfl, rfl⟩
end Go.Proofs.YtjgfmanahimpoaaDoor
