/- What the program's Way does, as a contract of the abstract machine. Conditions: as each law says. -/
import Derived.Test.YtjgfmanahimpoaaDoorH
namespace Go.Proofs.YtjgfmanahimpoaaDoor
open Go.AM
set_option maxHeartbeats 1600000
set_option maxRecDepth 10000
def rowsL (r r' : Int) : List AOp := if 0 < r' - r then [⟨11, r' - r, 0, []⟩] else if r' - r < 0 then [⟨10, -(r' - r), 0, []⟩] else []
def colsL (c c' : Int) : List AOp := if c' - c = 0 then [] else if 0 < c' - c then [⟨8, c' - c, 0, []⟩] else [⟨9, -(c' - c), 0, []⟩]
def wayL (r c r' c' : Int) : List AOp :=
  let b := shorter (rowsL r r' ++ colsL c c') [⟨2, r', c', []⟩]
  if c' = 0 then shorter (rowsL r r' ++ [⟨6, 0, 0, []⟩]) b else b
def spotP (r c : Int) : PV := .agg [.int .i64 r, .int .i64 c]
theorem putL_len (o : AOp) (h : o.k ≠ 1) : (putL o).length ≤ 13 := by
  have a := digL_len (min o.a 9999 + 1)
  have b := digL_len (min o.b 9999 + 1)
  have c := byL_len o.a [67]
  have d := byL_len o.a [68]
  have e := byL_len o.a [65]
  have f := byL_len o.a [66]
  rw [putL, if_neg h]
  split
  · simp; omega
  · repeat' split
    all_goals simp_all
    all_goals omega
theorem allL_len : ∀ l : List AOp, (∀ o ∈ l, o.k ≠ 1) → (allL l).length ≤ 13 * l.length
  | [], _ => by simp [allL]
  | o :: l, h => by
    have h1 := putL_len o (h o (by simp))
    have h2 := allL_len l (fun x hx => h x (by simp [hx]))
    have e : allL (o :: l) = putL o ++ allL l := by simp [allL]
    rw [e, List.length_append, List.length_cons]
    omega
theorem opsOK_of (l : List AOp) (h : ∀ o ∈ l, o.ok ∧ o.k ≠ 1) (hl : l.length ≤ 10) : opsOK l :=
  ⟨fun o ho => (h o ho).1, by omega, by have := allL_len l (fun o ho => (h o ho).2); omega⟩
theorem opsOK_shorter {l b : List AOp} (hl : opsOK l) (hb : opsOK b) : opsOK (shorter l b) := by
  rw [shorter]; split <;> assumption
theorem way_cr (r c r' c' : Int) (hr : 0 ≤ r ∧ r ≤ 1000) (hc : 0 ≤ c ∧ c ≤ 1000) (hr' : 0 ≤ r' ∧ r' ≤ 1000) (hc' : 0 ≤ c' ∧ c' ≤ 1000) : CR Tryd.prog 12 [] [.p (spotP r c), .p (spotP r' c')] [] (is (.p (opsP (wayL r c r' c')))) := by
  refine CR_of_wp mixed 10 [22, 28, 53, 59, 71] Tryd.func12 rfl (by kernel_rfl) rfl (by simp) (by simp) ?_
  have w1 : IntKind.i64.wrap (r' - r) = r' - r := wrap64 (by omega) (by omega)
  have w2 : IntKind.i64.wrap (c' - c) = c' - c := wrap64 (by omega) (by omega)
  have w3 : IntKind.i64.wrap (-(r' - r)) = -(r' - r) := wrap64 (by omega) (by omega)
  have w4 : IntKind.i64.wrap (-(c' - c)) = -(c' - c) := wrap64 (by omega) (by omega)
  have w5 : IntKind.i64.wrap (r - r') = r - r' := wrap64 (by omega) (by omega)
  have w6 : IntKind.i64.wrap (c - c') = c - c' := wrap64 (by omega) (by omega)
  simp (maxSteps := 1000000) [go_sem, Tryd.f12, spotP, w1]
  refine ⟨rfl, condK_if (fun h1 => ?_) (fun h1 => ?_)⟩
  · simp (maxSteps := 1000000) [go_sem, opsP, w2]
    refine condK_if (fun h3 => ?_) (fun h3 => ?_)
    · have hw : wayL r c r' c' = if c' = 0 then shorter [⟨11, r' - r, 0, []⟩, ⟨6, 0, 0, []⟩] (shorter [⟨11, r' - r, 0, []⟩] [⟨2, r', c', []⟩]) else shorter [⟨11, r' - r, 0, []⟩] [⟨2, r', c', []⟩] := by
        have e1 : rowsL r r' = [⟨11, r' - r, 0, []⟩] := by rw [rowsL]; exact if_pos (by omega)
        have e2 : colsL c c' = [] := by rw [colsL]; exact if_pos (by omega)
        rw [wayL, e1, e2]; rfl
      have o1 : opsOK [⟨11, r' - r, 0, []⟩] := opsOK_of _ (by simp [AOp.ok]; try omega) (by simp)
      have o0 : opsOK [⟨2, r', c', []⟩] := opsOK_of _ (by simp [AOp.ok]; try omega) (by simp)
      have o2 : opsOK [⟨11, r' - r, 0, []⟩, ⟨6, 0, 0, []⟩] := opsOK_of _ (by simp [AOp.ok]; try omega) (by simp)
      rw [hw]
      clear hw
      simp (maxSteps := 1000000) [go_sem]
      refine ⟨⟨rfl, by simp [Tryd.f31]⟩, CallC_of [([0], [5])] (try_cr [⟨11, r' - r, 0, []⟩] [⟨2, r', c', []⟩] o1 o0) (by simp [go_sem]) ⟨by simp [go_sem], by simp [go_sem, opsP, opP]⟩ (by simp [go_sem, opsP, opP]) ?_⟩
      rintro y rs ⟨rfl, rfl⟩
      have ob := opsOK_shorter o1 o0
      generalize shorter [⟨11, r' - r, 0, []⟩] [⟨2, r', c', []⟩] = bb at ob ⊢
      simp (maxSteps := 1000000) [go_sem, opsP]
      refine condK_if (fun h5 => ?_) (fun h5 => ?_)
      · simp (maxSteps := 1000000) [go_sem, cut]
        refine ⟨⟨rfl, by simp [Tryd.f31]⟩, CallC_of [([0], [5])] (try_cr [⟨11, r' - r, 0, []⟩, ⟨6, 0, 0, []⟩] bb o2 ob) (by simp [go_sem]) ⟨by simp [go_sem], by simp [go_sem, opsP, opP]⟩ (by simp [go_sem, opsP]) ?_⟩
        rintro y rs ⟨rfl, rfl⟩
        simp (maxSteps := 1000000) [go_sem, opsP]
        exact ret_is (.p (opsP (shorter [⟨11, r' - r, 0, []⟩, ⟨6, 0, 0, []⟩] bb))) rfl (by simp [go_sem, resOf, leA, opsP]) ⟨rfl, by rw [if_pos h5]; rfl⟩
      · simp (maxSteps := 1000000) [go_sem]
        exact ret_is (.p (opsP bb)) rfl (by simp [go_sem, resOf, leA, opsP]) ⟨rfl, by rw [if_neg h5]; rfl⟩
    · simp (maxSteps := 1000000) [go_sem]
      refine condK_if (fun h4 => ?_) (fun h4 => ?_)
      · have hw : wayL r c r' c' = if c' = 0 then shorter [⟨11, r' - r, 0, []⟩, ⟨6, 0, 0, []⟩] (shorter [⟨11, r' - r, 0, []⟩, ⟨8, c' - c, 0, []⟩] [⟨2, r', c', []⟩]) else shorter [⟨11, r' - r, 0, []⟩, ⟨8, c' - c, 0, []⟩] [⟨2, r', c', []⟩] := by
          have e1 : rowsL r r' = [⟨11, r' - r, 0, []⟩] := by rw [rowsL]; exact if_pos (by omega)
          have e2 : colsL c c' = [⟨8, c' - c, 0, []⟩] := by rw [colsL]; exact (if_neg (by omega)).trans (if_pos (by omega))
          rw [wayL, e1, e2]; rfl
        have o1 : opsOK [⟨11, r' - r, 0, []⟩, ⟨8, c' - c, 0, []⟩] := opsOK_of _ (by simp [AOp.ok]; try omega) (by simp)
        have o0 : opsOK [⟨2, r', c', []⟩] := opsOK_of _ (by simp [AOp.ok]; try omega) (by simp)
        have o2 : opsOK [⟨11, r' - r, 0, []⟩, ⟨6, 0, 0, []⟩] := opsOK_of _ (by simp [AOp.ok]; try omega) (by simp)
        rw [hw]
        clear hw
        simp (maxSteps := 1000000) [go_sem]
        refine ⟨⟨rfl, by simp [Tryd.f31]⟩, CallC_of [([0], [5])] (try_cr [⟨11, r' - r, 0, []⟩, ⟨8, c' - c, 0, []⟩] [⟨2, r', c', []⟩] o1 o0) (by simp [go_sem]) ⟨by simp [go_sem], by simp [go_sem, opsP, opP]⟩ (by simp [go_sem, opsP, opP]) ?_⟩
        rintro y rs ⟨rfl, rfl⟩
        have ob := opsOK_shorter o1 o0
        generalize shorter [⟨11, r' - r, 0, []⟩, ⟨8, c' - c, 0, []⟩] [⟨2, r', c', []⟩] = bb at ob ⊢
        simp (maxSteps := 1000000) [go_sem, opsP]
        refine condK_if (fun h5 => ?_) (fun h5 => ?_)
        · simp (maxSteps := 1000000) [go_sem, cut]
          refine ⟨⟨rfl, by simp [Tryd.f31]⟩, CallC_of [([0], [5])] (try_cr [⟨11, r' - r, 0, []⟩, ⟨6, 0, 0, []⟩] bb o2 ob) (by simp [go_sem]) ⟨by simp [go_sem], by simp [go_sem, opsP, opP]⟩ (by simp [go_sem, opsP]) ?_⟩
          rintro y rs ⟨rfl, rfl⟩
          simp (maxSteps := 1000000) [go_sem, opsP]
          exact ret_is (.p (opsP (shorter [⟨11, r' - r, 0, []⟩, ⟨6, 0, 0, []⟩] bb))) rfl (by simp [go_sem, resOf, leA, opsP]) ⟨rfl, by rw [if_pos h5]; rfl⟩
        · simp (maxSteps := 1000000) [go_sem]
          exact ret_is (.p (opsP bb)) rfl (by simp [go_sem, resOf, leA, opsP]) ⟨rfl, by rw [if_neg h5]; rfl⟩
      · have hw : wayL r c r' c' = if c' = 0 then shorter [⟨11, r' - r, 0, []⟩, ⟨6, 0, 0, []⟩] (shorter [⟨11, r' - r, 0, []⟩, ⟨9, -(c' - c), 0, []⟩] [⟨2, r', c', []⟩]) else shorter [⟨11, r' - r, 0, []⟩, ⟨9, -(c' - c), 0, []⟩] [⟨2, r', c', []⟩] := by
          have e1 : rowsL r r' = [⟨11, r' - r, 0, []⟩] := by rw [rowsL]; exact if_pos (by omega)
          have e2 : colsL c c' = [⟨9, -(c' - c), 0, []⟩] := by rw [colsL]; exact (if_neg (by omega)).trans (if_neg (by omega))
          rw [wayL, e1, e2]; rfl
        have o1 : opsOK [⟨11, r' - r, 0, []⟩, ⟨9, -(c' - c), 0, []⟩] := opsOK_of _ (by simp [AOp.ok]; try omega) (by simp)
        have o0 : opsOK [⟨2, r', c', []⟩] := opsOK_of _ (by simp [AOp.ok]; try omega) (by simp)
        have o2 : opsOK [⟨11, r' - r, 0, []⟩, ⟨6, 0, 0, []⟩] := opsOK_of _ (by simp [AOp.ok]; try omega) (by simp)
        rw [hw]
        clear hw
        simp (maxSteps := 1000000) [go_sem, cut, w4]
        refine ⟨⟨rfl, by simp [Tryd.f31]⟩, CallC_of [([0], [5])] (try_cr [⟨11, r' - r, 0, []⟩, ⟨9, -(c' - c), 0, []⟩] [⟨2, r', c', []⟩] o1 o0) (by simp [go_sem]) ⟨by simp [go_sem], by simp [go_sem, opsP, opP]⟩ (by simp [go_sem, opsP, opP]) ?_⟩
        rintro y rs ⟨rfl, rfl⟩
        have ob := opsOK_shorter o1 o0
        generalize shorter [⟨11, r' - r, 0, []⟩, ⟨9, -(c' - c), 0, []⟩] [⟨2, r', c', []⟩] = bb at ob ⊢
        simp (maxSteps := 1000000) [go_sem, opsP]
        refine condK_if (fun h5 => ?_) (fun h5 => ?_)
        · simp (maxSteps := 1000000) [go_sem, cut]
          refine ⟨⟨rfl, by simp [Tryd.f31]⟩, CallC_of [([0], [5])] (try_cr [⟨11, r' - r, 0, []⟩, ⟨6, 0, 0, []⟩] bb o2 ob) (by simp [go_sem]) ⟨by simp [go_sem], by simp [go_sem, opsP, opP]⟩ (by simp [go_sem, opsP]) ?_⟩
          rintro y rs ⟨rfl, rfl⟩
          simp (maxSteps := 1000000) [go_sem, opsP]
          exact ret_is (.p (opsP (shorter [⟨11, r' - r, 0, []⟩, ⟨6, 0, 0, []⟩] bb))) rfl (by simp [go_sem, resOf, leA, opsP]) ⟨rfl, by rw [if_pos h5]; rfl⟩
        · simp (maxSteps := 1000000) [go_sem]
          exact ret_is (.p (opsP bb)) rfl (by simp [go_sem, resOf, leA, opsP]) ⟨rfl, by rw [if_neg h5]; rfl⟩
  · simp (maxSteps := 1000000) [go_sem, opsP]
    refine condK_if (fun h2 => ?_) (fun h2 => ?_)
    · simp (maxSteps := 1000000) [go_sem, w2, w3]
      refine condK_if (fun h3 => ?_) (fun h3 => ?_)
      · have hw : wayL r c r' c' = if c' = 0 then shorter [⟨10, -(r' - r), 0, []⟩, ⟨6, 0, 0, []⟩] (shorter [⟨10, -(r' - r), 0, []⟩] [⟨2, r', c', []⟩]) else shorter [⟨10, -(r' - r), 0, []⟩] [⟨2, r', c', []⟩] := by
          have e1 : rowsL r r' = [⟨10, -(r' - r), 0, []⟩] := by rw [rowsL]; exact (if_neg (by omega)).trans (if_pos (by omega))
          have e2 : colsL c c' = [] := by rw [colsL]; exact if_pos (by omega)
          rw [wayL, e1, e2]; rfl
        have o1 : opsOK [⟨10, -(r' - r), 0, []⟩] := opsOK_of _ (by simp [AOp.ok]; try omega) (by simp)
        have o0 : opsOK [⟨2, r', c', []⟩] := opsOK_of _ (by simp [AOp.ok]; try omega) (by simp)
        have o2 : opsOK [⟨10, -(r' - r), 0, []⟩, ⟨6, 0, 0, []⟩] := opsOK_of _ (by simp [AOp.ok]; try omega) (by simp)
        rw [hw]
        clear hw
        simp (maxSteps := 1000000) [go_sem]
        refine ⟨⟨rfl, by simp [Tryd.f31]⟩, CallC_of [([0], [5])] (try_cr [⟨10, -(r' - r), 0, []⟩] [⟨2, r', c', []⟩] o1 o0) (by simp [go_sem]) ⟨by simp [go_sem], by simp [go_sem, opsP, opP]⟩ (by simp [go_sem, opsP, opP]) ?_⟩
        rintro y rs ⟨rfl, rfl⟩
        have ob := opsOK_shorter o1 o0
        generalize shorter [⟨10, -(r' - r), 0, []⟩] [⟨2, r', c', []⟩] = bb at ob ⊢
        simp (maxSteps := 1000000) [go_sem, opsP]
        refine condK_if (fun h5 => ?_) (fun h5 => ?_)
        · simp (maxSteps := 1000000) [go_sem, cut]
          refine ⟨⟨rfl, by simp [Tryd.f31]⟩, CallC_of [([0], [5])] (try_cr [⟨10, -(r' - r), 0, []⟩, ⟨6, 0, 0, []⟩] bb o2 ob) (by simp [go_sem]) ⟨by simp [go_sem], by simp [go_sem, opsP, opP]⟩ (by simp [go_sem, opsP]) ?_⟩
          rintro y rs ⟨rfl, rfl⟩
          simp (maxSteps := 1000000) [go_sem, opsP]
          exact ret_is (.p (opsP (shorter [⟨10, -(r' - r), 0, []⟩, ⟨6, 0, 0, []⟩] bb))) rfl (by simp [go_sem, resOf, leA, opsP]) ⟨rfl, by rw [if_pos h5]; rfl⟩
        · simp (maxSteps := 1000000) [go_sem]
          exact ret_is (.p (opsP bb)) rfl (by simp [go_sem, resOf, leA, opsP]) ⟨rfl, by rw [if_neg h5]; rfl⟩
      · simp (maxSteps := 1000000) [go_sem]
        refine condK_if (fun h4 => ?_) (fun h4 => ?_)
        · have hw : wayL r c r' c' = if c' = 0 then shorter [⟨10, -(r' - r), 0, []⟩, ⟨6, 0, 0, []⟩] (shorter [⟨10, -(r' - r), 0, []⟩, ⟨8, c' - c, 0, []⟩] [⟨2, r', c', []⟩]) else shorter [⟨10, -(r' - r), 0, []⟩, ⟨8, c' - c, 0, []⟩] [⟨2, r', c', []⟩] := by
            have e1 : rowsL r r' = [⟨10, -(r' - r), 0, []⟩] := by rw [rowsL]; exact (if_neg (by omega)).trans (if_pos (by omega))
            have e2 : colsL c c' = [⟨8, c' - c, 0, []⟩] := by rw [colsL]; exact (if_neg (by omega)).trans (if_pos (by omega))
            rw [wayL, e1, e2]; rfl
          have o1 : opsOK [⟨10, -(r' - r), 0, []⟩, ⟨8, c' - c, 0, []⟩] := opsOK_of _ (by simp [AOp.ok]; try omega) (by simp)
          have o0 : opsOK [⟨2, r', c', []⟩] := opsOK_of _ (by simp [AOp.ok]; try omega) (by simp)
          have o2 : opsOK [⟨10, -(r' - r), 0, []⟩, ⟨6, 0, 0, []⟩] := opsOK_of _ (by simp [AOp.ok]; try omega) (by simp)
          rw [hw]
          clear hw
          simp (maxSteps := 1000000) [go_sem]
          refine ⟨⟨rfl, by simp [Tryd.f31]⟩, CallC_of [([0], [5])] (try_cr [⟨10, -(r' - r), 0, []⟩, ⟨8, c' - c, 0, []⟩] [⟨2, r', c', []⟩] o1 o0) (by simp [go_sem]) ⟨by simp [go_sem], by simp [go_sem, opsP, opP]⟩ (by simp [go_sem, opsP, opP]) ?_⟩
          rintro y rs ⟨rfl, rfl⟩
          have ob := opsOK_shorter o1 o0
          generalize shorter [⟨10, -(r' - r), 0, []⟩, ⟨8, c' - c, 0, []⟩] [⟨2, r', c', []⟩] = bb at ob ⊢
          simp (maxSteps := 1000000) [go_sem, opsP]
          refine condK_if (fun h5 => ?_) (fun h5 => ?_)
          · simp (maxSteps := 1000000) [go_sem, cut]
            refine ⟨⟨rfl, by simp [Tryd.f31]⟩, CallC_of [([0], [5])] (try_cr [⟨10, -(r' - r), 0, []⟩, ⟨6, 0, 0, []⟩] bb o2 ob) (by simp [go_sem]) ⟨by simp [go_sem], by simp [go_sem, opsP, opP]⟩ (by simp [go_sem, opsP]) ?_⟩
            rintro y rs ⟨rfl, rfl⟩
            simp (maxSteps := 1000000) [go_sem, opsP]
            exact ret_is (.p (opsP (shorter [⟨10, -(r' - r), 0, []⟩, ⟨6, 0, 0, []⟩] bb))) rfl (by simp [go_sem, resOf, leA, opsP]) ⟨rfl, by rw [if_pos h5]; rfl⟩
          · simp (maxSteps := 1000000) [go_sem]
            exact ret_is (.p (opsP bb)) rfl (by simp [go_sem, resOf, leA, opsP]) ⟨rfl, by rw [if_neg h5]; rfl⟩
        · have hw : wayL r c r' c' = if c' = 0 then shorter [⟨10, -(r' - r), 0, []⟩, ⟨6, 0, 0, []⟩] (shorter [⟨10, -(r' - r), 0, []⟩, ⟨9, -(c' - c), 0, []⟩] [⟨2, r', c', []⟩]) else shorter [⟨10, -(r' - r), 0, []⟩, ⟨9, -(c' - c), 0, []⟩] [⟨2, r', c', []⟩] := by
            have e1 : rowsL r r' = [⟨10, -(r' - r), 0, []⟩] := by rw [rowsL]; exact (if_neg (by omega)).trans (if_pos (by omega))
            have e2 : colsL c c' = [⟨9, -(c' - c), 0, []⟩] := by rw [colsL]; exact (if_neg (by omega)).trans (if_neg (by omega))
            rw [wayL, e1, e2]; rfl
          have o1 : opsOK [⟨10, -(r' - r), 0, []⟩, ⟨9, -(c' - c), 0, []⟩] := opsOK_of _ (by simp [AOp.ok]; try omega) (by simp)
          have o0 : opsOK [⟨2, r', c', []⟩] := opsOK_of _ (by simp [AOp.ok]; try omega) (by simp)
          have o2 : opsOK [⟨10, -(r' - r), 0, []⟩, ⟨6, 0, 0, []⟩] := opsOK_of _ (by simp [AOp.ok]; try omega) (by simp)
          rw [hw]
          clear hw
          simp (maxSteps := 1000000) [go_sem, cut, w4]
          refine ⟨⟨rfl, by simp [Tryd.f31]⟩, CallC_of [([0], [5])] (try_cr [⟨10, -(r' - r), 0, []⟩, ⟨9, -(c' - c), 0, []⟩] [⟨2, r', c', []⟩] o1 o0) (by simp [go_sem]) ⟨by simp [go_sem], by simp [go_sem, opsP, opP]⟩ (by simp [go_sem, opsP, opP]) ?_⟩
          rintro y rs ⟨rfl, rfl⟩
          have ob := opsOK_shorter o1 o0
          generalize shorter [⟨10, -(r' - r), 0, []⟩, ⟨9, -(c' - c), 0, []⟩] [⟨2, r', c', []⟩] = bb at ob ⊢
          simp (maxSteps := 1000000) [go_sem, opsP]
          refine condK_if (fun h5 => ?_) (fun h5 => ?_)
          · simp (maxSteps := 1000000) [go_sem, cut]
            refine ⟨⟨rfl, by simp [Tryd.f31]⟩, CallC_of [([0], [5])] (try_cr [⟨10, -(r' - r), 0, []⟩, ⟨6, 0, 0, []⟩] bb o2 ob) (by simp [go_sem]) ⟨by simp [go_sem], by simp [go_sem, opsP, opP]⟩ (by simp [go_sem, opsP]) ?_⟩
            rintro y rs ⟨rfl, rfl⟩
            simp (maxSteps := 1000000) [go_sem, opsP]
            exact ret_is (.p (opsP (shorter [⟨10, -(r' - r), 0, []⟩, ⟨6, 0, 0, []⟩] bb))) rfl (by simp [go_sem, resOf, leA, opsP]) ⟨rfl, by rw [if_pos h5]; rfl⟩
          · simp (maxSteps := 1000000) [go_sem]
            exact ret_is (.p (opsP bb)) rfl (by simp [go_sem, resOf, leA, opsP]) ⟨rfl, by rw [if_neg h5]; rfl⟩
    · simp (maxSteps := 1000000) [go_sem, w2]
      refine condK_if (fun h3 => ?_) (fun h3 => ?_)
      · have hw : wayL r c r' c' = if c' = 0 then shorter [⟨6, 0, 0, []⟩] (shorter [] [⟨2, r', c', []⟩]) else shorter [] [⟨2, r', c', []⟩] := by
          have e1 : rowsL r r' = [] := by rw [rowsL]; exact (if_neg (by omega)).trans (if_neg (by omega))
          have e2 : colsL c c' = [] := by rw [colsL]; exact if_pos (by omega)
          rw [wayL, e1, e2]; rfl
        have o1 : opsOK [] := opsOK_of _ (by simp [AOp.ok]; try omega) (by simp)
        have o0 : opsOK [⟨2, r', c', []⟩] := opsOK_of _ (by simp [AOp.ok]; try omega) (by simp)
        have o2 : opsOK [⟨6, 0, 0, []⟩] := opsOK_of _ (by simp [AOp.ok]; try omega) (by simp)
        rw [hw]
        clear hw
        simp (maxSteps := 1000000) [go_sem]
        refine ⟨⟨rfl, by simp [Tryd.f31]⟩, CallC_of [([0], [5])] (try_cr [] [⟨2, r', c', []⟩] o1 o0) (by simp [go_sem]) ⟨by simp [go_sem], by simp [go_sem, opsP]⟩ (by simp [go_sem, opsP, opP]) ?_⟩
        rintro y rs ⟨rfl, rfl⟩
        have ob := opsOK_shorter o1 o0
        generalize shorter [] [⟨2, r', c', []⟩] = bb at ob ⊢
        simp (maxSteps := 1000000) [go_sem, opsP]
        refine condK_if (fun h5 => ?_) (fun h5 => ?_)
        · simp (maxSteps := 1000000) [go_sem, cut]
          refine ⟨⟨rfl, by simp [Tryd.f31]⟩, CallC_of [([0], [5])] (try_cr [⟨6, 0, 0, []⟩] bb o2 ob) (by simp [go_sem]) ⟨by simp [go_sem], by simp [go_sem, opsP, opP]⟩ (by simp [go_sem, opsP]) ?_⟩
          rintro y rs ⟨rfl, rfl⟩
          simp (maxSteps := 1000000) [go_sem, opsP]
          exact ret_is (.p (opsP (shorter [⟨6, 0, 0, []⟩] bb))) rfl (by simp [go_sem, resOf, leA, opsP]) ⟨rfl, by rw [if_pos h5]; rfl⟩
        · simp (maxSteps := 1000000) [go_sem]
          exact ret_is (.p (opsP bb)) rfl (by simp [go_sem, resOf, leA, opsP]) ⟨rfl, by rw [if_neg h5]; rfl⟩
      · simp (maxSteps := 1000000) [go_sem]
        refine condK_if (fun h4 => ?_) (fun h4 => ?_)
        · have hw : wayL r c r' c' = if c' = 0 then shorter [⟨6, 0, 0, []⟩] (shorter [⟨8, c' - c, 0, []⟩] [⟨2, r', c', []⟩]) else shorter [⟨8, c' - c, 0, []⟩] [⟨2, r', c', []⟩] := by
            have e1 : rowsL r r' = [] := by rw [rowsL]; exact (if_neg (by omega)).trans (if_neg (by omega))
            have e2 : colsL c c' = [⟨8, c' - c, 0, []⟩] := by rw [colsL]; exact (if_neg (by omega)).trans (if_pos (by omega))
            rw [wayL, e1, e2]; rfl
          have o1 : opsOK [⟨8, c' - c, 0, []⟩] := opsOK_of _ (by simp [AOp.ok]; try omega) (by simp)
          have o0 : opsOK [⟨2, r', c', []⟩] := opsOK_of _ (by simp [AOp.ok]; try omega) (by simp)
          have o2 : opsOK [⟨6, 0, 0, []⟩] := opsOK_of _ (by simp [AOp.ok]; try omega) (by simp)
          rw [hw]
          clear hw
          simp (maxSteps := 1000000) [go_sem]
          refine ⟨⟨rfl, by simp [Tryd.f31]⟩, CallC_of [([0], [5])] (try_cr [⟨8, c' - c, 0, []⟩] [⟨2, r', c', []⟩] o1 o0) (by simp [go_sem]) ⟨by simp [go_sem], by simp [go_sem, opsP, opP]⟩ (by simp [go_sem, opsP, opP]) ?_⟩
          rintro y rs ⟨rfl, rfl⟩
          have ob := opsOK_shorter o1 o0
          generalize shorter [⟨8, c' - c, 0, []⟩] [⟨2, r', c', []⟩] = bb at ob ⊢
          simp (maxSteps := 1000000) [go_sem, opsP]
          refine condK_if (fun h5 => ?_) (fun h5 => ?_)
          · simp (maxSteps := 1000000) [go_sem, cut]
            refine ⟨⟨rfl, by simp [Tryd.f31]⟩, CallC_of [([0], [5])] (try_cr [⟨6, 0, 0, []⟩] bb o2 ob) (by simp [go_sem]) ⟨by simp [go_sem], by simp [go_sem, opsP, opP]⟩ (by simp [go_sem, opsP]) ?_⟩
            rintro y rs ⟨rfl, rfl⟩
            simp (maxSteps := 1000000) [go_sem, opsP]
            exact ret_is (.p (opsP (shorter [⟨6, 0, 0, []⟩] bb))) rfl (by simp [go_sem, resOf, leA, opsP]) ⟨rfl, by rw [if_pos h5]; rfl⟩
          · simp (maxSteps := 1000000) [go_sem]
            exact ret_is (.p (opsP bb)) rfl (by simp [go_sem, resOf, leA, opsP]) ⟨rfl, by rw [if_neg h5]; rfl⟩
        · have hw : wayL r c r' c' = if c' = 0 then shorter [⟨6, 0, 0, []⟩] (shorter [⟨9, -(c' - c), 0, []⟩] [⟨2, r', c', []⟩]) else shorter [⟨9, -(c' - c), 0, []⟩] [⟨2, r', c', []⟩] := by
            have e1 : rowsL r r' = [] := by rw [rowsL]; exact (if_neg (by omega)).trans (if_neg (by omega))
            have e2 : colsL c c' = [⟨9, -(c' - c), 0, []⟩] := by rw [colsL]; exact (if_neg (by omega)).trans (if_neg (by omega))
            rw [wayL, e1, e2]; rfl
          have o1 : opsOK [⟨9, -(c' - c), 0, []⟩] := opsOK_of _ (by simp [AOp.ok]; try omega) (by simp)
          have o0 : opsOK [⟨2, r', c', []⟩] := opsOK_of _ (by simp [AOp.ok]; try omega) (by simp)
          have o2 : opsOK [⟨6, 0, 0, []⟩] := opsOK_of _ (by simp [AOp.ok]; try omega) (by simp)
          rw [hw]
          clear hw
          simp (maxSteps := 1000000) [go_sem, cut, w4]
          refine ⟨⟨rfl, by simp [Tryd.f31]⟩, CallC_of [([0], [5])] (try_cr [⟨9, -(c' - c), 0, []⟩] [⟨2, r', c', []⟩] o1 o0) (by simp [go_sem]) ⟨by simp [go_sem], by simp [go_sem, opsP, opP]⟩ (by simp [go_sem, opsP, opP]) ?_⟩
          rintro y rs ⟨rfl, rfl⟩
          have ob := opsOK_shorter o1 o0
          generalize shorter [⟨9, -(c' - c), 0, []⟩] [⟨2, r', c', []⟩] = bb at ob ⊢
          simp (maxSteps := 1000000) [go_sem, opsP]
          refine condK_if (fun h5 => ?_) (fun h5 => ?_)
          · simp (maxSteps := 1000000) [go_sem, cut]
            refine ⟨⟨rfl, by simp [Tryd.f31]⟩, CallC_of [([0], [5])] (try_cr [⟨6, 0, 0, []⟩] bb o2 ob) (by simp [go_sem]) ⟨by simp [go_sem], by simp [go_sem, opsP, opP]⟩ (by simp [go_sem, opsP]) ?_⟩
            rintro y rs ⟨rfl, rfl⟩
            simp (maxSteps := 1000000) [go_sem, opsP]
            exact ret_is (.p (opsP (shorter [⟨6, 0, 0, []⟩] bb))) rfl (by simp [go_sem, resOf, leA, opsP]) ⟨rfl, by rw [if_pos h5]; rfl⟩
          · simp (maxSteps := 1000000) [go_sem]
            exact ret_is (.p (opsP bb)) rfl (by simp [go_sem, resOf, leA, opsP]) ⟨rfl, by rw [if_neg h5]; rfl⟩
end Go.Proofs.YtjgfmanahimpoaaDoor
