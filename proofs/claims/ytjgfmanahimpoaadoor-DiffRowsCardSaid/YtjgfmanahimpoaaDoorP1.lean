/- What made does: the program's grid is kept, the document's is a value from then on. Conditions: as each law says. -/
import Derived.Test.YtjgfmanahimpoaaDoorGf
import Derived.Test.YtjgfmanahimpoaaDoorGb
import Derived.Test.YtjgfmanahimpoaaDoorGd
import Derived.Test.YtjgfmanahimpoaaDoorGc
import Derived.Test.YtjgfmanahimpoaaDoorGi
import Derived.Test.YtjgfmanahimpoaaDoorAmY
namespace Go.Proofs.YtjgfmanahimpoaaDoor
open Go.AM
set_option maxHeartbeats 8000000
set_option maxRecDepth 10000
/-- A deed: its kind, its place, its glyph. -/
structure GDeed where
  k : Int
  r : Int
  c : Int
  x : Cl
  deriving Inhabited
def gdeedP (d : GDeed) : PV := .agg [.int .i64 d.k, .int .i64 d.r, .int .i64 d.c, .str d.x.t, .int .i64 d.x.w]
/-- A deed, done with the program's grid. -/
def gDo (R C : Nat) (d : GDeed) (l : Row) : Row := if d.k = 3 then gerI R C d.r d.c l else gputI R C d.r d.c d.x l
/-- A deed, done with a row of the document's. -/
def xDo (C R i : Nat) (d : GDeed) (l : Row) : Row := if d.k = 3 then eraseI C R d.r d.c i l else putI C R d.r d.c d.x i l
def gMade (R C : Nat) (ds : List GDeed) : Nat → Row
  | 0 => List.replicate (R * C) blk
  | k + 1 => gDo R C (ds.getD k default) (gMade R C ds k)
def xMade (C R i : Nat) (ds : List GDeed) : Nat → Row
  | 0 => List.replicate C blk
  | k + 1 => xDo C R i (ds.getD k default) (xMade C R i ds k)
theorem rep_ok (n : Nat) : OkR (List.replicate n blk) := fun k x hx => by
  have : x = blk := (List.mem_replicate.1 (List.mem_of_getElem? hx)).2
  subst this
  exact ⟨fun h => absurd h (by decide), fun h => absurd h (by decide)⟩
theorem gMade_len (R C : Nat) (ds : List GDeed) (k : Nat) : (gMade R C ds k).length = R * C := by
  induction k with
  | zero => simp [gMade]
  | succ k ih =>
    rw [gMade, gDo]
    split
    · rw [gerI_len, ih]
    · rw [gputI_len, ih]
theorem gMade_ok (R C : Nat) (ds : List GDeed) (k : Nat) : OkR (gMade R C ds k) := by
  induction k with
  | zero => exact rep_ok _
  | succ k ih =>
    rw [gMade, gDo]
    split
    · exact gerI_ok _ _ _ _ _ ih
    · exact gputI_ok _ _ _ _ _ _ (gMade_len _ _ _ _) ih
theorem xMade_len (C R i : Nat) (ds : List GDeed) (k : Nat) : (xMade C R i ds k).length = C := by
  induction k with
  | zero => simp [xMade]
  | succ k ih =>
    rw [xMade, xDo]
    split
    · rw [eraseI_len, ih]
    · rw [putI_len, ih]
theorem xMade_ok (C R i : Nat) (ds : List GDeed) (k : Nat) : OkR (xMade C R i ds k) := by
  induction k with
  | zero => exact rep_ok _
  | succ k ih =>
    rw [xMade, xDo]
    split
    · exact eraseI_ok _ _ _ _ _ _ ih
    · exact putI_ok _ _ _ _ _ _ _ (xMade_len _ _ _ _ _) ih
theorem elemAt_D {ds : List GDeed} {i : Nat} (h : i < ds.length) : elemAt (ds.map gdeedP) i = .agg [.int .i64 ds[i].k, .int .i64 ds[i].r, .int .i64 ds[i].c, .str ds[i].x.t, .int .i64 ds[i].x.w] := by
  rw [elemAt, List.getD_eq_getElem?_getD, List.getElem?_map, List.getElem?_eq_getElem h]; rfl
theorem deed_getD {ds : List GDeed} {i : Nat} (h : i < ds.length) : ds.getD i default = ds[i] := by rw [List.getD_eq_getElem?_getD, List.getElem?_eq_getElem h]; rfl
theorem made1_lk (C : Nat) (ds : List GDeed) (hC : 2 ≤ C ∧ C ≤ 1000) : CR Tryd.prog 15 [] [.p (.int .i64 1), .p (.int .i64 C), .p (.sl 5 (ds.map gdeedP))] []
    (fun x rs' => x = .tup [.lp [14, 0] 0, .la [17, 40] 1 0 1] ∧ lookT rs' [14, 0] = some [.p (.int .i64 1), .p (.int .i64 C), .la [14, 1] 2 0 (1 * C)] ∧ lookT rs' [14, 1] = some (cw (gMade 1 C ds (min 30 ds.length))) ∧
      lookT rs' [17, 40] = some [.la [17, 100] 2 0 C] ∧ lookT rs' [17, 100] = some (cw (xMade C 1 0 ds (min 30 ds.length)))) := by
  refine CR_of_wp mixed 12 [] Tryd.func15 rfl (by kernel_rfl) rfl (by simp) (by simp) ?_
  have hg := gnew_cr 1 C (by omega) hC
  have hx := new_cr 1 C (by omega) hC
  simp only [mla, mroots, bl] at hx
  simp (maxSteps := 1000000) (disch := omega) [go_sem, Tryd.f15]
  refine ⟨⟨rfl, by simp [Tryd.f32]⟩, CallK_of [] hg (by simp [go_sem]) ⟨by simp [go_sem], by simp [go_sem]⟩ (by simp [go_sem]) ?_⟩
  rintro y rs ⟨rfl, rfl⟩
  simp (maxSteps := 1000000) (disch := omega) [go_sem, gp, cw_ren]
  refine ⟨⟨rfl, by simp [Tryd.f33]⟩, CallK_of [] hx (by simp [go_sem]) ⟨by simp [go_sem], by simp [go_sem]⟩ (by simp [go_sem]) ?_⟩
  rintro y rs ⟨rfl, rfl⟩
  simp (maxSteps := 1000000) (disch := omega) [go_sem, cw_ren, cw_upd]
  refine wpA_loop (fun k : Nat => k ≤ ds.length ∧ k ≤ 30) (fun k => { n := 70, nv := 12, vs := [(2, .p (.sl 5 (ds.map gdeedP))), (8, .lp [14, 0] 0), (9, .la [17, 40] 1 0 1), (10, .p (.int .i64 k))], ts := [], rs := [([14, 0], [.p (.int .i64 1), .p (.int .i64 C), .la [14, 1] 2 0 (1 * C)]), ([14, 1], cw (gMade 1 C ds k)), ([17, 40], [.la [17, 100] 2 0 C]), ([17, 100], cw (xMade C 1 0 ds k))] }) (fun k => 30 - k) 0 (by simp) (by simp [go_sem, LeS, leV, leR, leA, leL, leL_refl, cw_upd, gMade, xMade]) ?_
  rintro k ⟨hk, hk3⟩
  simp (maxSteps := 1000000) (disch := omega) [go_sem]
  refine condK_split (fun h => ?_) (fun h => ?_)
  · obtain ⟨h1, h2⟩ : k < ds.length ∧ k < 30 := by
      simp at h
      omega
    have ed := elemAt_D h1
    obtain ⟨d, hd⟩ : ∃ d, d = ds[k] := ⟨_, rfl⟩
    have gs : gMade 1 C ds (k + 1) = gDo 1 C d (gMade 1 C ds k) := by rw [gMade, deed_getD h1, hd]
    have xs0 : xMade C 1 0 ds (k + 1) = xDo C 1 0 d (xMade C 1 0 ds k) := by rw [xMade, deed_getD h1, hd]
    rw [← hd] at ed
    obtain ⟨dk, dr, dc, dx⟩ := d
    have gl := gMade_len 1 C ds k
    have go := gMade_ok 1 C ds k
    have xl0 := xMade_len C 1 0 ds k
    have xo0 := xMade_ok C 1 0 ds k
    simp only [gDo, xDo] at gs xs0
    clear hd
    simp (maxSteps := 1000000) (disch := omega) [go_sem, ed, h1]
    refine condK_if (fun h3 => ?_) (fun h3 => ?_)
    · rw [if_pos h3] at gs xs0
      have hge := gerase_cr 1 C (1 * C) (gMade 1 C ds k) dr dc rfl (by omega) hC.2 gl go
      have hxe := erase1_cr C (xMade C 1 0 ds k) dr dc hC.2 xl0 xo0
      simp (maxSteps := 1000000) (disch := omega) [go_sem]
      refine ⟨⟨rfl, by simp [Tryd.f34]⟩, CallK_of [([0], [14, 0]), ([1], [14, 1])] hge (by simp [go_sem]) ⟨by simp [go_sem], by simp [go_sem]⟩ (by simp [go_sem, gp, cw_ren, cw_upd]) ?_⟩
      rintro y rs ⟨rfl, rfl⟩
      simp (maxSteps := 1000000) (disch := omega) [go_sem, gp, cw_ren, cw_upd]
      refine ⟨⟨rfl, by simp [Tryd.f35]⟩, CallK_of [([0], [17, 40]), ([1], [17, 100])] hxe (by simp [go_sem]) ⟨by simp [go_sem], by simp [go_sem]⟩ (by simp [go_sem, g1, cw_ren]) ?_⟩
      rintro y rs ⟨rfl, rfl⟩
      simp (maxSteps := 1000000) (disch := omega) [go_sem, wrap64, g1, cw_ren, cw_upd]
      refine LoopK_next (k + 1) (by omega) (by simp [go_sem, LeS, leV, leR, leA, leL, leL_refl, cw_upd, gs, xs0]) (by omega)
    · rw [if_neg h3] at gs xs0
      have hgp := gput_cr 1 C (1 * C) (gMade 1 C ds k) dr dc dx rfl (by omega) hC.2 gl go
      have hxp := put1_cr C (xMade C 1 0 ds k) dr dc dx hC.2 xl0 xo0
      simp (maxSteps := 1000000) (disch := omega) [go_sem]
      refine ⟨⟨rfl, by simp [Tryd.f36]⟩, CallK_of [([0], [14, 0]), ([1], [14, 1])] hgp (by simp [go_sem]) ⟨by simp [go_sem], by simp [go_sem, clP]⟩ (by simp [go_sem, gp, cw_ren, cw_upd]) ?_⟩
      rintro y rs ⟨rfl, rfl⟩
      simp (maxSteps := 1000000) (disch := omega) [go_sem, gp, cw_ren, cw_upd]
      refine ⟨⟨rfl, by simp [Tryd.f37]⟩, CallK_of [([0], [17, 40]), ([1], [17, 100])] hxp (by simp [go_sem]) ⟨by simp [go_sem], by simp [go_sem, clP]⟩ (by simp [go_sem, g1, cw_ren]) ?_⟩
      rintro y rs ⟨rfl, rfl⟩
      simp (maxSteps := 1000000) (disch := omega) [go_sem, wrap64, g1, cw_ren, cw_upd]
      refine LoopK_next (k + 1) (by omega) (by simp [go_sem, LeS, leV, leR, leA, leL, leL_refl, cw_upd, gs, xs0]) (by omega)
  · have hkm : min 30 ds.length = k := by
      simp at h
      omega
    rw [hkm]
    simp (maxSteps := 1000000) (disch := omega) [go_sem]
    exact ret_keep [[14, 0], [14, 1], [17, 40], [17, 100]] _ (by simp) (by simp [go_sem, resOf, leA]) ⟨rfl, by simp [go_sem, cw_upd], by simp [go_sem, cw_upd], by simp [go_sem, cw_upd], by simp [go_sem, cw_upd]⟩
theorem made2_lk (C : Nat) (ds : List GDeed) (hC : 2 ≤ C ∧ C ≤ 1000) : CR Tryd.prog 15 [] [.p (.int .i64 2), .p (.int .i64 C), .p (.sl 5 (ds.map gdeedP))] []
    (fun x rs' => x = .tup [.lp [14, 0] 0, .la [17, 40] 1 0 2] ∧ lookT rs' [14, 0] = some [.p (.int .i64 2), .p (.int .i64 C), .la [14, 1] 2 0 (2 * C)] ∧ lookT rs' [14, 1] = some (cw (gMade 2 C ds (min 30 ds.length))) ∧
      lookT rs' [17, 40] = some [.la [17, 100] 2 0 C, .la [17, 101] 2 0 C] ∧ lookT rs' [17, 100] = some (cw (xMade C 2 0 ds (min 30 ds.length))) ∧ lookT rs' [17, 101] = some (cw (xMade C 2 1 ds (min 30 ds.length)))) := by
  refine CR_of_wp mixed 12 [] Tryd.func15 rfl (by kernel_rfl) rfl (by simp) (by simp) ?_
  have hg := gnew_cr 2 C (by omega) hC
  have hx := new_cr 2 C (by omega) hC
  simp only [mla, mroots, bl] at hx
  simp (maxSteps := 1000000) (disch := omega) [go_sem, Tryd.f15]
  refine ⟨⟨rfl, by simp [Tryd.f32]⟩, CallK_of [] hg (by simp [go_sem]) ⟨by simp [go_sem], by simp [go_sem]⟩ (by simp [go_sem]) ?_⟩
  rintro y rs ⟨rfl, rfl⟩
  simp (maxSteps := 1000000) (disch := omega) [go_sem, gp, cw_ren]
  refine ⟨⟨rfl, by simp [Tryd.f33]⟩, CallK_of [] hx (by simp [go_sem]) ⟨by simp [go_sem], by simp [go_sem]⟩ (by simp [go_sem]) ?_⟩
  rintro y rs ⟨rfl, rfl⟩
  simp (maxSteps := 1000000) (disch := omega) [go_sem, cw_ren, cw_upd]
  refine wpA_loop (fun k : Nat => k ≤ ds.length ∧ k ≤ 30) (fun k => { n := 70, nv := 12, vs := [(2, .p (.sl 5 (ds.map gdeedP))), (8, .lp [14, 0] 0), (9, .la [17, 40] 1 0 2), (10, .p (.int .i64 k))], ts := [], rs := [([14, 0], [.p (.int .i64 2), .p (.int .i64 C), .la [14, 1] 2 0 (2 * C)]), ([14, 1], cw (gMade 2 C ds k)), ([17, 40], [.la [17, 100] 2 0 C, .la [17, 101] 2 0 C]), ([17, 100], cw (xMade C 2 0 ds k)), ([17, 101], cw (xMade C 2 1 ds k))] }) (fun k => 30 - k) 0 (by simp) (by simp [go_sem, LeS, leV, leR, leA, leL, leL_refl, cw_upd, gMade, xMade]) ?_
  rintro k ⟨hk, hk3⟩
  simp (maxSteps := 1000000) (disch := omega) [go_sem]
  refine condK_split (fun h => ?_) (fun h => ?_)
  · obtain ⟨h1, h2⟩ : k < ds.length ∧ k < 30 := by
      simp at h
      omega
    have ed := elemAt_D h1
    obtain ⟨d, hd⟩ : ∃ d, d = ds[k] := ⟨_, rfl⟩
    have gs : gMade 2 C ds (k + 1) = gDo 2 C d (gMade 2 C ds k) := by rw [gMade, deed_getD h1, hd]
    have xs0 : xMade C 2 0 ds (k + 1) = xDo C 2 0 d (xMade C 2 0 ds k) := by rw [xMade, deed_getD h1, hd]
    have xs1 : xMade C 2 1 ds (k + 1) = xDo C 2 1 d (xMade C 2 1 ds k) := by rw [xMade, deed_getD h1, hd]
    rw [← hd] at ed
    obtain ⟨dk, dr, dc, dx⟩ := d
    have gl := gMade_len 2 C ds k
    have go := gMade_ok 2 C ds k
    have xl0 := xMade_len C 2 0 ds k
    have xo0 := xMade_ok C 2 0 ds k
    have xl1 := xMade_len C 2 1 ds k
    have xo1 := xMade_ok C 2 1 ds k
    simp only [gDo, xDo] at gs xs0 xs1
    clear hd
    simp (maxSteps := 1000000) (disch := omega) [go_sem, ed, h1]
    refine condK_if (fun h3 => ?_) (fun h3 => ?_)
    · rw [if_pos h3] at gs xs0 xs1
      have hge := gerase_cr 2 C (2 * C) (gMade 2 C ds k) dr dc rfl (by omega) hC.2 gl go
      have hxe := erase2_cr C (xMade C 2 0 ds k) (xMade C 2 1 ds k) dr dc hC.2 xl0 xo0 xl1 xo1
      simp (maxSteps := 1000000) (disch := omega) [go_sem]
      refine ⟨⟨rfl, by simp [Tryd.f34]⟩, CallK_of [([0], [14, 0]), ([1], [14, 1])] hge (by simp [go_sem]) ⟨by simp [go_sem], by simp [go_sem]⟩ (by simp [go_sem, gp, cw_ren, cw_upd]) ?_⟩
      rintro y rs ⟨rfl, rfl⟩
      simp (maxSteps := 1000000) (disch := omega) [go_sem, gp, cw_ren, cw_upd]
      refine ⟨⟨rfl, by simp [Tryd.f35]⟩, CallK_of [([0], [17, 40]), ([1], [17, 100]), ([2], [17, 101])] hxe (by simp [go_sem]) ⟨by simp [go_sem], by simp [go_sem]⟩ (by simp [go_sem, g2, cw_ren]) ?_⟩
      rintro y rs ⟨rfl, rfl⟩
      simp (maxSteps := 1000000) (disch := omega) [go_sem, wrap64, g2, cw_ren, cw_upd]
      refine LoopK_next (k + 1) (by omega) (by simp [go_sem, LeS, leV, leR, leA, leL, leL_refl, cw_upd, gs, xs0, xs1]) (by omega)
    · rw [if_neg h3] at gs xs0 xs1
      have hgp := gput_cr 2 C (2 * C) (gMade 2 C ds k) dr dc dx rfl (by omega) hC.2 gl go
      have hxp := put2_cr C (xMade C 2 0 ds k) (xMade C 2 1 ds k) dr dc dx hC.2 xl0 xo0 xl1 xo1
      simp (maxSteps := 1000000) (disch := omega) [go_sem]
      refine ⟨⟨rfl, by simp [Tryd.f36]⟩, CallK_of [([0], [14, 0]), ([1], [14, 1])] hgp (by simp [go_sem]) ⟨by simp [go_sem], by simp [go_sem, clP]⟩ (by simp [go_sem, gp, cw_ren, cw_upd]) ?_⟩
      rintro y rs ⟨rfl, rfl⟩
      simp (maxSteps := 1000000) (disch := omega) [go_sem, gp, cw_ren, cw_upd]
      refine ⟨⟨rfl, by simp [Tryd.f37]⟩, CallK_of [([0], [17, 40]), ([1], [17, 100]), ([2], [17, 101])] hxp (by simp [go_sem]) ⟨by simp [go_sem], by simp [go_sem, clP]⟩ (by simp [go_sem, g2, cw_ren]) ?_⟩
      rintro y rs ⟨rfl, rfl⟩
      simp (maxSteps := 1000000) (disch := omega) [go_sem, wrap64, g2, cw_ren, cw_upd]
      refine LoopK_next (k + 1) (by omega) (by simp [go_sem, LeS, leV, leR, leA, leL, leL_refl, cw_upd, gs, xs0, xs1]) (by omega)
  · have hkm : min 30 ds.length = k := by
      simp at h
      omega
    rw [hkm]
    simp (maxSteps := 1000000) (disch := omega) [go_sem]
    exact ret_keep [[14, 0], [14, 1], [17, 40], [17, 100], [17, 101]] _ (by simp) (by simp [go_sem, resOf, leA]) ⟨rfl, by simp [go_sem, cw_upd], by simp [go_sem, cw_upd], by simp [go_sem, cw_upd], by simp [go_sem, cw_upd], by simp [go_sem, cw_upd]⟩
end Go.Proofs.YtjgfmanahimpoaaDoor
namespace Go.Proofs.YtjgfmanahimpoaaDoor
open Go.AM
set_option maxHeartbeats 8000000
set_option maxRecDepth 10000
theorem made3_lk (C : Nat) (ds : List GDeed) (hC : 2 ≤ C ∧ C ≤ 1000) : CR Tryd.prog 15 [] [.p (.int .i64 3), .p (.int .i64 C), .p (.sl 5 (ds.map gdeedP))] []
    (fun x rs' => x = .tup [.lp [14, 0] 0, .la [17, 40] 1 0 3] ∧ lookT rs' [14, 0] = some [.p (.int .i64 3), .p (.int .i64 C), .la [14, 1] 2 0 (3 * C)] ∧ lookT rs' [14, 1] = some (cw (gMade 3 C ds (min 30 ds.length))) ∧
      lookT rs' [17, 40] = some [.la [17, 100] 2 0 C, .la [17, 101] 2 0 C, .la [17, 102] 2 0 C] ∧ lookT rs' [17, 100] = some (cw (xMade C 3 0 ds (min 30 ds.length))) ∧ lookT rs' [17, 101] = some (cw (xMade C 3 1 ds (min 30 ds.length))) ∧ lookT rs' [17, 102] = some (cw (xMade C 3 2 ds (min 30 ds.length)))) := by
  refine CR_of_wp mixed 12 [] Tryd.func15 rfl (by kernel_rfl) rfl (by simp) (by simp) ?_
  have hg := gnew_cr 3 C (by omega) hC
  have hx := new_cr 3 C (by omega) hC
  simp only [mla, mroots, bl] at hx
  simp (maxSteps := 1000000) (disch := omega) [go_sem, Tryd.f15]
  refine ⟨⟨rfl, by simp [Tryd.f32]⟩, CallK_of [] hg (by simp [go_sem]) ⟨by simp [go_sem], by simp [go_sem]⟩ (by simp [go_sem]) ?_⟩
  rintro y rs ⟨rfl, rfl⟩
  simp (maxSteps := 1000000) (disch := omega) [go_sem, gp, cw_ren]
  refine ⟨⟨rfl, by simp [Tryd.f33]⟩, CallK_of [] hx (by simp [go_sem]) ⟨by simp [go_sem], by simp [go_sem]⟩ (by simp [go_sem]) ?_⟩
  rintro y rs ⟨rfl, rfl⟩
  simp (maxSteps := 1000000) (disch := omega) [go_sem, cw_ren, cw_upd]
  refine wpA_loop (fun k : Nat => k ≤ ds.length ∧ k ≤ 30) (fun k => { n := 70, nv := 12, vs := [(2, .p (.sl 5 (ds.map gdeedP))), (8, .lp [14, 0] 0), (9, .la [17, 40] 1 0 3), (10, .p (.int .i64 k))], ts := [], rs := [([14, 0], [.p (.int .i64 3), .p (.int .i64 C), .la [14, 1] 2 0 (3 * C)]), ([14, 1], cw (gMade 3 C ds k)), ([17, 40], [.la [17, 100] 2 0 C, .la [17, 101] 2 0 C, .la [17, 102] 2 0 C]), ([17, 100], cw (xMade C 3 0 ds k)), ([17, 101], cw (xMade C 3 1 ds k)), ([17, 102], cw (xMade C 3 2 ds k))] }) (fun k => 30 - k) 0 (by simp) (by simp [go_sem, LeS, leV, leR, leA, leL, leL_refl, cw_upd, gMade, xMade]) ?_
  rintro k ⟨hk, hk3⟩
  simp (maxSteps := 1000000) (disch := omega) [go_sem]
  refine condK_split (fun h => ?_) (fun h => ?_)
  · obtain ⟨h1, h2⟩ : k < ds.length ∧ k < 30 := by
      simp at h
      omega
    have ed := elemAt_D h1
    obtain ⟨d, hd⟩ : ∃ d, d = ds[k] := ⟨_, rfl⟩
    have gs : gMade 3 C ds (k + 1) = gDo 3 C d (gMade 3 C ds k) := by rw [gMade, deed_getD h1, hd]
    have xs0 : xMade C 3 0 ds (k + 1) = xDo C 3 0 d (xMade C 3 0 ds k) := by rw [xMade, deed_getD h1, hd]
    have xs1 : xMade C 3 1 ds (k + 1) = xDo C 3 1 d (xMade C 3 1 ds k) := by rw [xMade, deed_getD h1, hd]
    have xs2 : xMade C 3 2 ds (k + 1) = xDo C 3 2 d (xMade C 3 2 ds k) := by rw [xMade, deed_getD h1, hd]
    rw [← hd] at ed
    obtain ⟨dk, dr, dc, dx⟩ := d
    have gl := gMade_len 3 C ds k
    have go := gMade_ok 3 C ds k
    have xl0 := xMade_len C 3 0 ds k
    have xo0 := xMade_ok C 3 0 ds k
    have xl1 := xMade_len C 3 1 ds k
    have xo1 := xMade_ok C 3 1 ds k
    have xl2 := xMade_len C 3 2 ds k
    have xo2 := xMade_ok C 3 2 ds k
    simp only [gDo, xDo] at gs xs0 xs1 xs2
    clear hd
    simp (maxSteps := 1000000) (disch := omega) [go_sem, ed, h1]
    refine condK_if (fun h3 => ?_) (fun h3 => ?_)
    · rw [if_pos h3] at gs xs0 xs1 xs2
      have hge := gerase_cr 3 C (3 * C) (gMade 3 C ds k) dr dc rfl (by omega) hC.2 gl go
      have hxe := erase3_cr C (xMade C 3 0 ds k) (xMade C 3 1 ds k) (xMade C 3 2 ds k) dr dc hC.2 xl0 xo0 xl1 xo1 xl2 xo2
      simp (maxSteps := 1000000) (disch := omega) [go_sem]
      refine ⟨⟨rfl, by simp [Tryd.f34]⟩, CallK_of [([0], [14, 0]), ([1], [14, 1])] hge (by simp [go_sem]) ⟨by simp [go_sem], by simp [go_sem]⟩ (by simp [go_sem, gp, cw_ren, cw_upd]) ?_⟩
      rintro y rs ⟨rfl, rfl⟩
      simp (maxSteps := 1000000) (disch := omega) [go_sem, gp, cw_ren, cw_upd]
      refine ⟨⟨rfl, by simp [Tryd.f35]⟩, CallK_of [([0], [17, 40]), ([1], [17, 100]), ([2], [17, 101]), ([3], [17, 102])] hxe (by simp [go_sem]) ⟨by simp [go_sem], by simp [go_sem]⟩ (by simp [go_sem, g3, cw_ren]) ?_⟩
      rintro y rs ⟨rfl, rfl⟩
      simp (maxSteps := 1000000) (disch := omega) [go_sem, wrap64, g3, cw_ren, cw_upd]
      refine LoopK_next (k + 1) (by omega) (by simp [go_sem, LeS, leV, leR, leA, leL, leL_refl, cw_upd, gs, xs0, xs1, xs2]) (by omega)
    · rw [if_neg h3] at gs xs0 xs1 xs2
      have hgp := gput_cr 3 C (3 * C) (gMade 3 C ds k) dr dc dx rfl (by omega) hC.2 gl go
      have hxp := put3_cr C (xMade C 3 0 ds k) (xMade C 3 1 ds k) (xMade C 3 2 ds k) dr dc dx hC.2 xl0 xo0 xl1 xo1 xl2 xo2
      simp (maxSteps := 1000000) (disch := omega) [go_sem]
      refine ⟨⟨rfl, by simp [Tryd.f36]⟩, CallK_of [([0], [14, 0]), ([1], [14, 1])] hgp (by simp [go_sem]) ⟨by simp [go_sem], by simp [go_sem, clP]⟩ (by simp [go_sem, gp, cw_ren, cw_upd]) ?_⟩
      rintro y rs ⟨rfl, rfl⟩
      simp (maxSteps := 1000000) (disch := omega) [go_sem, gp, cw_ren, cw_upd]
      refine ⟨⟨rfl, by simp [Tryd.f37]⟩, CallK_of [([0], [17, 40]), ([1], [17, 100]), ([2], [17, 101]), ([3], [17, 102])] hxp (by simp [go_sem]) ⟨by simp [go_sem], by simp [go_sem, clP]⟩ (by simp [go_sem, g3, cw_ren]) ?_⟩
      rintro y rs ⟨rfl, rfl⟩
      simp (maxSteps := 1000000) (disch := omega) [go_sem, wrap64, g3, cw_ren, cw_upd]
      refine LoopK_next (k + 1) (by omega) (by simp [go_sem, LeS, leV, leR, leA, leL, leL_refl, cw_upd, gs, xs0, xs1, xs2]) (by omega)
  · have hkm : min 30 ds.length = k := by
      simp at h
      omega
    rw [hkm]
    simp (maxSteps := 1000000) (disch := omega) [go_sem]
    exact ret_keep [[14, 0], [14, 1], [17, 40], [17, 100], [17, 101], [17, 102]] _ (by simp) (by simp [go_sem, resOf, leA]) ⟨rfl, by simp [go_sem, cw_upd], by simp [go_sem, cw_upd], by simp [go_sem, cw_upd], by simp [go_sem, cw_upd], by simp [go_sem, cw_upd], by simp [go_sem, cw_upd]⟩
theorem made4_lk (C : Nat) (ds : List GDeed) (hC : 2 ≤ C ∧ C ≤ 1000) : CR Tryd.prog 15 [] [.p (.int .i64 4), .p (.int .i64 C), .p (.sl 5 (ds.map gdeedP))] []
    (fun x rs' => x = .tup [.lp [14, 0] 0, .la [17, 40] 1 0 4] ∧ lookT rs' [14, 0] = some [.p (.int .i64 4), .p (.int .i64 C), .la [14, 1] 2 0 (4 * C)] ∧ lookT rs' [14, 1] = some (cw (gMade 4 C ds (min 30 ds.length))) ∧
      lookT rs' [17, 40] = some [.la [17, 100] 2 0 C, .la [17, 101] 2 0 C, .la [17, 102] 2 0 C, .la [17, 103] 2 0 C] ∧ lookT rs' [17, 100] = some (cw (xMade C 4 0 ds (min 30 ds.length))) ∧ lookT rs' [17, 101] = some (cw (xMade C 4 1 ds (min 30 ds.length))) ∧ lookT rs' [17, 102] = some (cw (xMade C 4 2 ds (min 30 ds.length))) ∧ lookT rs' [17, 103] = some (cw (xMade C 4 3 ds (min 30 ds.length)))) := by
  refine CR_of_wp mixed 12 [] Tryd.func15 rfl (by kernel_rfl) rfl (by simp) (by simp) ?_
  have hg := gnew_cr 4 C (by omega) hC
  have hx := new_cr 4 C (by omega) hC
  simp only [mla, mroots, bl] at hx
  simp (maxSteps := 1000000) (disch := omega) [go_sem, Tryd.f15]
  refine ⟨⟨rfl, by simp [Tryd.f32]⟩, CallK_of [] hg (by simp [go_sem]) ⟨by simp [go_sem], by simp [go_sem]⟩ (by simp [go_sem]) ?_⟩
  rintro y rs ⟨rfl, rfl⟩
  simp (maxSteps := 1000000) (disch := omega) [go_sem, gp, cw_ren]
  refine ⟨⟨rfl, by simp [Tryd.f33]⟩, CallK_of [] hx (by simp [go_sem]) ⟨by simp [go_sem], by simp [go_sem]⟩ (by simp [go_sem]) ?_⟩
  rintro y rs ⟨rfl, rfl⟩
  simp (maxSteps := 1000000) (disch := omega) [go_sem, cw_ren, cw_upd]
  refine wpA_loop (fun k : Nat => k ≤ ds.length ∧ k ≤ 30) (fun k => { n := 70, nv := 12, vs := [(2, .p (.sl 5 (ds.map gdeedP))), (8, .lp [14, 0] 0), (9, .la [17, 40] 1 0 4), (10, .p (.int .i64 k))], ts := [], rs := [([14, 0], [.p (.int .i64 4), .p (.int .i64 C), .la [14, 1] 2 0 (4 * C)]), ([14, 1], cw (gMade 4 C ds k)), ([17, 40], [.la [17, 100] 2 0 C, .la [17, 101] 2 0 C, .la [17, 102] 2 0 C, .la [17, 103] 2 0 C]), ([17, 100], cw (xMade C 4 0 ds k)), ([17, 101], cw (xMade C 4 1 ds k)), ([17, 102], cw (xMade C 4 2 ds k)), ([17, 103], cw (xMade C 4 3 ds k))] }) (fun k => 30 - k) 0 (by simp) (by simp [go_sem, LeS, leV, leR, leA, leL, leL_refl, cw_upd, gMade, xMade]) ?_
  rintro k ⟨hk, hk3⟩
  simp (maxSteps := 1000000) (disch := omega) [go_sem]
  refine condK_split (fun h => ?_) (fun h => ?_)
  · obtain ⟨h1, h2⟩ : k < ds.length ∧ k < 30 := by
      simp at h
      omega
    have ed := elemAt_D h1
    obtain ⟨d, hd⟩ : ∃ d, d = ds[k] := ⟨_, rfl⟩
    have gs : gMade 4 C ds (k + 1) = gDo 4 C d (gMade 4 C ds k) := by rw [gMade, deed_getD h1, hd]
    have xs0 : xMade C 4 0 ds (k + 1) = xDo C 4 0 d (xMade C 4 0 ds k) := by rw [xMade, deed_getD h1, hd]
    have xs1 : xMade C 4 1 ds (k + 1) = xDo C 4 1 d (xMade C 4 1 ds k) := by rw [xMade, deed_getD h1, hd]
    have xs2 : xMade C 4 2 ds (k + 1) = xDo C 4 2 d (xMade C 4 2 ds k) := by rw [xMade, deed_getD h1, hd]
    have xs3 : xMade C 4 3 ds (k + 1) = xDo C 4 3 d (xMade C 4 3 ds k) := by rw [xMade, deed_getD h1, hd]
    rw [← hd] at ed
    obtain ⟨dk, dr, dc, dx⟩ := d
    have gl := gMade_len 4 C ds k
    have go := gMade_ok 4 C ds k
    have xl0 := xMade_len C 4 0 ds k
    have xo0 := xMade_ok C 4 0 ds k
    have xl1 := xMade_len C 4 1 ds k
    have xo1 := xMade_ok C 4 1 ds k
    have xl2 := xMade_len C 4 2 ds k
    have xo2 := xMade_ok C 4 2 ds k
    have xl3 := xMade_len C 4 3 ds k
    have xo3 := xMade_ok C 4 3 ds k
    simp only [gDo, xDo] at gs xs0 xs1 xs2 xs3
    clear hd
    simp (maxSteps := 1000000) (disch := omega) [go_sem, ed, h1]
    refine condK_if (fun h3 => ?_) (fun h3 => ?_)
    · rw [if_pos h3] at gs xs0 xs1 xs2 xs3
      have hge := gerase_cr 4 C (4 * C) (gMade 4 C ds k) dr dc rfl (by omega) hC.2 gl go
      have hxe := erase4_cr C (xMade C 4 0 ds k) (xMade C 4 1 ds k) (xMade C 4 2 ds k) (xMade C 4 3 ds k) dr dc hC.2 xl0 xo0 xl1 xo1 xl2 xo2 xl3 xo3
      simp (maxSteps := 1000000) (disch := omega) [go_sem]
      refine ⟨⟨rfl, by simp [Tryd.f34]⟩, CallK_of [([0], [14, 0]), ([1], [14, 1])] hge (by simp [go_sem]) ⟨by simp [go_sem], by simp [go_sem]⟩ (by simp [go_sem, gp, cw_ren, cw_upd]) ?_⟩
      rintro y rs ⟨rfl, rfl⟩
      simp (maxSteps := 1000000) (disch := omega) [go_sem, gp, cw_ren, cw_upd]
      refine ⟨⟨rfl, by simp [Tryd.f35]⟩, CallK_of [([0], [17, 40]), ([1], [17, 100]), ([2], [17, 101]), ([3], [17, 102]), ([4], [17, 103])] hxe (by simp [go_sem]) ⟨by simp [go_sem], by simp [go_sem]⟩ (by simp [go_sem, g4, cw_ren]) ?_⟩
      rintro y rs ⟨rfl, rfl⟩
      simp (maxSteps := 1000000) (disch := omega) [go_sem, wrap64, g4, cw_ren, cw_upd]
      refine LoopK_next (k + 1) (by omega) (by simp [go_sem, LeS, leV, leR, leA, leL, leL_refl, cw_upd, gs, xs0, xs1, xs2, xs3]) (by omega)
    · rw [if_neg h3] at gs xs0 xs1 xs2 xs3
      have hgp := gput_cr 4 C (4 * C) (gMade 4 C ds k) dr dc dx rfl (by omega) hC.2 gl go
      have hxp := put4_cr C (xMade C 4 0 ds k) (xMade C 4 1 ds k) (xMade C 4 2 ds k) (xMade C 4 3 ds k) dr dc dx hC.2 xl0 xo0 xl1 xo1 xl2 xo2 xl3 xo3
      simp (maxSteps := 1000000) (disch := omega) [go_sem]
      refine ⟨⟨rfl, by simp [Tryd.f36]⟩, CallK_of [([0], [14, 0]), ([1], [14, 1])] hgp (by simp [go_sem]) ⟨by simp [go_sem], by simp [go_sem, clP]⟩ (by simp [go_sem, gp, cw_ren, cw_upd]) ?_⟩
      rintro y rs ⟨rfl, rfl⟩
      simp (maxSteps := 1000000) (disch := omega) [go_sem, gp, cw_ren, cw_upd]
      refine ⟨⟨rfl, by simp [Tryd.f37]⟩, CallK_of [([0], [17, 40]), ([1], [17, 100]), ([2], [17, 101]), ([3], [17, 102]), ([4], [17, 103])] hxp (by simp [go_sem]) ⟨by simp [go_sem], by simp [go_sem, clP]⟩ (by simp [go_sem, g4, cw_ren]) ?_⟩
      rintro y rs ⟨rfl, rfl⟩
      simp (maxSteps := 1000000) (disch := omega) [go_sem, wrap64, g4, cw_ren, cw_upd]
      refine LoopK_next (k + 1) (by omega) (by simp [go_sem, LeS, leV, leR, leA, leL, leL_refl, cw_upd, gs, xs0, xs1, xs2, xs3]) (by omega)
  · have hkm : min 30 ds.length = k := by
      simp at h
      omega
    rw [hkm]
    simp (maxSteps := 1000000) (disch := omega) [go_sem]
    exact ret_keep [[14, 0], [14, 1], [17, 40], [17, 100], [17, 101], [17, 102], [17, 103]] _ (by simp) (by simp [go_sem, resOf, leA]) ⟨rfl, by simp [go_sem, cw_upd], by simp [go_sem, cw_upd], by simp [go_sem, cw_upd], by simp [go_sem, cw_upd], by simp [go_sem, cw_upd], by simp [go_sem, cw_upd], by simp [go_sem, cw_upd]⟩
end Go.Proofs.YtjgfmanahimpoaaDoor
namespace Go.Proofs.YtjgfmanahimpoaaDoor
open Go.AM
theorem idx_div {C i c j d : Nat} (hc : c < C) (hd : d < C) : i * C + c = j * C + d ↔ i = j ∧ c = d := by
  constructor
  · intro h
    have h1 : (i * C + c) / C = i := by rw [Nat.add_comm, Nat.mul_comm, Nat.add_mul_div_left _ _ (by omega), Nat.div_eq_of_lt hc]; omega
    have h2 : (j * C + d) / C = j := by rw [Nat.add_comm, Nat.mul_comm, Nat.add_mul_div_left _ _ (by omega), Nat.div_eq_of_lt hd]; omega
    have : i = j := by rw [← h1, ← h2, h]
    subst this
    exact ⟨rfl, by omega⟩
  · rintro ⟨rfl, rfl⟩; rfl
theorem rowOf_at {C : Nat} {l : Row} {k c : Nat} (hc : c < C) : (rowOf C l k)[c]? = l[k * C + c]? := by
  rw [rowOf, List.getElem?_take, if_pos hc, List.getElem?_drop]
theorem rowOf_getD {C : Nat} {l : Row} {k c : Nat} (hc : c < C) : (rowOf C l k).getD c blk = l.getD (k * C + c) blk := by
  rw [List.getD_eq_getElem?_getD, List.getD_eq_getElem?_getD, rowOf_at hc]
theorem row_ext {C : Nat} {a b : Row} (ha : a.length ≤ C) (hb : b.length ≤ C) (h : ∀ c, c < C → a[c]? = b[c]?) : a = b := by
  apply List.ext_getElem?
  intro c
  by_cases hc : c < C
  · exact h c hc
  · rw [List.getElem?_eq_none (by omega), List.getElem?_eq_none (by omega)]
theorem rowOf_le {C : Nat} {l : Row} {k : Nat} : (rowOf C l k).length ≤ C := by rw [rowOf]; simp; omega
theorem rowOf_set {C : Nat} {l : Row} {i c k : Nat} {x : Cl} (hc : c < C) : rowOf C (l.set (i * C + c) x) k = if k = i then (rowOf C l i).set c x else rowOf C l k := by
  apply row_ext rowOf_le (by split <;> simp [rowOf_le])
  intro d hd
  rw [rowOf_at hd, List.getElem?_set]
  by_cases hk : k = i
  · subst hk
    rw [if_pos rfl, List.getElem?_set, rowOf_at hd]
    by_cases hcd : c = d
    · subst hcd
      rw [if_pos rfl, if_pos rfl]
      by_cases hl : k * C + c < l.length
      · rw [if_pos hl, if_pos (by rw [rowOf]; simp; omega)]
      · rw [if_neg hl, if_neg (by rw [rowOf]; simp; omega)]
    · rw [if_neg (fun e => hcd ((idx_div hc hd).1 e).2), if_neg hcd]
  · rw [if_neg hk, if_neg (fun e => hk ((idx_div hc hd).1 e).1.symm), rowOf_at hd]
theorem loose_row {C : Nat} {l : Row} {i c k : Nat} (hc : c < C) (_ : i * C + c < l.length) (ho : OkR (rowOf C l i)) (hlen : (rowOf C l i).length = C) : rowOf C (gloose l (i * C + c)) k = if k = i then looseR (rowOf C l i) c else rowOf C l k := by
  have hcl : c < (rowOf C l i).length := by omega
  have hget := rowOf_getD (C := C) (l := l) (k := i) hc
  have hrow := row_getD hcl
  obtain ⟨o1, o2⟩ := ho c _ (List.getElem?_eq_getElem hcl)
  rw [← hrow, hget] at o1 o2
  rw [hlen] at o2
  unfold gloose gloo1 looseR looseB looseA
  rw [hget]
  by_cases h0 : (l.getD (i * C + c) blk).w = 0
  · rw [if_pos h0, if_pos h0]
    have hp := o1 h0
    have e1 : i * C + c - 1 = i * C + (c - 1) := by omega
    have e2 : ((rowOf C l i).set (c - 1) blk).getD c blk = l.getD (i * C + c) blk := by
      rw [← hget, List.getD_eq_getElem?_getD, List.getD_eq_getElem?_getD, List.getElem?_set, if_neg (by omega)]
    have h2n : ¬ (l.getD (i * C + c) blk).w = 2 := by omega
    rw [e2, if_neg h2n, e1, rowOf_set hc]
    by_cases hk : k = i
    · rw [if_pos hk, if_pos hk, rowOf_set (by omega), if_pos rfl]
    · rw [if_neg hk, if_neg hk, rowOf_set (by omega), if_neg hk]
  · rw [if_neg h0, if_neg h0, hget]
    by_cases h2 : (l.getD (i * C + c) blk).w = 2
    · have hp := o2 h2
      rw [if_pos h2, if_pos h2, show i * C + c + 1 = i * C + (c + 1) from by omega, rowOf_set hc]
      by_cases hk : k = i
      · rw [if_pos hk, if_pos hk, rowOf_set hp, if_pos rfl]
      · rw [if_neg hk, if_neg hk, rowOf_set hp, if_neg hk]
    · rw [if_neg h2, if_neg h2, rowOf_set hc]
theorem gputB_eq (R C : Nat) (r c : Int) (x : Cl) : gputB R C r c x = putB C R r c x := by
  rw [Bool.eq_iff_iff]
  simp only [gputB, putB, inB, Bool.and_eq_true, Bool.or_eq_true, decide_eq_true_eq, Bool.not_eq_true']
  by_cases h : x.w = 2
  · simp [h]; omega
  · simp [h]; omega
theorem rowOf_len' {R C : Nat} {l : Row} {k : Nat} (hl : l.length = R * C) (hk : k < R) : (rowOf C l k).length = C := rowOf_len hl hk
theorem at_lt {R C i c : Nat} {l : Row} (hl : l.length = R * C) (hi : i < R) (hc : c < C) : i * C + c < l.length := by
  have : (i + 1) * C ≤ R * C := Nat.mul_le_mul (by omega) (Nat.le_refl _)
  rw [Nat.add_mul] at this
  omega
theorem put_row {R C : Nat} {l : Row} {i c k : Nat} {x : Cl} (hl : l.length = R * C) (hi : i < R) (hc : c < C) (hw : x.w = 2 → c + 1 < C) (ho : OkR (rowOf C l i)) :
    rowOf C (gput l (i * C + c) x) k = if k = i then putR (rowOf C l i) c x else rowOf C l k := by
  have hlen := rowOf_len hl hi
  have L1 : ∀ k, rowOf C (gloose l (i * C + c)) k = if k = i then looseR (rowOf C l i) c else rowOf C l k := fun k => loose_row hc (at_lt hl hi hc) ho hlen
  unfold gput putR
  by_cases h2 : x.w = 2
  · have hc1 := hw h2
    rw [if_pos h2, if_pos h2]
    have hl1 : (gloose l (i * C + c)).length = R * C := by rw [gloose_len, hl]
    have r1 := L1 i
    rw [if_pos rfl] at r1
    have L2 : ∀ k, rowOf C (gloose (gloose l (i * C + c)) (i * C + c + 1)) k = if k = i then looseR (looseR (rowOf C l i) c) (c + 1) else rowOf C l k := fun k => by
      rw [show i * C + c + 1 = i * C + (c + 1) from by omega, loose_row hc1 (at_lt hl1 hi hc1) (by rw [r1]; exact ho.looseR c) (by rw [r1, looseR_len, hlen]), r1]
      by_cases hk : k = i
      · rw [if_pos hk, if_pos hk]
      · rw [if_neg hk, if_neg hk, L1, if_neg hk]
    rw [rowOf_set hc, show i * C + c + 1 = i * C + (c + 1) from by omega]
    rw [show i * C + c + 1 = i * C + (c + 1) from by omega] at L2
    by_cases hk : k = i
    · rw [if_pos hk, if_pos hk, rowOf_set hc1, if_pos rfl, L2, if_pos rfl]
    · rw [if_neg hk, if_neg hk, rowOf_set hc1, if_neg hk, L2, if_neg hk]
  · rw [if_neg h2, if_neg h2, rowOf_set hc]
    by_cases hk : k = i
    · rw [if_pos hk, if_pos hk, L1, if_pos rfl]
    · rw [if_neg hk, if_neg hk, L1, if_neg hk]
theorem gputI_row {R C : Nat} {l : Row} {i : Nat} {r c : Int} {x : Cl} (hl : l.length = R * C) (_ : i < R) (ho : ∀ j, j < R → OkR (rowOf C l j)) : rowOf C (gputI R C r c x l) i = putI C R r c x i (rowOf C l i) := by
  unfold gputI putI
  rw [gputB_eq]
  by_cases hb : putB C R r c x = true
  · rw [if_pos hb, if_pos hb]
    simp only [putB, Bool.and_eq_true, Bool.or_eq_true, decide_eq_true_eq, Bool.not_eq_true', decide_eq_false_iff_not] at hb
    obtain ⟨⟨⟨⟨⟨h0, h1⟩, h2⟩, h3⟩, _⟩, h5⟩ := hb
    obtain ⟨q, rfl⟩ : ∃ q : Nat, r = q := ⟨r.toNat, by omega⟩
    obtain ⟨p, rfl⟩ : ∃ p : Nat, c = p := ⟨c.toNat, by omega⟩
    simp only [Int.toNat_natCast]
    rw [put_row hl (by omega) (by omega) (fun h => by rcases h5 with h5 | h5 <;> omega) (ho q (by omega))]
    by_cases hk : i = q
    · subst hk; rw [if_pos rfl, if_pos rfl]
    · rw [if_neg hk, if_neg (by omega)]
  · rw [if_neg hb, if_neg hb]
theorem ger_row {R C : Nat} {l : Row} {q c : Nat} (hl : l.length = R * C) (hq : q < R) (ho : OkR (rowOf C l q)) : ∀ (j i : Nat), c + j ≤ C → rowOf C (gerP l (q * C + c) j) i = if i = q then eraseP (rowOf C l q) c j else rowOf C l i
  | 0, i, _ => by
    rw [gerP, eraseP]
    by_cases hk : i = q
    · rw [if_pos hk, hk]
    · rw [if_neg hk]
  | j + 1, i, h => by
    have ih := fun i => ger_row (c := c) hl hq ho j i (by omega)
    have r1 := ih q
    rw [if_pos rfl] at r1
    have hlen := rowOf_len hl hq
    rw [gerP, eraseP, show q * C + c + j = q * C + (c + j) from by omega, loose_row (by omega) (at_lt (R := R) (by rw [gerP_len, hl]) hq (by omega)) (by rw [r1]; exact eraseP_ok _ _ _ ho) (by rw [r1, eraseP_len, hlen]), r1]
    by_cases hk : i = q
    · rw [if_pos hk, if_pos hk]
    · rw [if_neg hk, if_neg hk, ih, if_neg hk]
theorem gerI_row {R C : Nat} {l : Row} {i : Nat} {r c : Int} (hl : l.length = R * C) (ho : ∀ j, j < R → OkR (rowOf C l j)) : rowOf C (gerI R C r c l) i = eraseI C R r c i (rowOf C l i) := by
  unfold gerI eraseI
  by_cases hb : (0 ≤ r ∧ r < R) ∧ 0 ≤ c
  · rw [if_pos hb, if_pos hb]
    obtain ⟨q, rfl⟩ : ∃ q : Nat, r = q := ⟨r.toNat, by omega⟩
    obtain ⟨p, rfl⟩ : ∃ p : Nat, c = p := ⟨c.toNat, by omega⟩
    simp only [Int.toNat_natCast]
    have hq : q < R := by omega
    by_cases hp : p ≤ C
    · rw [ger_row hl hq (ho q hq) _ _ (by omega)]
      by_cases hk : i = q
      · subst hk; rw [if_pos rfl, if_pos rfl]
      · rw [if_neg hk, if_neg (by omega)]
    · rw [show C - p = 0 from by omega, gerP, eraseP]
      split <;> rfl
  · rw [if_neg hb, if_neg hb]
theorem made_rows (R C : Nat) (ds : List GDeed) (k : Nat) : ∀ i, i < R → rowOf C (gMade R C ds k) i = xMade C R i ds k := by
  induction k with
  | zero =>
    intro i hi
    rw [gMade, xMade]
    apply List.ext_getElem?
    intro c
    by_cases hc : c < C
    · have : i * C + c < R * C := by
        have : (i + 1) * C ≤ R * C := Nat.mul_le_mul (by omega) (Nat.le_refl _)
        rw [Nat.add_mul] at this
        omega
      rw [rowOf_at hc]
      simp [hc, this]
    · rw [List.getElem?_eq_none (by have := rowOf_le (C := C) (l := List.replicate (R * C) blk) (k := i); omega), List.getElem?_eq_none (by simp; omega)]
  | succ k ih =>
    intro i hi
    have hl := gMade_len R C ds k
    have ho : ∀ j, j < R → OkR (rowOf C (gMade R C ds k) j) := fun j hj => by rw [ih j hj]; exact xMade_ok C R j ds k
    rw [gMade, xMade, gDo, xDo, ← ih i hi]
    split
    · exact gerI_row hl ho
    · exact gputI_row hl hi ho
/-- All cells of a grid of deeds are blank, or empty, or of a deed. -/
theorem all_set {Q : Cl → Prop} {l : Row} {c : Nat} {x : Cl} (h : ∀ y ∈ l, Q y) (hx : Q x) : ∀ y ∈ l.set c x, Q y := fun y hy => by
  rcases List.mem_or_eq_of_mem_set hy with h1 | h1
  · exact h y h1
  · rw [h1]; exact hx
theorem all_gloose {Q : Cl → Prop} {l : Row} {i : Nat} (h : ∀ y ∈ l, Q y) (hb : Q blk) : ∀ y ∈ gloose l i, Q y := by
  unfold gloose gloo1
  split
  · exact all_set (all_set h hb) hb
  · split
    · exact all_set (all_set h hb) hb
    · exact all_set h hb
theorem all_ger {Q : Cl → Prop} {l : Row} {i : Nat} (h : ∀ y ∈ l, Q y) (hb : Q blk) : ∀ j, ∀ y ∈ gerP l i j, Q y
  | 0 => h
  | j + 1 => by rw [gerP]; exact all_gloose (all_ger h hb j) hb
theorem all_made {Q : Cl → Prop} (hb : Q blk) (hz : Q ⟨[], 0⟩) (R C : Nat) (ds : List GDeed) (hd : ∀ d ∈ ds, Q d.x) : ∀ k, k ≤ ds.length → ∀ y ∈ gMade R C ds k, Q y
  | 0, _ => fun y hy => by rw [gMade] at hy; rw [(List.mem_replicate.1 hy).2]; exact hb
  | k + 1, hk => by
    have ih := all_made hb hz R C ds hd k (by omega)
    have hx : Q (ds.getD k default).x := by
      rw [deed_getD (by omega)]; exact hd _ (List.getElem_mem _)
    rw [gMade, gDo]
    split
    · unfold gerI
      split
      · exact all_ger ih hb _
      · exact ih
    · unfold gputI
      split
      · unfold gput
        split
        · exact all_set (all_set (all_gloose (all_gloose ih hb) hb) hz) hx
        · exact all_set (all_gloose ih hb) hx
      · exact ih
end Go.Proofs.YtjgfmanahimpoaaDoor
namespace Go.Proofs.YtjgfmanahimpoaaDoor
open Go.AM
set_option maxHeartbeats 1600000
set_option maxRecDepth 10000
/-- What a grid of deeds is, in the end. -/
def gEnd (R C : Nat) (ds : List GDeed) : Row := gMade R C ds (min 30 ds.length)
theorem gEnd_len (R C : Nat) (ds : List GDeed) : (gEnd R C ds).length = R * C := gMade_len _ _ _ _
def xRows (R C : Nat) (ds : List GDeed) : List Row := (List.range R).map fun i => xMade C R i ds (min 30 ds.length)
def rt01 (t : Tok) : Bool := t == [0] || t == [1]
theorem made_fin {R C N : Nat} {l : Row} {X : List Row} {ts : List Tok} {f : FuncId} {args : List AV} {rs : List (Tok × List AV)} (h : CR Tryd.prog f [] args [] fun x rs' => x = .tup [.lp [0] 0, .la [2] 1 0 ts.length] ∧ rs' = rs) (hC : 0 < C) (hR : 0 < ts.length) (hX : X.length = ts.length)
    (hl : lookT rs [2] = some (ts.map fun t => .la t 2 0 C)) (hk : keepF rt01 rs = gp R C N l) (hrow : ∀ (i : Nat) (t : Tok), ts[i]? = some t → rt01 t = false ∧ ∃ r, X[i]? = some r ∧ r.length = C ∧ lookT rs t = some (cw r)) :
    CR Tryd.prog f [] args [] fun x rs' => x = .tup [.lp [0] 0, .p (.sl 1 (X.map rowP))] ∧ rs' = gp R C N l := by
  refine h.freeze rt01 rfl ?_
  rintro x rs' ⟨rfl, rfl⟩
  refine ⟨.tup [.lp [0] 0, .p (.sl 1 (X.map rowP))], fun g w v hG hx => ?_, rfl, hk⟩
  simp only [RepA, RepAL] at hx ⊢
  obtain ⟨vs, rfl, v1, u1, e1, ⟨b, hb, rfl⟩, v2, u2, e2, h2, e3⟩ := hx
  refine ⟨vs, rfl, _, u1, e1, ⟨b, Gh.fil_root.2 ⟨hb, rfl⟩, rfl⟩, v2, u2, e2, ?_, e3⟩
  have := frz_rows hG (rt := rt01) (t0 := [2]) (z := 2) (n := C) (ts := ts) (X := X.map fun r => r.map clP) hC hR hl rfl (by simpa using hX) (fun i t ht => by
    obtain ⟨h1, r, h2, h3, h4⟩ := hrow i t ht
    exact ⟨h1, r.map clP, by simp [h2], by simpa using h3, rowP_fits r, by rw [h4, cw_flat]⟩) (v := v2) (by simp only [RepA]; exact h2)
  rw [List.map_map] at this
  exact this
theorem made1_fz (C : Nat) (ds : List GDeed) (hC : 2 ≤ C ∧ C ≤ 1000) : CR Tryd.prog 15 [] [.p (.int .i64 1), .p (.int .i64 C), .p (.sl 5 (ds.map gdeedP))] []
    (fun x rs' => x = .tup [.lp [0] 0, .p (.sl 1 ((xRows 1 C ds).map rowP))] ∧ rs' = gp 1 C (1 * C) (gEnd 1 C ds)) := by
  have h : CR Tryd.prog 15 [] [.p (.int .i64 1), .p (.int .i64 C), .p (.sl 5 (ds.map gdeedP))] [] (fun x rs' => x = .tup [.lp [0] 0, .la [2] 1 0 ([[3]] : List Tok).length] ∧ rs' = [([0], [.p (.int .i64 1), .p (.int .i64 C), .la [1] 2 0 (1 * C)]), ([1], cw (gEnd 1 C ds)), ([2], [.la [3] 2 0 C]), ([3], cw (xMade C 1 0 ds (min 30 ds.length)))]) := by
    refine (made1_lk C ds hC).ren 1000 ?_
    rintro x rs' ⟨rfl, h0, h1, h2, k0⟩
    exact ⟨[([0], [14, 0]), ([1], [14, 1]), ([2], [17, 40]), ([3], [17, 100])], rfl, rfl, by simp [AV.ren, AV.upd, renG, renF, inM], by simp [rootsR, St.ofR, h0, h1, h2, k0, gEnd, cw_ren, AV.ren, AV.upd, renG, renF, inM]⟩
  refine made_fin (X := xRows 1 C ds) h (by omega) (by simp) (by simp [xRows]) (by simp [lookT]) (by simp [keepF, rt01, gp, cw_upd, go_sem]) (fun i t ht => ?_)
  match i, ht with
  | 0, ht => simp at ht; subst ht; exact ⟨rfl, _, by simp [xRows, List.range_succ]; rfl, xMade_len C 1 0 ds _, by simp [lookT]⟩
  | i + 1, ht => simp at ht
theorem made2_fz (C : Nat) (ds : List GDeed) (hC : 2 ≤ C ∧ C ≤ 1000) : CR Tryd.prog 15 [] [.p (.int .i64 2), .p (.int .i64 C), .p (.sl 5 (ds.map gdeedP))] []
    (fun x rs' => x = .tup [.lp [0] 0, .p (.sl 1 ((xRows 2 C ds).map rowP))] ∧ rs' = gp 2 C (2 * C) (gEnd 2 C ds)) := by
  have h : CR Tryd.prog 15 [] [.p (.int .i64 2), .p (.int .i64 C), .p (.sl 5 (ds.map gdeedP))] [] (fun x rs' => x = .tup [.lp [0] 0, .la [2] 1 0 ([[3], [4]] : List Tok).length] ∧ rs' = [([0], [.p (.int .i64 2), .p (.int .i64 C), .la [1] 2 0 (2 * C)]), ([1], cw (gEnd 2 C ds)), ([2], [.la [3] 2 0 C, .la [4] 2 0 C]), ([3], cw (xMade C 2 0 ds (min 30 ds.length))), ([4], cw (xMade C 2 1 ds (min 30 ds.length)))]) := by
    refine (made2_lk C ds hC).ren 1000 ?_
    rintro x rs' ⟨rfl, h0, h1, h2, k0, k1⟩
    exact ⟨[([0], [14, 0]), ([1], [14, 1]), ([2], [17, 40]), ([3], [17, 100]), ([4], [17, 101])], rfl, rfl, by simp [AV.ren, AV.upd, renG, renF, inM], by simp [rootsR, St.ofR, h0, h1, h2, k0, k1, gEnd, cw_ren, AV.ren, AV.upd, renG, renF, inM]⟩
  refine made_fin (X := xRows 2 C ds) h (by omega) (by simp) (by simp [xRows]) (by simp [lookT]) (by simp [keepF, rt01, gp, cw_upd, go_sem]) (fun i t ht => ?_)
  match i, ht with
  | 0, ht => simp at ht; subst ht; exact ⟨rfl, _, by simp [xRows, List.range_succ]; rfl, xMade_len C 2 0 ds _, by simp [lookT]⟩
  | 1, ht => simp at ht; subst ht; exact ⟨rfl, _, by simp [xRows, List.range_succ]; rfl, xMade_len C 2 1 ds _, by simp [lookT]⟩
  | i + 2, ht => simp at ht
theorem made3_fz (C : Nat) (ds : List GDeed) (hC : 2 ≤ C ∧ C ≤ 1000) : CR Tryd.prog 15 [] [.p (.int .i64 3), .p (.int .i64 C), .p (.sl 5 (ds.map gdeedP))] []
    (fun x rs' => x = .tup [.lp [0] 0, .p (.sl 1 ((xRows 3 C ds).map rowP))] ∧ rs' = gp 3 C (3 * C) (gEnd 3 C ds)) := by
  have h : CR Tryd.prog 15 [] [.p (.int .i64 3), .p (.int .i64 C), .p (.sl 5 (ds.map gdeedP))] [] (fun x rs' => x = .tup [.lp [0] 0, .la [2] 1 0 ([[3], [4], [5]] : List Tok).length] ∧ rs' = [([0], [.p (.int .i64 3), .p (.int .i64 C), .la [1] 2 0 (3 * C)]), ([1], cw (gEnd 3 C ds)), ([2], [.la [3] 2 0 C, .la [4] 2 0 C, .la [5] 2 0 C]), ([3], cw (xMade C 3 0 ds (min 30 ds.length))), ([4], cw (xMade C 3 1 ds (min 30 ds.length))), ([5], cw (xMade C 3 2 ds (min 30 ds.length)))]) := by
    refine (made3_lk C ds hC).ren 1000 ?_
    rintro x rs' ⟨rfl, h0, h1, h2, k0, k1, k2⟩
    exact ⟨[([0], [14, 0]), ([1], [14, 1]), ([2], [17, 40]), ([3], [17, 100]), ([4], [17, 101]), ([5], [17, 102])], rfl, rfl, by simp [AV.ren, AV.upd, renG, renF, inM], by simp [rootsR, St.ofR, h0, h1, h2, k0, k1, k2, gEnd, cw_ren, AV.ren, AV.upd, renG, renF, inM]⟩
  refine made_fin (X := xRows 3 C ds) h (by omega) (by simp) (by simp [xRows]) (by simp [lookT]) (by simp [keepF, rt01, gp, cw_upd, go_sem]) (fun i t ht => ?_)
  match i, ht with
  | 0, ht => simp at ht; subst ht; exact ⟨rfl, _, by simp [xRows, List.range_succ]; rfl, xMade_len C 3 0 ds _, by simp [lookT]⟩
  | 1, ht => simp at ht; subst ht; exact ⟨rfl, _, by simp [xRows, List.range_succ]; rfl, xMade_len C 3 1 ds _, by simp [lookT]⟩
  | 2, ht => simp at ht; subst ht; exact ⟨rfl, _, by simp [xRows, List.range_succ]; rfl, xMade_len C 3 2 ds _, by simp [lookT]⟩
  | i + 3, ht => simp at ht
theorem made4_fz (C : Nat) (ds : List GDeed) (hC : 2 ≤ C ∧ C ≤ 1000) : CR Tryd.prog 15 [] [.p (.int .i64 4), .p (.int .i64 C), .p (.sl 5 (ds.map gdeedP))] []
    (fun x rs' => x = .tup [.lp [0] 0, .p (.sl 1 ((xRows 4 C ds).map rowP))] ∧ rs' = gp 4 C (4 * C) (gEnd 4 C ds)) := by
  have h : CR Tryd.prog 15 [] [.p (.int .i64 4), .p (.int .i64 C), .p (.sl 5 (ds.map gdeedP))] [] (fun x rs' => x = .tup [.lp [0] 0, .la [2] 1 0 ([[3], [4], [5], [6]] : List Tok).length] ∧ rs' = [([0], [.p (.int .i64 4), .p (.int .i64 C), .la [1] 2 0 (4 * C)]), ([1], cw (gEnd 4 C ds)), ([2], [.la [3] 2 0 C, .la [4] 2 0 C, .la [5] 2 0 C, .la [6] 2 0 C]), ([3], cw (xMade C 4 0 ds (min 30 ds.length))), ([4], cw (xMade C 4 1 ds (min 30 ds.length))), ([5], cw (xMade C 4 2 ds (min 30 ds.length))), ([6], cw (xMade C 4 3 ds (min 30 ds.length)))]) := by
    refine (made4_lk C ds hC).ren 1000 ?_
    rintro x rs' ⟨rfl, h0, h1, h2, k0, k1, k2, k3⟩
    exact ⟨[([0], [14, 0]), ([1], [14, 1]), ([2], [17, 40]), ([3], [17, 100]), ([4], [17, 101]), ([5], [17, 102]), ([6], [17, 103])], rfl, rfl, by simp [AV.ren, AV.upd, renG, renF, inM], by simp [rootsR, St.ofR, h0, h1, h2, k0, k1, k2, k3, gEnd, cw_ren, AV.ren, AV.upd, renG, renF, inM]⟩
  refine made_fin (X := xRows 4 C ds) h (by omega) (by simp) (by simp [xRows]) (by simp [lookT]) (by simp [keepF, rt01, gp, cw_upd, go_sem]) (fun i t ht => ?_)
  match i, ht with
  | 0, ht => simp at ht; subst ht; exact ⟨rfl, _, by simp [xRows, List.range_succ]; rfl, xMade_len C 4 0 ds _, by simp [lookT]⟩
  | 1, ht => simp at ht; subst ht; exact ⟨rfl, _, by simp [xRows, List.range_succ]; rfl, xMade_len C 4 1 ds _, by simp [lookT]⟩
  | 2, ht => simp at ht; subst ht; exact ⟨rfl, _, by simp [xRows, List.range_succ]; rfl, xMade_len C 4 2 ds _, by simp [lookT]⟩
  | 3, ht => simp at ht; subst ht; exact ⟨rfl, _, by simp [xRows, List.range_succ]; rfl, xMade_len C 4 3 ds _, by simp [lookT]⟩
  | i + 4, ht => simp at ht
theorem made_cr (R C : Nat) (ds : List GDeed) (hR : 1 ≤ R ∧ R ≤ 4) (hC : 2 ≤ C ∧ C ≤ 1000) : CR Tryd.prog 15 [] [.p (.int .i64 R), .p (.int .i64 C), .p (.sl 5 (ds.map gdeedP))] []
    (fun x rs' => x = .tup [.lp [0] 0, .p (.sl 1 ((xRows R C ds).map rowP))] ∧ rs' = gp R C (R * C) (gEnd R C ds)) := by
  have h : R = 1 ∨ R = 2 ∨ R = 3 ∨ R = 4 := by omega
  rcases h with rfl | rfl | rfl | rfl
  · exact made1_fz C ds hC
  · exact made2_fz C ds hC
  · exact made3_fz C ds hC
  · exact made4_fz C ds hC
end Go.Proofs.YtjgfmanahimpoaaDoor
