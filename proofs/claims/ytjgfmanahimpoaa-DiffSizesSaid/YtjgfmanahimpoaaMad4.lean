/- What made does for 4 rows, as a contract of the abstract machine. Conditions: as each law says. -/
import Derived.Test.YtjgfmanahimpoaaMadA
import Derived.Test.YtjgfmanahimpoaaPut4
import Derived.Test.YtjgfmanahimpoaaEraA
namespace Go.Proofs.Ytjgfmanahimpoaa
open Go.AM
set_option maxHeartbeats 8000000
set_option maxRecDepth 10000
theorem made4_lk (C : Nat) (ds : List GDeed) (hC : 2 ≤ C ∧ C ≤ 1000) : CR Try.prog 16 [] [.p (.int .i64 4), .p (.int .i64 C), .p (.sl 5 (ds.map gdeedP))] []
    (fun x rs' => x = .tup [.lp [14, 0] 0, .la [17, 40] 1 0 4] ∧ lookT rs' [14, 0] = some [.p (.int .i64 4), .p (.int .i64 C), .la [14, 1] 2 0 (4 * C)] ∧ lookT rs' [14, 1] = some (cw (gMade 4 C ds (min 30 ds.length))) ∧
      lookT rs' [17, 40] = some [.la [17, 100] 2 0 C, .la [17, 101] 2 0 C, .la [17, 102] 2 0 C, .la [17, 103] 2 0 C] ∧ lookT rs' [17, 100] = some (cw (xMade C 4 0 ds (min 30 ds.length))) ∧ lookT rs' [17, 101] = some (cw (xMade C 4 1 ds (min 30 ds.length))) ∧ lookT rs' [17, 102] = some (cw (xMade C 4 2 ds (min 30 ds.length))) ∧ lookT rs' [17, 103] = some (cw (xMade C 4 3 ds (min 30 ds.length)))) := by
  refine CR_of_wp mixed 12 [] Try.func16 rfl (by kernel_rfl) rfl (by simp) (by simp) ?_
  have hg := gnew_cr 4 C (by omega) hC
  have hx := new_cr 4 C (by omega) hC
  simp only [mla, mroots, bl] at hx
  simp (maxSteps := 1000000) (disch := omega) [go_sem, Try.f16]
  refine ⟨⟨rfl, by simp [Try.f36]⟩, CallK_of [] hg (by simp [go_sem]) ⟨by simp [go_sem], by simp [go_sem]⟩ (by simp [go_sem]) ?_⟩
  rintro y rs ⟨rfl, rfl⟩
  simp (maxSteps := 1000000) (disch := omega) [go_sem, gp, cw_ren]
  refine ⟨⟨rfl, by simp [Try.f37]⟩, CallK_of [] hx (by simp [go_sem]) ⟨by simp [go_sem], by simp [go_sem]⟩ (by simp [go_sem]) ?_⟩
  rintro y rs ⟨rfl, rfl⟩
  simp (maxSteps := 1000000) (disch := omega) [go_sem, cw_ren, cw_upd]
  refine wpA_loop (fun k : Nat => k ≤ ds.length ∧ k ≤ 30) (fun k => { n := 70, nv := 12, vs := [(2, .p (.sl 5 (ds.map gdeedP))), (8, .lp [14, 0] 0), (9, .la [17, 40] 1 0 4), (10, .p (.int .i64 k))], ts := [], rs := [([14, 0], [.p (.int .i64 4), .p (.int .i64 C), .la [14, 1] 2 0 (4 * C)]), ([14, 1], cw (gMade 4 C ds k)), ([17, 40], [.la [17, 100] 2 0 C, .la [17, 101] 2 0 C, .la [17, 102] 2 0 C, .la [17, 103] 2 0 C]), ([17, 100], cw (xMade C 4 0 ds k)), ([17, 101], cw (xMade C 4 1 ds k)), ([17, 102], cw (xMade C 4 2 ds k)), ([17, 103], cw (xMade C 4 3 ds k))] }) (fun k => 30 - k) 0 (by simp) (by simp [go_sem, LeS, leV, leR, leA, leL, leL_refl, cw_upd, gMade, xMade]) ?_
  rintro k ⟨hk, hk3⟩
  simp (maxSteps := 1000000) (disch := omega) [go_sem]
  refine condK_split (fun h => ?_) (fun h => ?_)
  · obtain ⟨h1, h2⟩ : k < ds.length ∧ k < 30 := by
      simp at h
      omega
    have ed := elemAt_D h1
    obtain ⟨d, hd⟩ : ∃ d, d = ds[k] := ⟨_, rfl⟩
    have gs : gMade 4 C ds (k + 1) = gDo 4 C d (gMade 4 C ds k) := by rw [gMade, deed_getD h1, hd]
    have xs0 : xMade C 4 0 ds (k + 1) = xDo C 4 0 d (xMade C 4 0 ds k) := by rw [xMade, deed_getD h1, hd]
    have xs1 : xMade C 4 1 ds (k + 1) = xDo C 4 1 d (xMade C 4 1 ds k) := by rw [xMade, deed_getD h1, hd]
    have xs2 : xMade C 4 2 ds (k + 1) = xDo C 4 2 d (xMade C 4 2 ds k) := by rw [xMade, deed_getD h1, hd]
    have xs3 : xMade C 4 3 ds (k + 1) = xDo C 4 3 d (xMade C 4 3 ds k) := by rw [xMade, deed_getD h1, hd]
    rw [← hd] at ed
    obtain ⟨dk, dr, dc, dx⟩ := d
    have gl := gMade_len 4 C ds k
    have go := gMade_ok 4 C ds k
    have xl0 := xMade_len C 4 0 ds k
    have xo0 := xMade_ok C 4 0 ds k
    have xl1 := xMade_len C 4 1 ds k
    have xo1 := xMade_ok C 4 1 ds k
    have xl2 := xMade_len C 4 2 ds k
    have xo2 := xMade_ok C 4 2 ds k
    have xl3 := xMade_len C 4 3 ds k
    have xo3 := xMade_ok C 4 3 ds k
    simp only [gDo, xDo] at gs xs0 xs1 xs2 xs3
    clear hd
    simp (maxSteps := 1000000) (disch := omega) [go_sem, ed, h1]
    refine condK_if (fun h3 => ?_) (fun h3 => ?_)
    · rw [if_pos h3] at gs xs0 xs1 xs2 xs3
      have hge := gerase_cr 4 C (4 * C) (gMade 4 C ds k) dr dc rfl (by omega) hC.2 gl go
      have hxe := erase4_cr C (xMade C 4 0 ds k) (xMade C 4 1 ds k) (xMade C 4 2 ds k) (xMade C 4 3 ds k) dr dc hC.2 xl0 xo0 xl1 xo1 xl2 xo2 xl3 xo3
      simp (maxSteps := 1000000) (disch := omega) [go_sem]
      refine ⟨⟨rfl, by simp [Try.f38]⟩, CallK_of [([0], [14, 0]), ([1], [14, 1])] hge (by simp [go_sem]) ⟨by simp [go_sem], by simp [go_sem]⟩ (by simp [go_sem, gp, cw_ren, cw_upd]) ?_⟩
      rintro y rs ⟨rfl, rfl⟩
      simp (maxSteps := 1000000) (disch := omega) [go_sem, gp, cw_ren, cw_upd]
      refine ⟨⟨rfl, by simp [Try.f39]⟩, CallK_of [([0], [17, 40]), ([1], [17, 100]), ([2], [17, 101]), ([3], [17, 102]), ([4], [17, 103])] hxe (by simp [go_sem]) ⟨by simp [go_sem], by simp [go_sem]⟩ (by simp [go_sem, g4, cw_ren]) ?_⟩
      rintro y rs ⟨rfl, rfl⟩
      simp (maxSteps := 1000000) (disch := omega) [go_sem, wrap64, g4, cw_ren, cw_upd]
      refine LoopK_next (k + 1) (by omega) (by simp [go_sem, LeS, leV, leR, leA, leL, leL_refl, cw_upd, gs, xs0, xs1, xs2, xs3]) (by omega)
    · rw [if_neg h3] at gs xs0 xs1 xs2 xs3
      have hgp := gput_cr 4 C (4 * C) (gMade 4 C ds k) dr dc dx rfl (by omega) hC.2 gl go
      have hxp := put4_cr C (xMade C 4 0 ds k) (xMade C 4 1 ds k) (xMade C 4 2 ds k) (xMade C 4 3 ds k) dr dc dx hC.2 xl0 xo0 xl1 xo1 xl2 xo2 xl3 xo3
      simp (maxSteps := 1000000) (disch := omega) [go_sem]
      refine ⟨⟨rfl, by simp [Try.f40]⟩, CallK_of [([0], [14, 0]), ([1], [14, 1])] hgp (by simp [go_sem]) ⟨by simp [go_sem], by simp [go_sem, clP]⟩ (by simp [go_sem, gp, cw_ren, cw_upd]) ?_⟩
      rintro y rs ⟨rfl, rfl⟩
      simp (maxSteps := 1000000) (disch := omega) [go_sem, gp, cw_ren, cw_upd]
      refine ⟨⟨rfl, by simp [Try.f41]⟩, CallK_of [([0], [17, 40]), ([1], [17, 100]), ([2], [17, 101]), ([3], [17, 102]), ([4], [17, 103])] hxp (by simp [go_sem]) ⟨by simp [go_sem], by simp [go_sem, clP]⟩ (by simp [go_sem, g4, cw_ren]) ?_⟩
      rintro y rs ⟨rfl, rfl⟩
      simp (maxSteps := 1000000) (disch := omega) [go_sem, wrap64, g4, cw_ren, cw_upd]
      refine LoopK_next (k + 1) (by omega) (by simp [go_sem, LeS, leV, leR, leA, leL, leL_refl, cw_upd, gs, xs0, xs1, xs2, xs3]) (by omega)
  · have hkm : min 30 ds.length = k := by
      simp at h
      omega
    rw [hkm]
    simp (maxSteps := 1000000) (disch := omega) [go_sem]
    exact ret_keep [[14, 0], [14, 1], [17, 40], [17, 100], [17, 101], [17, 102], [17, 103]] _ (by simp) (by simp [go_sem, resOf, leA]) ⟨rfl, by simp [go_sem, cw_upd], by simp [go_sem, cw_upd], by simp [go_sem, cw_upd], by simp [go_sem, cw_upd], by simp [go_sem, cw_upd], by simp [go_sem, cw_upd], by simp [go_sem, cw_upd]⟩
end Go.Proofs.Ytjgfmanahimpoaa
