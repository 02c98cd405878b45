/- A part of the proof of this seat's statements, by an abstract machine: what each operation does to values, proved over the model, whatever the program. No condition beyond those that stand. -/
import Derived.Test.YtjgfmanahimpoaaBindA
namespace Go.Proofs.Ytjgfmanahimpoaa
open Go.AM
set_option maxHeartbeats 800000
set_option maxRecDepth 10000
def ctl : List Int := [17, 7, 4, 0, 9, 8, 3, 26, 10, 0, 2, 13, 27, 2, 23, 0, 22, 28, 24, 25, 31, 14, 0, 15, 33, 19, 0, 0, 0, 0, 0, 21]
def ctlA : List AV := ctl.map fun i => .p (.int .i64 i)
theorem ctlA_get (n : Nat) (h : n < 32) : ctlA[n]? = some (.p (.int .i64 (ctl.getD n 0))) := by
  have : n < ctl.length := h
  simp [ctlA, List.getD_eq_getElem?_getD, this]
def controlL (r : Int) : Int := if r = 127 then 10 else if r < 0 ∨ 31 < r then 0 else ctl.getD r.toNat 0
theorem control_cr (r : Int) : CR Try.prog 33 [] [.p (.int .i32 r)] [] (is (.p (.int .i64 (controlL r)))) := by
  refine CR_of_wp mixed 4 [] Try.func33 rfl (by kernel_rfl) rfl (by simp) (by simp) ?_
  simp [go_sem, Try.f33]
  refine condK_if (fun h => ?_) (fun h => ?_)
  · simp [go_sem]
    exact ret_is (.p (.int .i64 (controlL r))) rfl (by simp [go_sem, resOf, leA, controlL, h]) ⟨rfl, rfl⟩
  · simp [go_sem]
    refine condK_split (fun h2 => ?_) (fun h2 => ?_)
    · have h2' : r < 0 ∨ 31 < r := by simpa using h2
      simp [go_sem]
      exact ret_is (.p (.int .i64 (controlL r))) rfl (by simp [go_sem, resOf, leA, controlL, h, h2']) ⟨rfl, rfl⟩
    · have h2' : ¬ (r < 0 ∨ 31 < r) := by intro e; simp at h2; omega
      obtain ⟨n, rfl⟩ := Int.eq_ofNat_of_zero_le (show 0 ≤ r by omega)
      have hn : n < 32 := by omega
      have e : [AV.p (PV.int IntKind.i64 17), AV.p (PV.int IntKind.i64 7), AV.p (PV.int IntKind.i64 4), AV.p (PV.int IntKind.i64 0), AV.p (PV.int IntKind.i64 9), AV.p (PV.int IntKind.i64 8), AV.p (PV.int IntKind.i64 3), AV.p (PV.int IntKind.i64 26),
          AV.p (PV.int IntKind.i64 10), AV.p (PV.int IntKind.i64 0), AV.p (PV.int IntKind.i64 2), AV.p (PV.int IntKind.i64 13), AV.p (PV.int IntKind.i64 27), AV.p (PV.int IntKind.i64 2), AV.p (PV.int IntKind.i64 23), AV.p (PV.int IntKind.i64 0),
          AV.p (PV.int IntKind.i64 22), AV.p (PV.int IntKind.i64 28), AV.p (PV.int IntKind.i64 24), AV.p (PV.int IntKind.i64 25), AV.p (PV.int IntKind.i64 31), AV.p (PV.int IntKind.i64 14), AV.p (PV.int IntKind.i64 0), AV.p (PV.int IntKind.i64 15),
          AV.p (PV.int IntKind.i64 33), AV.p (PV.int IntKind.i64 19), AV.p (PV.int IntKind.i64 0), AV.p (PV.int IntKind.i64 0), AV.p (PV.int IntKind.i64 0), AV.p (PV.int IntKind.i64 0), AV.p (PV.int IntKind.i64 0), AV.p (PV.int IntKind.i64 21)] = ctlA := rfl
      rw [e]
      clear e
      simp [go_sem, ctlA_get, hn]
      refine ⟨by omega, ?_⟩
      exact ret_is (.p (.int .i64 (controlL n))) rfl (by simp [go_sem, resOf, leA, controlL, h, h2', List.getD_eq_getElem?_getD]) ⟨rfl, rfl⟩
def ofL (p : Bool) (k r : Int) (m : Bool) : Stroke := if k = 4 then ⟨false, 4, 0, false⟩ else ⟨p, k, r, m⟩
theorem of_cr (p : Bool) (k r : Int) (m : Bool) (x : PV) : CR Try.prog 10 [] [.p (.bool p), .p (.agg [.int .i64 k, .int .i32 r, .bool m, x])] [] (is (.p (strokeP (ofL p k r m)))) := by
  refine CR_of_wp mixed 5 [] Try.func10 rfl (by kernel_rfl) rfl (by simp) (by simp) ?_
  simp [go_sem, Try.f10]
  refine condK_if (fun h => ?_) (fun h => ?_)
  · simp [go_sem]
    exact ret_is (.p (strokeP (ofL p k r m))) rfl (by simp [go_sem, resOf, leA, ofL, strokeP, h]) ⟨rfl, rfl⟩
  · simp [go_sem]
    exact ret_is (.p (strokeP (ofL p k r m))) rfl (by simp [go_sem, resOf, leA, ofL, strokeP, h]) ⟨rfl, rfl⟩
def usualL (s : Stroke) : Int :=
  if s.k = 4 then 32 else if s.p then behindL s else if s.k = 3 ∧ s.m = false then namedL s.r else if s.k = 2 ∧ s.m = true ∧ (s.r = 127 ∨ s.r = 8) then 12 else
  if s.k = 2 ∧ s.m = false then controlL s.r else if s.k = 1 ∧ s.m = true then metaL s.r else if s.k = 1 then 1 else 0
theorem look_cr (x : PV) (s : Stroke) (v : Int) (b : Bool) (hl : lookupA Try.prog 32 (.p x) (.p (.agg [.bool s.p, .int .i64 s.k, .int .i32 s.r, .bool s.m])) true = (True, .tup [.p (.int .i64 v), .p (.bool b)])) (_ : x.fits = true) (_ : x.cells = [x]) :
    CR Try.prog 14 [] [.p (.agg [x]), .p (strokeP s)] [] (is (.p (.int .i64 (if b then v else usualL s)))) := by
  refine CR_of_wp mixed 8 [] Try.func14 rfl (by kernel_rfl) rfl (by simp) (by simp) ?_
  simp [go_sem, Try.f14, strokeP, hl]
  refine condK_split (fun h => ?_) (fun h => ?_)
  · subst h
    simp [go_sem]
    exact ret_is (.p (.int .i64 v)) rfl (by simp [go_sem, resOf, leA]) ⟨rfl, by simp⟩
  subst h
  simp [go_sem]
  have fin : ∀ {S : St} (n : Int), n = usualL s → S.pin = [] → S.get 4 = .p (.int .i64 n) → retA Try.prog [] [(4, none)] (is (.p (.int .i64 (usualL s)))) S := by
    intro S n e hp hg
    exact ret_is (.p (.int .i64 (usualL s))) hp (by simp [resOf, resV, hg, e, AV.upd, fil, fil1, leT, leA]) ⟨rfl, rfl⟩
  refine condK_if (fun h1 => ?_) (fun h1 => ?_)
  · simp [go_sem]
    exact fin 32 (by simp [usualL, h1]) rfl (by simp [go_sem])
  simp [go_sem]
  refine condK_split (fun h2 => ?_) (fun h2 => ?_)
  · simp [go_sem]
    refine ⟨⟨rfl, by simp [Try.f31]⟩, ?_⟩
    refine CallK_of [] (behind_cr s) (by simp [go_sem]) ⟨by simp [go_sem], by simp [go_sem, strokeP]⟩ (by simp [go_sem]) ?_
    rintro y rs ⟨rfl, rfl⟩
    simp [go_sem]
    exact fin (behindL s) (by simp [usualL, h1, h2]) rfl (by simp [go_sem])
  simp [go_sem]
  refine condK_split (fun h3 => ?_) (fun h3 => ?_)
  · have e3 : s.k = 3 ∧ s.m = false := by simpa using h3
    simp [go_sem]
    refine ⟨⟨rfl, by simp [Try.f32]⟩, ?_⟩
    refine CallK_of [] (named_cr s.r) (by simp [go_sem]) ⟨by simp [go_sem], by simp [go_sem]⟩ (by simp [go_sem]) ?_
    rintro y rs ⟨rfl, rfl⟩
    simp [go_sem]
    exact fin (namedL s.r) (by simp [usualL, h2, e3]) rfl (by simp [go_sem])
  have e3 : ¬ (s.k = 3 ∧ s.m = false) := by rintro ⟨a, b⟩; simp [a, b] at h3
  simp [go_sem]
  refine ⟨fun a b => ⟨⟨a, b⟩, fun c => ⟨⟨a, b⟩, c⟩⟩, ?_⟩
  refine condK_split (fun h4 => ?_) (fun h4 => ?_)
  · have e4 : s.k = 2 ∧ s.m = true ∧ (s.r = 127 ∨ s.r = 8) := by simpa [and_assoc] using h4
    simp [go_sem]
    exact fin 12 (by rw [usualL, if_neg h1, h2, if_neg (by simp), if_neg e3, if_pos e4]) rfl (by simp [go_sem])
  have e4 : ¬ (s.k = 2 ∧ s.m = true ∧ (s.r = 127 ∨ s.r = 8)) := by rintro ⟨a, b, c⟩; rcases c with c | c <;> simp [a, b, c] at h4
  simp [go_sem]
  refine condK_split (fun h5 => ?_) (fun h5 => ?_)
  · have e5 : s.k = 2 ∧ s.m = false := by simpa using h5
    simp [go_sem]
    refine ⟨⟨rfl, by simp [Try.f33]⟩, ?_⟩
    refine CallK_of [] (control_cr s.r) (by simp [go_sem]) ⟨by simp [go_sem], by simp [go_sem]⟩ (by simp [go_sem]) ?_
    rintro y rs ⟨rfl, rfl⟩
    simp [go_sem]
    exact fin (controlL s.r) (by rw [usualL, if_neg h1, h2, if_neg (by simp), if_neg e3, if_neg e4, if_pos e5]) rfl (by simp [go_sem])
  have e5 : ¬ (s.k = 2 ∧ s.m = false) := by rintro ⟨a, b⟩; simp [a, b] at h5
  simp [go_sem]
  refine condK_split (fun h6 => ?_) (fun h6 => ?_)
  · have e6 : s.k = 1 ∧ s.m = true := by simpa using h6
    simp [go_sem]
    refine ⟨⟨rfl, by simp [Try.f34]⟩, ?_⟩
    refine CallK_of [] (meta_cr s.r) (by simp [go_sem]) ⟨by simp [go_sem], by simp [go_sem]⟩ (by simp [go_sem]) ?_
    rintro y rs ⟨rfl, rfl⟩
    simp [go_sem]
    exact fin (metaL s.r) (by rw [usualL, if_neg h1, h2, if_neg (by simp), if_neg e3, if_neg e4, if_neg e5, if_pos e6]) rfl (by simp [go_sem])
  have e6 : ¬ (s.k = 1 ∧ s.m = true) := by rintro ⟨a, b⟩; simp [a, b] at h6
  simp [go_sem]
  refine condK_if (fun h7 => ?_) (fun h7 => ?_)
  · simp [go_sem]
    exact fin 1 (by rw [usualL, if_neg h1, h2, if_neg (by simp), if_neg e3, if_neg e4, if_neg e5, if_neg e6, if_pos h7]) rfl (by simp [go_sem])
  · simp [go_sem]
    exact fin 0 (by rw [usualL, if_neg h1, h2, if_neg (by simp), if_neg e3, if_neg e4, if_neg e5, if_neg e6, if_neg h7]) rfl (by simp [go_sem])
theorem look_nil (s : Stroke) : CR Try.prog 14 [] [.p (.agg [.opq (.map none)]), .p (strokeP s)] [] (is (.p (.int .i64 (usualL s)))) := by
  have := look_cr (.opq (.map none)) s 0 false (by simp [lookupA, go_sem, mapOf, findP, lookV]) rfl rfl
  simpa using this
theorem awake_cr : CR Try.prog 11 [] [] [] (is (.p (.bool true))) := by
  refine CR_of_wpD [2] mixed 2 [] Try.func11 rfl (by kernel_rfl) rfl (by simp) (by simp) ?_
  simp [go_sem, Try.f11]
  refine ⟨rfl, rfl, ?_⟩
  refine HCallK_of (.p (strokeP (ofL false 2 1 false))) rfl rfl (fun _ => pcallA_of 10 (of_cr false 2 1 false (.opq (.slice none 0 0))) rfl ⟨rfl, by simp [Try.f10]⟩ ⟨by simp [go_sem], by simp [go_sem]⟩) ?_
  simp [go_sem]
  refine HCallK_of (.p (.int .i64 (usualL (ofL false 2 1 false)))) rfl rfl (fun _ => pcallA_of 14 (look_nil (ofL false 2 1 false)) rfl ⟨rfl, by simp [Try.f14]⟩ ⟨by simp [go_sem], by simp [go_sem]⟩) ?_
  rw [show usualL (ofL false 2 1 false) = 7 from by decide]
  simp [go_sem]
  refine ⟨rfl, ?_⟩
  refine HCallK_of (.p (strokeP (ofL false 1 97 false))) rfl rfl (fun _ => pcallA_of 10 (of_cr false 1 97 false (.opq (.slice none 0 0))) rfl ⟨rfl, by simp [Try.f10]⟩ ⟨by simp [go_sem], by simp [go_sem]⟩) ?_
  simp [go_sem]
  refine HCallK_of (.p (.int .i64 (usualL (ofL false 1 97 false)))) rfl rfl (fun _ => pcallA_of 14 (look_nil (ofL false 1 97 false)) rfl ⟨rfl, by simp [Try.f14]⟩ ⟨by simp [go_sem], by simp [go_sem]⟩) ?_
  rw [show usualL (ofL false 1 97 false) = 1 from by decide]
  simp [go_sem]
  refine ⟨rfl, ?_⟩
  refine HCallK_of (.p (strokeP (ofL false 1 97 true))) rfl rfl (fun _ => pcallA_of 10 (of_cr false 1 97 true (.opq (.slice none 0 0))) rfl ⟨rfl, by simp [Try.f10]⟩ ⟨by simp [go_sem], by simp [go_sem]⟩) ?_
  simp [go_sem]
  refine HCallK_of (.p (.int .i64 (usualL (ofL false 1 97 true)))) rfl rfl (fun _ => pcallA_of 14 (look_nil (ofL false 1 97 true)) rfl ⟨rfl, by simp [Try.f14]⟩ ⟨by simp [go_sem], by simp [go_sem]⟩) ?_
  rw [show usualL (ofL false 1 97 true) = 0 from by decide]
  simp [go_sem]
  refine ⟨rfl, ?_⟩
  refine HCallK_of (.p (strokeP (ofL true 2 24 false))) rfl rfl (fun _ => pcallA_of 10 (of_cr true 2 24 false (.opq (.slice none 0 0))) rfl ⟨rfl, by simp [Try.f10]⟩ ⟨by simp [go_sem], by simp [go_sem]⟩) ?_
  simp [go_sem]
  refine HCallK_of (.p (.int .i64 (usualL (ofL true 2 24 false)))) rfl rfl (fun _ => pcallA_of 14 (look_nil (ofL true 2 24 false)) rfl ⟨rfl, by simp [Try.f14]⟩ ⟨by simp [go_sem], by simp [go_sem]⟩) ?_
  rw [show usualL (ofL true 2 24 false) = 18 from by decide]
  simp [go_sem]
  exact ret_is (.p (.bool true)) rfl (by simp [go_sem, resOf, leA]) ⟨rfl, rfl⟩
theorem bindof_cr (p : Bool) (k r : Int) (m : Bool) (x : PV) (_ : x.fits = true) (_ : x.cells = [x]) : CR Try.prog 3 [] [.p (.bool p), .p (.agg [.int .i64 k, .int .i32 r, .bool m, x])] [] (is (.p (.bool true))) := by
  refine CR_of_wp mixed 6 [] Try.func3 rfl (by kernel_rfl) rfl (by simp) (by simp) ?_
  simp [go_sem, Try.f3]
  refine ⟨⟨rfl, by simp [Try.f10]⟩, ?_⟩
  refine CallK_of [] (of_cr p k r m x) (by simp [go_sem]) ⟨by simp [go_sem], by simp [go_sem]⟩ (by simp [go_sem]) ?_
  rintro y rs ⟨rfl, rfl⟩
  by_cases h : k = 4
  · subst h
    simp [go_sem, strokeP, ofL]
    refine ⟨⟨rfl, by simp [Try.f11]⟩, ?_⟩
    refine CallK_of [] awake_cr (by simp [go_sem]) ⟨by simp [go_sem], by simp [go_sem]⟩ (by simp [go_sem]) ?_
    rintro y rs ⟨rfl, rfl⟩
    simp [go_sem]
    exact ret_is (.p (.bool true)) rfl (by simp [go_sem, resOf, leA]) ⟨rfl, rfl⟩
  · simp [go_sem, strokeP, ofL, h]
    refine ⟨⟨rfl, by simp [Try.f11]⟩, ?_⟩
    refine CallK_of [] awake_cr (by simp [go_sem]) ⟨by simp [go_sem], by simp [go_sem]⟩ (by simp [go_sem]) ?_
    rintro y rs ⟨rfl, rfl⟩
    simp [go_sem]
    exact ret_is (.p (.bool true)) rfl (by simp [go_sem, resOf, leA]) ⟨rfl, rfl⟩
end Go.Proofs.Ytjgfmanahimpoaa
