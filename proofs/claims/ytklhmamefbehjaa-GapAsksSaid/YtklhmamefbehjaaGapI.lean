/- A part of the proof of this seat's statements, by an abstract machine: what each operation does to values, proved over the model, whatever the program. No condition beyond those that stand. -/
import Derived.Test.YtklhmamefbehjaaGapH
namespace Go.Proofs.Ytklhmamefbehjaa
open Go.AM
set_option maxHeartbeats 400000
set_option maxRecDepth 10000
def atV (l : List Int) (i : Int) : Int := if 0 ≤ i then l.getD i.toNat 0 else 0
def atB (l : List Int) (i : Int) : Bool := decide (0 ≤ i) && decide (i < l.length)
def atR (l : List Int) (f t : Nat) (i : Int) : AV → List (Tok × List AV) → Prop := fun x rs => rs = gapR l f t ∧ x = .tup [.p (.int .i64 (atV (held l f t) i)), .p (.bool (atB (held l f t) i))]
theorem atV_out (l : List Int) (i : Int) (h : i < 0 ∨ (l.length : Int) ≤ i) : atV l i = 0 := by
  unfold atV
  split
  · rw [List.getD_eq_getElem?_getD, List.getElem?_eq_none (by omega)]; rfl
  · rfl
theorem atV_in (l : List Int) (n : Nat) (h : n < l.length) : atV l n = l[n] := by
  unfold atV
  rw [if_pos (by omega), List.getD_eq_getElem?_getD]
  simp [h]
theorem at_cr (l : List Int) (f t : Nat) (i : Int) (h1 : f ≤ t) (h2 : t ≤ l.length) (h3 : (l.length : Int) ≤ 4398046511104) :
    CR Try.prog 12 gapT [.lp [0] 0, .p (.int .i64 i)] (gapR l f t) (atR l f t i) := by
  have hl := held_length l f t h1 h2
  refine CR_of_wp mixed 7 [] Try.func12 rfl (by kernel_rfl) rfl (by simp) (by simp) ?_
  simp (disch := omega) [go_sem, Try.f12, gapR, gapT, wrap64]
  refine ⟨fun h => ?_, fun h => ⟨h, ?_⟩⟩
  · refine ⟨⟨rfl, by simp [Try.f8]⟩, ?_⟩
    refine CallK_of [([0], [0]), ([0, 0], [0, 0])] (len_cr l f t h1 h2 (by omega)) (by simp [go_sem, gapT]) ⟨by simp [go_sem, h], by simp [go_sem]⟩ (by simp [go_sem, gapR]) ?_
    rintro x rs ⟨rfl, rfl⟩
    obtain ⟨n, rfl⟩ := Int.eq_ofNat_of_zero_le h
    have e1 : decide ((n : Int) < 0) = false := by simp
    simp (disch := omega) [go_sem, gapR, gapT, wrap64, e1]
    refine condK_if (fun h' => ?_) (fun h' => ?_)
    · simp (disch := omega) [go_sem, wrap64]
      refine ret_keep gapT (.tup [.p (.int .i64 0), .p (.bool false)]) (by simp [gapT]) (by simp [go_sem, resOf, leA, leP, leT]) ⟨by simp [go_sem, gapT, gapR], ?_⟩
      rw [atV_out _ _ (.inr (by rw [hl]; omega))]
      simp [atB, hl]
      omega
    · simp (disch := omega) [go_sem, wrap64]
      refine condK_if (fun h4 => ?_) (fun h4 => ?_)
      · have hb : atB (held l f t) n = true := by simp [atB, hl]; omega
        have hv : atV (held l f t) n = l[n]'(by omega) := by
          rw [atV_in _ _ (by rw [hl]; omega)]
          simp only [held]
          rw [List.getElem_append_left (by simp; omega), List.getElem_take]
        simp (disch := omega) [go_sem, wrap64]
        refine ⟨by omega, ?_⟩
        refine ret_keep gapT (.tup [.p (.int .i64 (l[n]'(by omega))), .p (.bool true)]) (by simp [gapT]) (by simp [go_sem, resOf, leA, leP, leT]) ⟨by simp [go_sem, gapT, gapR], ?_⟩
        rw [hb, hv]
      · have e2 : (n : Int) + t - f = (n + t - f : Nat) := by omega
        have hb : atB (held l f t) n = true := by simp [atB, hl]; omega
        have hv : atV (held l f t) n = l[n + t - f]'(by omega) := by
          rw [atV_in _ _ (by rw [hl]; omega)]
          simp only [held]
          rw [List.getElem_append_right (by simp; omega), List.getElem_drop]
          congr 1
          simp
          omega
        simp (disch := omega) [go_sem, wrap64, e2]
        refine ⟨by omega, ?_⟩
        refine ret_keep gapT (.tup [.p (.int .i64 (l[n + t - f]'(by omega))), .p (.bool true)]) (by simp [gapT]) (by simp [go_sem, resOf, leA, leP, leT]) ⟨by simp [go_sem, gapT, gapR], ?_⟩
        rw [hb, hv]
  · refine ret_keep gapT (.tup [.p (.int .i64 0), .p (.bool false)]) (by simp [gapT]) (by simp [go_sem, resOf, leA, leP, leT]) ⟨by simp [go_sem, gapT, gapR], ?_⟩
    rw [atV_out _ _ (.inl h)]
    simp [atB]
    omega
def sliceR (l : List Int) (a b : Int) : AV → List (Tok × List AV) → Prop := fun x rs => rs = [] ∧ x = .p (ints (sliced l a b))
def slSt (l : List Int) (a b : Int) (k : Nat) : St :=
  { n := 31, nv := 9, vs := [(0, .p (.sl 1 (isrc l))), (1, .p (.int .i64 a)), (2, .p (.int .i64 b)), (6, .p (.sl 1 (isrc []))), (7, .os [7] 1 (isrc (sliced (l.take k) a b))), (8, .p (.int .i64 k))], ts := [], rs := [] }
theorem sliced_snoc (l : List Int) (a b : Int) (k : Nat) (h : k < l.length) : sliced (l.take (k + 1)) a b = sliced (l.take k) a b ++ (if a ≤ k ∧ (k : Int) < b then [l[k]] else []) := by
  unfold sliced
  split
  · rename_i hc
    have e1 : (l.take (k + 1)).take b.toNat = l.take (k + 1) := List.take_of_length_le (by simp; omega)
    have e2 : (l.take k).take b.toNat = l.take k := List.take_of_length_le (by simp; omega)
    rw [e1, e2, List.take_succ_eq_append_getElem h, List.drop_append_of_le_length (by simp; omega)]
  · rename_i hc
    rw [List.append_nil]
    by_cases hb : (k : Int) < b
    · have ha : (k : Int) < a := by omega
      rw [List.drop_eq_nil_of_le (by simp; omega), List.drop_eq_nil_of_le (by simp; omega)]
    · rw [List.take_take, List.take_take]
      congr 2
      omega
theorem refslice_cr (l : List Int) (a b : Int) (h : l.length ≤ 100000) : CR Try.prog 14 [] [.p (ints l), .p (.int .i64 a), .p (.int .i64 b)] [] (sliceR l a b) := by
  refine CR_of_wp mixed 9 [] Try.func14 rfl (by kernel_rfl) rfl (by simp) (by simp) ?_
  simp (disch := omega) [go_sem, Try.f14, ints, wrap64]
  refine wpA_loop (fun k : Nat => k ≤ l.length) (slSt l a b) (fun k => l.length - k) 0 (by simp) (by simp [go_sem, LeS, leV, leR, leA, leL, slSt, sliced]) ?_
  intro k hk
  simp (disch := omega) [go_sem, wrap64, slSt]
  refine condK_if (fun h' => ?_) (fun h' => ?_)
  · have hlen : (sliced (l.take k) a b).length ≤ k := by simp [sliced]; omega
    simp (disch := omega) [go_sem, wrap64]
    refine condK_split (fun h'' => ?_) (fun h'' => ?_)
    · simp only [Bool.and_eq_true, decide_eq_true_eq] at h''
      simp (disch := omega) [go_sem, wrap64]
      refine ⟨by omega, by omega, ?_⟩
      refine LoopK_next (k + 1) (by omega) ?_ (by omega)
      simp [go_sem, LeS, leV, leR, leA, leL, slSt, sliced_snoc l a b k h', if_pos h'', isrc]
    · simp (disch := omega) [go_sem, wrap64]
      have hn : ¬ (a ≤ (k : Int) ∧ (k : Int) < b) := by simpa using h''
      refine LoopK_next (k + 1) (by omega) ?_ (by omega)
      simp [go_sem, LeS, leV, leR, leA, leL, slSt, sliced_snoc l a b k h', if_neg hn]
  · simp (disch := omega) [go_sem, wrap64]
    have hk' : k = l.length := by omega
    subst hk'
    exact ret_is (.p (ints (sliced l a b))) rfl (by simp [go_sem, resOf, leA, ints]) ⟨rfl, rfl⟩
end Go.Proofs.Ytklhmamefbehjaa
