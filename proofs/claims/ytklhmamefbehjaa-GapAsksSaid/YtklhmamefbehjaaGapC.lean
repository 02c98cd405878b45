/- A part of the proof of this seat's statements, by an abstract machine: what each operation does to values, proved over the model, whatever the program. No condition beyond those that stand. -/
import Derived.Test.YtklhmamefbehjaaGapB
namespace Go.Proofs.Ytklhmamefbehjaa
open Go.AM
set_option maxHeartbeats 400000
set_option maxRecDepth 10000
def spliced (l : List Int) (a b : Nat) (ins : List Int) : List Int := l.take a ++ ins ++ l.drop b
theorem held_splice (l1 l2 l3 H ins : List Int) (A B t1 t2 t3 : Nat) (hH : held l1 A t1 = H) (hA : A ≤ t1) (hB : A ≤ B) (h2 : t2 = t1 + B - A) (h1 : t2 ≤ l1.length) (hl2 : l2 = l1.take t1 ++ (List.replicate (t2 - t1) 0 ++ l1.drop t2))
    (r1 : A + ins.length ≤ t3) (r2 : t3 ≤ l3.length) (r4 : held l3 A t3 = held l2 A t2) : held (l3.take A ++ (ins ++ l3.drop (A + ins.length))) (A + ins.length) t3 = spliced H A B ins := by
  have q1 : l2.take A = l1.take A := by rw [hl2]; (apply List.ext_getElem?; intro j; simp only [List.getElem?_append, List.getElem?_take, List.getElem?_drop, List.length_append, List.length_take, List.length_drop, List.getElem?_replicate, List.length_replicate]; (repeat' split); all_goals first | rfl | omega | (congr 1; omega) | (symm; apply List.getElem?_eq_none; omega) | (apply List.getElem?_eq_none; omega))
  have q2 : l2.drop t2 = l1.drop t2 := by rw [hl2]; (apply List.ext_getElem?; intro j; simp only [List.getElem?_append, List.getElem?_take, List.getElem?_drop, List.length_append, List.length_take, List.length_drop, List.getElem?_replicate, List.length_replicate]; (repeat' split); all_goals first | rfl | omega | (congr 1; omega) | (symm; apply List.getElem?_eq_none; omega) | (apply List.getElem?_eq_none; omega))
  unfold held at r4
  obtain ⟨p1, p2⟩ := List.append_inj r4 (by rw [hl2]; simp; omega)
  have e1 : held (l3.take A ++ (ins ++ l3.drop (A + ins.length))) (A + ins.length) t3 = l3.take A ++ ins ++ l3.drop t3 := by
    unfold held
    (apply List.ext_getElem?; intro j; simp only [List.getElem?_append, List.getElem?_take, List.getElem?_drop, List.length_append, List.length_take, List.length_drop, List.getElem?_replicate, List.length_replicate]; (repeat' split); all_goals first | rfl | omega | (congr 1; omega) | (symm; apply List.getElem?_eq_none; omega) | (apply List.getElem?_eq_none; omega))
  have e2 : H.take A = l1.take A := by rw [← hH]; unfold held; (apply List.ext_getElem?; intro j; simp only [List.getElem?_append, List.getElem?_take, List.getElem?_drop, List.length_append, List.length_take, List.length_drop, List.getElem?_replicate, List.length_replicate]; (repeat' split); all_goals first | rfl | omega | (congr 1; omega) | (symm; apply List.getElem?_eq_none; omega) | (apply List.getElem?_eq_none; omega))
  have e3 : H.drop B = l1.drop t2 := by rw [← hH]; unfold held; (apply List.ext_getElem?; intro j; simp only [List.getElem?_append, List.getElem?_take, List.getElem?_drop, List.length_append, List.length_take, List.length_drop, List.getElem?_replicate, List.length_replicate]; (repeat' split); all_goals first | rfl | omega | (congr 1; omega) | (symm; apply List.getElem?_eq_none; omega) | (apply List.getElem?_eq_none; omega))
  rw [e1, p1, p2, q1, q2]
  unfold spliced
  rw [e2, e3]
def okS (l : List Int) (f t : Nat) (a b : Int) : Bool := decide (0 ≤ a ∧ a ≤ b ∧ b + t ≤ l.length + f)
def spliceR (l : List Int) (f t : Nat) (a b : Int) (ins : List Int) : AV → List (Tok × List AV) → Prop := fun x rs => ∃ (l' : List Int) (f' t' : Nat), rs = gapR l' f' t' ∧ f' ≤ t' ∧ t' ≤ l'.length ∧ (l'.length = l.length ∨ t < f + ins.length ∧ l'.length = 2 * l.length + ins.length) ∧ x = .p (.bool (okS l f t a b)) ∧
  held l' f' t' = if okS l f t a b = true then spliced (held l f t) a.toNat b.toNat ins else held l f t
theorem splice_cr (l : List Int) (f t : Nat) (a b : Int) (ins : List Int) (h1 : f ≤ t) (h2 : t ≤ l.length) (h3 : (2 * l.length + ins.length : Int) ≤ 17592186044416) :
    CR Try.prog 7 [[0]] [.lp [0] 0, .p (.int .i64 a), .p (.int .i64 b), .p (ints ins)] (gapR l f t) (spliceR l f t a b ins) := by
  refine CR_of_wp mixed 9 [] Try.func7 rfl (by kernel_rfl) rfl (by simp) (by simp) ?_
  simp (disch := omega) [go_sem, Try.f7, gapR, gapT, ints, wrap64]
  refine ⟨fun ha hab => ⟨⟨rfl, by simp [Try.f8]⟩, ?_⟩, ?_⟩
  · refine CallK_of [([0], [0]), ([0, 0], [0, 0])] (len_cr l f t h1 h2 (by omega)) (by simp [go_sem, gapT]) ⟨by simp [go_sem]; omega, by simp [go_sem, ha, hab]⟩ (by simp [go_sem, gapR]) ?_
    rintro x rs ⟨rfl, rfl⟩
    obtain ⟨A, rfl⟩ := Int.eq_ofNat_of_zero_le ha
    obtain ⟨B, rfl⟩ := Int.eq_ofNat_of_zero_le (show 0 ≤ b by omega)
    have hab' : ¬ (B : Int) < A := by omega
    have hA' : ¬ (A : Int) < 0 := by omega
    simp (disch := omega) [go_sem, gapR, gapT, ints, wrap64, hA', hab']
    refine condK_if (fun h => ?_) (fun h => ?_)
    · simp (disch := omega) [go_sem, wrap64]
      have hno : okS l f t A B = false := by simp [okS]; omega
      refine ret_keep gapT (.p (.bool false)) (by simp [gapT]) (by simp [go_sem, resOf, leA]) ?_
      refine ⟨l, f, t, ?_, h1, h2, .inl rfl, by rw [hno], by rw [hno]; simp⟩
      simp [go_sem, gapR, gapT]
    · simp (disch := omega) [go_sem, wrap64]
      refine ⟨⟨rfl, by simp [Try.f15]⟩, CallK_of [([0], [0]), ([0, 0], [0, 0])] (move_cr l f t A h1 h2 (by omega) (by omega)) (by simp [go_sem, gapT]) ⟨by simp [go_sem], by simp [go_sem]⟩ (by simp [go_sem, gapR]) ?_⟩
      rintro x rs ⟨l1, rfl, hl1, hh1⟩
      obtain ⟨t1, ht1⟩ : ∃ t1 : Nat, t1 = A + t - f := ⟨_, rfl⟩
      rw [← ht1] at hh1 ⊢
      obtain ⟨t2, ht2⟩ : ∃ t2 : Nat, t2 = t1 + B - A := ⟨_, rfl⟩
      have e1 : ((t1 : Int) + (B : Int) - (A : Int)) = t2 := by omega
      have e2 : ((t1 : Int) + ((B : Int) - (A : Int))) = t2 := by omega
      simp (disch := omega) [go_sem, gapR, gapT, wrap64, e1, e2]
      refine ⟨by omega, by omega, ⟨rfl, by simp [Try.f16]⟩, ?_⟩
      obtain ⟨l2, hl2⟩ : ∃ l2, l2 = l1.take t1 ++ (List.replicate (t2 - t1) 0 ++ l1.drop t2) := ⟨_, rfl⟩
      have hl2n : l2.length = l1.length := by rw [hl2]; simp; omega
      rw [← hl2]
      refine CallK_of [([0], [0]), ([0, 0], [0, 0])] (room_cr l2 A t2 ins.length (by omega) (by omega) (by omega)) (by simp [go_sem, gapT]) ⟨by simp [go_sem], by simp [go_sem]⟩ (by simp [go_sem, gapR, hl2n]) ?_
      rintro x rs ⟨l3, t3, rfl, r1, r2, r3, r4⟩
      simp (disch := omega) [go_sem, gapR, gapT, wrap64]
      refine ⟨by omega, by omega, ?_⟩
      have hyes : okS l f t A B = true := by simp [okS]; omega
      refine ret_keep [[0], [0, 0]] (.p (.bool true)) (by simp) (by simp [go_sem, resOf, leA]) ?_
      refine ⟨l3.take A ++ (ins ++ l3.drop (A + ins.length)), A + ins.length, t3, ?_, r1, ?_, ?_, by rw [hyes], ?_⟩
      · simp [go_sem, gapR]; omega
      · simp; omega
      · simp; omega
      · rw [hyes]
        simpa using held_splice l1 l2 l3 (held l f t) ins A B t1 t2 t3 hh1 (by omega) (by omega) ht2 (by omega) hl2 r1 r2 r4
  · intro hno
    refine ⟨hno, by omega, ?_⟩
    have hno' : okS l f t a b = false := by simp [okS]; omega
    refine ret_keep gapT (.p (.bool false)) (by simp [gapT]) (by simp [go_sem, resOf, leA]) ?_
    refine ⟨l, f, t, ?_, h1, h2, .inl rfl, by rw [hno'], by rw [hno']; simp⟩
    simp [go_sem, gapR, gapT]
end Go.Proofs.Ytklhmamefbehjaa
