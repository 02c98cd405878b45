/- A part of the proof of this seat's statements, by an abstract machine: what each operation does to values, proved over the model, whatever the program. No condition beyond those that stand. -/
import Derived.Test.YtklhmamefbehjaaGapC
namespace Go.Proofs.Ytklhmamefbehjaa
open Go.AM
set_option maxHeartbeats 400000
set_option maxRecDepth 10000
@[go_sem] theorem isrc_cut (l : List Int) (a b : Int) : cut (isrc l) a b = isrc (cut l a b) := by simp [cut, isrc]
def okL (l : List Int) (a b : Int) : Bool := decide (0 ≤ a ∧ a ≤ b ∧ b ≤ l.length)
def refS (l : List Int) (a b : Int) (ins : List Int) : List Int := if okL l a b = true then spliced l a.toNat b.toNat ins else l
theorem refsplice_cr (l : List Int) (a b : Int) (ins : List Int) (h1 : (l.length : Int) ≤ 4398046511104) (h2 : (ins.length : Int) ≤ 4398046511104) :
    CR Try.prog 6 [] [.p (ints l), .p (.int .i64 a), .p (.int .i64 b), .p (ints ins)] [] fun x rs => rs = [] ∧ x = .tup [.p (ints (refS l a b ins)), .p (.bool (okL l a b))] := by
  refine CR_of_wp mixed 11 [] Try.func6 rfl (by kernel_rfl) rfl (by simp) (by simp) ?_
  simp (disch := omega) [go_sem, Try.f6, ints, wrap64]
  refine condK_split (fun h => ?_) (fun h => ?_)
  · simp (disch := omega) [go_sem, wrap64]
    have hno : okL l a b = false := by simp at h; simp [okL]; omega
    refine ret_is (.tup [.p (ints l), .p (.bool false)]) (by simp) (by simp [go_sem, resOf, leA, ints]) ⟨rfl, ?_⟩
    rw [refS, hno]; simp [ints]
  · have hyes : okL l a b = true := by simp at h; simp [okL]; omega
    have hh : 0 ≤ a ∧ a ≤ b ∧ b ≤ l.length := by simpa [okL] using hyes
    obtain ⟨A, rfl⟩ := Int.eq_ofNat_of_zero_le hh.1
    obtain ⟨B, rfl⟩ := Int.eq_ofNat_of_zero_le (show 0 ≤ b by omega)
    have c1 : cut l 0 (A : Int) = l.take A := by simp [cut]
    have c2 : cut l (B : Int) (l.length : Int) = l.drop B := by
      have : (l.drop B).length = l.length - B := by simp
      simp only [cut, Int.toNat_natCast]
      rw [← this, List.take_length]
    have n1 : A ≤ l.length := by omega
    have n2 : B ≤ l.length := by omega
    simp (disch := omega) [go_sem, wrap64, c1, c2]
    repeat' apply And.intro
    all_goals try omega
    refine ret_is (.tup [.p (ints (spliced l A B ins)), .p (.bool true)]) (by simp) (by simp [go_sem, resOf, leA, ints, spliced]) ⟨rfl, ?_⟩
    rw [refS, hyes]; simp [ints]
end Go.Proofs.Ytklhmamefbehjaa
