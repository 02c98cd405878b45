/- What strings.Cut, and the document's small functions, do, as contracts of the abstract machine. Conditions: as each law says. -/
import Derived.Test.YtlmejofikpnbpaaDoorA
import Derived.Lib.IndexLaws
namespace Go.Proofs.YtlmejofikpnbpaaDoor
open Go.AM
set_option maxHeartbeats 1600000
set_option maxRecDepth 10000
theorem indexByte_lt (l : List UInt8) (c : UInt8) : Lib.indexByte l c < l.length := by
  by_cases h : Lib.indexByte l c < 0
  · omega
  · obtain ⟨k, hk⟩ : ∃ k : Nat, Lib.indexByte l c = k := ⟨(Lib.indexByte l c).toNat, by omega⟩
    have h1 := (Lib.indexByte_some hk).1
    have := (List.getElem?_eq_some_iff.1 h1).1
    omega
theorem wrap8 {x : Int} (h1 : 0 ≤ x) (h2 : x ≤ 255) : IntKind.u8.wrap x = x := by
  simp only [IntKind.wrap, IntKind.signed, IntKind.bits]
  simp
  omega
/-- A text, cut at the first such byte. -/
def cutL (s : List UInt8) (c : UInt8) : List UInt8 × List UInt8 × Bool :=
  if 0 ≤ Lib.indexByte s c then (cut s 0 (Lib.indexByte s c), cut s (Lib.indexByte s c + 1) s.length, true) else (s, [], false)
theorem cut1_cr [Evs] (s : List UInt8) (c : UInt8) (hs : s.length ≤ 4611686018427387904) : CR Tryd.prog 40 [] [.p (.str s), .p (.str [c])] [] (is (.tup [.p (.str (cutL s c).1), .p (.str (cutL s c).2.1), .p (.bool (cutL s c).2.2)])) := by
  have hi := index1_cr s c
  have h1 := indexByte_lt s c
  have h2 := Lib.indexByte_ge s c
  unfold cutL
  generalize Lib.indexByte s c = k at *
  refine CR_of_wpD [3] mixed 8 [] Tryd.func40 rfl (by kernel_rfl) rfl (by simp) (by simp) ?_
  simp (maxSteps := 1000000) [go_sem, Tryd.f40]
  refine ⟨⟨rfl, by simp [Tryd.f46]⟩, CallK_of [] hi (by simp [go_sem]) ⟨by simp [go_sem], by simp [go_sem]⟩ (by simp [go_sem]) ?_⟩
  rintro y rs ⟨rfl, rfl⟩
  simp (maxSteps := 1000000) [go_sem]
  refine condK_if (fun h => ?_) (fun h => ?_)
  · have e : IntKind.i64.wrap (k + 1) = k + 1 := wrap64 (by omega) (by omega)
    simp (maxSteps := 1000000) (disch := omega) [go_sem, e]
    refine ⟨⟨by omega, by omega⟩, ⟨by omega, by omega⟩, ?_⟩
    exact ret_is (.tup [.p (.str (cut s 0 k)), .p (.str (cut s (k + 1) s.length)), .p (.bool true)]) rfl (by simp [go_sem, resOf, leA]) ⟨rfl, by simp [h]⟩
  · simp (maxSteps := 1000000) [go_sem]
    exact ret_is (.tup [.p (.str s), .p (.str []), .p (.bool false)]) rfl (by simp [go_sem, resOf, leA]) ⟨rfl, by simp [h]⟩
theorem cut_cr [Evs] (s : List UInt8) (c : UInt8) (hs : s.length ≤ 4611686018427387904) : CR Tryd.prog 27 [] [.p (.str s), .p (.str [c])] [] (is (.tup [.p (.str (cutL s c).1), .p (.str (cutL s c).2.1), .p (.bool (cutL s c).2.2)])) := by
  have hi := cut1_cr s c hs
  generalize (cutL s c).1 = x at *
  generalize (cutL s c).2.1 = y at *
  generalize (cutL s c).2.2 = z at *
  refine CR_of_wp mixed 7 [] Tryd.func27 rfl (by kernel_rfl) rfl (by simp) (by simp) ?_
  simp (maxSteps := 1000000) [go_sem, Tryd.f27]
  refine ⟨⟨rfl, by simp [Tryd.f40]⟩, CallK_of [] hi (by simp [go_sem]) ⟨by simp [go_sem], by simp [go_sem]⟩ (by simp [go_sem]) ?_⟩
  rintro _ rs ⟨rfl, rfl⟩
  simp (maxSteps := 1000000) [go_sem]
  exact ret_is (.tup [.p (.str x), .p (.str y), .p (.bool z)]) rfl (by simp [go_sem, resOf, leA]) ⟨rfl, rfl⟩
/-- What a digit is worth; -1: it is none. -/
def digV (c : UInt8) : Int := if 48 ≤ (c.toNat : Int) ∧ (c.toNat : Int) ≤ 57 then (c.toNat : Int) - 48 else if 97 ≤ (c.toNat : Int) ∧ (c.toNat : Int) ≤ 102 then (c.toNat : Int) - 87 else -1
theorem digit_cr [Evs] (c : UInt8) : CR Tryd.prog 32 [] [.p (.int .u8 (c.toNat : Int))] [] (is (.p (.int .i64 (digV c)))) := by
  have hc : (c.toNat : Int) < 256 := by have := c.toNat_lt; omega
  unfold digV
  generalize (c.toNat : Int) = n at *
  refine CR_of_wp mixed 3 [] Tryd.func32 rfl (by kernel_rfl) rfl (by simp) (by simp) ?_
  by_cases h1 : 48 ≤ n ∧ n ≤ 57
  · have e1 : IntKind.u8.wrap (n - 48) = n - 48 := wrap8 (by omega) (by omega)
    have e2 : IntKind.i64.wrap (n - 48) = n - 48 := wrap64 (by omega) (by omega)
    simp (maxSteps := 1000000) [go_sem, Tryd.f32, h1.1, h1.2, e1, e2]
    exact ret_is (.p (.int .i64 (n - 48))) rfl (by simp [go_sem, resOf, leA]) ⟨rfl, by simp⟩
  · have e0 : (decide (48 ≤ n) && decide (n ≤ 57)) = false := by simp; omega
    by_cases h2 : 97 ≤ n ∧ n ≤ 102
    · have e1 : IntKind.u8.wrap (n - 97) = n - 97 := wrap8 (by omega) (by omega)
      have e2 : IntKind.i64.wrap (n - 97) = n - 97 := wrap64 (by omega) (by omega)
      have e3 : IntKind.i64.wrap (n - 97 + 10) = n - 97 + 10 := wrap64 (by omega) (by omega)
      simp (maxSteps := 1000000) [go_sem, Tryd.f32, e0, h2.1, h2.2, e1, e2, e3]
      exact ret_is (.p (.int .i64 (n - 97 + 10))) rfl (by simp [go_sem, resOf, leA]) ⟨rfl, by simp [h1]; omega⟩
    · have e4 : (decide (97 ≤ n) && decide (n ≤ 102)) = false := by simp; omega
      simp (maxSteps := 1000000) [go_sem, Tryd.f32, e0, e4]
      exact ret_is (.p (.int .i64 (-1))) rfl (by simp [go_sem, resOf, leA]) ⟨rfl, by simp [h1, h2]⟩
def beg (s p : List UInt8) : Bool := decide (p.length ≤ s.length) && decide (cut s 0 p.length = p)
theorem begins_cr [Evs] (s p : List UInt8) : CR Tryd.prog 30 [] [.p (.str s), .p (.str p)] [] (is (.p (.bool (beg s p)))) := by
  refine CR_of_wp mixed 5 [] Tryd.func30 rfl (by kernel_rfl) rfl (by simp) (by simp) ?_
  simp (maxSteps := 1000000) (disch := omega) [go_sem, Tryd.f30]
  exact ret_is (.p (.bool (beg s p))) rfl (by simp [go_sem, resOf, leA, beg]) ⟨rfl, rfl⟩
end Go.Proofs.YtlmejofikpnbpaaDoor
