/- Chapter 37's example, and ScriptParses, as contracts of the abstract machine. Conditions: as each law says. -/
import Derived.Test.YtlmejofikpnbpaaDoorI1
namespace Go.Proofs.YtlmejofikpnbpaaDoor
open Go.AM
set_option maxHeartbeats 1600000
set_option maxRecDepth 10000
def exT : List UInt8 := [98, 121, 116, 101, 115, 32, 54, 49, 10, 116, 105, 99, 107, 10, 115, 105, 122, 101, 32, 51, 32, 56, 48, 10]
def exE : List Ev := [⟨1, 97, 0, 0⟩, ⟨2, 0, 0, 0⟩, ⟨3, 0, 3, 80⟩]
theorem ex_eq : parseP exT = (exE, 0, 0) := by decide +kernel
theorem awake_cr [Evs] : CR Tryd.prog 11 [] [] [] (is (.p (.bool true))) := by
  have k1 := parse_cr exT
  rw [ex_eq] at k1
  have k2 := same_cr exE exE (by decide)
  simp only [decide_true] at k2
  refine CR_of_wp mixed 4 [] Tryd.func11 rfl (by kernel_rfl) rfl (by simp) (by simp) ?_
  simp (maxSteps := 1000000) [go_sem, Tryd.f11]
  refine ⟨⟨rfl, by simp [Tryd.f8]⟩, CallK_of [] k1 (by simp [go_sem]) ⟨by simp [go_sem], by simp [go_sem, exT]⟩ (by simp [go_sem]) ?_⟩
  rintro y rs ⟨rfl, rfl⟩
  simp (maxSteps := 1000000) [go_sem]
  refine ⟨rfl, ⟨rfl, by simp [Tryd.f10]⟩, CallK_of [] k2 (by simp [go_sem]) ⟨by simp [go_sem], by simp [go_sem, evsP, exE, evP]⟩ (by simp [go_sem]) ?_⟩
  rintro y rs ⟨rfl, rfl⟩
  simp (maxSteps := 1000000) [go_sem]
  exact ret_is (.p (.bool true)) rfl (by simp [go_sem, resOf, leA]) ⟨rfl, rfl⟩
theorem goV_len : ∀ (ls : List (List UInt8)) (n : Nat) (out : List Ev), out.length ≤ 65536 → (goV ls n out).1.length ≤ 65536
  | [], _, _, h => h
  | l :: ls, n, out, h => by
    unfold goV
    split
    · simp
    · split
      · simp
      · exact goV_len ls _ _ (by simp; omega)
theorem parseV_len (s : List UInt8) : (parseV s).1.length ≤ 65536 := by
  unfold parseV
  split
  · simp
  · exact goV_len _ _ _ (by simp)
theorem parses_cr [Evs] (s : List UInt8) : CR Tryd.prog 3 [] [.p (.str s)] [] (is (.p (.bool true))) := by
  have main : ∀ u : List UInt8, ∃ es : List Ev, ∃ a b : Nat, CR Tryd.prog 8 [] [.p (.str u)] [] (parseR (es, a, b)) ∧ CR Tryd.prog 9 [] [.p (.str u)] [] (resR (es, a, b)) ∧ CR Tryd.prog 10 [] [.p (evsP es), .p (evsP es)] [] (is (.p (.bool true))) := fun u => by
    have k1 := parse_cr u
    have k2 := rparse_cr u
    have k3 := same_cr (parseV u).1 (parseV u).1 (by have := parseV_len u; omega)
    rw [parse_eq] at k1
    simp only [decide_true] at k3
    exact ⟨_, _, _, k1, k2, k3⟩
  refine CR_of_wp mixed 9 [] Tryd.func3 rfl (by kernel_rfl) rfl (by simp) (by simp) ?_
  simp (maxSteps := 1000000) [go_sem, Tryd.f3]
  refine condK_join (ι := List UInt8 × List (Nat × AV)) (fun i => { n := 42, nv := 9, vs := [(0, .p (.str i.1)), (2, .p (.bool false))], ts := i.2, rs := [] }) (condK_if (fun h => ?_) (fun h => ?_)) ?_
  · simp (maxSteps := 1000000) [go_sem]
    refine ⟨by omega, JoinK_in ⟨cut s 0 5000, _⟩ rfl⟩
  · simp (maxSteps := 1000000) [go_sem]
    exact JoinK_in ⟨s, _⟩ rfl
  rintro ⟨u, ts⟩
  obtain ⟨es, a, b, k1, k2, k3⟩ := main u
  have k4 := awake_cr
  simp (maxSteps := 1000000) [go_sem]
  refine ⟨⟨rfl, by simp [Tryd.f8]⟩, CallK_of [] k1 (by simp [go_sem]) ⟨by simp [go_sem], by simp [go_sem]⟩ (by simp [go_sem]) ?_⟩
  rintro y rs ⟨rfl, rfl⟩
  simp (maxSteps := 1000000) [go_sem]
  refine ⟨⟨rfl, by simp [Tryd.f9]⟩, CallK_of [] k2 (by simp [go_sem]) ⟨by simp [go_sem], by simp [go_sem]⟩ (by simp [go_sem]) ?_⟩
  rintro y rs ⟨rfl, rfl⟩
  simp (maxSteps := 1000000) [go_sem, evsP]
  refine ⟨⟨rfl, by simp [Tryd.f10]⟩, CallK_of [] k3 (by simp [go_sem]) ⟨by simp [go_sem], by simp [go_sem, evsP]⟩ (by simp [go_sem]) ?_⟩
  rintro y rs ⟨rfl, rfl⟩
  simp (maxSteps := 1000000) [go_sem]
  refine ⟨⟨rfl, by simp [Tryd.f11]⟩, CallK_of [] k4 (by simp [go_sem]) ⟨by simp [go_sem], by simp [go_sem]⟩ (by simp [go_sem]) ?_⟩
  rintro y rs ⟨rfl, rfl⟩
  simp (maxSteps := 1000000) [go_sem]
  exact ret_is (.p (.bool true)) rfl (by simp [go_sem, resOf, leA]) ⟨rfl, rfl⟩
/-- A text's bytes, one by one. -/
def bytesE (s : List UInt8) : List Ev := s.map fun b => ⟨1, (b.toNat : Int), 0, 0⟩
theorem bytes_cr [Evs] (s : List UInt8) (hs : s.length ≤ 2000) : CR Tryd.prog 12 [] [.p (.str s)] [] (fun x rs => rs = [] ∧ x = .os [2] 4 ((bytesE s).map evP)) := by
  refine CR_of_wp mixed 10 [] Tryd.func12 rfl (by kernel_rfl) rfl (by simp) (by simp) ?_
  simp (maxSteps := 1000000) [go_sem, Tryd.f12]
  refine wpA_loop (fun i : Nat => i ≤ s.length) (fun i => { n := 20, nv := 10, vs := [(0, .p (.str s)), (2, .p (.sl 4 [])), (3, .os [3] 4 ((bytesE (s.take i)).map evP)), (7, .p (.sl 1 (byteVs s))), (8, .p (.int .i64 s.length)), (9, .p (.int .i64 i))], ts := [], rs := [] }) (fun i => s.length - i) 0 (by simp) (by simp [go_sem, LeS, leV, leR, leA, bytesE, byteVs]) ?_
  rintro i hi
  simp (maxSteps := 1000000) [go_sem]
  refine condK_if (fun h => ?_) (fun h => ?_)
  · have h' : i < s.length := by omega
    have em := elemAt_map (fun c : UInt8 => PV.int .u8 (c.toNat : Int)) s i h'
    have hl : (byteVs s).length = s.length := by simp [byteVs]
    simp (maxSteps := 1000000) (disch := omega) [go_sem, byteVs, em, h']
    have eB : bytesE (s.take (i + 1)) = bytesE (s.take i) ++ [⟨1, (s[i].toNat : Int), 0, 0⟩] := by
      unfold bytesE; rw [List.take_succ_eq_append_getElem h', List.map_append]; rfl
    have eL : (bytesE (s.take i)).length = i := by simp [bytesE]; omega
    have eW : IntKind.i64.wrap ((i : Int) + 1) = (i : Int) + 1 := wrap64 (by omega) (by omega)
    exact ⟨by omega, LoopK_next (i + 1) (by omega) (by simp [go_sem, LeS, leV, leR, leA, eB, eW, evP]) (by omega)⟩
  · have hk : i = s.length := by omega
    subst hk
    simp (maxSteps := 1000000) [go_sem]
    exact ret_is (.os [2] 4 ((bytesE s).map evP)) rfl (by simp [go_sem, resOf, leA]) ⟨rfl, rfl⟩
theorem sbytes_cr [Evs] (s : List UInt8) : CR Tryd.prog 4 [] [.p (.str s)] [] (is (.p (.bool true))) := by
  refine CR_of_wp mixed 5 [] Tryd.func4 rfl (by kernel_rfl) rfl (by simp) (by simp) ?_
  simp (maxSteps := 1000000) [go_sem, Tryd.f4]
  refine condK_join (ι := { u : List UInt8 // u.length ≤ 2000 } × List (Nat × AV)) (fun i => { n := 33, nv := 5, vs := [(0, .p (.str i.1.1)), (2, .p (.bool false))], ts := i.2, rs := [] }) (condK_if (fun h => ?_) (fun h => ?_)) ?_
  · simp (maxSteps := 1000000) [go_sem]
    refine ⟨by omega, JoinK_in ⟨⟨cut s 0 2000, by simp [cut]; omega⟩, _⟩ rfl⟩
  · simp (maxSteps := 1000000) [go_sem]
    exact JoinK_in ⟨⟨s, by omega⟩, _⟩ rfl
  rintro ⟨⟨u, hu⟩, ts⟩
  have k1 := bytes_cr u hu
  have k4 := awake_cr
  have hl : (bytesE u).length = u.length := by simp [bytesE]
  simp (maxSteps := 1000000) [go_sem]
  refine ⟨⟨rfl, by simp [Tryd.f12]⟩, CallK_of [] k1 (by simp [go_sem]) ⟨by simp [go_sem], by simp [go_sem]⟩ (by simp [go_sem]) ?_⟩
  rintro y rs ⟨rfl, rfl⟩
  simp (maxSteps := 1000000) [go_sem, hl]
  refine wpA_loop (fun i : Nat => i ≤ u.length) (fun i => { n := 33, nv := 5, vs := [(0, .p (.str u)), (2, .p (.bool false)), (3, .os [3] 4 ((bytesE u).map evP)), (4, .p (.int .i64 i))], ts := [], rs := [] }) (fun i => u.length - i) 0 (by simp) (by simp [go_sem, LeS, leV, leR, leA]) ?_
  rintro i hi
  simp (maxSteps := 1000000) [go_sem]
  refine condK_if (fun h => ?_) (fun h => ?_)
  · have h' : i < u.length := by omega
    have hb : i < (bytesE u).length := by omega
    have em := elemAt_map evP (bytesE u) i hb
    have eg : (bytesE u)[i] = ⟨1, (u[i].toNat : Int), 0, 0⟩ := by simp [bytesE]
    have eW : IntKind.i64.wrap ((i : Int) + 1) = (i : Int) + 1 := wrap64 (by omega) (by omega)
    have hc := strAt_at u i h'
    rw [eg] at em
    simp (maxSteps := 1000000) (disch := omega) [go_sem, em, h', evP, hc, hl, eW]
    exact LoopK_next (i + 1) (by omega) (by simp [go_sem, LeS, leV, leR, leA]) (by omega)
  · simp (maxSteps := 1000000) [go_sem]
    refine ⟨⟨rfl, by simp [Tryd.f11]⟩, CallK_of [] k4 (by simp [go_sem]) ⟨by simp [go_sem], by simp [go_sem]⟩ (by simp [go_sem]) ?_⟩
    rintro y rs ⟨rfl, rfl⟩
    simp (maxSteps := 1000000) [go_sem]
    exact ret_is (.p (.bool true)) rfl (by simp [go_sem, resOf, leA]) ⟨rfl, rfl⟩
end Go.Proofs.YtlmejofikpnbpaaDoor
