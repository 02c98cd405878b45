/- What the ring's functions do, as contracts of the abstract machine. Conditions: as each law says. -/
import Derived.Test.YtjgfmanahimpoaaRingB
import Derived.Test.YtjgfmanahimpoaaGro
import Derived.Test.YtjgfmanahimpoaaTy
namespace Go.Proofs.Ytjgfmanahimpoaa
open Go.AM
set_option maxHeartbeats 800000
set_option maxRecDepth 10000
theorem grow_cr (n : Nat) (hn : n * 4 ≤ 140737488355328) : CR Try.prog 66 [] [.p (.opq (.slice none 0 0)), .p (.int .i64 n)] [] (is (.os [0] 1 [])) := by
  intro w g vs hargs hG
  simp only [RepAL, RepA, RepP] at hargs
  obtain ⟨v, vs', rfl, rfl, v2, vs2, rfl, rfl, rfl⟩ := hargs
  rcases Nat.eq_zero_or_pos n with h0 | h0
  · subst h0
    refine (grow_zero w).mono ?_
    rintro e w' ⟨rfl, rfl⟩
    let g2 : Gh := ⟨g.fr, fun _ => .prot⟩
    exact ⟨_, .os [0] 1 [], [], g2, rfl, ⟨rfl, rfl⟩, by simp only [RepA, RepP]; exact ⟨.inl ⟨trivial, none, 0, rfl⟩, .inl ⟨none, 0, rfl⟩⟩, ⟨fun b t h => (by cases h), fun b b' t h => (by cases h), fun b b' t h => (by cases h), fun b h => absurd rfl h, hG.frb⟩,
      ⟨fun d _ _ => ⟨rfl, rfl, rfl⟩, Ext.refl _ _, ⟨rfl, rfl, rfl⟩, Nat.le_refl _, fun b t _ ht => (by cases ht)⟩⟩
  · obtain ⟨G, h1, h2, hc⟩ := grow_pos n w h0 hn
    refine hc.mono ?_
    rintro e w' ⟨rfl, hw⟩
    have hh : w'.heap[w.heap.size]? = some (.cells (Builtin.zeroCells (Value.int .i32 0).cells n ++ Builtin.zeroCells (Value.int .i32 0).cells (G - n)) 21 (0, 0)) := by rw [hw, heap_alloc, drew_heap, if_pos rfl]
    have c : Chg g w w' w.heap.size := by
      subst hw
      refine ⟨fun d hd hdB => ?_, hG.frb _ (Nat.le_refl _), .inl (Nat.le_refl _), ?_, ?_, ⟨rfl, rfl, rfl⟩⟩
      · rw [heap_alloc, drew_heap, if_neg hdB]
      · simp [drew_heap]
      · simp [drew_heap]
    refine ⟨_, .os [0] 1 [], [], ngh g w.heap.size 0 (.tail [0]), rfl, ⟨rfl, rfl⟩, ?_, c.gs_tail hG _ _ _, c.aft hG _ _⟩
    simp only [RepA, RepP]
    refine ⟨.inl ⟨trivial, _, G, rfl⟩, .inr ⟨w.heap.size, 0, 0, G, rfl, ngh_K _ _ _ _, by rw [ngh_fr], _, 21, hh, ?_⟩⟩
    simp only [Array.size_append, zeros_size _ (show (Value.int .i32 0).oneCell' = true from rfl)]
    omega
def rn (r : Int) : PV := .int .i32 r
def txt (s : List Int) : PV := .sl 1 (s.map rn)
theorem rn_at {a : List Int} {k : Nat} (h : k < a.length) : elemAt (a.map rn) k = .int .i32 a[k] := by simp [elemAt, h, rn]
theorem take_eq_step {a b : List Int} {k : Nat} (h1 : k < a.length) (h2 : k < b.length) (h : a.take k = b.take k) (e : a[k] = b[k]) : a.take (k + 1) = b.take (k + 1) := by
  rw [List.take_succ_eq_append_getElem h1, List.take_succ_eq_append_getElem h2, h, e]
theorem same_cr (a b : List Int) (ha : a.length ≤ 1000000) (hb : b.length ≤ 1000000) : CR Try.prog 27 [] [.p (txt a), .p (txt b)] [] (is (.p (.bool (decide (a = b))))) := by
  refine CR_of_wp mixed 6 [] Try.func27 rfl (by kernel_rfl) rfl (by simp) (by simp) ?_
  simp (disch := omega) [go_sem, Try.f27, wrap64, txt]
  refine condK_ifn (fun h => ?_) (fun h => ?_)
  · have : a ≠ b := fun e => h (by rw [e])
    simp (disch := omega) [go_sem, wrap64, this]
    exact ret_is (.p (.bool false)) rfl (by simp [go_sem, resOf, leA]) ⟨rfl, rfl⟩
  · have hl : a.length = b.length := by omega
    simp (disch := omega) [go_sem, wrap64]
    refine wpA_loop (fun k : Nat => k ≤ a.length ∧ a.take k = b.take k) (fun k => { n := 26, nv := 6, vs := [(0, .p (txt a)), (1, .p (txt b)), (4, .p (.bool false)), (5, .p (.int .i64 k))], ts := [], rs := [] }) (fun k => a.length - k) 0 (by simp) (by simp [go_sem, LeS, leV, leR, leA, leL, txt]) ?_
    rintro k ⟨hk, he⟩
    simp (disch := omega) [go_sem, wrap64, txt]
    refine condK_if (p := k < a.length) (fun h1 => ?_) (fun h1 => ?_)
    · have h2 : k < b.length := by omega
      simp (disch := omega) [go_sem, wrap64, rn_at h1, rn_at h2]
      refine ⟨by omega, by omega, ?_⟩
      refine condK_ifn (fun h3 => ?_) (fun h3 => ?_)
      · have : a ≠ b := fun e => h3 (by simp [e])
        simp (disch := omega) [go_sem, wrap64, this]
        exact ret_is (.p (.bool false)) rfl (by simp [go_sem, resOf, leA]) ⟨rfl, rfl⟩
      · simp (disch := omega) [go_sem, wrap64]
        refine LoopK_next (k + 1) ⟨by omega, take_eq_step h1 h2 he h3⟩ (by simp [go_sem, LeS, leV, leR, leA, leL, txt]) (by omega)
    · have hk' : k = a.length := by omega
      have : a = b := by
        rw [List.take_of_length_le (by omega), List.take_of_length_le (by omega)] at he
        exact he
      simp (disch := omega) [go_sem, wrap64, this]
      exact ret_is (.p (.bool true)) rfl (by simp [go_sem, resOf, leA]) ⟨rfl, rfl⟩
theorem few_cr (s : List Int) (n : Nat) (hn : n ≤ 1000) : CR Try.prog 20 [] [.p (txt s), .p (.int .i64 n)] [] (is (.p (txt (s.take n)))) := by
  refine CR_of_wp mixed 5 [] Try.func20 rfl (by kernel_rfl) rfl (by simp) (by simp) ?_
  simp (disch := omega) [go_sem, Try.f20, wrap64, txt]
  refine condK_if (fun h => ?_) (fun h => ?_)
  · have ec : cut (s.map rn) 0 n = (s.take n).map rn := by simp [cut, List.map_take]
    simp (disch := omega) [go_sem, wrap64, ec]
    refine ⟨by omega, ?_⟩
    exact ret_is _ rfl (by simp [go_sem, resOf, leA, List.map_take]) ⟨rfl, rfl⟩
  · rw [List.take_of_length_le (by simpa using by omega)]
    simp (disch := omega) [go_sem, wrap64]
    exact ret_is _ rfl (by simp [go_sem, resOf, leA]) ⟨rfl, rfl⟩
end Go.Proofs.Ytjgfmanahimpoaa
