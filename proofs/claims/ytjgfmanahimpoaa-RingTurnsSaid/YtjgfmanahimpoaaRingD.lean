/- What the ring's functions do, as contracts of the abstract machine. Conditions: as each law says. -/
import Derived.Test.YtjgfmanahimpoaaRingC
namespace Go.Proofs.Ytjgfmanahimpoaa
open Go.AM
set_option maxHeartbeats 800000
set_option maxRecDepth 10000
abbrev Txts := List (List Int)
def lP : Txts → PV
  | [] => .opq (.slice none 0 0)
  | t :: l => .sl 1 (txt t :: l.map txt)
theorem lP_ne {l : Txts} (h : l ≠ []) : lP l = .sl 1 (l.map txt) := by
  cases l with
  | nil => exact absurd rfl h
  | cons t l => rfl
def ringP (l : Txts) (k : Nat) : PV := .agg [lP l, .int .i64 k]
theorem txt_at {l : Txts} {k : Nat} (h : k < l.length) : elemAt (l.map txt) k = txt l[k] := by simp [elemAt, h]
theorem txt_one (s : List Int) : (txt s).one = true := rfl
theorem txt_fits (s : List Int) : (txt s).fits = true := rfl
theorem txt_cells (s : List Int) : (txt s).cells = [txt s] := rfl
theorem clone_txt (s : List Int) (hs : s.length ≤ 100000) : CR Try.prog 51 [] [.p (txt s)] [] (is (.p (txt s))) := clone_text _ (by simp; omega)
def topP (l : Txts) (k : Nat) : AV := if l = [] then .tup [.p (.sl 1 []), .p (.bool false)] else .tup [.p (txt (l.getD k [])), .p (.bool true)]
theorem getD_lt {l : Txts} {k : Nat} (h : k < l.length) : l.getD k [] = l[k] := by rw [List.getD_eq_getElem?_getD, List.getElem?_eq_getElem h]; rfl
theorem top_cr (l : Txts) (k : Nat) (hk : l = [] ∨ k < l.length) (hl : l.length ≤ 60) (hb : ∀ t ∈ l, t.length ≤ 100000) : CR Try.prog 26 [] [.p (ringP l k)] [] (is (topP l k)) := by
  refine CR_of_wp mixed 4 [] Try.func26 rfl (by kernel_rfl) rfl (by simp) (by simp) ?_
  by_cases h0 : l = []
  · subst h0
    simp (disch := omega) [go_sem, Try.f26, wrap64, ringP, lP, topP]
    exact ret_is _ rfl (by simp [go_sem, resOf, leA]) ⟨rfl, rfl⟩
  · have hk' : k < l.length := hk.resolve_left h0
    have hne : ¬ ((l.length : Int) = 0) := by omega
    simp only [topP, if_neg h0, getD_lt hk', ringP, lP_ne h0]
    simp (disch := omega) [go_sem, Try.f26, wrap64, hne, h0, txt_at hk', txt]
    refine ⟨hk', ⟨rfl, by simp [Try.f51]⟩, CallK_of [] (clone_txt l[k] (hb _ (List.getElem_mem hk'))) (by simp [go_sem]) ⟨by simp [go_sem], by simp [go_sem, txt]⟩ (by simp [go_sem]) ?_⟩
    rintro y rs ⟨rfl, rfl⟩
    simp [go_sem, txt]
    exact ret_is _ rfl (by simp [go_sem, resOf, leA]) ⟨rfl, rfl⟩
def turnI (l : Txts) (k : Nat) : Nat := if l = [] then k else (k + 1) % l.length
theorem turn_cr (l : Txts) (k : Nat) (hk : l = [] ∨ k < l.length) (hl : l.length ≤ 60) : CR Try.prog 28 [] [.p (ringP l k)] [] (is (.p (ringP l (turnI l k)))) := by
  refine CR_of_wp mixed 3 [] Try.func28 rfl (by kernel_rfl) rfl (by simp) (by simp) ?_
  by_cases h0 : l = []
  · subst h0
    simp (disch := omega) [go_sem, Try.f28, wrap64, ringP, lP, turnI]
    refine ⟨rfl, ?_⟩
    exact ret_is _ rfl (by simp [go_sem, resOf, leA]) ⟨rfl, rfl⟩
  · have hk' : k < l.length := hk.resolve_left h0
    have hne : ¬ ((l.length : Int) = 0) := by omega
    obtain ⟨m, hm⟩ : ∃ m, m = (k + 1) % l.length := ⟨_, rfl⟩
    have hm' : Int.tmod ((k : Int) + 1) (l.length : Int) = (m : Int) := by
      rw [hm, Int.tmod_eq_emod_of_nonneg (by omega)]; simp
    have hml : m < l.length := by rw [hm]; exact Nat.mod_lt _ (by omega)
    simp only [turnI, if_neg h0, ringP, lP_ne h0, ← hm]
    clear hm
    simp (maxSteps := 1000000) (disch := omega) [go_sem, Try.f28, wrap64, hne, h0]
    refine ⟨rfl, ?_⟩
    exact ret_is _ rfl (by simp [go_sem, resOf, leA, hm']) ⟨rfl, rfl⟩
theorem take_txt {l : Txts} {k : Nat} (h : k < l.length) : List.take (k + 1) (l.map txt) = List.take k (l.map txt) ++ [txt l[k]] := by
  rw [List.take_succ_eq_append_getElem (by simpa using h)]; simp
theorem all_cr (l : Txts) (k : Nat) (hl : l.length ≤ 60) (hb : ∀ t ∈ l, t.length ≤ 100000) : CR Try.prog 25 [] [.p (ringP l k)] [] (is (.tup [.p (.sl 1 (l.map txt)), .p (.int .i64 k)])) := by
  refine CR_of_wpD [7] mixed 11 [] Try.func25 rfl (by kernel_rfl) rfl (by simp) (by simp) ?_
  by_cases h0 : l = []
  · subst h0
    simp (maxSteps := 1000000) (disch := omega) [go_sem, Try.f25, wrap64, ringP, lP]
    refine wpA_loop (fun i : Nat => i = 0) (fun i => { n := 23, nv := 11, vs := [(1, .lp [1] 0), (4, .os [4] 1 []), (9, .p (.int .i64 0)), (10, .p (.int .i64 0))], ts := [], rs := [([1], [.p (.opq (.slice none 0 0)), .p (.int .i64 k)])] }) (fun i => 0) 0 rfl (by simp [go_sem, LeS, leV, leR, leA, leL]) ?_
    rintro i rfl
    simp (maxSteps := 1000000) (disch := omega) [go_sem, wrap64]
    exact ret_is _ rfl (by simp [go_sem, resOf, leA]) ⟨rfl, rfl⟩
  · simp only [ringP, lP_ne h0]
    simp (maxSteps := 1000000) (disch := omega) [go_sem, Try.f25, wrap64]
    refine wpA_loop (fun i : Nat => i ≤ l.length) (fun i => { n := 23, nv := 11, vs := [(1, .lp [1] 0), (4, .os [4] 1 ((l.map txt).take i)), (8, .p (.sl 1 (l.map txt))), (9, .p (.int .i64 l.length)), (10, .p (.int .i64 i))], ts := [], rs := [([1], [.p (.sl 1 (l.map txt)), .p (.int .i64 k)])] }) (fun i => l.length - i) 0 (by simp) (by simp [go_sem, LeS, leV, leR, leA, leL]) ?_
    intro i hi
    simp (maxSteps := 1000000) (disch := omega) [go_sem, wrap64]
    refine condK_if (fun h1 => ?_) (fun h1 => ?_)
    · have h1' : i < l.length := by omega
      simp (maxSteps := 1000000) (disch := omega) [go_sem, wrap64, txt_at h1', txt]
      refine ⟨h1', ⟨rfl, by simp [Try.f51]⟩, CallK_of [] (clone_txt l[i] (hb _ (List.getElem_mem h1'))) (by simp [go_sem]) ⟨by simp [go_sem], by simp [go_sem, txt]⟩ (by simp [go_sem]) ?_⟩
      rintro y rs ⟨rfl, rfl⟩
      simp (maxSteps := 1000000) (disch := omega) [go_sem, wrap64, txt]
      refine ⟨rfl, by omega, ?_⟩
      refine LoopK_next (i + 1) (by omega) (by simp [go_sem, LeS, leV, leR, leA, leL, take_txt h1', txt]) (by omega)
    · have hk' : i = l.length := by omega
      have htl : List.take l.length (l.map txt) = l.map txt := List.take_of_length_le (by simp)
      subst hk'
      simp (maxSteps := 1000000) (disch := omega) [go_sem, wrap64]
      exact ret_is _ rfl (by simp [go_sem, resOf, leA, htl]) ⟨rfl, rfl⟩
theorem clone_nil_os : CR Try.prog 53 [] [.p (.opq (.slice none 0 0))] [] (is (.os [0] 1 [])) :=
  CR_le clone_nil53 fun x rs' ⟨h1, h2⟩ => ⟨.os [0] 1 [], by rw [h2]; exact LeA.nil_os _ _, h1, rfl⟩
theorem insert_nil (s : List Int) : CR Try.prog 52 [] [.os [0] 1 [], .p (.int .i64 0), .p (.sl 1 [txt s])] [] (is (.p (.sl 1 [txt s]))) := by
  refine CR_of_wp mixed 12 [] Try.func52 rfl (by kernel_rfl) rfl (by simp) (by simp) ?_
  simp (maxSteps := 1000000) (disch := omega) [go_sem, Try.f52, wrap64, txt, cut]
  exact ret_is _ rfl (by simp [go_sem, resOf, leA]) ⟨rfl, rfl⟩
def addL (l : Txts) (s : List Int) : Txts := (s :: l).take 60
theorem addL_ne (l : Txts) (s : List Int) : addL l s ≠ [] := by simp [addL]
theorem add_cr (l : Txts) (k : Nat) (s : List Int) (hl : l.length ≤ 60) (hb : ∀ t ∈ l, t.length ≤ 100000) (hs : s.length ≤ 100000) : CR Try.prog 29 [] [.p (ringP l k), .p (txt s)] [] (is (.p (ringP (addL l s) 0))) := by
  refine CR_of_wp mixed 6 [] Try.func29 rfl (by kernel_rfl) rfl (by simp) (by simp) ?_
  have hR : ringP (addL l s) 0 = .agg [.sl 1 ((addL l s).map txt), .int .i64 0] := by rw [ringP, lP_ne (addL_ne l s)]; rfl
  rw [hR]
  have e1 : cut (txt s :: l.map txt) 0 (min ((l.length : Int) + 1) 60) = (addL l s).map txt := by
    have : cut (txt s :: l.map txt) 0 (min ((l.length : Int) + 1) 60) = ((s :: l).map txt).take (min (l.length + 1) 60) := by
      simp only [cut, Int.toNat_zero, List.drop_zero, Nat.sub_zero, List.map_cons]
      congr 1
      omega
    rw [this, addL, ← List.map_take]
    congr 1
    rcases Nat.le_total (l.length + 1) 60 with h | h
    · rw [Nat.min_eq_left h, List.take_of_length_le (by simp), List.take_of_length_le (by simpa using h)]
    · rw [Nat.min_eq_right h]
  by_cases h0 : l = []
  · subst h0
    simp (maxSteps := 1000000) (disch := omega) [go_sem, Try.f29, wrap64, ringP, lP]
    refine ⟨rfl, ⟨rfl, by simp [Try.f53]⟩, CallK_of [] clone_nil_os (by simp [go_sem]) ⟨by simp [go_sem], by simp [go_sem]⟩ (by simp [go_sem]) ?_⟩
    rintro y rs ⟨rfl, rfl⟩
    simp (maxSteps := 1000000) (disch := omega) [go_sem, wrap64, txt]
    refine ⟨⟨rfl, by simp [Try.f51]⟩, CallK_of [] (clone_txt s hs) (by simp [go_sem]) ⟨by simp [go_sem], by simp [go_sem, txt]⟩ (by simp [go_sem]) ?_⟩
    rintro y rs ⟨rfl, rfl⟩
    simp (maxSteps := 1000000) (disch := omega) [go_sem, wrap64, txt]
    refine ⟨rfl, ⟨rfl, by simp [Try.f52]⟩, CallK_of [([0], [8, 0])] (insert_nil s) (by simp [go_sem]) ⟨by simp [go_sem], by simp [go_sem, txt]⟩ (by simp [go_sem]) ?_⟩
    rintro y rs ⟨rfl, rfl⟩
    simp (maxSteps := 1000000) (disch := omega) [go_sem, wrap64, txt]
    have e2 : cut [PV.sl 1 (s.map rn)] 0 (min 1 60) = (addL [] s).map txt := rfl
    exact ⟨by omega, rfl, ret_is _ rfl (by simp [go_sem, resOf, leA, e2]) ⟨rfl, rfl⟩⟩
  · simp only [ringP, lP_ne h0]
    simp (maxSteps := 1000000) (disch := omega) [go_sem, Try.f29, wrap64]
    refine ⟨rfl, ⟨rfl, by simp [Try.f53]⟩, CallK_of [] (clone_some_ow rfl cs53 (es := l.map txt) (by simpa using h0) (by simp; omega)) (by simp [go_sem]) ⟨by simp [go_sem], by simp [go_sem]⟩ (by simp [go_sem]) ?_⟩
    rintro y rs ⟨rfl, rfl⟩
    simp (maxSteps := 1000000) (disch := omega) [go_sem, wrap64, txt]
    refine ⟨⟨rfl, by simp [Try.f51]⟩, CallK_of [] (clone_txt s hs) (by simp [go_sem]) ⟨by simp [go_sem], by simp [go_sem, txt]⟩ (by simp [go_sem]) ?_⟩
    rintro y rs ⟨rfl, rfl⟩
    simp (maxSteps := 1000000) (disch := omega) [go_sem, wrap64, txt]
    refine ⟨rfl, ⟨rfl, by simp [Try.f52]⟩, CallK_of [([0], [8, 0])] (insert_ow (es := l.map txt) (x := txt s) (by simpa using h0) (by simp; omega)) (by simp [go_sem]) ⟨by simp [go_sem], by simp [go_sem, txt]⟩ (by simp [go_sem]) ?_⟩
    rintro y rs ⟨rfl, rfl⟩
    simp (maxSteps := 1000000) (disch := omega) [go_sem, wrap64]
    exact ⟨by omega, rfl, ret_is _ rfl (by simp [go_sem, resOf, leA, e1]) ⟨rfl, rfl⟩⟩
end Go.Proofs.Ytjgfmanahimpoaa
