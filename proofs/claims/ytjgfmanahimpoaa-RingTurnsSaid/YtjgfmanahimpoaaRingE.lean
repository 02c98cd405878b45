/- What slices.Concat and the ring's Join do, as contracts of the abstract machine. Conditions: as each law says. -/
import Derived.Test.YtjgfmanahimpoaaRingD
namespace Go.Proofs.Ytjgfmanahimpoaa
open Go.AM
set_option maxHeartbeats 800000
set_option maxRecDepth 10000
def sz (ts : Txts) : Nat := (ts.map List.length).sum
theorem sz_step {ts : Txts} {i : Nat} (h : i < ts.length) : sz (ts.take (i + 1)) = sz (ts.take i) + ts[i].length := by
  rw [List.take_succ_eq_append_getElem h]
  simp only [sz, List.map_append, List.sum_append, List.map_cons, List.map_nil, List.sum_cons, List.sum_nil, Nat.add_zero]
theorem sz_le {ts : Txts} (hb : ∀ t ∈ ts, t.length ≤ 100000) : sz ts ≤ 100000 * ts.length := by
  induction ts with
  | nil => simp [sz]
  | cons t ts ih =>
    have h1 := hb t (by simp)
    have h2 := ih fun u hu => hb u (by simp [hu])
    simp only [sz, List.map_cons, List.sum_cons, List.length_cons] at h2 ⊢
    omega
theorem flat_step {ts : Txts} {i : Nat} (h : i < ts.length) : (ts.take (i + 1)).flatten = (ts.take i).flatten ++ ts[i] := by
  rw [List.take_succ_eq_append_getElem h]
  simp only [List.flatten_append, List.flatten_cons, List.flatten_nil, List.append_nil]
theorem flat_len (ts : Txts) : ts.flatten.length = sz ts := by simp [sz, List.length_flatten]
def fl (ts : Txts) (i : Nat) : List PV := (ts.take i).flatten.map rn
theorem fl_step {ts : Txts} {i : Nat} (h : i < ts.length) : fl ts (i + 1) = fl ts i ++ ts[i].map rn := by rw [fl, flat_step h, List.map_append]; rfl
theorem fl_len (ts : Txts) (i : Nat) : (fl ts i).length = sz (ts.take i) := by rw [fl, List.length_map, flat_len]
theorem fl_zero (ts : Txts) : fl ts 0 = [] := rfl
theorem fl_all (ts : Txts) : txt ts.flatten = PV.sl 1 (fl ts ts.length) := by rw [fl, List.take_length]; rfl
theorem concat_cr (ts : Txts) (hn : ts.length ≤ 10) (hb : ∀ t ∈ ts, t.length ≤ 100000) : CR Try.prog 63 [] [.p (.sl 1 (ts.map txt))] [] (is (.p (txt ts.flatten))) := by
  have hsz : ∀ i, sz (ts.take i) ≤ 1000000 := fun i => by
    have h1 := sz_le (ts := ts.take i) fun t ht => hb t (List.mem_of_mem_take ht)
    have h2 : (ts.take i).length ≤ 10 := by simp; omega
    omega
  refine CR_of_wp mixed 12 [25, 26, 27] Try.func63 rfl (by kernel_rfl) rfl (by simp) (by simp) ?_
  simp (maxSteps := 1000000) (disch := omega) [go_sem, Try.f63, wrap64]
  refine wpA_loop (fun i : Nat => i ≤ ts.length) (fun i => { n := 36, nv := 12, ex := [25, 26, 27], vs := [(0, .p (.sl 1 (ts.map txt))), (3, .p (.int .i64 (sz (ts.take i)))), (9, .p (.sl 1 (ts.map txt))), (10, .p (.int .i64 ts.length)), (11, .p (.int .i64 i))], ts := [], rs := [] }) (fun i => ts.length - i) 0 (by simp) (by simp [go_sem, LeS, leV, leR, leA, leL, sz]) ?_
  intro i hi
  have hsi := hsz i
  simp (maxSteps := 1000000) (disch := omega) [go_sem, wrap64]
  refine condK_if (fun h1 => ?_) (fun h1 => ?_)
  · have h1' : i < ts.length := by omega
    have hti := hb ts[i] (List.getElem_mem h1')
    simp (maxSteps := 1000000) (disch := omega) [go_sem, wrap64, txt_at h1', txt]
    refine ⟨h1', condK_if (fun h => absurd h (by omega)) (fun _ => ?_)⟩
    have e1 := sz_step h1'
    simp (maxSteps := 1000000) (disch := omega) [go_sem, wrap64]
    refine LoopK_next (i + 1) (by omega) (by simp [go_sem, LeS, leV, leR, leA, leL, e1]) (by omega)
  · have hk' : i = ts.length := by omega
    have htl : ts.take ts.length = ts := List.take_length
    subst hk'
    rw [htl] at hsi
    simp (maxSteps := 1000000) (disch := omega) [go_sem, wrap64, htl]
    refine ⟨⟨rfl, by simp [Try.f66]⟩, CallK_of [] (grow_cr (sz ts) (by omega)) (by simp [go_sem]) ⟨by simp [go_sem], by simp [go_sem]⟩ (by simp [go_sem]) ?_⟩
    rintro y rs ⟨rfl, rfl⟩
    simp (maxSteps := 1000000) (disch := omega) [go_sem, wrap64]
    refine wpA_loop (fun i : Nat => i ≤ ts.length) (fun i => { n := 36, nv := 12, ex := [25, 26, 27], vs := [(6, .os [6] 1 (fl ts i)), (25, .p (.sl 1 (ts.map txt))), (26, .p (.int .i64 ts.length)), (27, .p (.int .i64 i))], ts := [], rs := [] }) (fun i => ts.length - i) 0 (by simp) (by simp [go_sem, LeS, leV, leR, leA, leL, fl_zero]) ?_
    intro i hi
    have hl1 := hsz i
    rw [← fl_len] at hl1
    simp (maxSteps := 1000000) (disch := omega) [go_sem, wrap64]
    refine condK_if (fun h1 => ?_) (fun h1 => ?_)
    · have h1' : i < ts.length := by omega
      have hti := hb ts[i] (List.getElem_mem h1')
      have e1 := fl_step h1'
      simp (maxSteps := 1000000) (disch := omega) [go_sem, wrap64, txt_at h1', txt]
      refine ⟨h1', by omega, ?_⟩
      refine LoopK_next (i + 1) (by omega) (by simp [go_sem, LeS, leV, leR, leA, leL, e1]) (by omega)
    · have hk' : i = ts.length := by omega
      subst hk'
      simp (maxSteps := 1000000) (disch := omega) [go_sem, wrap64, htl]
      exact ret_is _ rfl (by simp [go_sem, resOf, leA, fl_all]) ⟨rfl, rfl⟩
def joinL (l : Txts) (s : List Int) (ahead : Bool) : Txts := match l with
  | [] => [s]
  | t :: l => (if ahead then s ++ t else t ++ s) :: l
theorem cat_cr (a b : List Int) (ha : a.length ≤ 100000) (hb : b.length ≤ 100000) : CR Try.prog 63 [] [.p (.sl 1 [txt a, txt b])] [] (is (.p (txt (a ++ b)))) := by
  have h := concat_cr [a, b] (by simp) (by simp; exact ⟨ha, hb⟩)
  simpa using h
def ws (l : Txts) : List AV := (l.map txt).map .p
theorem ws_ren (f : Tok → Option Tok) (l : Txts) : List.map (AV.ren f) (ws l) = ws l := by
  rw [ws, List.map_map]
  exact List.map_congr_left fun x _ => rfl
theorem ws_upd (rt tt : Tok → Bool) (l : Txts) : List.map (AV.upd (fil rt tt)) (ws l) = ws l := by
  rw [ws, List.map_map]
  exact List.map_congr_left fun x _ => rfl
theorem ws_len (l : Txts) : (ws l).length = l.length := by simp [ws]
theorem clone_ws (t : List Int) (l : Txts) (hl : l.length ≤ 59) : CR Try.prog 53 [] [.p (.sl 1 (txt t :: l.map txt))] [] (fun x rs' => x = .la [0] 1 0 (l.length + 1) ∧ rs' = [([0], .p (txt t) :: ws l)]) := by
  have h := clone_some_root rfl cs53 (es := txt t :: l.map txt) (by simp) (by simp [txt_one]) (by simp; omega)
  refine h.mono fun x rs' ⟨h1, h2⟩ => ⟨by simpa using h1, h2⟩
theorem join_root (t : List Int) (l : Txts) (k : Nat) (s : List Int) (ahead : Bool) (hl : l.length ≤ 59) (hb : ∀ u ∈ t :: l, u.length ≤ 100000) (hs : s.length ≤ 100000) :
    CR Try.prog 46 [] [.p (ringP (t :: l) k), .p (txt s), .p (.bool ahead)] [] (fun x rs' => x = .ag [.la [17, 0] 1 0 (l.length + 1), .p (.int .i64 0)] ∧ lookT rs' [17, 0] = some (.p (txt (if ahead then s ++ t else t ++ s)) :: ws l)) := by
  refine CR_of_wp mixed 8 [] Try.func46 rfl (by kernel_rfl) rfl (by simp) (by simp) ?_
  have hne : ¬ ((l.length : Int) + 1 = 0) := by omega
  have ht := hb t (by simp)
  simp (maxSteps := 1000000) (disch := omega) [go_sem, Try.f46, wrap64, ringP, lP, hne]
  refine ⟨rfl, ⟨rfl, by simp [Try.f53]⟩, CallK_of [] (clone_ws t l hl) (by simp [go_sem]) ⟨by simp [go_sem], by simp [go_sem]⟩ (by simp [go_sem]) ?_⟩
  rintro y rs ⟨rfl, rfl⟩
  cases ahead with
  | true =>
    simp (maxSteps := 1000000) (disch := omega) [go_sem, wrap64, txt, ws_ren, ws_upd, ws_len]
    refine ⟨⟨rfl, rfl⟩, ⟨rfl, by simp [Try.f63]⟩, CallK_of [] (cat_cr s t hs ht) (by simp [go_sem]) ⟨by simp [go_sem], by simp [go_sem, txt]⟩ (by simp [go_sem]) ?_⟩
    rintro y rs ⟨rfl, rfl⟩
    simp (maxSteps := 1000000) (disch := omega) [go_sem, wrap64, txt, ws_ren, ws_upd, ws_len]
    exact ⟨rfl, ret_keep [[17, 0]] (.ag [.la [17, 0] 1 0 (l.length + 1), .p (.int .i64 0)]) (by simp) (by simp [go_sem, resOf, leA]) ⟨rfl, by simp [go_sem, ws_upd]⟩⟩
  | false =>
    simp (maxSteps := 1000000) (disch := omega) [go_sem, wrap64, txt, ws_ren, ws_upd, ws_len]
    refine ⟨⟨rfl, rfl⟩, ⟨rfl, by simp [Try.f63]⟩, CallK_of [] (cat_cr t s ht hs) (by simp [go_sem]) ⟨by simp [go_sem], by simp [go_sem, txt]⟩ (by simp [go_sem]) ?_⟩
    rintro y rs ⟨rfl, rfl⟩
    simp (maxSteps := 1000000) (disch := omega) [go_sem, wrap64, txt, ws_ren, ws_upd, ws_len]
    exact ⟨rfl, ret_keep [[17, 0]] (.ag [.la [17, 0] 1 0 (l.length + 1), .p (.int .i64 0)]) (by simp) (by simp [go_sem, resOf, leA]) ⟨rfl, by simp [go_sem, ws_upd]⟩⟩
theorem join_cr (l : Txts) (k : Nat) (s : List Int) (ahead : Bool) (hl : l.length ≤ 60) (hb : ∀ u ∈ l, u.length ≤ 100000) (hs : s.length ≤ 100000) :
    CR Try.prog 46 [] [.p (ringP l k), .p (txt s), .p (.bool ahead)] [] (is (.p (ringP (joinL l s ahead) 0))) := by
  cases l with
  | nil =>
    have ha := add_cr [] k s hl hb hs
    have e : addL [] s = joinL [] s ahead := rfl
    rw [e] at ha
    refine CR_of_wp mixed 8 [] Try.func46 rfl (by kernel_rfl) rfl (by simp) (by simp) ?_
    simp (maxSteps := 1000000) (disch := omega) [go_sem, Try.f46, wrap64, ringP, lP]
    refine ⟨rfl, ⟨rfl, by simp [Try.f29]⟩, CallK_of [] ha (by simp [go_sem]) ⟨by simp [go_sem], by simp [go_sem, ringP, lP]⟩ (by simp [go_sem]) ?_⟩
    rintro y rs ⟨rfl, rfl⟩
    simp (maxSteps := 1000000) (disch := omega) [go_sem, wrap64, ringP, lP, joinL]
    exact ret_is _ rfl (by simp [go_sem, resOf, leA]) ⟨rfl, rfl⟩
  | cons t l =>
    have h := CR_frz (t := [17, 0]) (es := txt (if ahead then s ++ t else t ++ s) :: l.map txt) (ys := [.int .i64 0]) (by simp [txt_one]) (join_root t l k s ahead (by simp at hl; omega) hb hs)
      (fun x rs' ⟨h1, h2⟩ => ⟨by rw [h1]; simp, by rw [h2]; simp [ws]⟩)
    exact h.mono fun x rs' ⟨h1, h2⟩ => ⟨h2, h1⟩
end Go.Proofs.Ytjgfmanahimpoaa
