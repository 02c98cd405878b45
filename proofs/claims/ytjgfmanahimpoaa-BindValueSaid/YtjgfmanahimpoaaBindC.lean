/- A part of the proof of this seat's statements, by an abstract machine: what each operation does to values, proved over the model, whatever the program. No condition beyond those that stand. -/
import Derived.Test.YtjgfmanahimpoaaBindD
import Derived.Test.YtjgfmanahimpoaaCln
namespace Go.Proofs.Ytjgfmanahimpoaa
open Go.AM
set_option maxHeartbeats 800000
set_option maxRecDepth 10000
theorem clone_cr (ks xs : List PV) : CR Try.prog 30 [] [.p (.mp ks xs)] [] (is (.om [0] ks xs)) := by
  intro w g vs hargs hG
  simp only [RepAL, RepA, RepP] at hargs
  obtain ⟨v, vs', rfl, ⟨b, arr, c, rfl, hf, hm, r1, r2⟩, rfl⟩ := hargs
  have hb : w.heap[b]? = some (.map arr c) := by
    unfold mapAt at hm
    split at hm
    · rename_i e c' hb; injection hm with hm; injection hm with h1 h2; subst h1; subst h2; exact hb
    · cases hm
  refine (clone_some b arr c w hb).mono ?_
  rintro e w' ⟨rfl, rfl⟩
  let g' : Gh := ⟨g.fr, fun d => if d = w.heap.size then .tail [0] else .prot⟩
  have hK : ∀ d, d ≠ w.heap.size → g'.K d = .prot := fun d hd => if_neg hd
  have hold : ∀ d, d < w.heap.size → (w.alloc (.map arr c)).heap[d]? = w.heap[d]? := fun d hd => by rw [heap_alloc, if_neg (by omega)]
  have hext : Ext g.fr w g.fr (w.alloc (.map arr c)) := fun d o ho => ⟨ho, same_of_heap (hold d (by
    rcases Nat.lt_or_ge d w.heap.size with h | h
    · exact h
    · have := hG.frb d h; omega))⟩
  refine ⟨_, .om [0] ks xs, [], g', rfl, ⟨rfl, rfl⟩, ?_, ⟨fun d t hd => ?_, fun d d' t hd hd' => ?_, fun d d' t hd hd' => ?_, fun d hd => ?_, fun d hd => ?_⟩, ⟨fun d hd hk => ⟨hold d hd, rfl, hK d (by omega)⟩, hext, ⟨rfl, rfl, rfl⟩, by simp, fun d t _ ht => by cases ht⟩⟩
  · simp only [RepA]
    exact ⟨w.heap.size, arr, c, rfl, if_pos rfl, hG.frb _ (Nat.le_refl _), mapAt_map (by rw [heap_alloc, if_pos rfl]), r1.ext hext, r2.ext hext⟩
  · exfalso
    have hd' : (if d = w.heap.size then Kd.tail [0] else .prot) = .root t := hd
    split at hd' <;> cases hd'
  · exfalso
    have hd2 : (if d = w.heap.size then Kd.tail [0] else .prot) = .root t := hd
    split at hd2 <;> cases hd2
  · have h1 : (if d = w.heap.size then Kd.tail [0] else .prot) = .tail t := hd
    have h2 : (if d' = w.heap.size then Kd.tail [0] else .prot) = .tail t := hd'
    split at h1
    · split at h2
      · omega
      · cases h2
    · cases h1
  · have h1 : (if d = w.heap.size then Kd.tail [0] else .prot) ≠ .prot := hd
    split at h1
    · simp; omega
    · exact absurd rfl h1
  · exact hG.frb d (by simp at hd; omega)
theorem clone_nil : CR Try.prog 30 [] [.p (.opq (.map none))] [] (is (.p (.opq (.map none)))) := by
  refine CR_of_wp mixed 4 [] Try.func30 rfl (by kernel_rfl) rfl (by simp) (by simp) ?_
  simp [go_sem, Try.f30]
  exact ret_is (.p (.opq (.map none))) rfl (by simp [go_sem, resOf, leA]) ⟨rfl, rfl⟩
theorem stroke_cr (s : Stroke) : CR Try.prog 13 [] [.p (strokeP s)] [] (is (.p (strokeP s))) := by
  refine CR_of_wp mixed 3 [] Try.func13 rfl (by kernel_rfl) rfl (by simp) (by simp) ?_
  simp [go_sem, Try.f13, strokeP]
  exact ret_is (.p (strokeP s)) rfl (by simp [go_sem, resOf, leA, strokeP]) ⟨rfl, rfl⟩
def cs (s : Stroke) : List PV := [.bool s.p, .int .i64 s.k, .int .i32 s.r, .bool s.m]
def vI (c : Int) : PV := .int .i64 c
theorem ok_stroke (s : Stroke) : okC [.b, .i .i64, .i .i32, .b] (cs s) = true := by simp [okC, cs]
theorem eqC_cs (s t : Stroke) : eqC (cs s) (cs t) = decide (s = t) := by
  obtain ⟨p, k, r, m⟩ := s
  obtain ⟨p', k', r', m'⟩ := t
  simp [eqC, cs]
  by_cases h1 : p = p' <;> by_cases h2 : k = k' <;> by_cases h3 : r = r' <;> by_cases h4 : m = m' <;> simp [h1, h2, h3, h4]
abbrev Tbl := List (Stroke × Int)
def getL : Tbl → Stroke → Option Int
  | [], _ => none
  | (k, v) :: l, s => if s = k then some v else getL l s
def setL : Tbl → Stroke → Int → Tbl
  | [], s, c => [(s, c)]
  | (k, v) :: l, s, c => if s = k then (k, c) :: l else (k, v) :: setL l s c
def kL (l : Tbl) : List PV := l.map fun x => .agg (cs x.1)
def vL (l : Tbl) : List PV := l.map fun x => vI x.2
theorem find_l (s : Stroke) (c : Int) : ∀ (l : Tbl) (i : Nat), (findP (cs s) (kL l) (vL l) i = none ∧ getL l s = none ∧ kL (setL l s c) = kL l ++ [.agg (cs s)] ∧ vL (setL l s c) = vL l ++ [vI c]) ∨
    ∃ j v, findP (cs s) (kL l) (vL l) i = some (j, vI v) ∧ getL l s = some v ∧ i ≤ j ∧ kL (setL l s c) = kL l ∧ vL (setL l s c) = (vL l).set (j - i) (vI c)
  | [], i => .inl ⟨rfl, rfl, rfl, rfl⟩
  | (k, v) :: l, i => by
    by_cases h : s = k
    · right
      refine ⟨i, v, by simp [kL, vL, findP, eqC_cs, h], by simp [getL, h], Nat.le_refl _, by simp [setL, h, kL], by simp [setL, h, vL]⟩
    · rcases find_l s c l (i + 1) with ⟨h1, h2, h3, h4⟩ | ⟨j, u, h1, h2, h3, h4, h5⟩
      · left
        refine ⟨?_, by simp [getL, h, h2], ?_, ?_⟩
        · have : findP (cs s) (kL ((k, v) :: l)) (vL ((k, v) :: l)) i = findP (cs s) (kL l) (vL l) (i + 1) := by simp [kL, vL, findP, eqC_cs, h]
          rw [this, h1]
        · simp only [setL, if_neg h]
          show PV.agg (cs k) :: kL (setL l s c) = _
          rw [h3]; rfl
        · simp only [setL, if_neg h]
          show vI v :: vL (setL l s c) = _
          rw [h4]; rfl
      · right
        refine ⟨j, u, ?_, by simp [getL, h, h2], by omega, ?_, ?_⟩
        · have : findP (cs s) (kL ((k, v) :: l)) (vL ((k, v) :: l)) i = findP (cs s) (kL l) (vL l) (i + 1) := by simp [kL, vL, findP, eqC_cs, h]
          rw [this, h1]
        · simp only [setL, if_neg h]
          show PV.agg (cs k) :: kL (setL l s c) = _
          rw [h4]; rfl
        · simp only [setL, if_neg h]
          show vI v :: vL (setL l s c) = _
          rw [h5, show j - i = (j - (i + 1)) + 1 from by omega]; rfl
theorem upd_l (l : Tbl) (s : Stroke) (c : Int) : updKs (cs s) (kL l) (vL l) = kL (setL l s c) ∧ updXs (cs s) (vI c) (kL l) (vL l) = vL (setL l s c) := by
  rcases find_l s c l 0 with ⟨h1, h2, h3, h4⟩ | ⟨j, u, h1, h2, h3, h4, h5⟩
  · exact ⟨by simp [updKs, h1, h3], by simp [updXs, h1, h4]⟩
  · exact ⟨by simp [updKs, h1, h4], by simp [updXs, h1, h5]⟩
theorem keys_ok (l : Tbl) : (kL l).all (keyOK [.b, .i .i64, .i .i32, .b]) = true := by
  simp [kL, keyOK, ok_stroke]
def mapP : Tbl → PV
  | [] => .opq (.map none)
  | l => .mp (kL l) (vL l)
theorem setL_ne (l : Tbl) (s : Stroke) (c : Int) : ∃ x l', setL l s c = x :: l' := by
  cases l with
  | nil => exact ⟨_, _, rfl⟩
  | cons y l => simp only [setL]; split <;> exact ⟨_, _, rfl⟩
theorem mapP_set (l : Tbl) (s : Stroke) (c : Int) : mapP (setL l s c) = .mp (kL (setL l s c)) (vL (setL l s c)) := by
  obtain ⟨x, l', e⟩ := setL_ne l s c
  rw [e]; rfl
theorem with_cr (l : Tbl) (s : Stroke) (c : Int) : CR Try.prog 12 [] [.p (.agg [mapP l]), .p (strokeP s), .p (.int .i64 c)] [] (is (.p (.agg [mapP (setL l s c)]))) := by
  have hu := upd_l l s c
  have ho := ok_stroke s
  have hk := keys_ok l
  rw [mapP_set]
  refine CR_of_wp mixed 8 [] Try.func12 rfl (by kernel_rfl) rfl (by simp) (by simp) ?_
  cases l with
  | nil =>
    simp [go_sem, Try.f12, strokeP, mapP]
    refine ⟨rfl, ⟨rfl, by simp [Try.f30]⟩, ?_⟩
    refine CallK_of [] clone_nil (by simp [go_sem]) ⟨by simp [go_sem], by simp [go_sem]⟩ (by simp [go_sem]) ?_
    rintro y rs ⟨rfl, rfl⟩
    simp [go_sem]
    refine ⟨rfl, ?_⟩
    have hu1 : updKs [PV.bool s.p, PV.int IntKind.i64 s.k, PV.int IntKind.i32 s.r, PV.bool s.m] [] [] = kL (setL [] s c) := hu.1
    have hu2 : updXs [PV.bool s.p, PV.int IntKind.i64 s.k, PV.int IntKind.i32 s.r, PV.bool s.m] (.int .i64 c) [] [] = vL (setL [] s c) := hu.2
    exact ret_is (.p (.agg [.mp (kL (setL [] s c)) (vL (setL [] s c))])) rfl (by simp [go_sem, resOf, leA, hu1, hu2]) ⟨rfl, rfl⟩
  | cons x l =>
    simp [go_sem, Try.f12, strokeP, mapP]
    refine ⟨rfl, ⟨rfl, by simp [Try.f30]⟩, ?_⟩
    refine CallK_of [] (clone_cr (kL (x :: l)) (vL (x :: l))) (by simp [go_sem]) ⟨by simp [go_sem], by simp [go_sem]⟩ (by simp [go_sem]) ?_
    rintro y rs ⟨rfl, rfl⟩
    simp [go_sem]
    refine ⟨fun y hy => List.all_eq_true.1 hk y hy, rfl, ?_⟩
    have hu1 : updKs [PV.bool s.p, PV.int IntKind.i64 s.k, PV.int IntKind.i32 s.r, PV.bool s.m] (kL (x :: l)) (vL (x :: l)) = kL (setL (x :: l) s c) := hu.1
    have hu2 : updXs [PV.bool s.p, PV.int IntKind.i64 s.k, PV.int IntKind.i32 s.r, PV.bool s.m] (.int .i64 c) (kL (x :: l)) (vL (x :: l)) = vL (setL (x :: l) s c) := hu.2
    exact ret_is (.p (.agg [.mp (kL (setL (x :: l) s c)) (vL (setL (x :: l) s c))])) rfl (by simp [go_sem, resOf, leA, hu1, hu2]) ⟨rfl, rfl⟩
theorem look_l (l : Tbl) (s : Stroke) : CR Try.prog 14 [] [.p (.agg [mapP l]), .p (strokeP s)] [] (is (.p (.int .i64 ((getL l s).getD (usualL s))))) := by
  cases l with
  | nil => exact look_nil s
  | cons x l =>
    have hk := keys_ok (x :: l)
    have ho := ok_stroke s
    have key : ∃ v b, lookupA Try.prog 32 (.p (mapP (x :: l))) (.p (.agg [.bool s.p, .int .i64 s.k, .int .i32 s.r, .bool s.m])) true = (True, .tup [.p (.int .i64 v), .p (.bool b)]) ∧ (if b then v else usualL s) = (getL (x :: l) s).getD (usualL s) := by
      have e : lookupA Try.prog 32 (.p (mapP (x :: l))) (.p (.agg (cs s))) true = ((okC [.b, .i .i64, .i .i32, .b] (cs s) = true ∧ (kL (x :: l)).all (keyOK [.b, .i .i64, .i .i32, .b]) = true),
          .tup [.p (lookV (.int .i64 0) (findP (cs s) (kL (x :: l)) (vL (x :: l)) 0)), .p (.bool (findP (cs s) (kL (x :: l)) (vL (x :: l)) 0).isSome)]) := by
        unfold lookupA
        rw [ty32]
        simp only []
        rw [ck26, zp3]
        rfl
      have e2 : (okC [.b, .i .i64, .i .i32, .b] (cs s) = true ∧ (kL (x :: l)).all (keyOK [.b, .i .i64, .i .i32, .b]) = true) = True := by simp only [ho, hk, and_self]
      rw [e2] at e
      rcases find_l s 0 (x :: l) 0 with ⟨h1, h2, _⟩ | ⟨j, u, h1, h2, _⟩
      · rw [h1] at e
        exact ⟨0, false, e, by simp [h2]⟩
      · rw [h1] at e
        exact ⟨u, true, e, by simp [h2]⟩
    obtain ⟨v, b, h1, h2⟩ := key
    have := look_cr (mapP (x :: l)) s v b h1 rfl rfl
    rwa [h2] at this
theorem getL_set (l : Tbl) (s t : Stroke) (c : Int) : getL (setL l s c) t = if t = s then some c else getL l t := by
  induction l with
  | nil => simp only [setL, getL]
  | cons x l ih =>
    obtain ⟨k, v⟩ := x
    simp only [setL]
    by_cases h : s = k
    · subst h
      simp only [if_true, getL]
      split <;> rfl
    · rw [if_neg h]
      simp only [getL, ih]
      by_cases h1 : t = k
      · subst h1; rw [if_pos rfl, if_neg (fun e => h e.symm), if_pos rfl]
      · rw [if_neg h1, if_neg h1]
def mapL (l : Tbl) : Tbl := l.foldl (fun m x => setL m x.1 x.2) []
theorem mapL_snoc (l : Tbl) (x : Stroke × Int) : mapL (l ++ [x]) = setL (mapL l) x.1 x.2 := by simp [mapL]
theorem mapL_get (s : Stroke) (l : Tbl) : getL (mapL l) s = getL l.reverse s := by
  have : ∀ (n : Nat) (l : Tbl), l.length = n → getL (mapL l) s = getL l.reverse s := by
    intro n
    induction n with
    | zero => intro l h; rw [List.eq_nil_of_length_eq_zero h]; rfl
    | succ n ih =>
      intro l h
      have hne : l ≠ [] := by intro e; subst e; simp at h
      rw [← List.dropLast_concat_getLast hne, mapL_snoc, getL_set, List.reverse_append, ih _ (by simp [h])]
      simp only [List.reverse_cons, List.reverse_nil, List.nil_append, List.singleton_append, getL]
  exact this l.length l rfl
end Go.Proofs.Ytjgfmanahimpoaa
