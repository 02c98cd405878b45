/- What strings.Builder's WriteString and String do, as contracts of the abstract machine. Conditions: as each law says. -/
import Derived.Test.YtjgfmanahimpoaaDoorA
import Derived.Test.YtjgfmanahimpoaaDoorB
namespace Go.Proofs.YtjgfmanahimpoaaDoor
open Go.AM
set_option maxRecDepth 10000
theorem bb_own {g : Gh} {w : World} {t : Tok} {l : List UInt8} {v : Value} (h : RepA g w (.bb t 5 l) v) : w.ownsRow 0 5 1 v l.length (Lib.byteCells l) ∧ (v = .slice none 0 0 ∧ l = [] ∨ ∃ q, v.ownBlock = some q ∧ g.K q = .tail t ∧ g.fr q = 0 ∧ l ≠ []) := by
  simp only [RepA] at h
  have hl : (Lib.byteCells l).length = l.length * 1 := by simp [Lib.byteCells]
  rcases h with ⟨rfl, rfl⟩ | ⟨b, cap, arr, rfl, hk, hf, hb, h1, h2, h3, h4, h5⟩
  · exact ⟨⟨hl, .inl ⟨rfl, rfl⟩⟩, .inl ⟨rfl, rfl⟩⟩
  · exact ⟨⟨hl, .inr ⟨b, cap, arr, rfl, Nat.zero_le _, hb, h1, h2, by omega, by rw [Nat.mul_one]; exact h4⟩⟩, .inr ⟨b, rfl, hk, hf, h5⟩⟩
theorem Blk_of {w w' : World} {b : Nat} {arr arr' : Array Value} {T : TypeId} {n : BN} (h : w.heap[b]? = some (.cells arr T (0, 0))) (h' : w'.heap[b]? = some (.cells arr' T (0, 0))) (hs : arr'.size = arr.size) (hn : Blk w b n) : Blk w' b n := by
  cases n <;> simp only [Blk] at hn ⊢
  · obtain ⟨arr2, T2, h2, hn⟩ := hn
    rw [h] at h2
    injection h2 with h2; injection h2 with e1 e2; subst e1; subst e2
    exact ⟨arr', T, h', by omega⟩
  · obtain ⟨arr2, h2, hn⟩ := hn
    rw [h] at h2
    injection h2 with h2; injection h2 with e1 e2; subst e1; subst e2
    exact ⟨arr', h', by omega⟩
theorem setCell_heap (w : World) (b o : Nat) (v : Value) (k : Nat) (h : k ≠ b) : (w.setCell ⟨b, o, none⟩ v).heap[k]? = w.heap[k]? := by
  simp [World.setCell, Array.getElem?_modify, Ne.symm h]
theorem setCell_at {w : World} {b : Nat} {arr : Array Value} {T : TypeId} {f : Nat × Nat} (h : w.heap[b]? = some (.cells arr T f)) (o : Nat) (v : Value) : (w.setCell ⟨b, o, none⟩ v).heap[b]? = some (.cells (arr.setIfInBounds o v) T f) := by
  simp [World.setCell, Array.getElem?_modify, h]
theorem str_cr (c0 : AV) (l : List UInt8) : CR Tryd.prog 30 [] [.lp [0] 0] [([0], [c0, .bb [1] 5 l])] (is (.p (.str l))) := by
  intro w g vs hargs hG
  simp only [RepAL, RepA] at hargs
  obtain ⟨v, vs', rfl, ⟨b, hk, rfl⟩, rfl⟩ := hargs
  obtain ⟨cs, hl, h0, arr, T, hb, hle, hc⟩ := hG.roots b _ hk
  have hcs : cs = [c0, .bb [1] 5 l] := by simpa [lookT] using hl.symm
  subst hcs
  obtain ⟨v1, hv1, _, hr⟩ := hc 1 (.bb [1] 5 l) rfl
  let g2 : Gh := ⟨g.fr, fun _ => .prot⟩
  have fin : ∀ w' : World, (∀ d, d < w.heap.size → g.K d = .prot → w'.heap[d]? = w.heap[d]?) → (∀ d, g.fr d ≠ 0 → w'.heap[d]? = w.heap[d]?) → w'.heap.size = w.heap.size → (w'.os = w.os ∧ w'.tape = w.tape ∧ w'.output = w.output) →
      ∃ v x rs' g', Ending.returned (Value.string ⟨l.toArray⟩) = .returned v ∧ is (.p (.str l)) x rs' ∧ RepA g' w' x v ∧ GS g' w' rs' ∧ Aft g w g' w' [] := fun w' h1 h2 h3 h4 => by
    have hx : Ext g.fr w g2.fr w' := fun d o ho => ⟨ho, same_of_heap (h2 d (by omega))⟩
    have hA : Aft g w g2 w' [] := ⟨fun d hd hkd => ⟨h1 d hd hkd, rfl, rfl⟩, hx, h4, by omega, fun b t _ ht => (by cases ht)⟩
    exact ⟨_, _, [], g2, rfl, ⟨rfl, rfl⟩, by simp only [RepA, RepP], ⟨fun b t h => (by cases h), fun b b' t h => (by cases h), fun b b' t h => (by cases h), fun b h => absurd rfl h, fun b hb => hG.frb b (by omega), hG.gl.aft hA⟩, hA⟩
  simp only [RepA] at hr
  rcases hr with ⟨rfl, rfl⟩ | ⟨q, cap, cur, rfl, hq, hf, hqb, k1, k2, k3, k4, k5⟩
  · refine (str_raw_nil b arr T w hb hv1).mono ?_
    rintro e w' ⟨rfl, rfl⟩
    exact fin _ (fun d _ _ => rfl) (fun d _ => rfl) rfl ⟨rfl, rfl, rfl⟩
  · refine (str_raw b q cap cur arr T l w hb hv1 hqb k1 k2 k3 (by simpa [Lib.byteCells] using k4) k5).mono ?_
    rintro e w' ⟨rfl, rfl⟩
    have hne : ∀ d, d ≠ q → (w.drew.freeze ⟨q, 0, none⟩ l.length).heap[d]? = w.heap[d]? := fun d hd => by
      simp [World.freeze, k5, Array.getElem?_modify, Ne.symm hd]
      rfl
    exact fin _ (fun d _ hkd => hne d (fun e => by subst e; rw [hq] at hkd; cases hkd)) (fun d hd => hne d (fun e => by subst e; exact hd hf)) (by simp [World.freeze, k5]) (by simp [World.freeze, k5]; exact ⟨rfl, rfl⟩)
/-- A text, written to a builder: once its buffer, and its own address, are told. -/
theorem wstr_run {c0 : AV} (hc0 : c0 = .bz [0] 66 2 ∨ c0 = .lp [0] 0) (l s : List UInt8) (hlen : l.length + s.length ≤ 140737488355328) : CR Tryd.prog 29 [[0]] [.lp [0] 0, .p (.str s)] [([0], [c0, .bb [1] 5 l])]
    (fun x rs' => x = .tup [.junk, .junk] ∧ rs' = [([0], [.lp [0] 0, .bb [1] 5 (l ++ s)])]) := by
  intro w g vs hargs hG
  simp only [RepAL, RepA, RepP] at hargs
  obtain ⟨v, vs', rfl, ⟨b, hk, rfl⟩, v2, vs2, rfl, rfl, rfl⟩ := hargs
  obtain ⟨cs, hl, h0, arr, T, hb, hle, hc⟩ := hG.roots b _ hk
  have hcs : cs = [c0, .bb [1] 5 l] := by simpa [lookT] using hl.symm
  subst hcs
  obtain ⟨p0, hp0, _, hr0⟩ := hc 0 c0 rfl
  obtain ⟨v1, hv1, _, hr⟩ := hc 1 (.bb [1] 5 l) rfl
  obtain ⟨hown, hkind⟩ := bb_own hr
  have hbw := hG.own b (by rw [hk]; simp)
  have hne : v1.ownBlock ≠ some b := by
    rcases hkind with ⟨rfl, _⟩ | ⟨q, hq, hqk, _⟩
    · simp [Value.ownBlock]
    · rw [hq]; intro e; injection e with e; subst e; rw [hqk] at hk; cases hk
  have hsz : 2 ≤ arr.size := hle
  -- its own address
  obtain ⟨W1, arr1, hcopy, hb1, h10, h11, hsz1, hold1, hs1, hout1⟩ : ∃ W1 arr1, Calls Tryd.prog 44 #[.pointer (some ⟨b, 0, none⟩)] w (fun e w' => e = .returned (.tuple #[]) ∧ w' = W1) ∧ W1.heap[b]? = some (.cells arr1 T (0, 0)) ∧
      arr1[0]? = some (.pointer (some ⟨b, 0, none⟩)) ∧ arr1[1]? = some v1 ∧ arr1.size = arr.size ∧ (∀ d, d ≠ b → W1.heap[d]? = w.heap[d]?) ∧ W1.heap.size = w.heap.size ∧ (W1.os = w.os ∧ W1.tape = w.tape ∧ W1.output = w.output) := by
    rcases hc0 with rfl | rfl
    · simp only [RepA] at hr0
      obtain ⟨rfl, b', hk', arr', hb', hs'⟩ := hr0
      obtain rfl := hG.ur b b' _ hk hk'
      rw [hb] at hb'
      injection hb' with hb'; injection hb' with e1 e2; subst e1; subst e2
      refine ⟨_, arr.setIfInBounds 0 (.pointer (some ⟨b, 0, none⟩)), copy_fresh b w (by rw [Lib.cell_of_heap hb]; exact hp0) (by simp [World.shape?, hb, hs']) (Lib.frozen_of_heap hb 0), setCell_at hb 0 _, ?_, ?_, by simp, fun d hd => setCell_heap w b 0 _ d hd, by simp [World.setCell], rfl, rfl, rfl⟩
      · simp [show 0 < arr.size by omega]
      · simp only [Array.getElem?_setIfInBounds]; simpa using hv1
    · simp only [RepA] at hr0
      obtain ⟨b', hk', rfl⟩ := hr0
      obtain rfl := hG.ur b b' _ hk hk'
      exact ⟨w, arr, copy_used b w (by rw [Lib.cell_of_heap hb]; exact hp0), hb, hp0, hv1, rfl, fun _ _ => rfl, rfl, rfl, rfl, rfl⟩
  have hown1 : W1.ownsRow 0 5 1 v1 l.length (Lib.byteCells l) := ⟨hown.1, hown.2.imp id (by
    rintro ⟨q, cap, cur, rfl, h1, h2, h3⟩
    exact ⟨q, cap, cur, rfl, h1, (hold1 q (fun e => hne (by simp [Value.ownBlock, e]))).trans h2, h3⟩)⟩
  refine (wstr_raw0 b v1 l s w W1 arr1 T hcopy hb1 h11 hown1 hne hlen).mono ?_
  rintro e w' ⟨rfl, v', W2, rfl, hown2, hgrow, hiff, hblk⟩
  have hbW1 : b < W1.heap.size := by omega
  have hb2 : W2.heap[b]? = some (.cells arr1 T (0, 0)) := (hgrow.block b hbW1 (fun e => hne e.symm)).trans hb1
  have hb3 := setCell_at hb2 1 v'
  have hv1q : ∀ d, v1.ownBlock = some d → g.K d = .tail [1] ∧ g.fr d = 0 := fun d hd => by
    rcases hkind with ⟨rfl, _⟩ | ⟨q, hq, hqk, hf, _⟩
    · simp [Value.ownBlock] at hd
    · rw [hq] at hd; injection hd with e; subst e; exact ⟨hqk, hf⟩
  have hsame : ∀ d, d < w.heap.size → d ≠ b → v1.ownBlock ≠ some d → (W2.setCell ⟨b, 1, none⟩ v').heap[d]? = w.heap[d]? := fun d hd hdb hdv => by
    rw [setCell_heap _ _ _ _ _ hdb, hgrow.block d (by omega) (fun e => hdv e.symm), hold1 d hdb]
  have hsz2 : (W2.setCell ⟨b, 1, none⟩ v').heap.size = W2.heap.size := by simp [World.setCell]
  have hge : w.heap.size ≤ W2.heap.size := by have := hgrow.size; omega
  have hvq : ∀ q, v'.ownBlock = some q → q ≠ b ∧ g.fr q = 0 ∧ (g.K q = .prot → w.heap.size ≤ q) := fun q hq => by
    rcases hblk with e | ⟨B, e, hB⟩
    · rw [hq] at e
      obtain ⟨k1, k2⟩ := hv1q q e.symm
      exact ⟨fun e' => (by subst e'; rw [k1] at hk; cases hk), k2, fun e' => (by rw [k1] at e'; cases e')⟩
    · rw [hq] at e; injection e with e; subst e
      exact ⟨by omega, hG.frb q (by omega), fun _ => by omega⟩
  let g2 : Gh := ⟨g.fr, fun d => if d = b then .root [0] else if v'.ownBlock = some d then .tail [1] else .prot⟩
  have hK : ∀ d, g2.K d = if d = b then .root [0] else if v'.ownBlock = some d then .tail [1] else .prot := fun _ => rfl
  have hx : Ext g.fr w g2.fr (W2.setCell ⟨b, 1, none⟩ v') := fun d o ho => ⟨ho, same_of_heap (hsame d (by
      rcases Nat.lt_or_ge d w.heap.size with h | h
      · exact h
      · have := hG.frb d h; omega) (fun e => by subst e; omega) (fun e => by have := (hv1q d e).2; omega))⟩
  have hA : Aft g w g2 (W2.setCell ⟨b, 1, none⟩ v') [[0]] := ⟨fun d hd hkd => ⟨hsame d hd (fun e => by subst e; rw [hk] at hkd; cases hkd) (fun e => by have := (hv1q d e).1; rw [this] at hkd; cases hkd), rfl, by
      rw [hK, if_neg (fun e => by subst e; rw [hk] at hkd; cases hkd), if_neg (fun e => by have := (hvq d e).2.2 hkd; omega)]⟩, hx,
    ⟨by show W2.os = _; rw [hgrow.os]; exact hout1.1, by show W2.tape = _; rw [hgrow.tape]; exact hout1.2.1, by show W2.output = _; rw [hgrow.output]; exact hout1.2.2⟩, by omega, fun b' t hk' ht => (by
    obtain rfl : t = [0] := by simpa using ht
    obtain rfl := hG.ur b b' _ hk hk'
    exact ⟨by rw [hK, if_pos rfl], fun n hn => Blk_of hb hb3 (by simp [hsz1]) hn⟩)⟩
  have hempty : l ++ s = [] → v' = .slice none 0 0 := fun e => by
    obtain ⟨rfl, rfl⟩ := List.append_eq_nil_iff.1 e
    rcases hkind with ⟨h, _⟩ | ⟨q, _, _, _, h⟩
    · exact hiff.2 ⟨h, rfl⟩
    · exact absurd rfl h
  have hbb : RepA g2 (W2.setCell ⟨b, 1, none⟩ v') (.bb [1] 5 (l ++ s)) v' := by
    simp only [RepA]
    rcases hown2.2 with ⟨h, h'⟩ | ⟨q, cap, cur, rfl, _, hq, k1, k2, k3, k4⟩
    · exact .inl ⟨List.eq_nil_of_length_eq_zero h', h⟩
    · obtain ⟨q1, q2, _⟩ := hvq q rfl
      refine .inr ⟨q, cap, cur, rfl, by rw [hK, if_neg q1]; exact if_pos rfl, q2, (setCell_heap _ _ _ _ _ q1).trans hq, k1, k2, by omega, ?_, fun e => ?_⟩
      · rw [Nat.mul_one] at k4; exact k4
      · have := hempty e; cases this
  refine ⟨_, .tup [.junk, .junk], [([0], [.lp [0] 0, .bb [1] 5 (l ++ s)])], g2, rfl, ⟨rfl, rfl⟩, by simp only [RepA, RepAL]; exact ⟨_, rfl, _, _, rfl, trivial, _, _, rfl, trivial, rfl⟩, ⟨fun d t hd => ?_, fun d d' t hd hd' => ?_, fun d d' t hd hd' => ?_, fun d hd => ?_, fun d hd => hG.frb d (by omega), hG.gl.aft hA⟩, hA⟩
  · have hdb : d = b := by
      rw [hK] at hd
      split at hd
      · assumption
      · split at hd <;> cases hd
    subst hdb
    have ht : t = [0] := by rw [hK, if_pos rfl] at hd; injection hd with e; exact e.symm
    subst ht
    refine ⟨_, rfl, h0, _, T, hb3, by simp [hsz1]; omega, fun j x hj => ?_⟩
    match j, hj with
    | 0, hj =>
      simp at hj; subst hj
      refine ⟨.pointer (some ⟨d, 0, none⟩), ?_, rfl, by simp only [RepA]; exact ⟨d, by rw [hK, if_pos rfl], rfl⟩⟩
      simp only [Array.getElem?_setIfInBounds]; simpa using h10
    | 1, hj =>
      simp at hj; subst hj
      refine ⟨v', by simp [Array.getElem?_setIfInBounds, hsz1]; omega, ?_, hbb⟩
      rcases hown2.2 with ⟨rfl, _⟩ | ⟨q, cap, cur, rfl, _⟩ <;> rfl
    | j + 2, hj => simp at hj
  · have one : ∀ d, g2.K d = .root t → d = b := fun d hd => by
      rw [hK] at hd
      split at hd
      · assumption
      · split at hd <;> cases hd
    rw [one d hd, one d' hd']
  · have one : ∀ d, g2.K d = .tail t → v'.ownBlock = some d := fun d hd => by
      rw [hK] at hd
      split at hd
      · cases hd
      · split at hd
        · assumption
        · cases hd
    have e1 := one d hd
    rw [one d' hd'] at e1
    injection e1 with e1; exact e1.symm
  · rw [hsz2]
    rw [hK] at hd
    split at hd
    · rename_i e; subst e; omega
    · split at hd
      · rename_i e
        rcases hown2.2 with ⟨rfl, _⟩ | ⟨q, cap, cur, rfl, _, hq, _⟩
        · simp [Value.ownBlock] at e
        · simp [Value.ownBlock] at e; subst e
          exact (Array.getElem?_eq_some_iff.1 hq).1
      · exact absurd rfl hd
end Go.Proofs.YtjgfmanahimpoaaDoor
