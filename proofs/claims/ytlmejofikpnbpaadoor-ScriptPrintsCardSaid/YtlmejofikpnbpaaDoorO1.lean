/- What the program and the document print, and the document's bare events, as contracts of the abstract machine. Conditions: as each law says. -/
import Derived.Test.YtlmejofikpnbpaaDoorL
import Derived.Test.YtlmejofikpnbpaaDoorN
import Derived.Lib.ItoaNum
namespace Go.Proofs.YtlmejofikpnbpaaDoor
open Go.AM
set_option maxRecDepth 10000
theorem bb_own {g : Gh} {w : World} {t : Tok} {l : List UInt8} {v : Value} (h : RepA g w (.bb t 5 l) v) : w.ownsRow 0 5 1 v l.length (Lib.byteCells l) ∧ (v = .slice none 0 0 ∧ l = [] ∨ ∃ q, v.ownBlock = some q ∧ g.K q = .tail t ∧ g.fr q = 0 ∧ l ≠ []) := by
  simp only [RepA] at h
  have hl : (Lib.byteCells l).length = l.length * 1 := by simp [Lib.byteCells]
  rcases h with ⟨rfl, rfl⟩ | ⟨b, cap, arr, rfl, hk, hf, hb, h1, h2, h3, h4, h5⟩
  · exact ⟨⟨hl, .inl ⟨rfl, rfl⟩⟩, .inl ⟨rfl, rfl⟩⟩
  · exact ⟨⟨hl, .inr ⟨b, cap, arr, rfl, Nat.zero_le _, hb, h1, h2, by omega, by rw [Nat.mul_one]; exact h4⟩⟩, .inr ⟨b, rfl, hk, hf, h5⟩⟩
theorem Blk_of {w w' : World} {b : Nat} {arr arr' : Array Value} {T : TypeId} {n : BN} (h : w.heap[b]? = some (.cells arr T (0, 0))) (h' : w'.heap[b]? = some (.cells arr' T (0, 0))) (hs : arr'.size = arr.size) (hn : Blk w b n) : Blk w' b n := by
  cases n <;> simp only [Blk] at hn ⊢
  · obtain ⟨arr2, T2, h2, hn⟩ := hn
    rw [h] at h2
    injection h2 with h2; injection h2 with e1 e2; subst e1; subst e2
    exact ⟨arr', T, h', by omega⟩
  · obtain ⟨arr2, h2, hn⟩ := hn
    rw [h] at h2
    injection h2 with h2; injection h2 with e1 e2; subst e1; subst e2
    exact ⟨arr', h', by omega⟩
theorem setCell_heap (w : World) (b o : Nat) (v : Value) (k : Nat) (h : k ≠ b) : (w.setCell ⟨b, o, none⟩ v).heap[k]? = w.heap[k]? := by
  simp [World.setCell, Array.getElem?_modify, Ne.symm h]
theorem setCell_at {w : World} {b : Nat} {arr : Array Value} {T : TypeId} {f : Nat × Nat} (h : w.heap[b]? = some (.cells arr T f)) (o : Nat) (v : Value) : (w.setCell ⟨b, o, none⟩ v).heap[b]? = some (.cells (arr.setIfInBounds o v) T f) := by
  simp [World.setCell, Array.getElem?_modify, h]
variable [Gi]
theorem str_cr (c0 : AV) (cs1 : List AV) (l : List UInt8) : CR Tryd.prog 23 [] [.lp [0] 0] [([0], c0 :: .bb [1] 5 l :: cs1)] (is (.p (.str l))) := by
  intro w g vs hargs hG
  simp only [RepAL, RepA] at hargs
  obtain ⟨v, vs', rfl, ⟨b, hk, rfl⟩, rfl⟩ := hargs
  obtain ⟨cs, hl, h0, arr, T, hb, hle, hc⟩ := hG.roots b _ hk
  have hcs : cs = c0 :: .bb [1] 5 l :: cs1 := by simpa [lookT] using hl.symm
  subst hcs
  obtain ⟨v1, hv1, _, hr⟩ := hc 1 (.bb [1] 5 l) rfl
  let g2 : Gh := ⟨g.fr, fun _ => .prot⟩
  have fin : ∀ w' : World, (∀ d, d < w.heap.size → g.K d = .prot → w'.heap[d]? = w.heap[d]?) → (∀ d, g.fr d ≠ 0 → w'.heap[d]? = w.heap[d]?) → w'.heap.size = w.heap.size → (w'.os = w.os ∧ w'.tape = w.tape ∧ w'.output = w.output) →
      ∃ v x rs' g', Ending.returned (Value.string ⟨l.toArray⟩) = .returned v ∧ is (.p (.str l)) x rs' ∧ RepA g' w' x v ∧ GS g' w' rs' ∧ Aft g w g' w' [] := fun w' h1 h2 h3 h4 => by
    have hx : Ext g.fr w g2.fr w' := fun d o ho => ⟨ho, same_of_heap (h2 d (by omega))⟩
    have hA : Aft g w g2 w' [] := ⟨fun d hd hkd => ⟨h1 d hd hkd, rfl, rfl⟩, hx, h4, by omega, fun b t _ ht => (by cases ht)⟩
    exact ⟨_, _, [], g2, rfl, ⟨rfl, rfl⟩, by simp only [RepA, RepP], ⟨fun b t h => (by cases h), fun b b' t h => (by cases h), fun b b' t h => (by cases h), fun b h => absurd rfl h, fun b hb => hG.frb b (by omega), hG.gl.aft hA⟩, hA⟩
  simp only [RepA] at hr
  rcases hr with ⟨rfl, rfl⟩ | ⟨q, cap, cur, rfl, hq, hf, hqb, k1, k2, k3, k4, k5⟩
  · refine (str_raw_nil b arr T w hb hv1).mono ?_
    rintro e w' ⟨rfl, rfl⟩
    exact fin _ (fun d _ _ => rfl) (fun d _ => rfl) rfl ⟨rfl, rfl, rfl⟩
  · refine (str_raw b q cap cur arr T l w hb hv1 hqb k1 k2 k3 (by simpa [Lib.byteCells] using k4) k5).mono ?_
    rintro e w' ⟨rfl, rfl⟩
    have hne : ∀ d, d ≠ q → (w.drew.freeze ⟨q, 0, none⟩ l.length).heap[d]? = w.heap[d]? := fun d hd => by
      simp [World.freeze, k5, Array.getElem?_modify, Ne.symm hd]
      rfl
    exact fin _ (fun d _ hkd => hne d (fun e => by subst e; rw [hq] at hkd; cases hkd)) (fun d hd => hne d (fun e => by subst e; exact hd hf)) (by simp [World.freeze, k5]) (by simp [World.freeze, k5]; exact ⟨rfl, rfl⟩)
/-- What a write leaves: the builder's block, with its own address, and a buffer that holds more; the block's other cells as they were. -/
theorem wr_end {b : Nat} {l l2 : List UInt8} {xs : List PV} {g : Gh} {w w' W1 W2 : World} {Rs : List Tok} (hG : GS g w [([0], .bz [0] 55 3 :: .bb [1] 5 l :: xs.map .p)]) (hk : g.K b = .root [0]) (hpin : Rs = [[0]])
    {arr arr1 : Array Value} {T : TypeId} {v1 v' : Value} (hb : w.heap[b]? = some (.cells arr T (0, 0))) (hle : 2 + xs.length ≤ arr.size) (h0 : g.fr b = 0) (hcs : ∀ j x, xs[j]? = some x → ∃ u, arr[j + 2]? = some u ∧ u.oneCell' = true ∧ RepP g.fr w x u)
    (hkind : v1 = .slice none 0 0 ∧ l = [] ∨ ∃ q, v1.ownBlock = some q ∧ g.K q = .tail [1] ∧ g.fr q = 0 ∧ l ≠ []) (hne : v1.ownBlock ≠ some b)
    (hb1 : W1.heap[b]? = some (.cells arr1 T (0, 0))) (h10 : arr1[0]? = some (.pointer (some ⟨b, 0, none⟩))) (hsz1 : arr1.size = arr.size) (hrest : ∀ j, arr1[j + 2]? = arr[j + 2]?) (hold1 : ∀ d, d ≠ b → W1.heap[d]? = w.heap[d]?) (hs1 : W1.heap.size = w.heap.size)
    (hblkT : Blk w b (.eq 55 3)) (hout2 : W2.os = w.os ∧ W2.tape = w.tape ∧ W2.output = w.output) (hge : w.heap.size ≤ W2.heap.size) (hgrow : ∀ k, k < w.heap.size → v1.ownBlock ≠ some k → W2.heap[k]? = W1.heap[k]?)
    (hown2 : W2.ownsRow 0 5 1 v' l2.length (Lib.byteCells l2)) (hiff : l2 = [] → v' = .slice none 0 0) (hblk : v'.ownBlock = v1.ownBlock ∨ ∃ B, v'.ownBlock = some B ∧ W1.heap.size ≤ B) (hw' : w' = W2.setCell ⟨b, 1, none⟩ v') :
    ∃ g2 : Gh, GS g2 w' [([0], .bz [0] 55 3 :: .bb [1] 5 l2 :: xs.map .p)] ∧ Aft g w g2 w' Rs := by
  subst hw' hpin
  have hbw := hG.own b (by rw [hk]; simp)
  have hbW1 : b < w.heap.size := hbw
  have hb2 : W2.heap[b]? = some (.cells arr1 T (0, 0)) := (hgrow b hbW1 hne).trans hb1
  have hb3 := setCell_at hb2 1 v'
  have hv1q : ∀ d, v1.ownBlock = some d → g.K d = .tail [1] ∧ g.fr d = 0 := fun d hd => by
    rcases hkind with ⟨rfl, _⟩ | ⟨q, hq, hqk, hf, _⟩
    · simp [Value.ownBlock] at hd
    · rw [hq] at hd; injection hd with e; subst e; exact ⟨hqk, hf⟩
  have hsame : ∀ d, d < w.heap.size → d ≠ b → v1.ownBlock ≠ some d → (W2.setCell ⟨b, 1, none⟩ v').heap[d]? = w.heap[d]? := fun d hd hdb hdv => by
    rw [setCell_heap _ _ _ _ _ hdb, hgrow d hd hdv, hold1 d hdb]
  have hsz2 : (W2.setCell ⟨b, 1, none⟩ v').heap.size = W2.heap.size := by simp [World.setCell]
  have hvq : ∀ q, v'.ownBlock = some q → q ≠ b ∧ g.fr q = 0 ∧ (g.K q = .prot → w.heap.size ≤ q) := fun q hq => by
    rcases hblk with e | ⟨B, e, hB⟩
    · rw [hq] at e
      obtain ⟨k1, k2⟩ := hv1q q e.symm
      exact ⟨fun e' => (by subst e'; rw [k1] at hk; cases hk), k2, fun e' => (by rw [k1] at e'; cases e')⟩
    · rw [hq] at e; injection e with e; subst e
      exact ⟨by omega, hG.frb q (by omega), fun _ => by omega⟩
  let g2 : Gh := ⟨g.fr, fun d => if d = b then .root [0] else if v'.ownBlock = some d then .tail [1] else .prot⟩
  have hK : ∀ d, g2.K d = if d = b then .root [0] else if v'.ownBlock = some d then .tail [1] else .prot := fun _ => rfl
  have hx : Ext g.fr w g2.fr (W2.setCell ⟨b, 1, none⟩ v') := fun d o ho => ⟨ho, same_of_heap (hsame d (by
      rcases Nat.lt_or_ge d w.heap.size with h | h
      · exact h
      · have := hG.frb d h; omega) (fun e => by subst e; omega) (fun e => by have := (hv1q d e).2; omega))⟩
  have hA : Aft g w g2 (W2.setCell ⟨b, 1, none⟩ v') [[0]] := ⟨fun d hd hkd => ⟨hsame d hd (fun e => by subst e; rw [hk] at hkd; cases hkd) (fun e => by have := (hv1q d e).1; rw [this] at hkd; cases hkd), rfl, by
      rw [hK, if_neg (fun e => by subst e; rw [hk] at hkd; cases hkd), if_neg (fun e => by have := (hvq d e).2.2 hkd; omega)]⟩, hx,
    ⟨hout2.1, hout2.2.1, hout2.2.2⟩, by omega, fun b' t hk' ht => (by
    obtain rfl : t = [0] := by simpa using ht
    obtain rfl := hG.ur b b' _ hk hk'
    exact ⟨by rw [hK, if_pos rfl], fun n hn => Blk_of hb hb3 (by simp [hsz1]) hn⟩)⟩
  have hbb : RepA g2 (W2.setCell ⟨b, 1, none⟩ v') (.bb [1] 5 l2) v' := by
    simp only [RepA]
    rcases hown2.2 with ⟨h, h'⟩ | ⟨q, cap, cur, rfl, _, hq, k1, k2, k3, k4⟩
    · exact .inl ⟨List.eq_nil_of_length_eq_zero h', h⟩
    · obtain ⟨q1, q2, _⟩ := hvq q rfl
      refine .inr ⟨q, cap, cur, rfl, by rw [hK, if_neg q1]; exact if_pos rfl, q2, (setCell_heap _ _ _ _ _ q1).trans hq, k1, k2, by omega, ?_, fun e => ?_⟩
      · rw [Nat.mul_one] at k4; exact k4
      · have := hiff e; cases this
  refine ⟨g2, ⟨fun d t hd => ?_, fun d d' t hd hd' => ?_, fun d d' t hd hd' => ?_, fun d hd => ?_, fun d hd => hG.frb d (by omega), hG.gl.aft hA⟩, hA⟩
  · have hdb : d = b := by
      rw [hK] at hd
      split at hd
      · assumption
      · split at hd <;> cases hd
    subst hdb
    have ht : t = [0] := by rw [hK, if_pos rfl] at hd; injection hd with e; exact e.symm
    subst ht
    refine ⟨_, rfl, h0, _, T, hb3, by simp [hsz1]; omega, fun j x hj => ?_⟩
    match j, hj with
    | 0, hj =>
      simp at hj; subst hj
      refine ⟨.pointer (some ⟨d, 0, none⟩), ?_, rfl, by simp only [RepA]; exact ⟨d, by rw [hK, if_pos rfl], Blk_of hb hb3 (by simp [hsz1]) hblkT, .inr rfl⟩⟩
      simp only [Array.getElem?_setIfInBounds]; simpa using h10
    | 1, hj =>
      simp at hj; subst hj
      refine ⟨v', by simp [Array.getElem?_setIfInBounds, hsz1]; omega, ?_, hbb⟩
      rcases hown2.2 with ⟨rfl, _⟩ | ⟨q, cap, cur, rfl, _⟩ <;> rfl
    | j + 2, hj =>
      simp only [List.getElem?_cons_succ, List.getElem?_map, Option.map_eq_some_iff] at hj
      obtain ⟨y, hy, rfl⟩ := hj
      obtain ⟨u, hu, h1, hr⟩ := hcs j y hy
      refine ⟨u, ?_, h1, by simp only [RepA]; exact hr.ext hx⟩
      rw [Array.getElem?_setIfInBounds, if_neg (by omega), hrest]; exact hu
  · have one : ∀ d, g2.K d = .root t → d = b := fun d hd => by
      rw [hK] at hd
      split at hd
      · assumption
      · split at hd <;> cases hd
    rw [one d hd, one d' hd']
  · have one : ∀ d, g2.K d = .tail t → v'.ownBlock = some d := fun d hd => by
      rw [hK] at hd
      split at hd
      · cases hd
      · split at hd
        · assumption
        · cases hd
    have e1 := one d hd
    rw [one d' hd'] at e1
    injection e1 with e1; exact e1.symm
  · rw [hsz2]
    rw [hK] at hd
    split at hd
    · rename_i e; subst e; omega
    · split at hd
      · rename_i e
        rcases hown2.2 with ⟨rfl, _⟩ | ⟨q, cap, cur, rfl, _, hq, _⟩
        · simp [Value.ownBlock] at e
        · simp [Value.ownBlock] at e; subst e
          exact (Array.getElem?_eq_some_iff.1 hq).1
      · exact absurd rfl hd
/-- The start of a write: what the block holds, and its own address, told. -/
theorem wr_start {b : Nat} {l : List UInt8} {xs : List PV} {g : Gh} {w : World} (hG : GS g w [([0], .bz [0] 55 3 :: .bb [1] 5 l :: xs.map .p)]) (hk : g.K b = .root [0]) :
    ∃ arr T v1, w.heap[b]? = some (.cells arr T (0, 0)) ∧ 2 + xs.length ≤ arr.size ∧ g.fr b = 0 ∧ (∀ j x, xs[j]? = some x → ∃ u, arr[j + 2]? = some u ∧ u.oneCell' = true ∧ RepP g.fr w x u) ∧
      (v1 = .slice none 0 0 ∧ l = [] ∨ ∃ q, v1.ownBlock = some q ∧ g.K q = .tail [1] ∧ g.fr q = 0 ∧ l ≠ []) ∧ v1.ownBlock ≠ some b ∧ Blk w b (.eq 55 3) ∧
      ∃ W1 arr1, Calls Tryd.prog 43 #[.pointer (some ⟨b, 0, none⟩)] w (fun e w' => e = .returned (.tuple #[]) ∧ w' = W1) ∧ W1.heap[b]? = some (.cells arr1 T (0, 0)) ∧
      arr1[0]? = some (.pointer (some ⟨b, 0, none⟩)) ∧ arr1[1]? = some v1 ∧ arr1.size = arr.size ∧ (∀ j, arr1[j + 2]? = arr[j + 2]?) ∧ (∀ d, d ≠ b → W1.heap[d]? = w.heap[d]?) ∧ W1.heap.size = w.heap.size ∧ (W1.os = w.os ∧ W1.tape = w.tape ∧ W1.output = w.output) ∧
      W1.ownsRow 0 5 1 v1 l.length (Lib.byteCells l) := by
  obtain ⟨cs, hl, h0, arr, T, hb, hle, hc⟩ := hG.roots b _ hk
  have hcs : cs = .bz [0] 55 3 :: .bb [1] 5 l :: xs.map .p := by simpa [lookT] using hl.symm
  subst hcs
  obtain ⟨p0, hp0, _, hr0⟩ := hc 0 (.bz [0] 55 3) rfl
  obtain ⟨v1, hv1, _, hr⟩ := hc 1 (.bb [1] 5 l) rfl
  obtain ⟨hown, hkind⟩ := bb_own hr
  have hbw := hG.own b (by rw [hk]; simp)
  have hne : v1.ownBlock ≠ some b := by
    rcases hkind with ⟨rfl, _⟩ | ⟨q, hq, hqk, _⟩
    · simp [Value.ownBlock]
    · rw [hq]; intro e; injection e with e; subst e; rw [hqk] at hk; cases hk
  have hsz : 2 + xs.length ≤ arr.size := by simp at hle; omega
  simp only [RepA] at hr0
  obtain ⟨b', hk', hblk, hp⟩ := hr0
  obtain rfl := hG.ur b b' _ hk hk'
  refine ⟨arr, T, v1, hb, hsz, h0, fun j x hj => ?_, hkind, hne, hblk, ?_⟩
  · obtain ⟨u, hu, h1, hr⟩ := hc (j + 2) (.p x) (by simp [hj])
    exact ⟨u, hu, h1, by simpa only [RepA] using hr⟩
  · have hown1 : ∀ W1 : World, (∀ d, d ≠ b → W1.heap[d]? = w.heap[d]?) → W1.ownsRow 0 5 1 v1 l.length (Lib.byteCells l) := fun W1 hold => ⟨hown.1, hown.2.imp id (by
      rintro ⟨q, cap, cur, rfl, h1, h2, h3⟩
      exact ⟨q, cap, cur, rfl, h1, (hold q (fun e => hne (by simp [Value.ownBlock, e]))).trans h2, h3⟩)⟩
    rcases hp with rfl | rfl
    · obtain ⟨arr', hb', hs'⟩ := hblk
      rw [hb] at hb'
      injection hb' with hb'; injection hb' with e1 e2; subst e1; subst e2
      refine ⟨_, arr.setIfInBounds 0 (.pointer (some ⟨b, 0, none⟩)), copy_fresh b w (by rw [Lib.cell_of_heap hb]; exact hp0) (by simp [World.shape?, hb, hs']) (Lib.frozen_of_heap hb 0), setCell_at hb 0 _, ?_, ?_, by simp, fun j => ?_, fun d hd => setCell_heap w b 0 _ d hd, by simp [World.setCell], ⟨rfl, rfl, rfl⟩, hown1 _ fun d hd => setCell_heap w b 0 _ d hd⟩
      · simp [show 0 < arr.size by omega]
      · simp only [Array.getElem?_setIfInBounds]; simpa using hv1
      · rw [Array.getElem?_setIfInBounds, if_neg (by omega)]
    · exact ⟨w, arr, copy_used b w (by rw [Lib.cell_of_heap hb]; exact hp0), hb, hp0, hv1, rfl, fun _ => rfl, fun _ _ => rfl, rfl, ⟨rfl, rfl, rfl⟩, hown1 _ fun _ _ => rfl⟩
theorem wstr_cr (xs : List PV) (l s : List UInt8) (hlen : l.length + s.length ≤ 140737488355328) : CR Tryd.prog 33 [[0]] [.lp [0] 0, .p (.str s)] [([0], .bz [0] 55 3 :: .bb [1] 5 l :: xs.map .p)]
    (fun x rs' => x = .tup [.junk, .junk] ∧ rs' = [([0], .bz [0] 55 3 :: .bb [1] 5 (l ++ s) :: xs.map .p)]) := by
  intro w g vs hargs hG
  simp only [RepAL, RepA, RepP] at hargs
  obtain ⟨v, vs', rfl, ⟨b, hk, rfl⟩, v2, vs2, rfl, rfl, rfl⟩ := hargs
  obtain ⟨arr, T, v1, hb, hle, h0, hcs, hkind, hne, hblkT, W1, arr1, hcopy, hb1, h10, h11, hsz1, hrest, hold1, hs1, hout1, hown1⟩ := wr_start hG hk
  refine (wstr_raw0 b v1 l s w W1 arr1 T hcopy hb1 h11 hown1 hne hlen).mono ?_
  rintro e w' ⟨rfl, v', W2, hw', hown2, hgrow, hiff, hblk⟩
  obtain ⟨g2, hG2, hA⟩ := wr_end (Rs := [[0]]) hG hk rfl hb hle h0 hcs hkind hne hb1 h10 hsz1 hrest hold1 hs1 hblkT ⟨by rw [hgrow.os]; exact hout1.1, by rw [hgrow.tape]; exact hout1.2.1, by rw [hgrow.output]; exact hout1.2.2⟩ (by have := hgrow.size; omega)
    (fun k hk h => hgrow.block k (by omega) (fun e => h e.symm)) hown2 (fun e => by
      obtain ⟨rfl, rfl⟩ := List.append_eq_nil_iff.1 e
      rcases hkind with ⟨h, _⟩ | ⟨q, _, _, _, h⟩
      · exact hiff.2 ⟨h, rfl⟩
      · exact absurd rfl h) hblk hw'
  exact ⟨_, .tup [.junk, .junk], _, g2, rfl, ⟨rfl, rfl⟩, by simp only [RepA, RepAL]; exact ⟨_, rfl, _, _, rfl, trivial, _, _, rfl, trivial, rfl⟩, hG2, hA⟩
theorem wbyte_cr (xs : List PV) (l : List UInt8) (x : UInt8) (hlen : l.length + 1 ≤ 140737488355328) : CR Tryd.prog 34 [[0]] [.lp [0] 0, .p (.int .u8 (x.toNat : Int))] [([0], .bz [0] 55 3 :: .bb [1] 5 l :: xs.map .p)]
    (fun y rs' => y = .junk ∧ rs' = [([0], .bz [0] 55 3 :: .bb [1] 5 (l ++ [x]) :: xs.map .p)]) := by
  intro w g vs hargs hG
  simp only [RepAL, RepA, RepP] at hargs
  obtain ⟨v, vs', rfl, ⟨b, hk, rfl⟩, v2, vs2, rfl, rfl, rfl⟩ := hargs
  obtain ⟨arr, T, v1, hb, hle, h0, hcs, hkind, hne, hblkT, W1, arr1, hcopy, hb1, h10, h11, hsz1, hrest, hold1, hs1, hout1, hown1⟩ := wr_start hG hk
  refine (wbyte_raw0 b v1 l x w W1 arr1 T hcopy hb1 h11 hown1 hne hlen).mono ?_
  rintro e w' ⟨rfl, v', W2, hw', hown2, hgrow, hblk⟩
  obtain ⟨g2, hG2, hA⟩ := wr_end (Rs := [[0]]) hG hk rfl hb hle h0 hcs hkind hne hb1 h10 hsz1 hrest hold1 hs1 hblkT ⟨by rw [hgrow.os]; exact hout1.1, by rw [hgrow.tape]; exact hout1.2.1, by rw [hgrow.output]; exact hout1.2.2⟩ (by have := hgrow.size; simp at this; omega)
    (fun k hk h => (hgrow.block k (by simp; omega) (fun e => h e.symm)).trans (Lib.alloc_old W1 _ k (by omega))) hown2 (fun e => by simp at e) hblk hw'
  exact ⟨_, .junk, _, g2, rfl, ⟨rfl, rfl⟩, by simp only [RepA], hG2, hA⟩
end Go.Proofs.YtlmejofikpnbpaaDoor
namespace Go.Proofs.YtlmejofikpnbpaaDoor
open Go.AM
set_option maxRecDepth 10000
/-! ### Digits -/
def hexD (n : Nat) : UInt8 := (digits16[n]?).getD 0
theorem hexD_dig : ∀ n, n < 16 → digV (hexD n) = n := by decide
theorem hexD_in : ∀ n, n < 16 → hexD n ≠ 10 ∧ hexD n ≠ 32 := by decide
theorem digit_nat {k : Nat} (h : k < 10) : (UInt8.ofNat (48 + k)).toNat = 48 + k := by
  rw [UInt8.toNat_ofNat']; omega
theorem numL_app : ∀ (a : List UInt8) (acc : Int) (k : Nat), k < 10 → 0 ≤ numL a acc → numL (a ++ [UInt8.ofNat (48 + k)]) acc = 10 * numL a acc + k
  | [], acc, k, hk, _ => by
    have := digit_nat hk
    simp only [List.nil_append, numL]
    rw [if_pos (by omega)]
    omega
  | c :: r, acc, k, hk, h => by
    rw [List.cons_append]
    unfold numL at h ⊢
    split
    · rename_i hc
      rw [if_pos hc] at h
      exact numL_app r _ k hk h
    · rename_i hc
      rw [if_neg hc] at h
      omega
theorem numL_dec (u : Nat) : numL (Lib.decDigits u) 0 = u := by
  induction u using Nat.strongRecOn with
  | _ u ih =>
    by_cases h : u < 10
    · rw [Lib.decDigits, dif_pos h]
      have := digit_nat h
      simp only [numL]
      rw [if_pos (by omega)]
      omega
    · have hu := ih (u / 10) (by omega)
      rw [Lib.decDigits, dif_neg h, numL_app _ _ _ (by omega) (by omega), hu]
      omega
theorem dec_mem (u : Nat) : ∀ c ∈ Lib.decDigits u, 48 ≤ c.toNat ∧ c.toNat ≤ 57 := by
  induction u using Nat.strongRecOn with
  | _ u ih =>
    intro c hc
    by_cases h : u < 10
    · rw [Lib.decDigits, dif_pos h] at hc
      rw [List.mem_singleton] at hc; subst hc
      rw [digit_nat h]; omega
    · rw [Lib.decDigits, dif_neg h] at hc
      rcases List.mem_append.1 hc with hc | hc
      · exact ih (u / 10) (by omega) c hc
      · rw [List.mem_singleton] at hc; subst hc
        rw [digit_nat (by omega : u % 10 < 10)]; omega
theorem dec_first (u : Nat) (h0 : 0 < u) : ∃ c r, Lib.decDigits u = c :: r ∧ c.toNat ≠ 48 := by
  induction u using Nat.strongRecOn with
  | _ u ih =>
    by_cases h : u < 10
    · rw [Lib.decDigits, dif_pos h]
      exact ⟨_, _, rfl, by rw [digit_nat h]; omega⟩
    · obtain ⟨c, r, e, hc⟩ := ih (u / 10) (by omega) (by omega)
      rw [Lib.decDigits, dif_neg h, e]
      exact ⟨c, _, rfl, hc⟩
theorem dec_len (u : Nat) (h : u ≤ 9999) : 1 ≤ (Lib.decDigits u).length ∧ (Lib.decDigits u).length ≤ 4 := by
  rw [Lib.decDigits_length]
  refine ⟨Lib.nDigits_pos u, ?_⟩
  have h1 : ∀ v, v < 10 → Lib.nDigits v = 1 := fun v hv => Lib.nDigits_small hv
  by_cases a : u < 10
  · rw [h1 u a]; omega
  · rw [Lib.nDigits_big a]
    by_cases b : u / 10 < 10
    · rw [h1 _ b]; omega
    · rw [Lib.nDigits_big b]
      by_cases c : u / 10 / 10 < 10
      · rw [h1 _ c]; omega
      · rw [Lib.nDigits_big c, h1 _ (by omega)]; omega
theorem numV_dec (u : Nat) (h : u ≤ 9999) : numV (Lib.decDigits u) = u := by
  have hl := dec_len u h
  unfold numV
  rw [if_neg, numL_dec]
  rintro (k | k | ⟨k1, k2⟩)
  · omega
  · omega
  · by_cases h0 : u = 0
    · subst h0; rw [Lib.decDigits, dif_pos (by omega)] at k2; simp at k2
    · obtain ⟨c, r, e, hc⟩ := dec_first u (by omega)
      rw [e] at k1
      simp [strAt] at k1
      omega
/-! ### Printing -/
def Ev.okb (x : Ev) : Prop := 0 ≤ x.b ∧ x.b ≤ 255
/-- A line that is open, ended. -/
def endS (st : List UInt8 × Nat) : List UInt8 × Nat := (if 0 < st.2 then st.1 ++ [10] else st.1, 0)
def hex2 (b : Int) : List UInt8 := [hexD (b / 16).toNat, hexD (b % 16).toNat]
def bytesW : List UInt8 := [98, 121, 116, 101, 115, 32]
def tickW : List UInt8 := [116, 105, 99, 107, 10]
def sizeW : List UInt8 := [115, 105, 122, 101, 32]
def sizeT (r c : Int) : List UInt8 := sizeW ++ Lib.itoa r ++ [32] ++ Lib.itoa c ++ [10]
def okSize (x : Ev) : Prop := 0 ≤ x.r ∧ x.r ≤ 9999 ∧ 0 ≤ x.c ∧ x.c ≤ 9999
instance (x : Ev) : Decidable (okSize x) := by unfold okSize; exact inferInstance
def preS (x : Ev) (st : List UInt8 × Nat) : List UInt8 × Nat := if x.k ≠ 1 ∨ st.2 = 32 then endS st else st
def putB (x : Ev) (st : List UInt8 × Nat) : Option (List UInt8 × Nat) :=
  if x.k = 1 then some ((if st.2 = 0 then st.1 ++ bytesW else st.1) ++ hex2 x.b, st.2 + 1)
  else if x.k = 2 then some (st.1 ++ tickW, st.2)
  else if x.k = 3 then if okSize x then some (st.1 ++ sizeT x.r x.c, st.2) else none
  else none
def putS (x : Ev) (st : List UInt8 × Nat) : Option (List UInt8 × Nat) := putB x (preS x st)
def putAll : List Ev → List UInt8 × Nat → Option (List UInt8 × Nat)
  | [], st => some st
  | x :: xs, st => (putS x st).bind (putAll xs)
def printL (l : List Ev) : List UInt8 × Nat := if 65536 < l.length then ([], 7) else match putAll l ([], 0) with
  | none => ([], 1)
  | some st => ((endS st).1, 0)
/-! ### What is printed, line by line -/
def bare (x : Ev) : Ev := ⟨x.k, if x.k = 1 then x.b else 0, if x.k = 3 then x.r else 0, if x.k = 3 then x.c else 0⟩
def hexAll (cur : List Ev) : List UInt8 := cur.flatMap fun x => hex2 x.b
structure Good (p : List UInt8 × List Ev) : Prop where
  ten : (10 : UInt8) ∉ p.1
  line : lineV p.1 = some p.2
  ne : p.1 ≠ []
def textOf (Ls : List (List UInt8 × List Ev)) : List UInt8 := Ls.flatMap fun p => p.1 ++ [10]
def evsOf (Ls : List (List UInt8 × List Ev)) : List Ev := Ls.flatMap (·.2)
structure Inv (es : List Ev) (st : List UInt8 × Nat) : Prop where
  ex : ∃ Ls : List (List UInt8 × List Ev), ∃ cur : List Ev, (∀ p ∈ Ls, Good p) ∧ cur.length = st.2 ∧ st.2 ≤ 32 ∧ (∀ x ∈ cur, x.k = 1 ∧ x.okb ∧ x.r = 0 ∧ x.c = 0) ∧
    st.1 = textOf Ls ++ (if st.2 = 0 then [] else bytesW ++ hexAll cur) ∧ evsOf Ls ++ cur = es.map bare
theorem hex2_len (b : Int) : (hex2 b).length = 2 := rfl
theorem hexAll_len : ∀ cur : List Ev, (hexAll cur).length = 2 * cur.length
  | [] => rfl
  | x :: r => by
    have := hexAll_len r
    simp only [hexAll, List.flatMap_cons, List.length_append, hex2_len, List.length_cons] at this ⊢
    omega
theorem hexL_all : ∀ cur : List Ev, (∀ x ∈ cur, x.k = 1 ∧ x.okb ∧ x.r = 0 ∧ x.c = 0) → hexL (hexAll cur) = some cur
  | [], _ => rfl
  | x :: r, h => by
    have ih := hexL_all r (fun y hy => h y (List.mem_cons_of_mem _ hy))
    obtain ⟨hk, ⟨h1, h2⟩, h3, h4⟩ := h x (by simp)
    have e1 := hexD_dig (x.b / 16).toNat (by omega)
    have e2 := hexD_dig (x.b % 16).toNat (by omega)
    have e : hexAll (x :: r) = hexD (x.b / 16).toNat :: hexD (x.b % 16).toNat :: hexAll r := rfl
    rw [e, hexL, if_neg (by omega), ih]
    obtain ⟨k, b, rr, cc⟩ := x
    simp only at *
    subst hk h3 h4
    simp only [Option.map_some, Option.some.injEq, List.cons.injEq, Ev.mk.injEq, true_and, and_true]
    omega
theorem hexAll_mem : ∀ cur : List Ev, (∀ x ∈ cur, x.k = 1 ∧ x.okb ∧ x.r = 0 ∧ x.c = 0) → (10 : UInt8) ∉ hexAll cur
  | [], _ => by simp [hexAll]
  | x :: r, h => by
    have ih := hexAll_mem r (fun y hy => h y (List.mem_cons_of_mem _ hy))
    obtain ⟨hk, ⟨h1, h2⟩, h3, h4⟩ := h x (by simp)
    have e1 := (hexD_in (x.b / 16).toNat (by omega)).1
    have e2 := (hexD_in (x.b % 16).toNat (by omega)).1
    have e : hexAll (x :: r) = hexD (x.b / 16).toNat :: hexD (x.b % 16).toNat :: hexAll r := rfl
    rw [e]
    simp only [List.mem_cons, not_or]
    exact ⟨fun k => e1 k.symm, fun k => e2 k.symm, ih⟩
theorem good_bytes (cur : List Ev) (h : ∀ x ∈ cur, x.k = 1 ∧ x.okb ∧ x.r = 0 ∧ x.c = 0) (h0 : cur ≠ []) (h32 : cur.length ≤ 32) : Good (bytesW ++ hexAll cur, cur) := by
  have hl := hexAll_len cur
  have hpos : 0 < cur.length := List.length_pos_iff.2 h0
  refine ⟨?_, ?_, by simp [bytesW]⟩
  · simp only [List.mem_append, not_or]
    exact ⟨by decide, hexAll_mem cur h⟩
  · simp only
    unfold lineV
    have hlen : (bytesW ++ hexAll cur).length = 6 + 2 * cur.length := by simp [bytesW, hl]; omega
    rw [if_neg (by simp [bytesW, strAt]), if_neg (by intro e; have := congrArg List.length e; rw [hlen] at this; simp [tickL] at this; omega)]
    have b1 : ¬ beg (bytesW ++ hexAll cur) [115, 105, 122, 101, 32] = true := by simp [beg, cut, bytesW]
    have b2 : beg (bytesW ++ hexAll cur) [98, 121, 116, 101, 115, 32] = true := (beg_bytes _).2 ⟨hexAll cur, rfl⟩
    rw [if_neg b1, if_neg (by rw [b2, hlen]; simp; omega)]
    exact hexL_all cur h
theorem good_tick : Good ([116, 105, 99, 107], [⟨2, 0, 0, 0⟩]) := ⟨by decide, by decide +kernel, by decide⟩
theorem itoa_pos {n : Int} (h : 0 ≤ n) : Lib.itoa n = Lib.decDigits n.toNat := by unfold Lib.itoa; rw [if_neg (by omega)]
theorem good_size (r c : Int) (h : 0 ≤ r ∧ r ≤ 9999 ∧ 0 ≤ c ∧ c ≤ 9999) : Good (sizeW ++ Lib.itoa r ++ [32] ++ Lib.itoa c, [⟨3, 0, r, c⟩]) := by
  rw [itoa_pos h.1, itoa_pos h.2.2.1]
  have m1 := dec_mem r.toNat
  have m2 := dec_mem c.toNat
  have v1 := numV_dec r.toNat (by omega)
  have v2 := numV_dec c.toNat (by omega)
  generalize Lib.decDigits r.toNat = a at *
  generalize Lib.decDigits c.toNat = b at *
  have na : (32 : UInt8) ∉ a := fun k => by have := m1 _ k; simp at this
  have e0 : sizeW ++ a ++ [32] ++ b = sizeL ++ 32 :: (a ++ 32 :: b) := by simp [sizeW, sizeL]
  refine ⟨?_, ?_, by simp [sizeW]⟩
  · simp only [List.mem_append, not_or, List.mem_singleton]
    exact ⟨⟨⟨by decide, fun k => by have := m1 _ k; simp at this⟩, by decide⟩, fun k => by have := m2 _ k; simp at this⟩
  · simp only
    rw [e0]
    unfold lineV
    rw [if_neg (by simp [sizeL, strAt]), if_neg (by simp [sizeL, tickL])]
    rw [if_pos ((beg_size _).2 ⟨_, rfl⟩)]
    have hdr : (sizeL ++ 32 :: (a ++ 32 :: b)).drop 5 = a ++ 32 :: b := rfl
    have hl : (sizeL ++ 32 :: (a ++ 32 :: b)).length = (a ++ 32 :: b).length + 5 := by simp [sizeL]
    rw [hdr, hl, spc_app a b na, if_neg (by simp; omega)]
    have c1 : cut (sizeL ++ 32 :: (a ++ 32 :: b)) 5 ((5 + a.length : Nat) : Int) = a := by
      simp only [cut]
      show ((sizeL ++ 32 :: (a ++ 32 :: b)).drop 5).take _ = a
      rw [hdr, show (((5 + a.length : Nat) : Int).toNat - (5 : Int).toNat) = a.length by omega]
      simp
    have c2 : cut (sizeL ++ 32 :: (a ++ 32 :: b)) ((5 + a.length + 1 : Nat) : Int) (((a ++ 32 :: b).length + 5 : Nat) : Int) = b := by
      simp only [cut, Int.toNat_natCast]
      rw [show 5 + a.length + 1 = 5 + (a.length + 1) by omega, ← List.drop_drop, hdr, show (a ++ 32 :: b).drop (a.length + 1) = b by simp]
      rw [List.take_of_length_le (by simp; omega)]
    rw [c1, c2, v1, v2, if_pos (by omega)]
    simp only [Option.some.injEq, List.cons.injEq, Ev.mk.injEq, true_and, and_true]
    omega
theorem evsOf_snoc (Ls : List (List UInt8 × List Ev)) (p : List UInt8 × List Ev) : evsOf (Ls ++ [p]) = evsOf Ls ++ p.2 := by simp [evsOf]
theorem textOf_snoc (Ls : List (List UInt8 × List Ev)) (p : List UInt8 × List Ev) : textOf (Ls ++ [p]) = textOf Ls ++ (p.1 ++ [10]) := by simp [textOf]
theorem inv_end {es : List Ev} {st : List UInt8 × Nat} (h : Inv es st) : Inv es (endS st) := by
  obtain ⟨Ls, cur, hg, hc, h32, hcur, ht, he⟩ := h.ex
  unfold endS
  by_cases h0 : 0 < st.2
  · rw [if_pos h0]
    refine ⟨⟨Ls ++ [(bytesW ++ hexAll cur, cur)], [], ?_, rfl, by simp, by simp, ?_, ?_⟩⟩
    · intro p hp
      rcases List.mem_append.1 hp with hp | hp
      · exact hg p hp
      · simp at hp; subst hp
        exact good_bytes cur hcur (by intro e; subst e; simp at hc; omega) (by omega)
    · rw [ht, textOf_snoc]
      simp only [if_true, List.append_nil]
      rw [if_neg (by omega)]
      simp
    · rw [evsOf_snoc]; simpa using he
  · rw [if_neg h0]
    have h1 : st.2 = 0 := by omega
    have : cur = [] := List.eq_nil_of_length_eq_zero (by omega)
    subst this
    refine ⟨⟨Ls, [], hg, rfl, by simp, by simp, ?_, by simpa using he⟩⟩
    rw [ht, h1]
theorem inv_put {es : List Ev} {st st' : List UInt8 × Nat} {x : Ev} (hx : x.okb) (h : Inv es st) (e : putS x st = some st') : Inv (es ++ [x]) st' := by
  have h1 : Inv es (preS x st) := by
    unfold preS
    split
    · exact inv_end h
    · exact h
  have hpre : (preS x st).2 < 32 ∧ (x.k ≠ 1 → (preS x st).2 = 0) := by
    obtain ⟨_, _, _, _, h32, _⟩ := h.ex
    unfold preS
    split
    · exact ⟨by simp [endS], fun _ => rfl⟩
    · rename_i hn
      exact ⟨by omega, fun k => absurd (.inl k) hn⟩
  unfold putS at e
  generalize preS x st = st1 at *
  obtain ⟨Ls, cur, hg, hc, h32, hcur, ht, he⟩ := h1.ex
  unfold putB at e
  split at e
  · rename_i hk
    injection e with e; subst e
    refine ⟨⟨Ls, cur ++ [⟨1, x.b, 0, 0⟩], hg, by simp [hc], by simp; omega, ?_, ?_, ?_⟩⟩
    · intro y hy
      rcases List.mem_append.1 hy with hy | hy
      · exact hcur y hy
      · simp at hy; subst hy; exact ⟨rfl, hx, rfl, rfl⟩
    · simp only
      rw [ht, if_neg (show ¬ st1.2 + 1 = 0 by omega)]
      have ha : hexAll (cur ++ [⟨1, x.b, 0, 0⟩]) = hexAll cur ++ hex2 x.b := by simp [hexAll]
      rw [ha]
      by_cases h0 : st1.2 = 0
      · have : cur = [] := List.eq_nil_of_length_eq_zero (by omega)
        subst this
        rw [if_pos h0, if_pos h0]
        simp [hexAll]
      · rw [if_neg h0, if_neg h0]
        simp
    · rw [← List.append_assoc, he, List.map_append]
      simp [bare, hk]
  · rename_i hk1
    have h0 := hpre.2 hk1
    have hcn : cur = [] := List.eq_nil_of_length_eq_zero (by omega)
    subst hcn
    split at e
    · rename_i hk
      injection e with e; subst e
      refine ⟨⟨Ls ++ [([116, 105, 99, 107], [⟨2, 0, 0, 0⟩])], [], ?_, by simp [h0], by simp [h0], by simp, ?_, ?_⟩⟩
      · intro p hp
        rcases List.mem_append.1 hp with hp | hp
        · exact hg p hp
        · simp at hp; subst hp; exact good_tick
      · simp only
        rw [ht, textOf_snoc, if_pos h0]
        simp [tickW]
      · rw [evsOf_snoc, List.map_append, ← he]
        simp [bare, hk]
    · split at e
      · rename_i hk
        split at e
        · rename_i hs
          injection e with e; subst e
          refine ⟨⟨Ls ++ [(sizeW ++ Lib.itoa x.r ++ [32] ++ Lib.itoa x.c, [⟨3, 0, x.r, x.c⟩])], [], ?_, by simp [h0], by simp [h0], by simp, ?_, ?_⟩⟩
          · intro p hp
            rcases List.mem_append.1 hp with hp | hp
            · exact hg p hp
            · rw [List.mem_singleton] at hp; subst hp; exact good_size _ _ hs
          · simp only
            rw [ht, textOf_snoc, if_pos h0]
            simp [sizeT]
          · rw [evsOf_snoc, List.map_append, ← he]
            simp [bare, hk]
        · cases e
      · cases e
theorem inv_all : ∀ (l es : List Ev) (st st' : List UInt8 × Nat), (∀ x ∈ l, x.okb) → Inv es st → putAll l st = some st' → Inv (es ++ l) st'
  | [], es, st, st', _, h, e => by
    simp only [putAll, Option.some.injEq] at e; subst e; simpa using h
  | x :: l, es, st, st', hx, h, e => by
    rw [putAll] at e
    cases hp : putS x st with
    | none => rw [hp] at e; cases e
    | some st1 =>
      rw [hp] at e
      have h1 := inv_put (hx x (by simp)) h hp
      have := inv_all l (es ++ [x]) st1 st' (fun y hy => hx y (List.mem_cons_of_mem _ hy)) h1 e
      simpa using this
theorem lines_of : ∀ (Ls : List (List UInt8 × List Ev)), (∀ p ∈ Ls, Good p) → linesG [] (textOf Ls) = Ls.map (·.1)
  | [], _ => by simp [textOf, linesG]
  | p :: Ls, h => by
    have ih := lines_of Ls (fun q hq => h q (List.mem_cons_of_mem _ hq))
    have hp := h p (by simp)
    have e : textOf (p :: Ls) = p.1 ++ 10 :: textOf Ls := by simp [textOf]
    have go : ∀ (a cur r : List UInt8), (10 : UInt8) ∉ a → linesG cur (a ++ 10 :: r) = (cur ++ a) :: linesG [] r := by
      intro a
      induction a with
      | nil => intro cur r _; rw [List.nil_append, linesG, if_pos rfl]; simp
      | cons c a ih2 =>
        intro cur r hn
        have hc : c ≠ 10 := fun e => hn (by simp [e])
        rw [List.cons_append, linesG, if_neg hc, ih2 _ _ (fun k => hn (List.mem_cons_of_mem _ k))]
        simp
    rw [e, go p.1 [] _ hp.ten, ih]
    simp
theorem go_of : ∀ (Ls : List (List UInt8 × List Ev)) (n : Nat) (out : List Ev), (∀ p ∈ Ls, Good p) → out.length + (evsOf Ls).length ≤ 65536 → goV (Ls.map (·.1)) n out = (out ++ evsOf Ls, 0, 0)
  | [], _, _, _, _ => by simp [goV, evsOf]
  | p :: Ls, n, out, h, hb => by
    have hp := h p (by simp)
    have e : evsOf (p :: Ls) = p.2 ++ evsOf Ls := rfl
    rw [e, List.length_append] at hb
    rw [List.map_cons, goV, hp.line]
    simp only
    rw [if_neg (by omega), go_of Ls _ _ (fun q hq => h q (List.mem_cons_of_mem _ hq)) (by rw [List.length_append]; omega), e, List.append_assoc]
/-- WHAT IS PRINTED IS PARSED AS IT WAS. -/
theorem back {l : List Ev} (hx : ∀ x ∈ l, x.okb) (hp : (printL l).2 = 0) (hlen : (printL l).1.length ≤ 262144) : parseV (printL l).1 = (l.map bare, 0, 0) := by
  unfold printL at *
  split at hp
  · cases hp
  · rename_i hl
    rw [if_neg hl] at *
    cases ha : putAll l ([], 0) with
    | none => rw [ha] at hp; cases hp
    | some st =>
      rw [ha] at hlen
      simp only at hlen ⊢
      have h0 : Inv [] (([], 0) : List UInt8 × Nat) := ⟨⟨[], [], by simp, rfl, by simp, by simp, by simp [textOf], by simp [evsOf]⟩⟩
      have h1 := inv_end (inv_all l [] _ _ hx h0 ha)
      obtain ⟨Ls, cur, hg, hc, _, _, ht, he⟩ := h1.ex
      have h2 : (endS st).2 = 0 := rfl
      have : cur = [] := List.eq_nil_of_length_eq_zero (by omega)
      subst this
      rw [h2, if_pos rfl, List.append_nil] at ht
      simp only [List.append_nil, List.nil_append] at he
      rw [ht] at hlen ⊢
      unfold parseV
      rw [if_neg (by omega), lines_of Ls hg, go_of Ls 0 [] hg (by rw [he]; simp; omega), he]
      rfl
/-- How long it is. -/
theorem put_len {x : Ev} {st st' : List UInt8 × Nat} (e : putS x st = some st') : st'.1.length ≤ st.1.length + 20 ∧ st'.2 ≤ st.2 + 1 := by
  have h1 : (preS x st).1.length ≤ st.1.length + 1 ∧ (preS x st).2 ≤ st.2 := by
    unfold preS endS
    split
    · simp only; split <;> simp
    · omega
  unfold putS at e
  generalize preS x st = st1 at *
  unfold putB at e
  split at e
  · injection e with e; subst e
    simp only [List.length_append, hex2_len]
    split <;> simp [bytesW] <;> omega
  · split at e
    · injection e with e; subst e
      simp [tickW]; omega
    · split at e
      · split at e
        · rename_i hs
          injection e with e; subst e
          obtain ⟨a, b, c, d⟩ := hs
          have l1 := dec_len x.r.toNat (by omega)
          have l2 := dec_len x.c.toNat (by omega)
          simp only [sizeT, itoa_pos a, itoa_pos c, List.length_append, sizeW]
          simp
          omega
        · cases e
      · cases e
theorem all_len : ∀ (l : List Ev) (st st' : List UInt8 × Nat), putAll l st = some st' → st'.1.length ≤ st.1.length + 20 * l.length ∧ st'.2 ≤ st.2 + l.length
  | [], st, st', e => by simp only [putAll, Option.some.injEq] at e; subst e; simp
  | x :: l, st, st', e => by
    rw [putAll] at e
    cases hp : putS x st with
    | none => rw [hp] at e; cases e
    | some st1 =>
      rw [hp] at e
      have h1 := put_len hp
      have h2 := all_len l st1 st' e
      simp only [List.length_cons]
      omega
theorem print_len (l : List Ev) : (printL l).1.length ≤ 20 * l.length + 1 := by
  unfold printL
  split
  · simp
  · cases ha : putAll l ([], 0) with
    | none => simp
    | some st =>
      have := (all_len l _ _ ha).1
      simp only [endS]
      split <;> simp at this ⊢ <;> omega
end Go.Proofs.YtlmejofikpnbpaaDoor
namespace Go.Proofs.YtlmejofikpnbpaaDoor
open Go.AM
set_option maxHeartbeats 1600000
set_option maxRecDepth 10000
/-- The printer's block: what was written, and how many bytes the open line has. -/
def prS (st : List UInt8 × Nat) : List (Tok × List AV) := [([0], [.bz [0] 55 3, .bb [1] 5 st.1, .p (.int .i64 (st.2 : Int))])]
theorem end_cr [Evs] (st : List UInt8 × Nat) (hl : st.1.length + 1 ≤ 140737488355328) : CR Tryd.prog 22 [[0]] [.lp [0] 0] (prS st) (fun y rs => y = .tup [] ∧ rs = prS (endS st)) := by
  have k1 := wbyte_cr [.int .i64 (st.2 : Int)] st.1 10 hl
  refine CR_of_wp mixed 2 [] Tryd.func22 rfl (by kernel_rfl) rfl (by simp) (by simp) ?_
  simp (maxSteps := 1000000) [go_sem, Tryd.f22, prS]
  refine condK_split (fun h => ?_) (fun h => ?_)
  · have h' : 0 < st.2 := by simpa using h
    simp (maxSteps := 1000000) [go_sem]
    refine ⟨⟨rfl, by simp [Tryd.f34]⟩, CallK_of [([0], [0]), ([1], [1])] k1 (by simp [go_sem]) ⟨by simp [go_sem], by simp [go_sem]⟩ (by simp [go_sem]) ?_⟩
    rintro y rs ⟨rfl, rfl⟩
    simp (maxSteps := 1000000) [go_sem]
    exact ret_keep [[0], [1]] _ (by simp) (by simp [go_sem, resOf]) ⟨rfl, by simp [go_sem, endS, h']⟩
  · have h' : ¬ 0 < st.2 := by simpa using h
    simp (maxSteps := 1000000) [go_sem]
    exact ret_keep [[0], [1]] _ (by simp) (by simp [go_sem, resOf]) ⟨rfl, by simp [go_sem, endS, h']⟩
theorem strAt_hexD : ∀ k, k < 16 → strAt digits16 k = ((hexD k).toNat : Int) := by decide
theorem and15 : ∀ k : Fin 256, IntKind.u8.wrap ((BitVec.ofInt 8 (k.1 : Int) &&& 15#8).toNat : Int) = (k.1 : Int) % 16 := by decide +kernel
theorem and15_eq {b : Int} (h : 0 ≤ b ∧ b ≤ 255) : IntKind.u8.wrap ((BitVec.ofInt 8 b &&& 15#8).toNat : Int) = b % 16 := by
  have := and15 ⟨b.toNat, by omega⟩
  rwa [show ((b.toNat : Nat) : Int) = b by omega] at this
theorem put_cr [Evs] (x : Ev) (st : List UInt8 × Nat) (hb : x.okb) (hr : -9223372036854775808 ≤ x.r ∧ x.r ≤ 9223372036854775807) (hc : -9223372036854775808 ≤ x.c ∧ x.c ≤ 9223372036854775807) (hl : st.1.length + 100 ≤ 140737488355328) (hn : st.2 ≤ 1000000) :
    CR Tryd.prog 21 [[0]] [.lp [0] 0, .p (evP x)] (prS st) (fun y rs => y = .p (.bool (putS x st).isSome) ∧ ∀ st', putS x st = some st' → rs = prS st') := by
  have k0 := end_cr st (by omega)
  refine CR_of_wpD [17] mixed 5 [18] Tryd.func21 rfl (by kernel_rfl) rfl (by simp) (by simp) ?_
  have hbb : 0 ≤ x.b ∧ x.b ≤ 255 := hb
  simp (maxSteps := 1000000) [go_sem, Tryd.f21, prS, evP]
  refine condK_join (ι := List (Nat × AV)) (fun ts => { n := 93, nv := 5, ex := [18], vs := [(0, .lp [0] 0), (1, .p (evP x)), (3, .lp [3] 0), (4, .p (.bool false))], ts := ts, rs := prS (preS x st) ++ [([3], [.p (.int .i64 x.k), .p (.int .u8 x.b), .p (.int .i64 x.r), .p (.int .i64 x.c)])], pin := [[0]] }) (condK_split (fun h => ?_) (fun h => ?_)) ?_
  · have h' : x.k ≠ 1 ∨ st.2 = 32 := by simp at h; omega
    have hp : preS x st = endS st := by unfold preS; rw [if_pos h']
    simp (maxSteps := 1000000) [go_sem]
    refine ⟨⟨rfl, by simp [Tryd.f22]⟩, CallK_of [([0], [0]), ([1], [1])] k0 (by simp [go_sem]) ⟨by simp [go_sem], by simp [go_sem]⟩ (by simp [go_sem, prS]) ?_⟩
    rintro y rs ⟨rfl, rfl⟩
    simp (maxSteps := 1000000) [go_sem, prS]
    exact JoinK_in _ (by rw [hp]; rfl)
  · have h' : ¬ (x.k ≠ 1 ∨ st.2 = 32) := by simp at h; omega
    have hp : preS x st = st := by unfold preS; rw [if_neg h']
    simp (maxSteps := 1000000) [go_sem]
    exact JoinK_in _ (by rw [hp]; rfl)
  intro ts
  have hpre : (preS x st).1.length ≤ st.1.length + 1 ∧ (preS x st).2 ≤ st.2 := by
    unfold preS endS
    split
    · simp only; split <;> simp
    · omega
  unfold putS
  generalize preS x st = s1 at *
  obtain ⟨l, n⟩ := s1
  simp only at hpre
  simp (maxSteps := 1000000) [go_sem, prS]
  refine condK_if (fun k1 => ?_) (fun k1 => ?_)
  · simp (maxSteps := 1000000) [go_sem]
    refine condK_join (ι := List (Nat × AV)) (fun ts => { n := 93, nv := 5, ex := [18], vs := [(0, .lp [0] 0), (1, .p (evP x)), (3, .lp [3] 0), (4, .p (.bool false)), (18, .p (.int .i64 x.k))], ts := ts, rs := prS ((if n = 0 then l ++ bytesW else l), n) ++ [([3], [.p (.int .i64 x.k), .p (.int .u8 x.b), .p (.int .i64 x.r), .p (.int .i64 x.c)])], pin := [[0]] }) (condK_split (fun h => ?_) (fun h => ?_)) ?_
    · have h' : n = 0 := by simpa using h
      have w1 := wstr_cr [.int .i64 (n : Int)] l bytesW (by simp [bytesW]; omega)
      simp (maxSteps := 1000000) [go_sem]
      refine ⟨⟨rfl, by simp [Tryd.f33]⟩, CallK_of [([0], [0]), ([1], [1])] w1 (by simp [go_sem]) ⟨by simp [go_sem], by simp [go_sem, bytesW]⟩ (by simp [go_sem]) ?_⟩
      rintro y rs ⟨rfl, rfl⟩
      simp (maxSteps := 1000000) [go_sem]
      exact JoinK_in _ (by rw [if_pos h']; rfl)
    · have h' : ¬ n = 0 := by simpa using h
      simp (maxSteps := 1000000) [go_sem]
      exact JoinK_in _ (by rw [if_neg h']; rfl)
    intro ts
    have hlb : (if n = 0 then l ++ bytesW else l).length ≤ l.length + 6 := by split <;> simp [bytesW]
    unfold putB
    rw [if_pos k1]
    simp only
    generalize (if n = 0 then l ++ bytesW else l) = l1 at *
    simp (maxSteps := 1000000) [go_sem, prS]
    have eD : x.b.fdiv 16 = x.b / 16 := by rw [Int.fdiv_eq_ediv_of_nonneg _ (by omega)]
    have hS := strAt_hexD (x.b / 16).toNat (by omega)
    have hM := strAt_hexD (x.b % 16).toNat (by omega)
    have b1 := wbyte_cr [.int .i64 (n : Int)] l1 (hexD (x.b / 16).toNat) (by omega)
    have b2 := wbyte_cr [.int .i64 (n : Int)] (l1 ++ [hexD (x.b / 16).toNat]) (hexD (x.b % 16).toNat) (by simp; omega)
    refine ⟨by omega, ⟨rfl, by simp [Tryd.f34]⟩, CallK_of [([0], [0]), ([1], [1])] b1 (by simp [go_sem]) ⟨by simp [go_sem], by simp [go_sem, eD]; exact hS⟩ (by simp [go_sem]) ?_⟩
    rintro y rs ⟨rfl, rfl⟩
    have eA := and15_eq hbb
    simp (maxSteps := 1000000) [go_sem]
    refine ⟨Int.lt_of_le_of_lt (Int.le_of_eq eA) (by omega), ⟨rfl, by simp [Tryd.f34]⟩, CallK_of [([0], [0]), ([1], [1])] b2 (by simp [go_sem]) ⟨by simp [go_sem], by simp [go_sem]; exact (congrArg (fun z : Int => strAt digits16 z.toNat) eA).trans hM⟩ (by simp [go_sem]) ?_⟩
    rintro y rs ⟨rfl, rfl⟩
    have w1 : IntKind.i64.wrap ((n : Int) + 1) = (n : Int) + 1 := wrap64 (by omega) (by omega)
    simp (maxSteps := 1000000) [go_sem, w1]
    exact ret_keep [[0], [1]] _ (by simp) (by simp [go_sem, resOf, leA]) ⟨rfl, by simp [go_sem, hex2]⟩
  simp (maxSteps := 1000000) [go_sem]
  refine condK_if (fun k2 => ?_) (fun k2 => ?_)
  · have w1 := wstr_cr [.int .i64 (n : Int)] l tickW (by simp [tickW]; omega)
    simp (maxSteps := 1000000) [go_sem]
    refine ⟨⟨rfl, by simp [Tryd.f33]⟩, CallK_of [([0], [0]), ([1], [1])] w1 (by simp [go_sem]) ⟨by simp [go_sem], by simp [go_sem, tickW]⟩ (by simp [go_sem]) ?_⟩
    rintro y rs ⟨rfl, rfl⟩
    simp (maxSteps := 1000000) [go_sem, putB, k2]
    exact ret_keep [[0], [1]] _ (by simp) (by simp [go_sem, resOf, leA]) ⟨rfl, by simp [go_sem]⟩
  simp (maxSteps := 1000000) [go_sem]
  refine condK_if (fun k3 => ?_) (fun k3 => ?_)
  · simp (maxSteps := 1000000) [go_sem]
    refine condK_split (fun h => ?_) (fun h => ?_)
    · have h' : ¬ okSize x := by unfold okSize; simp at h; omega
      simp (maxSteps := 1000000) [go_sem, putB, k3, h']
      exact ret_keep [[0], [1]] (.p (.bool false)) (by simp) (by simp [go_sem, resOf, leA]) rfl
    · have h' : okSize x := by unfold okSize; simp at h; omega
      have i1 := itoa_cr x.r (by omega) (by omega)
      have i2 := itoa_cr x.c (by omega) (by omega)
      have hok := h'
      obtain ⟨q1, q2, q3, q4⟩ := h'
      have l1 := dec_len x.r.toNat (by omega)
      have l2 := dec_len x.c.toNat (by omega)
      rw [← itoa_pos q1] at l1
      rw [← itoa_pos q3] at l2
      have w1 := wstr_cr [.int .i64 (n : Int)] l (sizeT x.r x.c) (by simp [sizeT, sizeW]; omega)
      simp (maxSteps := 1000000) [go_sem]
      refine HCallK_of (.p (.str (Lib.itoa x.r))) rfl rfl (fun _ => pcallA_of 35 i1 rfl ⟨rfl, by simp [Tryd.f35]⟩ ⟨by simp [go_sem], by simp [go_sem]⟩) ?_
      simp (maxSteps := 1000000) [go_sem]
      refine ⟨by omega, by omega, HCallK_of (.p (.str (Lib.itoa x.c))) rfl rfl (fun _ => pcallA_of 35 i2 rfl ⟨rfl, by simp [Tryd.f35]⟩ ⟨by simp [go_sem], by simp [go_sem]⟩) ?_⟩
      simp (maxSteps := 1000000) [go_sem]
      refine ⟨by omega, by omega, ⟨rfl, by simp [Tryd.f33]⟩, CallK_of [([0], [0]), ([1], [1])] w1 (by simp [go_sem]) ⟨by simp [go_sem], by simp [go_sem, sizeT, sizeW]⟩ (by simp [go_sem]) ?_⟩
      rintro y rs ⟨rfl, rfl⟩
      simp (maxSteps := 1000000) [go_sem, putB, k3, hok]
      exact ret_keep [[0], [1]] _ (by simp) (by simp [go_sem, resOf, leA]) ⟨rfl, by simp [go_sem]⟩
  · simp (maxSteps := 1000000) [go_sem, putB, k1, k2, k3]
    exact ret_keep [[0], [1]] (.p (.bool false)) (by simp) (by simp [go_sem, resOf, leA]) rfl
end Go.Proofs.YtlmejofikpnbpaaDoor
namespace Go.Proofs.YtlmejofikpnbpaaDoor
open Go.AM
set_option maxHeartbeats 1600000
set_option maxRecDepth 10000
/-- An event that Go's types allow. -/
def Ev.ok (x : Ev) : Prop := x.okb ∧ (-9223372036854775808 ≤ x.k ∧ x.k ≤ 9223372036854775807) ∧ (-9223372036854775808 ≤ x.r ∧ x.r ≤ 9223372036854775807) ∧ (-9223372036854775808 ≤ x.c ∧ x.c ≤ 9223372036854775807)
theorem putAll_snoc : ∀ (l : List Ev) (x : Ev) (st : List UInt8 × Nat), putAll (l ++ [x]) st = (putAll l st).bind (putS x)
  | [], x, st => by
    simp only [List.nil_append, putAll, Option.bind_some]
    cases putS x st <;> rfl
  | y :: l, x, st => by
    simp only [List.cons_append, putAll]
    cases putS y st with
    | none => rfl
    | some st1 => simp only [Option.bind_some]; exact putAll_snoc l x st1
theorem putAll_none : ∀ (l r : List Ev) (st : List UInt8 × Nat), putAll l st = none → putAll (l ++ r) st = none
  | [], r, st, h => by cases h
  | y :: l, r, st, h => by
    simp only [List.cons_append, putAll] at h ⊢
    cases hp : putS y st with
    | none => rfl
    | some st1 => rw [hp] at h; exact putAll_none l r st1 h
theorem print_cr [Evs] (l : List Ev) (ho : ∀ x ∈ l, x.ok) : CR Tryd.prog 13 [] [.p (evsP l)] [] (is (.tup [.p (.str (printL l).1), .p (.int .i64 (printL l).2)])) := by
  refine CR_of_wpN [] mixed 13 [] Tryd.func13 rfl (by kernel_rfl) [] [55] rfl (by simp) (by simp) ?_
  by_cases h1 : 65536 < l.length
  · have e1 : (65536 : Int) < l.length := by omega
    simp (maxSteps := 1000000) [go_sem, Tryd.f13, evsP, e1]
    exact ret_is (.tup [.p (.str []), .p (.int .i64 7)]) rfl (by simp [go_sem, resOf, leA]) ⟨rfl, by simp [printL, h1]⟩
  have e1 : ¬ (65536 : Int) < l.length := by omega
  simp (maxSteps := 1000000) [go_sem, Tryd.f13, evsP, e1]
  refine ⟨rfl, ?_⟩
  refine wpA_loop (fun i : Nat × (List UInt8 × Nat) => i.1 ≤ l.length ∧ putAll (l.take i.1) ([], 0) = some i.2) (fun i => { n := 23, nv := 13, bt := [55], vs := [(0, .p (evsP l)), (2, .p (.str [])), (3, .p (.int .i64 0)), (4, .lp [4] 0), (10, .p (evsP l)), (11, .p (.int .i64 l.length)), (12, .p (.int .i64 i.1))], ts := [], rs := [([4], [.bz [4] 55 3, .bb [4, 1] 5 i.2.1, .p (.int .i64 (i.2.2 : Int))])] }) (fun i => l.length - i.1) (0, ([], 0)) (by simp [putAll]) (by simp [go_sem, LeS, leV, leR, leA, leL, evsP]) ?_
  rintro ⟨k, st⟩ ⟨hk, hp⟩
  simp only at hk hp
  have hb := all_len (l.take k) _ _ hp
  have hkl : (l.take k).length = k := by simp; omega
  rw [hkl] at hb
  simp only [List.length_nil, Nat.zero_add] at hb
  simp (maxSteps := 1000000) [go_sem, evsP]
  refine condK_if (fun h => ?_) (fun h => ?_)
  · have h' : k < l.length := by omega
    have em := elemAt_map evP l k h'
    have hx := ho l[k] (List.getElem_mem h')
    have pc := put_cr l[k] st hx.1 hx.2.2.1 hx.2.2.2 (by omega) (by omega)
    have hsn : putAll (l.take (k + 1)) ([], 0) = putS l[k] st := by
      rw [List.take_succ_eq_append_getElem h', putAll_snoc, hp]; rfl
    have w1 : IntKind.i64.wrap ((k : Int) + 1) = (k : Int) + 1 := wrap64 (by omega) (by omega)
    simp (maxSteps := 1000000) [go_sem, em, h', evP]
    refine ⟨⟨rfl, by simp [Tryd.f21]⟩, CallK_of [([0], [4]), ([1], [4, 1])] pc (by simp [go_sem]) ⟨by simp [go_sem], by simp [go_sem, evP]⟩ (by simp [go_sem, prS]) ?_⟩
    rintro y rs ⟨rfl, hrs⟩
    cases hq : putS l[k] st with
    | none =>
      simp (maxSteps := 1000000) [go_sem]
      have hn : putAll l ([], 0) = none := by
        have := putAll_none (l.take (k + 1)) (l.drop (k + 1)) ([], 0) (by rw [hsn, hq])
        rwa [List.take_append_drop] at this
      exact ret_is (.tup [.p (.str []), .p (.int .i64 1)]) rfl (by simp [go_sem, resOf, leA]) ⟨rfl, by simp [printL, h1, hn]⟩
    | some st1 =>
      obtain rfl := hrs st1 hq
      simp (maxSteps := 1000000) [go_sem, prS, w1]
      exact LoopK_next (k + 1, st1) ⟨by simp only; omega, by rw [hsn, hq]⟩ (by simp [go_sem, LeS, leV, leR, leA, leL]) (by simp only; omega)
  · have hkk : k = l.length := by omega
    subst hkk
    rw [List.take_length] at hp
    have ec := end_cr st (by omega)
    have sc := str_cr (.bz [0] 55 3) [.p (.int .i64 ((endS st).2 : Int))] (endS st).1
    simp (maxSteps := 1000000) [go_sem]
    refine ⟨⟨rfl, by simp [Tryd.f22]⟩, CallK_of [([0], [4]), ([1], [4, 1])] ec (by simp [go_sem]) ⟨by simp [go_sem], by simp [go_sem]⟩ (by simp [go_sem, prS]) ?_⟩
    rintro y rs ⟨rfl, rfl⟩
    simp (maxSteps := 1000000) [go_sem, prS]
    refine ⟨⟨rfl, by simp [Tryd.f23]⟩, CallK_of [([0], [4]), ([1], [4, 1])] sc (by simp [go_sem]) ⟨by simp [go_sem], by simp [go_sem]⟩ (by simp [go_sem]) ?_⟩
    rintro y rs ⟨rfl, rfl⟩
    simp (maxSteps := 1000000) [go_sem]
    exact ret_is (.tup [.p (.str (endS st).1), .p (.int .i64 0)]) rfl (by simp [go_sem, resOf, leA]) ⟨rfl, by simp [printL, h1, hp]⟩
theorem digits_cr [Evs] (u : Nat) (h : u ≤ 9999) : CR Tryd.prog 24 [] [.p (.int .i64 (u : Int))] [] (is (.p (.str (Lib.decDigits u)))) := by
  induction u using Nat.strongRecOn with
  | _ u ih =>
    refine CR_of_wpD [2, 3] mixed 3 [] Tryd.func24 rfl (by kernel_rfl) rfl (by simp) (by simp) ?_
    by_cases h1 : u < 10
    · have w1 : IntKind.i64.wrap (48 + (u : Int)) = 48 + (u : Int) := wrap64 (by omega) (by omega)
      have w2 : IntKind.u8.wrap (48 + (u : Int)) = 48 + (u : Int) := wrap8 (by omega) (by omega)
      have e1 : (u : Int) < 10 := by omega
      simp (maxSteps := 1000000) [go_sem, Tryd.f24, e1, w1, w2]
      have e2 : UInt8.ofNat (48 + (u : Int)).toNat = UInt8.ofNat (48 + u) := by congr 1
      exact ret_is (.p (.str (Lib.decDigits u))) rfl (by rw [Lib.decDigits, dif_pos h1]; simp [go_sem, resOf, leA, e2]) ⟨rfl, rfl⟩
    · have e1 : ¬ (u : Int) < 10 := by omega
      have d1 := ih (u / 10) (by omega) (by omega)
      have d2 := ih (u % 10) (by omega) (by omega)
      have q1 : (u : Int).tdiv 10 = ((u / 10 : Nat) : Int) := rfl
      have q2 : (u : Int).tmod 10 = ((u % 10 : Nat) : Int) := rfl
      have l1 := dec_len (u / 10) (by omega)
      have l2 := dec_len (u % 10) (by omega)
      have eD : Lib.decDigits u = Lib.decDigits (u / 10) ++ Lib.decDigits (u % 10) := by
        rw [Lib.decDigits, dif_neg h1]
        congr 1
        rw [Lib.decDigits, dif_pos (by omega)]
      have e3 : IntKind.i64.wrap ((u : Int) / 10) = ((u / 10 : Nat) : Int) := by rw [wrap64 (by omega) (by omega)]; omega
      simp (maxSteps := 1000000) [go_sem, Tryd.f24, e1, e3]
      refine CallK_of [] d1 (by simp [go_sem]) ⟨by simp [go_sem], by simp [go_sem]⟩ (by simp [go_sem]) ?_
      rintro y rs ⟨rfl, rfl⟩
      simp (maxSteps := 1000000) [go_sem, q2]
      refine ⟨⟨rfl, by simp [Tryd.f24]⟩, CallK_of [] d2 (by simp [go_sem]) ⟨by simp [go_sem], by simp [go_sem]⟩ (by simp [go_sem]) ?_⟩
      rintro y rs ⟨rfl, rfl⟩
      simp (maxSteps := 1000000) [go_sem]
      refine ⟨by omega, ?_⟩
      exact ret_is (.p (.str (Lib.decDigits u))) rfl (by rw [eD]; simp [go_sem, resOf, leA]) ⟨rfl, rfl⟩
theorem putP_some {x : Ev} {st : List UInt8 × Nat} (h : x.k = 1 ∨ x.k = 2 ∨ (x.k = 3 ∧ okSize x)) : (putS x st).isSome = true := by
  unfold putS putB
  rcases h with h | h | ⟨h, h'⟩ <;> simp [*]
theorem cut_hexD : ∀ k : Nat, k < 16 → cut [48, 49, 50, 51, 52, 53, 54, 55, 56, 57, 97, 98, 99, 100, 101, 102] (k : Int) ((k : Int) + 1) = [hexD k] := by decide
theorem cut_hex {b : Int} (h : 0 ≤ b) (h' : b < 16) : cut [48, 49, 50, 51, 52, 53, 54, 55, 56, 57, 97, 98, 99, 100, 101, 102] b (b + 1) = [hexD b.toNat] := by
  have := cut_hexD b.toNat (by omega)
  rwa [show ((b.toNat : Nat) : Int) = b by omega] at this
theorem rprint_cr [Evs] (l : List Ev) (ho : ∀ x ∈ l, x.ok) : CR Tryd.prog 14 [] [.p (evsP l)] [] (is (.tup [.p (.str (printL l).1), .p (.int .i64 (printL l).2)])) := by
  refine CR_of_wpD [20] mixed 8 [] Tryd.func14 rfl (by kernel_rfl) rfl (by simp) (by simp) ?_
  by_cases h1 : 65536 < l.length
  · have e1 : (65536 : Int) < l.length := by omega
    simp (maxSteps := 1000000) [go_sem, Tryd.f14, evsP, e1]
    exact ret_is (.tup [.p (.str []), .p (.int .i64 7)]) rfl (by simp [go_sem, resOf, leA]) ⟨rfl, by simp [printL, h1]⟩
  have e1 : ¬ (65536 : Int) < l.length := by omega
  simp (maxSteps := 1000000) [go_sem, Tryd.f14, evsP, e1]
  refine wpA_loop (fun i : Nat × (List UInt8 × Nat) => i.1 ≤ l.length ∧ putAll (l.take i.1) ([], 0) = some i.2) (fun i => { n := 107, nv := 8, vs := [(0, .p (evsP l)), (2, .p (.str [])), (3, .p (.int .i64 0)), (4, .p (.str i.2.1)), (5, .p (.int .i64 (i.2.2 : Int))), (6, .p (.int .i64 i.1))], ts := [], rs := [] }) (fun i => l.length - i.1) (0, ([], 0)) (by simp [putAll]) (by simp [go_sem, LeS, leV, leR, leA, evsP]) ?_
  rintro ⟨k, st⟩ ⟨hk, hp⟩
  simp only at hk hp
  have hb := all_len (l.take k) _ _ hp
  have hkl : (l.take k).length = k := by simp; omega
  rw [hkl] at hb
  simp only [List.length_nil, Nat.zero_add] at hb
  simp (maxSteps := 1000000) [go_sem, evsP]
  refine condK_if (fun h => ?_) (fun h => ?_)
  · have h' : k < l.length := by omega
    have em := elemAt_map evP l k h'
    have hx := ho l[k] (List.getElem_mem h')
    have hsn : putAll (l.take (k + 1)) ([], 0) = putS l[k] st := by
      rw [List.take_succ_eq_append_getElem h', putAll_snoc, hp]; rfl
    have w1 : IntKind.i64.wrap ((k : Int) + 1) = (k : Int) + 1 := wrap64 (by omega) (by omega)
    have hfail : putS l[k] st = none → putAll l ([], 0) = none := fun hq => by
      have := putAll_none (l.take (k + 1)) (l.drop (k + 1)) ([], 0) (by rw [hsn, hq])
      rwa [List.take_append_drop] at this
    generalize l[k] = x at *
    simp (maxSteps := 1000000) [go_sem, em, h', evP]
    refine ⟨fun a => ⟨a, fun b => ⟨a, b⟩⟩, ?_⟩
    refine condK_join (ι := List (Nat × AV)) (fun ts => { n := 107, nv := 8, vs := [(0, .p (evsP l)), (2, .p (.str [])), (3, .p (.int .i64 0)), (4, .p (.str (preS x st).1)), (5, .p (.int .i64 ((preS x st).2 : Int))), (6, .p (.int .i64 k)), (7, .lp [7] 0)], ts := ts, rs := [([7], [.p (.int .i64 x.k), .p (.int .u8 x.b), .p (.int .i64 x.r), .p (.int .i64 x.c)])] }) (condK_split (fun h2 => ?_) (fun h2 => ?_)) ?_
    · have h3 : 0 < st.2 ∧ (x.k ≠ 1 ∨ st.2 = 32) := by simp at h2; omega
      have hpre : preS x st = (st.1 ++ [10], 0) := by unfold preS endS; rw [if_pos h3.2, if_pos h3.1]
      simp (maxSteps := 1000000) [go_sem]
      exact ⟨by omega, JoinK_in _ (by rw [hpre]; rfl)⟩
    · have h3 : ¬ (0 < st.2 ∧ (x.k ≠ 1 ∨ st.2 = 32)) := by simp at h2; omega
      have hpre : preS x st = st := by
        unfold preS endS
        split
        · rw [if_neg (by omega)]
          have : st.2 = 0 := by omega
          exact Prod.ext rfl this.symm
        · rfl
      simp (maxSteps := 1000000) [go_sem]
      exact JoinK_in _ (by rw [hpre]; rfl)
    · intro ts
      have hS : putS x st = putB x (preS x st) := rfl
      have hpl : (preS x st).1.length ≤ st.1.length + 1 ∧ (preS x st).2 ≤ st.2 := by
        unfold preS endS
        split
        · simp only; split <;> simp
        · omega
      rw [hS] at hsn hfail
      generalize preS x st = s1 at *
      obtain ⟨b, n⟩ := s1
      simp only at hpl
      have next : ∀ st1, putB x (b, n) = some st1 → putAll (l.take (k + 1)) ([], 0) = some st1 := fun st1 hq => by rw [hsn, hq]
      simp (maxSteps := 1000000) [go_sem]
      refine condK_if (fun k1 => ?_) (fun k1 => ?_)
      · simp (maxSteps := 1000000) [go_sem]
        refine condK_join (ι := List (Nat × AV)) (fun ts => { n := 107, nv := 8, vs := [(0, .p (evsP l)), (2, .p (.str [])), (3, .p (.int .i64 0)), (4, .p (.str (if n = 0 then b ++ bytesW else b))), (5, .p (.int .i64 (n : Int))), (6, .p (.int .i64 k)), (7, .lp [7] 0)], ts := ts, rs := [([7], [.p (.int .i64 x.k), .p (.int .u8 x.b), .p (.int .i64 x.r), .p (.int .i64 x.c)])] }) (condK_split (fun h2 => ?_) (fun h2 => ?_)) ?_
        · have h3 : n = 0 := by simpa using h2
          simp (maxSteps := 1000000) [go_sem]
          exact ⟨by omega, JoinK_in _ (by rw [if_pos h3]; rfl)⟩
        · have h3 : ¬ n = 0 := by simpa using h2
          simp (maxSteps := 1000000) [go_sem]
          exact JoinK_in _ (by rw [if_neg h3])
        intro ts
        have hlb : (if n = 0 then b ++ bytesW else b).length ≤ b.length + 6 := by split <;> simp [bytesW]
        have nx := next _ (show putB x (b, n) = some ((if n = 0 then b ++ bytesW else b) ++ hex2 x.b, n + 1) by unfold putB; rw [if_pos k1])
        generalize (if n = 0 then b ++ bytesW else b) = b1 at *
        have hbb : 0 ≤ x.b ∧ x.b ≤ 255 := hx.1
        have q0 : x.b.tdiv 16 = x.b / 16 := Int.tdiv_eq_ediv_of_nonneg (by omega)
        have q1 : IntKind.u8.wrap (x.b / 16) = x.b / 16 := wrap8 (by omega) (by omega)
        have q2 : IntKind.u8.wrap (x.b / 16 + 1) = x.b / 16 + 1 := wrap8 (by omega) (by omega)
        have q3 : x.b.tmod 16 = x.b % 16 := Int.tmod_eq_emod_of_nonneg (by omega)
        have q4 : IntKind.u8.wrap (x.b % 16 + 1) = x.b % 16 + 1 := wrap8 (by omega) (by omega)
        have c1 := cut_hex (b := x.b / 16) (by omega) (by omega)
        have c2 := cut_hex (b := x.b % 16) (by omega) (by omega)
        have w2 : IntKind.i64.wrap ((n : Int) + 1) = (n : Int) + 1 := wrap64 (by omega) (by omega)
        simp (maxSteps := 1000000) [go_sem, q0, q1, q2, q3, q4, c1, c2, w1, w2]
        refine ⟨by omega, by omega, by omega, by omega, LoopK_next (k + 1, (b1 ++ hex2 x.b, n + 1)) ⟨by simp only; omega, nx⟩ (by simp [go_sem, LeS, leV, leR, leA, evsP, hex2]) (by simp only; omega)⟩
      · simp (maxSteps := 1000000) [go_sem]
        refine condK_if (fun k2 => ?_) (fun k2 => ?_)
        · have nx := next _ (show putB x (b, n) = some (b ++ tickW, n) by unfold putB; rw [if_neg k1, if_pos k2])
          simp (maxSteps := 1000000) [go_sem, w1]
          refine ⟨by omega, LoopK_next (k + 1, (b ++ tickW, n)) ⟨by simp only; omega, nx⟩ (by simp [go_sem, LeS, leV, leR, leA, evsP, tickW]) (by simp only; omega)⟩
        · simp (maxSteps := 1000000) [go_sem]
          refine condK_split (fun h2 => ?_) (fun h2 => ?_)
          · have h3 : x.k = 3 ∧ okSize x := by unfold okSize; simp at h2; omega
            have hok := h3.2
            obtain ⟨k3, a1, a2, a3, a4⟩ := h3
            have d1 := digits_cr x.r.toNat (by omega)
            have d2 := digits_cr x.c.toNat (by omega)
            have l1 := dec_len x.r.toNat (by omega)
            have l2 := dec_len x.c.toNat (by omega)
            rw [show ((x.r.toNat : Nat) : Int) = x.r by omega] at d1
            rw [show ((x.c.toNat : Nat) : Int) = x.c by omega] at d2
            have nx := next _ (show putB x (b, n) = some (b ++ sizeT x.r x.c, n) by unfold putB; rw [if_neg k1, if_neg k2, if_pos k3, if_pos hok])
            have eT : sizeT x.r x.c = sizeW ++ Lib.decDigits x.r.toNat ++ [32] ++ Lib.decDigits x.c.toNat ++ [10] := by rw [sizeT, itoa_pos a1, itoa_pos a3]
            simp (maxSteps := 1000000) [go_sem]
            refine ⟨by omega, HCallK_of (.p (.str (Lib.decDigits x.r.toNat))) rfl rfl (fun _ => pcallA_of 24 d1 rfl ⟨rfl, by simp [Tryd.f24]⟩ ⟨by simp [go_sem], by simp [go_sem]⟩) ?_⟩
            simp (maxSteps := 1000000) [go_sem]
            refine ⟨by omega, by omega, HCallK_of (.p (.str (Lib.decDigits x.c.toNat))) rfl rfl (fun _ => pcallA_of 24 d2 rfl ⟨rfl, by simp [Tryd.f24]⟩ ⟨by simp [go_sem], by simp [go_sem]⟩) ?_⟩
            simp (maxSteps := 1000000) [go_sem, w1]
            refine ⟨by omega, by omega, LoopK_next (k + 1, (b ++ sizeT x.r x.c, n)) ⟨by simp only; omega, nx⟩ (by simp [go_sem, LeS, leV, leR, leA, evsP, eT, sizeW]) (by simp only; omega)⟩
          · have h3 : ¬ (x.k = 3 ∧ okSize x) := by unfold okSize; simp at h2; omega
            have hn : putB x (b, n) = none := by
              unfold putB; rw [if_neg k1, if_neg k2]
              split
              · rename_i k3; rw [if_neg (fun k => h3 ⟨k3, k⟩)]
              · rfl
            have hf := hfail hn
            simp (maxSteps := 1000000) [go_sem]
            exact ret_is (.tup [.p (.str []), .p (.int .i64 1)]) rfl (by simp [go_sem, resOf, leA]) ⟨rfl, by simp [printL, h1, hf]⟩
  · have hkk : k = l.length := by omega
    subst hkk
    rw [List.take_length] at hp
    simp (maxSteps := 1000000) [go_sem]
    refine condK_split (fun h2 => ?_) (fun h2 => ?_)
    · have h2' : 0 < st.2 := by simpa using h2
      simp (maxSteps := 1000000) [go_sem]
      refine ⟨by omega, ?_⟩
      exact ret_is (.tup [.p (.str (st.1 ++ [10])), .p (.int .i64 0)]) rfl (by simp [go_sem, resOf, leA]) ⟨rfl, by simp [printL, h1, hp, endS, h2']⟩
    · have h2' : ¬ 0 < st.2 := by simpa using h2
      simp (maxSteps := 1000000) [go_sem]
      exact ret_is (.tup [.p (.str st.1), .p (.int .i64 0)]) rfl (by simp [go_sem, resOf, leA]) ⟨rfl, by simp [printL, h1, hp, endS, h2']⟩
def bares (l : List Ev) : List PV := (l.map bare).map evP
theorem bare_cr [Evs] (l : List Ev) (hl : l.length ≤ 1000000) : CR Tryd.prog 15 [] [.p (evsP l)] [] (fun y rs => rs = [] ∧ y = .os [2] 4 ((l.map bare).map evP)) := by
  refine CR_of_wp mixed 6 [] Tryd.func15 rfl (by kernel_rfl) rfl (by simp) (by simp) ?_
  simp (maxSteps := 1000000) [go_sem, Tryd.f15, evsP]
  refine wpA_loop (fun i : Nat => i ≤ l.length) (fun i => { n := 47, nv := 6, vs := [(0, .p (evsP l)), (2, .p (.sl 4 [])), (3, .os [3] 4 (bares (l.take i))), (4, .p (.int .i64 i))], ts := [], rs := [] }) (fun i => l.length - i) 0 (by simp) (by simp [go_sem, LeS, leV, leR, leA, evsP, bares]) ?_
  intro k hk
  simp (maxSteps := 1000000) [go_sem, evsP]
  refine condK_if (fun h => ?_) (fun h => ?_)
  · have h' : k < l.length := by omega
    have em := elemAt_map evP l k h'
    have w1 : IntKind.i64.wrap ((k : Int) + 1) = (k : Int) + 1 := wrap64 (by omega) (by omega)
    have eT : bares (l.take (k + 1)) = bares (l.take k) ++ [evP (bare l[k])] := by
      unfold bares; rw [List.take_succ_eq_append_getElem h', List.map_append, List.map_append]; rfl
    have hkl : (bares (l.take k)).length = k := by simp [bares]; omega
    generalize bares (l.take k) = es at *
    generalize l[k] = x at *
    simp (maxSteps := 1000000) [go_sem, em, h', evP]
    refine condK_if (fun k1 => ?_) (fun k1 => ?_)
    · have hk3 : ¬ x.k = 3 := by omega
      simp (maxSteps := 1000000) [go_sem, em, h', evP, hk3, w1]
      refine ⟨by omega, LoopK_next (k + 1) (by omega) (by rw [eT]; simp [go_sem, LeS, leV, leR, leA, evP, bare, k1]) (by omega)⟩
    · simp (maxSteps := 1000000) [go_sem, k1]
      refine condK_if (fun k3 => ?_) (fun k3 => ?_)
      · simp (maxSteps := 1000000) [go_sem, em, h', evP, w1]
        refine ⟨by omega, LoopK_next (k + 1) (by omega) (by rw [eT]; simp [go_sem, LeS, leV, leR, leA, evP, bare, k3]) (by omega)⟩
      · simp (maxSteps := 1000000) [go_sem, w1]
        refine ⟨by omega, LoopK_next (k + 1) (by omega) (by rw [eT]; simp [go_sem, LeS, leV, leR, leA, evP, bare, k1, k3]) (by omega)⟩
  · have hkk : k = l.length := by omega
    subst hkk
    simp (maxSteps := 1000000) [go_sem]
    exact ret_is (.os [2] 4 (bares l)) rfl (by simp [go_sem, resOf, leA]) ⟨rfl, by simp [bares]⟩
end Go.Proofs.YtlmejofikpnbpaaDoor
