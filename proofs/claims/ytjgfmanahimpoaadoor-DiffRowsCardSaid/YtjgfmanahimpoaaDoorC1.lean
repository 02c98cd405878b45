/- What the examples beside the statements about terminal ops tell: true. Conditions: as each law says. -/
import Derived.Test.YtjgfmanahimpoaaDoorA
import Derived.Test.YtjgfmanahimpoaaDoorB
namespace Go.Proofs.YtjgfmanahimpoaaDoor
open Go.AM
set_option maxRecDepth 10000
theorem bb_own {g : Gh} {w : World} {t : Tok} {l : List UInt8} {v : Value} (h : RepA g w (.bb t 5 l) v) : w.ownsRow 0 5 1 v l.length (Lib.byteCells l) ∧ (v = .slice none 0 0 ∧ l = [] ∨ ∃ q, v.ownBlock = some q ∧ g.K q = .tail t ∧ g.fr q = 0 ∧ l ≠ []) := by
  simp only [RepA] at h
  have hl : (Lib.byteCells l).length = l.length * 1 := by simp [Lib.byteCells]
  rcases h with ⟨rfl, rfl⟩ | ⟨b, cap, arr, rfl, hk, hf, hb, h1, h2, h3, h4, h5⟩
  · exact ⟨⟨hl, .inl ⟨rfl, rfl⟩⟩, .inl ⟨rfl, rfl⟩⟩
  · exact ⟨⟨hl, .inr ⟨b, cap, arr, rfl, Nat.zero_le _, hb, h1, h2, by omega, by rw [Nat.mul_one]; exact h4⟩⟩, .inr ⟨b, rfl, hk, hf, h5⟩⟩
theorem Blk_of {w w' : World} {b : Nat} {arr arr' : Array Value} {T : TypeId} {n : BN} (h : w.heap[b]? = some (.cells arr T (0, 0))) (h' : w'.heap[b]? = some (.cells arr' T (0, 0))) (hs : arr'.size = arr.size) (hn : Blk w b n) : Blk w' b n := by
  cases n <;> simp only [Blk] at hn ⊢
  · obtain ⟨arr2, T2, h2, hn⟩ := hn
    rw [h] at h2
    injection h2 with h2; injection h2 with e1 e2; subst e1; subst e2
    exact ⟨arr', T, h', by omega⟩
  · obtain ⟨arr2, h2, hn⟩ := hn
    rw [h] at h2
    injection h2 with h2; injection h2 with e1 e2; subst e1; subst e2
    exact ⟨arr', h', by omega⟩
theorem setCell_heap (w : World) (b o : Nat) (v : Value) (k : Nat) (h : k ≠ b) : (w.setCell ⟨b, o, none⟩ v).heap[k]? = w.heap[k]? := by
  simp [World.setCell, Array.getElem?_modify, Ne.symm h]
theorem setCell_at {w : World} {b : Nat} {arr : Array Value} {T : TypeId} {f : Nat × Nat} (h : w.heap[b]? = some (.cells arr T f)) (o : Nat) (v : Value) : (w.setCell ⟨b, o, none⟩ v).heap[b]? = some (.cells (arr.setIfInBounds o v) T f) := by
  simp [World.setCell, Array.getElem?_modify, h]
theorem str_cr (c0 : AV) (l : List UInt8) : CR Tryd.prog 30 [] [.lp [0] 0] [([0], [c0, .bb [1] 5 l])] (is (.p (.str l))) := by
  intro w g vs hargs hG
  simp only [RepAL, RepA] at hargs
  obtain ⟨v, vs', rfl, ⟨b, hk, rfl⟩, rfl⟩ := hargs
  obtain ⟨cs, hl, h0, arr, T, hb, hle, hc⟩ := hG.roots b _ hk
  have hcs : cs = [c0, .bb [1] 5 l] := by simpa [lookT] using hl.symm
  subst hcs
  obtain ⟨v1, hv1, _, hr⟩ := hc 1 (.bb [1] 5 l) rfl
  let g2 : Gh := ⟨g.fr, fun _ => .prot⟩
  have fin : ∀ w' : World, (∀ d, d < w.heap.size → g.K d = .prot → w'.heap[d]? = w.heap[d]?) → (∀ d, g.fr d ≠ 0 → w'.heap[d]? = w.heap[d]?) → w'.heap.size = w.heap.size → (w'.os = w.os ∧ w'.tape = w.tape ∧ w'.output = w.output) →
      ∃ v x rs' g', Ending.returned (Value.string ⟨l.toArray⟩) = .returned v ∧ is (.p (.str l)) x rs' ∧ RepA g' w' x v ∧ GS g' w' rs' ∧ Aft g w g' w' [] := fun w' h1 h2 h3 h4 => by
    have hx : Ext g.fr w g2.fr w' := fun d o ho => ⟨ho, same_of_heap (h2 d (by omega))⟩
    have hA : Aft g w g2 w' [] := ⟨fun d hd hkd => ⟨h1 d hd hkd, rfl, rfl⟩, hx, h4, by omega, fun b t _ ht => (by cases ht)⟩
    exact ⟨_, _, [], g2, rfl, ⟨rfl, rfl⟩, by simp only [RepA, RepP], ⟨fun b t h => (by cases h), fun b b' t h => (by cases h), fun b b' t h => (by cases h), fun b h => absurd rfl h, fun b hb => hG.frb b (by omega), hG.gl.aft hA⟩, hA⟩
  simp only [RepA] at hr
  rcases hr with ⟨rfl, rfl⟩ | ⟨q, cap, cur, rfl, hq, hf, hqb, k1, k2, k3, k4, k5⟩
  · refine (str_raw_nil b arr T w hb hv1).mono ?_
    rintro e w' ⟨rfl, rfl⟩
    exact fin _ (fun d _ _ => rfl) (fun d _ => rfl) rfl ⟨rfl, rfl, rfl⟩
  · refine (str_raw b q cap cur arr T l w hb hv1 hqb k1 k2 k3 (by simpa [Lib.byteCells] using k4) k5).mono ?_
    rintro e w' ⟨rfl, rfl⟩
    have hne : ∀ d, d ≠ q → (w.drew.freeze ⟨q, 0, none⟩ l.length).heap[d]? = w.heap[d]? := fun d hd => by
      simp [World.freeze, k5, Array.getElem?_modify, Ne.symm hd]
      rfl
    exact fin _ (fun d _ hkd => hne d (fun e => by subst e; rw [hq] at hkd; cases hkd)) (fun d hd => hne d (fun e => by subst e; exact hd hf)) (by simp [World.freeze, k5]) (by simp [World.freeze, k5]; exact ⟨rfl, rfl⟩)
/-- A text, written to a builder: once its buffer, and its own address, are told. -/
theorem wstr_run {c0 : AV} (hc0 : c0 = .bz [0] 66 2 ∨ c0 = .lp [0] 0) (l s : List UInt8) (hlen : l.length + s.length ≤ 140737488355328) : CR Tryd.prog 29 [[0]] [.lp [0] 0, .p (.str s)] [([0], [c0, .bb [1] 5 l])]
    (fun x rs' => x = .tup [.junk, .junk] ∧ rs' = [([0], [.lp [0] 0, .bb [1] 5 (l ++ s)])]) := by
  intro w g vs hargs hG
  simp only [RepAL, RepA, RepP] at hargs
  obtain ⟨v, vs', rfl, ⟨b, hk, rfl⟩, v2, vs2, rfl, rfl, rfl⟩ := hargs
  obtain ⟨cs, hl, h0, arr, T, hb, hle, hc⟩ := hG.roots b _ hk
  have hcs : cs = [c0, .bb [1] 5 l] := by simpa [lookT] using hl.symm
  subst hcs
  obtain ⟨p0, hp0, _, hr0⟩ := hc 0 c0 rfl
  obtain ⟨v1, hv1, _, hr⟩ := hc 1 (.bb [1] 5 l) rfl
  obtain ⟨hown, hkind⟩ := bb_own hr
  have hbw := hG.own b (by rw [hk]; simp)
  have hne : v1.ownBlock ≠ some b := by
    rcases hkind with ⟨rfl, _⟩ | ⟨q, hq, hqk, _⟩
    · simp [Value.ownBlock]
    · rw [hq]; intro e; injection e with e; subst e; rw [hqk] at hk; cases hk
  have hsz : 2 ≤ arr.size := hle
  -- its own address
  obtain ⟨W1, arr1, hcopy, hb1, h10, h11, hsz1, hold1, hs1, hout1⟩ : ∃ W1 arr1, Calls Tryd.prog 44 #[.pointer (some ⟨b, 0, none⟩)] w (fun e w' => e = .returned (.tuple #[]) ∧ w' = W1) ∧ W1.heap[b]? = some (.cells arr1 T (0, 0)) ∧
      arr1[0]? = some (.pointer (some ⟨b, 0, none⟩)) ∧ arr1[1]? = some v1 ∧ arr1.size = arr.size ∧ (∀ d, d ≠ b → W1.heap[d]? = w.heap[d]?) ∧ W1.heap.size = w.heap.size ∧ (W1.os = w.os ∧ W1.tape = w.tape ∧ W1.output = w.output) := by
    rcases hc0 with rfl | rfl
    · simp only [RepA] at hr0
      obtain ⟨rfl, b', hk', arr', hb', hs'⟩ := hr0
      obtain rfl := hG.ur b b' _ hk hk'
      rw [hb] at hb'
      injection hb' with hb'; injection hb' with e1 e2; subst e1; subst e2
      refine ⟨_, arr.setIfInBounds 0 (.pointer (some ⟨b, 0, none⟩)), copy_fresh b w (by rw [Lib.cell_of_heap hb]; exact hp0) (by simp [World.shape?, hb, hs']) (Lib.frozen_of_heap hb 0), setCell_at hb 0 _, ?_, ?_, by simp, fun d hd => setCell_heap w b 0 _ d hd, by simp [World.setCell], rfl, rfl, rfl⟩
      · simp [show 0 < arr.size by omega]
      · simp only [Array.getElem?_setIfInBounds]; simpa using hv1
    · simp only [RepA] at hr0
      obtain ⟨b', hk', rfl⟩ := hr0
      obtain rfl := hG.ur b b' _ hk hk'
      exact ⟨w, arr, copy_used b w (by rw [Lib.cell_of_heap hb]; exact hp0), hb, hp0, hv1, rfl, fun _ _ => rfl, rfl, rfl, rfl, rfl⟩
  have hown1 : W1.ownsRow 0 5 1 v1 l.length (Lib.byteCells l) := ⟨hown.1, hown.2.imp id (by
    rintro ⟨q, cap, cur, rfl, h1, h2, h3⟩
    exact ⟨q, cap, cur, rfl, h1, (hold1 q (fun e => hne (by simp [Value.ownBlock, e]))).trans h2, h3⟩)⟩
  refine (wstr_raw0 b v1 l s w W1 arr1 T hcopy hb1 h11 hown1 hne hlen).mono ?_
  rintro e w' ⟨rfl, v', W2, rfl, hown2, hgrow, hiff, hblk⟩
  have hbW1 : b < W1.heap.size := by omega
  have hb2 : W2.heap[b]? = some (.cells arr1 T (0, 0)) := (hgrow.block b hbW1 (fun e => hne e.symm)).trans hb1
  have hb3 := setCell_at hb2 1 v'
  have hv1q : ∀ d, v1.ownBlock = some d → g.K d = .tail [1] ∧ g.fr d = 0 := fun d hd => by
    rcases hkind with ⟨rfl, _⟩ | ⟨q, hq, hqk, hf, _⟩
    · simp [Value.ownBlock] at hd
    · rw [hq] at hd; injection hd with e; subst e; exact ⟨hqk, hf⟩
  have hsame : ∀ d, d < w.heap.size → d ≠ b → v1.ownBlock ≠ some d → (W2.setCell ⟨b, 1, none⟩ v').heap[d]? = w.heap[d]? := fun d hd hdb hdv => by
    rw [setCell_heap _ _ _ _ _ hdb, hgrow.block d (by omega) (fun e => hdv e.symm), hold1 d hdb]
  have hsz2 : (W2.setCell ⟨b, 1, none⟩ v').heap.size = W2.heap.size := by simp [World.setCell]
  have hge : w.heap.size ≤ W2.heap.size := by have := hgrow.size; omega
  have hvq : ∀ q, v'.ownBlock = some q → q ≠ b ∧ g.fr q = 0 ∧ (g.K q = .prot → w.heap.size ≤ q) := fun q hq => by
    rcases hblk with e | ⟨B, e, hB⟩
    · rw [hq] at e
      obtain ⟨k1, k2⟩ := hv1q q e.symm
      exact ⟨fun e' => (by subst e'; rw [k1] at hk; cases hk), k2, fun e' => (by rw [k1] at e'; cases e')⟩
    · rw [hq] at e; injection e with e; subst e
      exact ⟨by omega, hG.frb q (by omega), fun _ => by omega⟩
  let g2 : Gh := ⟨g.fr, fun d => if d = b then .root [0] else if v'.ownBlock = some d then .tail [1] else .prot⟩
  have hK : ∀ d, g2.K d = if d = b then .root [0] else if v'.ownBlock = some d then .tail [1] else .prot := fun _ => rfl
  have hx : Ext g.fr w g2.fr (W2.setCell ⟨b, 1, none⟩ v') := fun d o ho => ⟨ho, same_of_heap (hsame d (by
      rcases Nat.lt_or_ge d w.heap.size with h | h
      · exact h
      · have := hG.frb d h; omega) (fun e => by subst e; omega) (fun e => by have := (hv1q d e).2; omega))⟩
  have hA : Aft g w g2 (W2.setCell ⟨b, 1, none⟩ v') [[0]] := ⟨fun d hd hkd => ⟨hsame d hd (fun e => by subst e; rw [hk] at hkd; cases hkd) (fun e => by have := (hv1q d e).1; rw [this] at hkd; cases hkd), rfl, by
      rw [hK, if_neg (fun e => by subst e; rw [hk] at hkd; cases hkd), if_neg (fun e => by have := (hvq d e).2.2 hkd; omega)]⟩, hx,
    ⟨by show W2.os = _; rw [hgrow.os]; exact hout1.1, by show W2.tape = _; rw [hgrow.tape]; exact hout1.2.1, by show W2.output = _; rw [hgrow.output]; exact hout1.2.2⟩, by omega, fun b' t hk' ht => (by
    obtain rfl : t = [0] := by simpa using ht
    obtain rfl := hG.ur b b' _ hk hk'
    exact ⟨by rw [hK, if_pos rfl], fun n hn => Blk_of hb hb3 (by simp [hsz1]) hn⟩)⟩
  have hempty : l ++ s = [] → v' = .slice none 0 0 := fun e => by
    obtain ⟨rfl, rfl⟩ := List.append_eq_nil_iff.1 e
    rcases hkind with ⟨h, _⟩ | ⟨q, _, _, _, h⟩
    · exact hiff.2 ⟨h, rfl⟩
    · exact absurd rfl h
  have hbb : RepA g2 (W2.setCell ⟨b, 1, none⟩ v') (.bb [1] 5 (l ++ s)) v' := by
    simp only [RepA]
    rcases hown2.2 with ⟨h, h'⟩ | ⟨q, cap, cur, rfl, _, hq, k1, k2, k3, k4⟩
    · exact .inl ⟨List.eq_nil_of_length_eq_zero h', h⟩
    · obtain ⟨q1, q2, _⟩ := hvq q rfl
      refine .inr ⟨q, cap, cur, rfl, by rw [hK, if_neg q1]; exact if_pos rfl, q2, (setCell_heap _ _ _ _ _ q1).trans hq, k1, k2, by omega, ?_, fun e => ?_⟩
      · rw [Nat.mul_one] at k4; exact k4
      · have := hempty e; cases this
  refine ⟨_, .tup [.junk, .junk], [([0], [.lp [0] 0, .bb [1] 5 (l ++ s)])], g2, rfl, ⟨rfl, rfl⟩, by simp only [RepA, RepAL]; exact ⟨_, rfl, _, _, rfl, trivial, _, _, rfl, trivial, rfl⟩, ⟨fun d t hd => ?_, fun d d' t hd hd' => ?_, fun d d' t hd hd' => ?_, fun d hd => ?_, fun d hd => hG.frb d (by omega), hG.gl.aft hA⟩, hA⟩
  · have hdb : d = b := by
      rw [hK] at hd
      split at hd
      · assumption
      · split at hd <;> cases hd
    subst hdb
    have ht : t = [0] := by rw [hK, if_pos rfl] at hd; injection hd with e; exact e.symm
    subst ht
    refine ⟨_, rfl, h0, _, T, hb3, by simp [hsz1]; omega, fun j x hj => ?_⟩
    match j, hj with
    | 0, hj =>
      simp at hj; subst hj
      refine ⟨.pointer (some ⟨d, 0, none⟩), ?_, rfl, by simp only [RepA]; exact ⟨d, by rw [hK, if_pos rfl], rfl⟩⟩
      simp only [Array.getElem?_setIfInBounds]; simpa using h10
    | 1, hj =>
      simp at hj; subst hj
      refine ⟨v', by simp [Array.getElem?_setIfInBounds, hsz1]; omega, ?_, hbb⟩
      rcases hown2.2 with ⟨rfl, _⟩ | ⟨q, cap, cur, rfl, _⟩ <;> rfl
    | j + 2, hj => simp at hj
  · have one : ∀ d, g2.K d = .root t → d = b := fun d hd => by
      rw [hK] at hd
      split at hd
      · assumption
      · split at hd <;> cases hd
    rw [one d hd, one d' hd']
  · have one : ∀ d, g2.K d = .tail t → v'.ownBlock = some d := fun d hd => by
      rw [hK] at hd
      split at hd
      · cases hd
      · split at hd
        · assumption
        · cases hd
    have e1 := one d hd
    rw [one d' hd'] at e1
    injection e1 with e1; exact e1.symm
  · rw [hsz2]
    rw [hK] at hd
    split at hd
    · rename_i e; subst e; omega
    · split at hd
      · rename_i e
        rcases hown2.2 with ⟨rfl, _⟩ | ⟨q, cap, cur, rfl, _, hq, _⟩
        · simp [Value.ownBlock] at e
        · simp [Value.ownBlock] at e; subst e
          exact (Array.getElem?_eq_some_iff.1 hq).1
      · exact absurd rfl hd
end Go.Proofs.YtjgfmanahimpoaaDoor
namespace Go.Proofs.YtjgfmanahimpoaaDoor
open Go.AM
set_option maxHeartbeats 1600000
set_option maxRecDepth 10000
/-- An op: its kind, its numbers, its text. -/
structure AOp where
  k : Int
  a : Int
  b : Int
  t : List UInt8
  deriving Inhabited, DecidableEq
def opP (o : AOp) : PV := .agg [.int .i64 o.k, .int .i64 o.a, .int .i64 o.b, .str o.t]
attribute [go_sem] opP
/-- A number's digits, within the bounds. -/
def digL (n : Int) : List UInt8 := Lib.decDigits (min (max n 0) 9999).toNat
theorem digL_len (n : Int) : (digL n).length ≤ 4 := by
  have h : ∀ u : Nat, u ≤ 9999 → Lib.nDigits u ≤ 4 := fun u hu => by
    rw [Lib.nDigits]; split
    · omega
    · rw [Lib.nDigits]; split
      · omega
      · rw [Lib.nDigits]; split
        · omega
        · rw [Lib.nDigits]; split
          · omega
          · exfalso; omega
  rw [digL, Lib.decDigits_length]
  exact h _ (by omega)
def byL (a : Int) (c : List UInt8) : List UInt8 := if a = 1 then [27, 91] ++ c else [27, 91] ++ digL a ++ c
def putL (o : AOp) : List UInt8 :=
  if o.k = 1 then o.t
  else if o.k = 2 then [27, 91] ++ digL (min o.a 9999 + 1) ++ [59] ++ digL (min o.b 9999 + 1) ++ [72]
  else if o.k = 3 then [27, 91, 75]
  else if o.k = 4 then [27, 91, 50, 74]
  else if o.k = 5 then [7]
  else if o.k = 6 then [13]
  else if o.k = 7 then [10]
  else if o.k = 8 then byL o.a [67]
  else if o.k = 9 then byL o.a [68]
  else if o.k = 10 then byL o.a [65]
  else if o.k = 11 then byL o.a [66]
  else []
theorem num_cr (n : Int) : CR Tryd.prog 24 [] [.p (.int .i64 n)] [] (is (.p (.str (digL n)))) := by
  have hi := itoa_cr (min (max n 0) 9999) (by omega) (by omega)
  have e : Lib.itoa (min (max n 0) 9999) = digL n := by
    have : min (max n 0) 9999 = ((min (max n 0) 9999).toNat : Int) := by omega
    rw [this, Lib.itoa_nonneg]; rfl
  rw [e] at hi
  refine CR_of_wp mixed 3 [] Tryd.func24 rfl (by kernel_rfl) rfl (by simp) (by simp) ?_
  simp (maxSteps := 1000000) (disch := omega) [go_sem, Tryd.f24]
  refine ⟨⟨rfl, by simp [Tryd.f25]⟩, CallK_of [] hi (by simp [go_sem]) ⟨by simp [go_sem], by simp [go_sem]⟩ (by simp [go_sem]) ?_⟩
  rintro y rs ⟨rfl, rfl⟩
  simp (maxSteps := 1000000) (disch := omega) [go_sem]
  exact ret_is _ rfl (by simp [go_sem, resOf, leA]) ⟨rfl, rfl⟩
def nfn : AV := .p (.opq (.func (.func 24) #[] #[]))
theorem by_cr (o : AOp) (c : List UInt8) (hc : c.length ≤ 100) : CR Tryd.prog 26 [] [.p (.str c), .lp [0] 0, .lp [1] 0] [([0], [.p (.int .i64 o.k), .p (.int .i64 o.a), .p (.int .i64 o.b), .p (.str o.t)]), ([1], [nfn])] (is (.p (.str (byL o.a c)))) := by
  have hn := num_cr o.a
  have hl := digL_len o.a
  obtain ⟨d, hd⟩ : ∃ d, d = digL o.a := ⟨_, rfl⟩
  have hby : byL o.a c = if o.a = 1 then [27, 91] ++ c else [27, 91] ++ d ++ c := by rw [hd]; rfl
  rw [hby]
  rw [← hd] at hn hl
  clear hby hd
  refine CR_of_wp mixed 5 [] Tryd.func26 rfl (by kernel_rfl) rfl (by simp) (by simp) ?_
  simp (maxSteps := 1000000) (disch := omega) [go_sem, Tryd.f26, nfn]
  refine condK_if (fun h => ?_) (fun h => ?_)
  · simp (maxSteps := 1000000) (disch := omega) [go_sem]
    exact ⟨by omega, ret_is (.p (.str ([27, 91] ++ c))) rfl (by simp [go_sem, resOf, leA]) ⟨rfl, by simp [h]⟩⟩
  · simp (maxSteps := 1000000) (disch := omega) [go_sem, Tryd.t60]
    refine ⟨⟨rfl, by simp [Tryd.f24]⟩, CallK_of [] hn (by simp [go_sem]) ⟨by simp [go_sem], by simp [go_sem]⟩ (by simp [go_sem]) ?_⟩
    rintro y rs ⟨rfl, rfl⟩
    simp (maxSteps := 1000000) (disch := omega) [go_sem]
    exact ⟨by omega, by omega, ret_is (.p (.str ([27, 91] ++ d ++ c))) rfl (by simp [go_sem, resOf, leA]) ⟨rfl, by simp [h]⟩⟩
def moreL (n : Int) : Int := if 9999 < n then 9999 else n + 1
theorem more_cr (n : Int) (h : -9223372036854775808 ≤ n) : CR Tryd.prog 28 [] [.p (.int .i64 n)] [] (is (.p (.int .i64 (moreL n)))) := by
  refine CR_of_wp mixed 3 [] Tryd.func28 rfl (by kernel_rfl) rfl (by simp) (by simp) ?_
  simp (maxSteps := 1000000) (disch := omega) [go_sem, Tryd.f28]
  refine condK_if (fun h => ?_) (fun h => ?_)
  · simp (maxSteps := 1000000) (disch := omega) [go_sem]
    exact ret_is (.p (.int .i64 9999)) rfl (by simp [go_sem, resOf, leA]) ⟨rfl, by rw [moreL, if_pos h]⟩
  · simp (maxSteps := 1000000) (disch := omega) [go_sem, wrap64]
    exact ret_is (.p (.int .i64 (n + 1))) rfl (by simp [go_sem, resOf, leA]) ⟨rfl, by rw [moreL, if_neg h]⟩
theorem dig_step (m : Nat) (h : 0 < m) : (if m = 0 then [] else Lib.decDigits m) = (if m / 10 = 0 then [] else Lib.decDigits (m / 10)) ++ [UInt8.ofNat (48 + m % 10)] := by
  rw [if_neg (by omega), Lib.decDigits]
  by_cases h1 : m < 10
  · rw [dif_pos h1, if_pos (by omega), show m % 10 = m from by omega]; rfl
  · rw [dif_neg h1, if_neg (by omega)]
theorem digits_cr (n : Int) : CR Tryd.prog 27 [] [.p (.int .i64 n)] [] (is (.p (.str (digL n)))) := by
  refine CR_of_wp mixed 4 [] Tryd.func27 rfl (by kernel_rfl) rfl (by simp) (by simp) ?_
  simp (maxSteps := 1000000) (disch := omega) [go_sem, Tryd.f27]
  refine condK_if (fun h => ?_) (fun h => ?_)
  · simp (maxSteps := 1000000) (disch := omega) [go_sem]
    refine ret_is (.p (.str [48])) rfl (by simp [go_sem, resOf, leA]) ⟨rfl, ?_⟩
    have : (min (max n 0) 9999).toNat = 0 := by omega
    rw [digL, this, Lib.decDigits_one (by decide)]; rfl
  · simp (maxSteps := 1000000) (disch := omega) [go_sem]
    refine condK_if (fun h2 => ?_) (fun h2 => ?_)
    · simp (maxSteps := 1000000) (disch := omega) [go_sem]
      refine ret_is (.p (.str [57, 57, 57, 57])) rfl (by simp [go_sem, resOf, leA]) ⟨rfl, ?_⟩
      have : (min (max n 0) 9999).toNat = 9999 := by omega
      rw [digL, this]
      have : Lib.decDigits 9999 = [57, 57, 57, 57] := by decide +kernel
      rw [this]
    · obtain ⟨u, rfl⟩ : ∃ u : Nat, n = u := ⟨n.toNat, by omega⟩
      have hd : digL u = Lib.decDigits u := by
        have : (min (max (u : Int) 0) 9999).toNat = u := by omega
        rw [digL, this]
      rw [hd]
      have hu : Lib.decDigits u = if u = 0 then [] else Lib.decDigits u := by rw [if_neg (by omega)]
      simp (maxSteps := 1000000) (disch := omega) [go_sem]
      refine wpA_loop (fun i : Nat × List UInt8 => i.1 ≤ u ∧ i.2.length + i.1 ≤ 10000 ∧ Lib.decDigits u = (if i.1 = 0 then [] else Lib.decDigits i.1) ++ i.2) (fun i => { n := 21, nv := 4, vs := [(0, .p (.int .i64 i.1)), (3, .p (.str i.2))], ts := [], rs := [] }) (fun i => i.1) (u, []) ⟨Nat.le_refl _, by simp; omega, by rw [List.append_nil]; exact hu⟩ (by simp [go_sem, LeS, leV, leR, leA]) ?_
      rintro ⟨m, t⟩ ⟨hm, ht, he⟩
      simp only at hm ht he
      simp (maxSteps := 1000000) (disch := omega) [go_sem]
      refine condK_if (fun h3 => ?_) (fun h3 => ?_)
      · simp (maxSteps := 1000000) (disch := omega) [go_sem, wrap64]
        have e0 : (m : Int).tmod 10 = ((m % 10 : Nat) : Int) := by
          rw [Int.tmod_eq_emod_of_nonneg (by omega)]; rfl
        have e1 : UInt8.ofNat (IntKind.u8.wrap (IntKind.i64.wrap (48 + (m : Int).tmod 10))).toNat = UInt8.ofNat (48 + m % 10) := by
          rw [e0, wrap64 (by omega) (by omega)]
          have : IntKind.u8.wrap (48 + ((m % 10 : Nat) : Int)) = ((48 + m % 10 : Nat) : Int) := by
            simp [IntKind.wrap, IntKind.signed, IntKind.bits]; omega
          rw [this, Int.toNat_natCast]
        refine ⟨by omega, LoopK_next (m / 10, UInt8.ofNat (48 + m % 10) :: t) ⟨by simp only; omega, by simp only [List.length_cons]; omega, ?_⟩ (by simp [go_sem, LeS, leV, leR, leA, e1]) (by simp only; omega)⟩
        show Lib.decDigits u = (if m / 10 = 0 then [] else Lib.decDigits (m / 10)) ++ UInt8.ofNat (48 + m % 10) :: t
        rw [he, dig_step m (by omega)]
        simp
      · obtain rfl : m = 0 := by omega
        simp (maxSteps := 1000000) (disch := omega) [go_sem]
        exact ret_is (.p (.str t)) rfl (by simp [go_sem, resOf, leA]) ⟨rfl, by rw [he]; rfl⟩
end Go.Proofs.YtjgfmanahimpoaaDoor
namespace Go.Proofs.YtjgfmanahimpoaaDoor
open Go.AM
set_option maxHeartbeats 1600000
set_option maxRecDepth 10000
theorem op_cr (o : AOp) : CR Tryd.prog 8 [] [.p (opP o)] [] (is (.p (opP o))) := by
  refine CR_of_wp mixed 3 [] Tryd.func8 rfl (by kernel_rfl) rfl (by simp) (by simp) ?_
  simp (maxSteps := 1000000) (disch := omega) [go_sem, Tryd.f8]
  exact ret_is (.p (opP o)) rfl (by simp [go_sem, resOf, leA]) ⟨rfl, rfl⟩
theorem byL_len (a : Int) (c : List UInt8) : (byL a c).length ≤ 6 + c.length := by
  have := digL_len a
  rw [byL]
  split <;> simp <;> omega
theorem aput_cr (o : AOp) (ha : -9223372036854775808 ≤ o.a) (hb : -9223372036854775808 ≤ o.b) : CR Tryd.prog 7 [] [.p (opP o)] [] (is (.p (.str (putL o)))) := by
  refine CR_of_wpD [7] mixed 5 [7, 8, 12, 30, 32, 34, 36, 38, 40, 44, 48, 52] Tryd.func7 rfl (by kernel_rfl) rfl (by simp) (by simp) ?_
  simp (maxSteps := 1000000) (disch := omega) [go_sem, Tryd.f7, Tryd.t60]
  refine ⟨rfl, rfl, condK_if (fun h1 => ?_) (fun h1 => ?_)⟩
  · simp (maxSteps := 1000000) (disch := omega) [go_sem]
    exact ret_is (.p (.str o.t)) rfl (by simp [go_sem, resOf, leA]) ⟨rfl, by simp [putL, h1]⟩
  simp (maxSteps := 1000000) (disch := omega) [go_sem]
  refine condK_if (fun h2 => ?_) (fun h2 => ?_)
  · have l1 := digL_len (min o.a 9999 + 1)
    have l2 := digL_len (min o.b 9999 + 1)
    have hn1 := num_cr (min o.a 9999 + 1)
    have hn2 := num_cr (min o.b 9999 + 1)
    have hp : putL o = [27, 91] ++ digL (min o.a 9999 + 1) ++ [59] ++ digL (min o.b 9999 + 1) ++ [72] := by simp [putL, h2]
    rw [hp]
    clear hp
    generalize digL (min o.a 9999 + 1) = d1 at *
    generalize digL (min o.b 9999 + 1) = d2 at *
    simp (maxSteps := 1000000) (disch := omega) [go_sem, wrap64, Tryd.t60]
    refine HCallK_of (.p (.str d1)) rfl rfl (fun _ => pcallA_of 24 hn1 rfl ⟨rfl, by simp [Tryd.f24]⟩ ⟨by simp [go_sem], by simp [go_sem]⟩) ?_
    simp (maxSteps := 1000000) (disch := omega) [go_sem, wrap64, Tryd.t60]
    refine ⟨by omega, by omega, HCallK_of (.p (.str d2)) rfl rfl (fun _ => pcallA_of 24 hn2 rfl ⟨rfl, by simp [Tryd.f24]⟩ ⟨by simp [go_sem], by simp [go_sem]⟩) ?_⟩
    simp (maxSteps := 1000000) (disch := omega) [go_sem]
    exact ⟨by omega, by omega, ret_is (.p (.str (27 :: 91 :: (d1 ++ 59 :: (d2 ++ [72]))))) rfl (by simp [go_sem, resOf, leA]) ⟨rfl, rfl⟩⟩
  simp (maxSteps := 1000000) (disch := omega) [go_sem]
  refine condK_if (fun h3 => ?_) (fun h3 => ?_)
  · simp (maxSteps := 1000000) (disch := omega) [go_sem]
    exact ret_is (.p (.str [27, 91, 75])) rfl (by simp [go_sem, resOf, leA]) ⟨rfl, by simp [putL, h3]⟩
  simp (maxSteps := 1000000) (disch := omega) [go_sem]
  refine condK_if (fun h4 => ?_) (fun h4 => ?_)
  · simp (maxSteps := 1000000) (disch := omega) [go_sem]
    exact ret_is (.p (.str [27, 91, 50, 74])) rfl (by simp [go_sem, resOf, leA]) ⟨rfl, by simp [putL, h4]⟩
  simp (maxSteps := 1000000) (disch := omega) [go_sem]
  refine condK_if (fun h5 => ?_) (fun h5 => ?_)
  · simp (maxSteps := 1000000) (disch := omega) [go_sem]
    exact ret_is (.p (.str [7])) rfl (by simp [go_sem, resOf, leA]) ⟨rfl, by simp [putL, h5]⟩
  simp (maxSteps := 1000000) (disch := omega) [go_sem]
  refine condK_if (fun h6 => ?_) (fun h6 => ?_)
  · simp (maxSteps := 1000000) (disch := omega) [go_sem]
    exact ret_is (.p (.str [13])) rfl (by simp [go_sem, resOf, leA]) ⟨rfl, by simp [putL, h6]⟩
  simp (maxSteps := 1000000) (disch := omega) [go_sem]
  refine condK_if (fun h7 => ?_) (fun h7 => ?_)
  · simp (maxSteps := 1000000) (disch := omega) [go_sem]
    exact ret_is (.p (.str [10])) rfl (by simp [go_sem, resOf, leA]) ⟨rfl, by simp [putL, h7]⟩
  simp (maxSteps := 1000000) (disch := omega) [go_sem]
  refine condK_if (fun h8 => ?_) (fun h8 => ?_)
  · simp (maxSteps := 1000000) (disch := omega) [go_sem]
    refine ⟨⟨rfl, by simp [Tryd.f26]⟩, CallC_of [([0], [1]), ([1], [3])] (by_cr o [67] (by simp)) (by simp [go_sem]) ⟨by simp [go_sem], by simp [go_sem]⟩ (by simp [go_sem, nfn]) ?_⟩
    rintro y rs ⟨rfl, rfl⟩
    simp (maxSteps := 1000000) (disch := omega) [go_sem]
    exact ret_is (.p (.str (byL o.a [67]))) rfl (by simp [go_sem, resOf, leA]) ⟨rfl, by simp [putL, h8]⟩
  simp (maxSteps := 1000000) (disch := omega) [go_sem]
  refine condK_if (fun h9 => ?_) (fun h9 => ?_)
  · simp (maxSteps := 1000000) (disch := omega) [go_sem]
    refine ⟨⟨rfl, by simp [Tryd.f26]⟩, CallC_of [([0], [1]), ([1], [3])] (by_cr o [68] (by simp)) (by simp [go_sem]) ⟨by simp [go_sem], by simp [go_sem]⟩ (by simp [go_sem, nfn]) ?_⟩
    rintro y rs ⟨rfl, rfl⟩
    simp (maxSteps := 1000000) (disch := omega) [go_sem]
    exact ret_is (.p (.str (byL o.a [68]))) rfl (by simp [go_sem, resOf, leA]) ⟨rfl, by simp [putL, h9]⟩
  simp (maxSteps := 1000000) (disch := omega) [go_sem]
  refine condK_if (fun h10 => ?_) (fun h10 => ?_)
  · simp (maxSteps := 1000000) (disch := omega) [go_sem]
    refine ⟨⟨rfl, by simp [Tryd.f26]⟩, CallC_of [([0], [1]), ([1], [3])] (by_cr o [65] (by simp)) (by simp [go_sem]) ⟨by simp [go_sem], by simp [go_sem]⟩ (by simp [go_sem, nfn]) ?_⟩
    rintro y rs ⟨rfl, rfl⟩
    simp (maxSteps := 1000000) (disch := omega) [go_sem]
    exact ret_is (.p (.str (byL o.a [65]))) rfl (by simp [go_sem, resOf, leA]) ⟨rfl, by simp [putL, h10]⟩
  simp (maxSteps := 1000000) (disch := omega) [go_sem]
  refine condK_if (fun h11 => ?_) (fun h11 => ?_)
  · simp (maxSteps := 1000000) (disch := omega) [go_sem]
    refine ⟨⟨rfl, by simp [Tryd.f26]⟩, CallC_of [([0], [1]), ([1], [3])] (by_cr o [66] (by simp)) (by simp [go_sem]) ⟨by simp [go_sem], by simp [go_sem]⟩ (by simp [go_sem, nfn]) ?_⟩
    rintro y rs ⟨rfl, rfl⟩
    simp (maxSteps := 1000000) (disch := omega) [go_sem]
    exact ret_is (.p (.str (byL o.a [66]))) rfl (by simp [go_sem, resOf, leA]) ⟨rfl, by simp [putL, h11]⟩
  simp (maxSteps := 1000000) (disch := omega) [go_sem]
  exact ret_is (.p (.str [])) rfl (by simp [go_sem, resOf, leA]) ⟨rfl, by simp [putL, h1, h2, h3, h4, h5, h6, h7, h8, h9, h10, h11]⟩
end Go.Proofs.YtjgfmanahimpoaaDoor
namespace Go.Proofs.YtjgfmanahimpoaaDoor
open Go.AM
set_option maxHeartbeats 1600000
set_option maxRecDepth 10000
theorem dig_more (n : Int) : digL (moreL n) = digL (min n 9999 + 1) := by
  rw [moreL, digL, digL]
  have : (min (max (if 9999 < n then 9999 else n + 1) 0) 9999).toNat = (min (max (min n 9999 + 1) 0) 9999).toNat := by split <;> omega
  rw [this]
theorem rput_cr (o : AOp) (ha : -9223372036854775808 ≤ o.a) (hb : -9223372036854775808 ≤ o.b) : CR Tryd.prog 9 [] [.p (opP o)] [] (is (.p (.str (putL o)))) := by
  refine CR_of_wpD [5] mixed 6 [6, 10, 24, 26, 28, 30, 32, 34] Tryd.func9 rfl (by kernel_rfl) rfl (by simp) (by simp) ?_
  simp (maxSteps := 1000000) (disch := omega) [go_sem, Tryd.f9]
  refine condK_if (fun h1 => ?_) (fun h1 => ?_)
  · simp (maxSteps := 1000000) (disch := omega) [go_sem]
    exact ret_is (.p (.str o.t)) rfl (by simp [go_sem, resOf, leA]) ⟨rfl, by simp [putL, h1]⟩
  simp (maxSteps := 1000000) (disch := omega) [go_sem]
  refine condK_if (fun h2 => ?_) (fun h2 => ?_)
  · have l1 := digL_len (min o.a 9999 + 1)
    have l2 := digL_len (min o.b 9999 + 1)
    have m1 := more_cr o.a ha
    have m2 := more_cr o.b hb
    have hn1 := digits_cr (moreL o.a)
    have hn2 := digits_cr (moreL o.b)
    have hp : putL o = [27, 91] ++ digL (min o.a 9999 + 1) ++ [59] ++ digL (min o.b 9999 + 1) ++ [72] := by simp [putL, h2]
    rw [hp]
    rw [dig_more] at hn1 hn2
    clear hp
    generalize digL (min o.a 9999 + 1) = d1 at *
    generalize digL (min o.b 9999 + 1) = d2 at *
    generalize moreL o.a = r1 at *
    generalize moreL o.b = r2 at *
    simp (maxSteps := 1000000) (disch := omega) [go_sem]
    refine HCallK_of (.p (.int .i64 r1)) rfl rfl (fun _ => pcallA_of 28 m1 rfl ⟨rfl, by simp [Tryd.f28]⟩ ⟨by simp [go_sem], by simp [go_sem]⟩) ?_
    simp (maxSteps := 1000000) (disch := omega) [go_sem]
    refine HCallK_of (.p (.str d1)) rfl rfl (fun _ => pcallA_of 27 hn1 rfl ⟨rfl, by simp [Tryd.f27]⟩ ⟨by simp [go_sem], by simp [go_sem]⟩) ?_
    simp (maxSteps := 1000000) (disch := omega) [go_sem]
    refine ⟨by omega, by omega, ?_⟩
    refine HCallK_of (.p (.int .i64 r2)) rfl rfl (fun _ => pcallA_of 28 m2 rfl ⟨rfl, by simp [Tryd.f28]⟩ ⟨by simp [go_sem], by simp [go_sem]⟩) ?_
    simp (maxSteps := 1000000) (disch := omega) [go_sem]
    refine HCallK_of (.p (.str d2)) rfl rfl (fun _ => pcallA_of 27 hn2 rfl ⟨rfl, by simp [Tryd.f27]⟩ ⟨by simp [go_sem], by simp [go_sem]⟩) ?_
    simp (maxSteps := 1000000) (disch := omega) [go_sem]
    exact ⟨by omega, by omega, ret_is (.p (.str (27 :: 91 :: (d1 ++ 59 :: (d2 ++ [72]))))) rfl (by simp [go_sem, resOf, leA]) ⟨rfl, rfl⟩⟩
  simp (maxSteps := 1000000) (disch := omega) [go_sem]
  refine condK_if (fun h3 => ?_) (fun h3 => ?_)
  · simp (maxSteps := 1000000) (disch := omega) [go_sem]
    exact ret_is (.p (.str [27, 91, 75])) rfl (by simp [go_sem, resOf, leA]) ⟨rfl, by simp [putL, h3]⟩
  simp (maxSteps := 1000000) (disch := omega) [go_sem]
  refine condK_if (fun h4 => ?_) (fun h4 => ?_)
  · simp (maxSteps := 1000000) (disch := omega) [go_sem]
    exact ret_is (.p (.str [27, 91, 50, 74])) rfl (by simp [go_sem, resOf, leA]) ⟨rfl, by simp [putL, h4]⟩
  simp (maxSteps := 1000000) (disch := omega) [go_sem]
  refine condK_if (fun h5 => ?_) (fun h5 => ?_)
  · simp (maxSteps := 1000000) (disch := omega) [go_sem]
    exact ret_is (.p (.str [7])) rfl (by simp [go_sem, resOf, leA]) ⟨rfl, by simp [putL, h5]⟩
  simp (maxSteps := 1000000) (disch := omega) [go_sem]
  refine condK_if (fun h6 => ?_) (fun h6 => ?_)
  · simp (maxSteps := 1000000) (disch := omega) [go_sem]
    exact ret_is (.p (.str [13])) rfl (by simp [go_sem, resOf, leA]) ⟨rfl, by simp [putL, h6]⟩
  simp (maxSteps := 1000000) (disch := omega) [go_sem]
  refine condK_if (fun h7 => ?_) (fun h7 => ?_)
  · simp (maxSteps := 1000000) (disch := omega) [go_sem]
    exact ret_is (.p (.str [10])) rfl (by simp [go_sem, resOf, leA]) ⟨rfl, by simp [putL, h7]⟩
  simp (maxSteps := 1000000) (disch := omega) [go_sem]
  refine condK_if (fun h8 => ?_) (fun h8 => ?_)
  · simp (maxSteps := 1000000) (disch := omega) [go_sem, h8]
    refine condK_ifn (fun p => ?_) (fun p => ?_)
    · have hn := digits_cr o.a
      have hl := digL_len o.a
      have hp : putL o = [27, 91] ++ digL o.a ++ [67] := by simp [putL, h8, byL, p]
      rw [hp]
      clear hp
      generalize digL o.a = d1 at *
      simp (maxSteps := 1000000) (disch := omega) [go_sem]
      refine ⟨⟨rfl, by simp [Tryd.f27]⟩, CallK_of [] hn (by simp [go_sem]) ⟨by simp [go_sem], by simp [go_sem]⟩ (by simp [go_sem]) ?_⟩
      rintro y rs ⟨rfl, rfl⟩
      simp (maxSteps := 1000000) (disch := omega) [go_sem, wrap64, cut]
      exact ⟨by omega, by omega, ret_is (.p (.str ([27, 91] ++ d1 ++ [67]))) rfl (by simp [go_sem, resOf, leA]) ⟨rfl, rfl⟩⟩
    · have hp : putL o = [27, 91] ++ [67] := by simp [putL, h8, byL]; omega
      rw [hp]
      clear hp
      simp (maxSteps := 1000000) (disch := omega) [go_sem, wrap64, cut]
      exact ret_is (.p (.str [27, 91, 67])) rfl (by simp [go_sem, resOf, leA]) ⟨rfl, rfl⟩
  simp (maxSteps := 1000000) (disch := omega) [go_sem]
  refine condK_if (fun h9 => ?_) (fun h9 => ?_)
  · simp (maxSteps := 1000000) (disch := omega) [go_sem, h9]
    refine condK_ifn (fun p => ?_) (fun p => ?_)
    · have hn := digits_cr o.a
      have hl := digL_len o.a
      have hp : putL o = [27, 91] ++ digL o.a ++ [68] := by simp [putL, h9, byL, p]
      rw [hp]
      clear hp
      generalize digL o.a = d1 at *
      simp (maxSteps := 1000000) (disch := omega) [go_sem]
      refine ⟨⟨rfl, by simp [Tryd.f27]⟩, CallK_of [] hn (by simp [go_sem]) ⟨by simp [go_sem], by simp [go_sem]⟩ (by simp [go_sem]) ?_⟩
      rintro y rs ⟨rfl, rfl⟩
      simp (maxSteps := 1000000) (disch := omega) [go_sem, wrap64, cut]
      exact ⟨by omega, by omega, ret_is (.p (.str ([27, 91] ++ d1 ++ [68]))) rfl (by simp [go_sem, resOf, leA]) ⟨rfl, rfl⟩⟩
    · have hp : putL o = [27, 91] ++ [68] := by simp [putL, h9, byL]; omega
      rw [hp]
      clear hp
      simp (maxSteps := 1000000) (disch := omega) [go_sem, wrap64, cut]
      exact ret_is (.p (.str [27, 91, 68])) rfl (by simp [go_sem, resOf, leA]) ⟨rfl, rfl⟩
  simp (maxSteps := 1000000) (disch := omega) [go_sem]
  refine condK_if (fun h10 => ?_) (fun h10 => ?_)
  · simp (maxSteps := 1000000) (disch := omega) [go_sem, h10]
    refine condK_ifn (fun p => ?_) (fun p => ?_)
    · have hn := digits_cr o.a
      have hl := digL_len o.a
      have hp : putL o = [27, 91] ++ digL o.a ++ [65] := by simp [putL, h10, byL, p]
      rw [hp]
      clear hp
      generalize digL o.a = d1 at *
      simp (maxSteps := 1000000) (disch := omega) [go_sem]
      refine ⟨⟨rfl, by simp [Tryd.f27]⟩, CallK_of [] hn (by simp [go_sem]) ⟨by simp [go_sem], by simp [go_sem]⟩ (by simp [go_sem]) ?_⟩
      rintro y rs ⟨rfl, rfl⟩
      simp (maxSteps := 1000000) (disch := omega) [go_sem, wrap64, cut]
      exact ⟨by omega, by omega, ret_is (.p (.str ([27, 91] ++ d1 ++ [65]))) rfl (by simp [go_sem, resOf, leA]) ⟨rfl, rfl⟩⟩
    · have hp : putL o = [27, 91] ++ [65] := by simp [putL, h10, byL]; omega
      rw [hp]
      clear hp
      simp (maxSteps := 1000000) (disch := omega) [go_sem, wrap64, cut]
      exact ret_is (.p (.str [27, 91, 65])) rfl (by simp [go_sem, resOf, leA]) ⟨rfl, rfl⟩
  simp (maxSteps := 1000000) (disch := omega) [go_sem]
  by_cases h11 : o.k = 11
  · simp (maxSteps := 1000000) (disch := omega) [go_sem, h11]
    refine condK_ifn (fun p => ?_) (fun p => ?_)
    · have hn := digits_cr o.a
      have hl := digL_len o.a
      have hp : putL o = [27, 91] ++ digL o.a ++ [66] := by simp [putL, h11, byL, p]
      rw [hp]
      clear hp
      generalize digL o.a = d1 at *
      simp (maxSteps := 1000000) (disch := omega) [go_sem]
      refine ⟨⟨rfl, by simp [Tryd.f27]⟩, CallK_of [] hn (by simp [go_sem]) ⟨by simp [go_sem], by simp [go_sem]⟩ (by simp [go_sem]) ?_⟩
      rintro y rs ⟨rfl, rfl⟩
      simp (maxSteps := 1000000) (disch := omega) [go_sem, wrap64, cut]
      exact ⟨by omega, by omega, ret_is (.p (.str ([27, 91] ++ d1 ++ [66]))) rfl (by simp [go_sem, resOf, leA]) ⟨rfl, rfl⟩⟩
    · have hp : putL o = [27, 91] ++ [66] := by simp [putL, h11, byL]; omega
      rw [hp]
      clear hp
      simp (maxSteps := 1000000) (disch := omega) [go_sem, wrap64, cut]
      exact ret_is (.p (.str [27, 91, 66])) rfl (by simp [go_sem, resOf, leA]) ⟨rfl, rfl⟩
  simp (maxSteps := 1000000) (disch := omega) [go_sem, h11]
  exact ret_is (.p (.str [])) rfl (by simp [go_sem, resOf, leA]) ⟨rfl, by simp [putL, h1, h2, h3, h4, h5, h6, h7, h8, h9, h10, h11]⟩
end Go.Proofs.YtjgfmanahimpoaaDoor
namespace Go.Proofs.YtjgfmanahimpoaaDoor
open Go.AM
set_option maxHeartbeats 1600000
set_option maxRecDepth 10000
def opsP (l : List AOp) : PV := .sl 4 (l.map opP)
def allL (l : List AOp) : List UInt8 := l.flatMap putL
def AOp.ok (o : AOp) : Prop := -9223372036854775808 ≤ o.a ∧ -9223372036854775808 ≤ o.b
theorem all_step (l : List AOp) (k : Nat) (h : k < l.length) : allL (l.take (k + 1)) = allL (l.take k) ++ putL l[k] := by
  rw [List.take_succ_eq_append_getElem h, allL, List.flatMap_append]
  simp [allL]
theorem all_len (l : List AOp) (k : Nat) : (allL (l.take k)).length ≤ (allL l).length := by
  have e : allL l = allL (l.take k) ++ allL (l.drop k) := by
    rw [allL, allL, allL, ← List.flatMap_append, List.take_append_drop]
  rw [e, List.length_append]
  exact Nat.le_add_right _ _
theorem aall_cr (l : List AOp) (ho : ∀ o ∈ l, o.ok) (hl : l.length ≤ 1000000) (hs : (allL l).length ≤ 140737488355328) : CR Tryd.prog 10 [] [.p (opsP l)] [] (is (.p (.str (allL l)))) := by
  refine CR_of_wpN [] mixed 9 [9] Tryd.func10 rfl (by kernel_rfl) [] [66] rfl (by simp) (by simp) ?_
  simp (maxSteps := 1000000) (disch := omega) [go_sem, Tryd.f10, opsP]
  refine ⟨⟨rfl, rfl⟩, ?_⟩
  refine wpA_loop (fun k : Nat => k ≤ l.length) (fun k => { n := 17, nv := 9, ex := [9], bt := [66], vs := [(0, .p (opsP l)), (2, .p (.str [])), (3, .lp [3] 0), (6, .p (opsP l)), (7, .p (.int .i64 l.length)), (8, .p (.int .i64 k))], ts := [], rs := [([3], [if k = 0 then .bz [3] 66 2 else .lp [3] 0, .bb [3, 1] 5 (allL (l.take k))])] }) (fun k => l.length - k) 0 (by simp) (by simp [go_sem, LeS, leV, leR, leA, leL, allL, opsP]) ?_
  rintro k hk
  simp (maxSteps := 1000000) (disch := omega) [go_sem]
  refine condK_if (fun h1 => ?_) (fun h1 => ?_)
  · have hp := aput_cr l[k] (ho _ (List.getElem_mem h1)).1 (ho _ (List.getElem_mem h1)).2
    have e := all_step l k h1
    have hle := all_len l (k + 1)
    rw [e, List.length_append] at hle
    obtain ⟨s, hsd⟩ : ∃ s, s = allL (l.take k) := ⟨_, rfl⟩
    rw [← hsd] at hle e
    by_cases h0 : k = 0
    · subst h0
      simp (maxSteps := 1000000) (disch := omega) [go_sem, opsP, elemAt_map, h1, opP]
      refine ⟨⟨rfl, by simp [Tryd.f7]⟩, CallK_of [] hp (by simp [go_sem]) ⟨by simp [go_sem], by simp [go_sem, opP]⟩ (by simp [go_sem]) ?_⟩
      rintro y rs ⟨rfl, rfl⟩
      simp (maxSteps := 1000000) (disch := omega) [go_sem]
      refine ⟨⟨rfl, by simp [Tryd.f29]⟩, CallK_of [([0], [3]), ([1], [3, 1])] (wstr_run (.inl rfl) s (putL l[0]) (by omega)) (by simp [go_sem]) ⟨by simp [go_sem], by simp [go_sem]⟩ (by simp [go_sem, hsd]) ?_⟩
      rintro y rs ⟨rfl, rfl⟩
      simp (maxSteps := 1000000) (disch := omega) [go_sem, wrap64]
      refine LoopK_next 1 (by omega) (by simp [go_sem, LeS, leV, leR, leA, leL, ← e]) (by omega)
    · simp (maxSteps := 1000000) (disch := omega) [go_sem, opsP, elemAt_map, h1, opP, h0, ← hsd]
      refine ⟨⟨rfl, by simp [Tryd.f7]⟩, CallK_of [] hp (by simp [go_sem]) ⟨by simp [go_sem], by simp [go_sem, opP]⟩ (by simp [go_sem]) ?_⟩
      rintro y rs ⟨rfl, rfl⟩
      simp (maxSteps := 1000000) (disch := omega) [go_sem]
      refine ⟨⟨rfl, by simp [Tryd.f29]⟩, CallK_of [([0], [3]), ([1], [3, 1])] (wstr_run (.inr rfl) s (putL l[k]) (by omega)) (by simp [go_sem]) ⟨by simp [go_sem], by simp [go_sem]⟩ (by simp [go_sem, hsd]) ?_⟩
      rintro y rs ⟨rfl, rfl⟩
      simp (maxSteps := 1000000) (disch := omega) [go_sem, wrap64]
      refine LoopK_next (k + 1) (by omega) (by simp [go_sem, LeS, leV, leR, leA, leL, e, h0]) (by omega)
  · have hk' : k = l.length := by omega
    subst hk'
    simp (maxSteps := 1000000) (disch := omega) [go_sem]
    refine ⟨⟨rfl, by simp [Tryd.f30]⟩, CallK_of [([0], [3]), ([1], [3, 1])] (str_cr (if l.length = 0 then .bz [0] 66 2 else .lp [0] 0) (allL l)) (by simp [go_sem]) ⟨by simp [go_sem], by simp [go_sem]⟩ (by split <;> simp_all [go_sem]) ?_⟩
    rintro y rs ⟨rfl, rfl⟩
    simp (maxSteps := 1000000) (disch := omega) [go_sem]
    exact ret_is (.p (.str (allL l))) rfl (by simp [go_sem, resOf, leA]) ⟨rfl, rfl⟩
theorem rall_cr (l : List AOp) (ho : ∀ o ∈ l, o.ok) (hl : l.length ≤ 1000000) (hs : (allL l).length ≤ 140737488355328) : CR Tryd.prog 11 [] [.p (opsP l)] [] (is (.p (.str (allL l)))) := by
  refine CR_of_wp mixed 5 [8] Tryd.func11 rfl (by kernel_rfl) rfl (by simp) (by simp) ?_
  simp (maxSteps := 1000000) (disch := omega) [go_sem, Tryd.f11, opsP]
  refine wpA_loop (fun k : Nat => k ≤ l.length) (fun k => { n := 19, nv := 5, ex := [8], vs := [(0, .p (opsP l)), (2, .p (.str [])), (3, .p (.str (allL (l.take k)))), (4, .p (.int .i64 k))], ts := [], rs := [] }) (fun k => l.length - k) 0 (by simp) (by simp [go_sem, LeS, leV, leR, leA, allL, opsP]) ?_
  rintro k hk
  simp (maxSteps := 1000000) (disch := omega) [go_sem, opsP]
  refine condK_if (fun h1 => ?_) (fun h1 => ?_)
  · have hp := rput_cr l[k] (ho _ (List.getElem_mem h1)).1 (ho _ (List.getElem_mem h1)).2
    have e := all_step l k h1
    have hle := all_len l (k + 1)
    rw [e, List.length_append] at hle
    simp (maxSteps := 1000000) (disch := omega) [go_sem, elemAt_map, h1, opP]
    refine ⟨⟨rfl, by simp [Tryd.f9]⟩, CallK_of [] hp (by simp [go_sem]) ⟨by simp [go_sem], by simp [go_sem, opP]⟩ (by simp [go_sem]) ?_⟩
    rintro y rs ⟨rfl, rfl⟩
    simp (maxSteps := 1000000) (disch := omega) [go_sem, wrap64]
    refine ⟨by omega, LoopK_next (k + 1) (by omega) (by simp [go_sem, LeS, leV, leR, leA, e]) (by omega)⟩
  · have hk' : k = l.length := by omega
    subst hk'
    simp (maxSteps := 1000000) (disch := omega) [go_sem]
    exact ret_is (.p (.str (allL l))) rfl (by simp [go_sem, resOf, leA]) ⟨rfl, rfl⟩
end Go.Proofs.YtjgfmanahimpoaaDoor
namespace Go.Proofs.YtjgfmanahimpoaaDoor
open Go.AM
set_option maxHeartbeats 1600000
set_option maxRecDepth 10000
def shorter (l b : List AOp) : List AOp := if (allL l).length < (allL b).length then l else b
def opsOK (l : List AOp) : Prop := (∀ o ∈ l, o.ok) ∧ l.length ≤ 1000000 ∧ (allL l).length ≤ 140737488355328
theorem try_cr (l b : List AOp) (hl : opsOK l) (hb : opsOK b) : CR Tryd.prog 31 [[0]] [.p (opsP l), .lp [0] 0] [([0], [.p (opsP b)])] (fun x rs' => x = .tup [] ∧ rs' = [([0], [.p (opsP (shorter l b))])]) := by
  have c1 := aall_cr l hl.1 hl.2.1 hl.2.2
  have c2 := aall_cr b hb.1 hb.2.1 hb.2.2
  have l1 := hl.2.2
  have l2 := hb.2.2
  refine CR_of_wpD [0] mixed 3 [9] Tryd.func31 rfl (by kernel_rfl) rfl (by simp) (by simp) ?_
  simp (maxSteps := 1000000) (disch := omega) [go_sem, Tryd.f31, opsP]
  refine HCallK_of (.p (.str (allL l))) rfl rfl (fun _ => pcallA_of 10 c1 rfl ⟨rfl, by simp [Tryd.f10]⟩ ⟨by simp [go_sem], by simp [go_sem, opsP]⟩) ?_
  simp (maxSteps := 1000000) (disch := omega) [go_sem]
  refine HCallK_of (.p (.str (allL b))) rfl rfl (fun _ => pcallA_of 10 c2 rfl ⟨rfl, by simp [Tryd.f10]⟩ ⟨by simp [go_sem], by simp [go_sem, opsP]⟩) ?_
  simp (maxSteps := 1000000) (disch := omega) [go_sem]
  refine condK_if (fun h => ?_) (fun h => ?_)
  · simp (maxSteps := 1000000) (disch := omega) [go_sem]
    exact ret_keep [[0]] _ (by simp) (by simp [go_sem, resOf]) ⟨rfl, by simp [go_sem, shorter, h]⟩
  · simp (maxSteps := 1000000) (disch := omega) [go_sem]
    exact ret_keep [[0]] _ (by simp) (by simp [go_sem, resOf]) ⟨rfl, by simp [go_sem, shorter, h]⟩
end Go.Proofs.YtjgfmanahimpoaaDoor
namespace Go.Proofs.YtjgfmanahimpoaaDoor
open Go.AM
set_option maxHeartbeats 1600000
set_option maxRecDepth 10000
def rowsL (r r' : Int) : List AOp := if 0 < r' - r then [⟨11, r' - r, 0, []⟩] else if r' - r < 0 then [⟨10, -(r' - r), 0, []⟩] else []
def colsL (c c' : Int) : List AOp := if c' - c = 0 then [] else if 0 < c' - c then [⟨8, c' - c, 0, []⟩] else [⟨9, -(c' - c), 0, []⟩]
def wayL (r c r' c' : Int) : List AOp :=
  let b := shorter (rowsL r r' ++ colsL c c') [⟨2, r', c', []⟩]
  if c' = 0 then shorter (rowsL r r' ++ [⟨6, 0, 0, []⟩]) b else b
def spotP (r c : Int) : PV := .agg [.int .i64 r, .int .i64 c]
theorem putL_len (o : AOp) (h : o.k ≠ 1) : (putL o).length ≤ 13 := by
  have a := digL_len (min o.a 9999 + 1)
  have b := digL_len (min o.b 9999 + 1)
  have c := byL_len o.a [67]
  have d := byL_len o.a [68]
  have e := byL_len o.a [65]
  have f := byL_len o.a [66]
  rw [putL, if_neg h]
  split
  · simp; omega
  · repeat' split
    all_goals simp_all
    all_goals omega
theorem allL_len : ∀ l : List AOp, (∀ o ∈ l, o.k ≠ 1) → (allL l).length ≤ 13 * l.length
  | [], _ => by simp [allL]
  | o :: l, h => by
    have h1 := putL_len o (h o (by simp))
    have h2 := allL_len l (fun x hx => h x (by simp [hx]))
    have e : allL (o :: l) = putL o ++ allL l := by simp [allL]
    rw [e, List.length_append, List.length_cons]
    omega
theorem opsOK_of (l : List AOp) (h : ∀ o ∈ l, o.ok ∧ o.k ≠ 1) (hl : l.length ≤ 10) : opsOK l :=
  ⟨fun o ho => (h o ho).1, by omega, by have := allL_len l (fun o ho => (h o ho).2); omega⟩
theorem opsOK_shorter {l b : List AOp} (hl : opsOK l) (hb : opsOK b) : opsOK (shorter l b) := by
  rw [shorter]; split <;> assumption
theorem way_cr (r c r' c' : Int) (hr : 0 ≤ r ∧ r ≤ 1000) (hc : 0 ≤ c ∧ c ≤ 1000) (hr' : 0 ≤ r' ∧ r' ≤ 1000) (hc' : 0 ≤ c' ∧ c' ≤ 1000) : CR Tryd.prog 12 [] [.p (spotP r c), .p (spotP r' c')] [] (is (.p (opsP (wayL r c r' c')))) := by
  refine CR_of_wp mixed 10 [22, 28, 53, 59, 71] Tryd.func12 rfl (by kernel_rfl) rfl (by simp) (by simp) ?_
  have w1 : IntKind.i64.wrap (r' - r) = r' - r := wrap64 (by omega) (by omega)
  have w2 : IntKind.i64.wrap (c' - c) = c' - c := wrap64 (by omega) (by omega)
  have w3 : IntKind.i64.wrap (-(r' - r)) = -(r' - r) := wrap64 (by omega) (by omega)
  have w4 : IntKind.i64.wrap (-(c' - c)) = -(c' - c) := wrap64 (by omega) (by omega)
  have w5 : IntKind.i64.wrap (r - r') = r - r' := wrap64 (by omega) (by omega)
  have w6 : IntKind.i64.wrap (c - c') = c - c' := wrap64 (by omega) (by omega)
  simp (maxSteps := 1000000) [go_sem, Tryd.f12, spotP, w1]
  refine ⟨rfl, condK_if (fun h1 => ?_) (fun h1 => ?_)⟩
  · simp (maxSteps := 1000000) [go_sem, opsP, w2]
    refine condK_if (fun h3 => ?_) (fun h3 => ?_)
    · have hw : wayL r c r' c' = if c' = 0 then shorter [⟨11, r' - r, 0, []⟩, ⟨6, 0, 0, []⟩] (shorter [⟨11, r' - r, 0, []⟩] [⟨2, r', c', []⟩]) else shorter [⟨11, r' - r, 0, []⟩] [⟨2, r', c', []⟩] := by
        have e1 : rowsL r r' = [⟨11, r' - r, 0, []⟩] := by rw [rowsL]; exact if_pos (by omega)
        have e2 : colsL c c' = [] := by rw [colsL]; exact if_pos (by omega)
        rw [wayL, e1, e2]; rfl
      have o1 : opsOK [⟨11, r' - r, 0, []⟩] := opsOK_of _ (by simp [AOp.ok]; try omega) (by simp)
      have o0 : opsOK [⟨2, r', c', []⟩] := opsOK_of _ (by simp [AOp.ok]; try omega) (by simp)
      have o2 : opsOK [⟨11, r' - r, 0, []⟩, ⟨6, 0, 0, []⟩] := opsOK_of _ (by simp [AOp.ok]; try omega) (by simp)
      rw [hw]
      clear hw
      simp (maxSteps := 1000000) [go_sem]
      refine ⟨⟨rfl, by simp [Tryd.f31]⟩, CallC_of [([0], [5])] (try_cr [⟨11, r' - r, 0, []⟩] [⟨2, r', c', []⟩] o1 o0) (by simp [go_sem]) ⟨by simp [go_sem], by simp [go_sem, opsP, opP]⟩ (by simp [go_sem, opsP, opP]) ?_⟩
      rintro y rs ⟨rfl, rfl⟩
      have ob := opsOK_shorter o1 o0
      generalize shorter [⟨11, r' - r, 0, []⟩] [⟨2, r', c', []⟩] = bb at ob ⊢
      simp (maxSteps := 1000000) [go_sem, opsP]
      refine condK_if (fun h5 => ?_) (fun h5 => ?_)
      · simp (maxSteps := 1000000) [go_sem, cut]
        refine ⟨⟨rfl, by simp [Tryd.f31]⟩, CallC_of [([0], [5])] (try_cr [⟨11, r' - r, 0, []⟩, ⟨6, 0, 0, []⟩] bb o2 ob) (by simp [go_sem]) ⟨by simp [go_sem], by simp [go_sem, opsP, opP]⟩ (by simp [go_sem, opsP]) ?_⟩
        rintro y rs ⟨rfl, rfl⟩
        simp (maxSteps := 1000000) [go_sem, opsP]
        exact ret_is (.p (opsP (shorter [⟨11, r' - r, 0, []⟩, ⟨6, 0, 0, []⟩] bb))) rfl (by simp [go_sem, resOf, leA, opsP]) ⟨rfl, by rw [if_pos h5]; rfl⟩
      · simp (maxSteps := 1000000) [go_sem]
        exact ret_is (.p (opsP bb)) rfl (by simp [go_sem, resOf, leA, opsP]) ⟨rfl, by rw [if_neg h5]; rfl⟩
    · simp (maxSteps := 1000000) [go_sem]
      refine condK_if (fun h4 => ?_) (fun h4 => ?_)
      · have hw : wayL r c r' c' = if c' = 0 then shorter [⟨11, r' - r, 0, []⟩, ⟨6, 0, 0, []⟩] (shorter [⟨11, r' - r, 0, []⟩, ⟨8, c' - c, 0, []⟩] [⟨2, r', c', []⟩]) else shorter [⟨11, r' - r, 0, []⟩, ⟨8, c' - c, 0, []⟩] [⟨2, r', c', []⟩] := by
          have e1 : rowsL r r' = [⟨11, r' - r, 0, []⟩] := by rw [rowsL]; exact if_pos (by omega)
          have e2 : colsL c c' = [⟨8, c' - c, 0, []⟩] := by rw [colsL]; exact (if_neg (by omega)).trans (if_pos (by omega))
          rw [wayL, e1, e2]; rfl
        have o1 : opsOK [⟨11, r' - r, 0, []⟩, ⟨8, c' - c, 0, []⟩] := opsOK_of _ (by simp [AOp.ok]; try omega) (by simp)
        have o0 : opsOK [⟨2, r', c', []⟩] := opsOK_of _ (by simp [AOp.ok]; try omega) (by simp)
        have o2 : opsOK [⟨11, r' - r, 0, []⟩, ⟨6, 0, 0, []⟩] := opsOK_of _ (by simp [AOp.ok]; try omega) (by simp)
        rw [hw]
        clear hw
        simp (maxSteps := 1000000) [go_sem]
        refine ⟨⟨rfl, by simp [Tryd.f31]⟩, CallC_of [([0], [5])] (try_cr [⟨11, r' - r, 0, []⟩, ⟨8, c' - c, 0, []⟩] [⟨2, r', c', []⟩] o1 o0) (by simp [go_sem]) ⟨by simp [go_sem], by simp [go_sem, opsP, opP]⟩ (by simp [go_sem, opsP, opP]) ?_⟩
        rintro y rs ⟨rfl, rfl⟩
        have ob := opsOK_shorter o1 o0
        generalize shorter [⟨11, r' - r, 0, []⟩, ⟨8, c' - c, 0, []⟩] [⟨2, r', c', []⟩] = bb at ob ⊢
        simp (maxSteps := 1000000) [go_sem, opsP]
        refine condK_if (fun h5 => ?_) (fun h5 => ?_)
        · simp (maxSteps := 1000000) [go_sem, cut]
          refine ⟨⟨rfl, by simp [Tryd.f31]⟩, CallC_of [([0], [5])] (try_cr [⟨11, r' - r, 0, []⟩, ⟨6, 0, 0, []⟩] bb o2 ob) (by simp [go_sem]) ⟨by simp [go_sem], by simp [go_sem, opsP, opP]⟩ (by simp [go_sem, opsP]) ?_⟩
          rintro y rs ⟨rfl, rfl⟩
          simp (maxSteps := 1000000) [go_sem, opsP]
          exact ret_is (.p (opsP (shorter [⟨11, r' - r, 0, []⟩, ⟨6, 0, 0, []⟩] bb))) rfl (by simp [go_sem, resOf, leA, opsP]) ⟨rfl, by rw [if_pos h5]; rfl⟩
        · simp (maxSteps := 1000000) [go_sem]
          exact ret_is (.p (opsP bb)) rfl (by simp [go_sem, resOf, leA, opsP]) ⟨rfl, by rw [if_neg h5]; rfl⟩
      · have hw : wayL r c r' c' = if c' = 0 then shorter [⟨11, r' - r, 0, []⟩, ⟨6, 0, 0, []⟩] (shorter [⟨11, r' - r, 0, []⟩, ⟨9, -(c' - c), 0, []⟩] [⟨2, r', c', []⟩]) else shorter [⟨11, r' - r, 0, []⟩, ⟨9, -(c' - c), 0, []⟩] [⟨2, r', c', []⟩] := by
          have e1 : rowsL r r' = [⟨11, r' - r, 0, []⟩] := by rw [rowsL]; exact if_pos (by omega)
          have e2 : colsL c c' = [⟨9, -(c' - c), 0, []⟩] := by rw [colsL]; exact (if_neg (by omega)).trans (if_neg (by omega))
          rw [wayL, e1, e2]; rfl
        have o1 : opsOK [⟨11, r' - r, 0, []⟩, ⟨9, -(c' - c), 0, []⟩] := opsOK_of _ (by simp [AOp.ok]; try omega) (by simp)
        have o0 : opsOK [⟨2, r', c', []⟩] := opsOK_of _ (by simp [AOp.ok]; try omega) (by simp)
        have o2 : opsOK [⟨11, r' - r, 0, []⟩, ⟨6, 0, 0, []⟩] := opsOK_of _ (by simp [AOp.ok]; try omega) (by simp)
        rw [hw]
        clear hw
        simp (maxSteps := 1000000) [go_sem, cut, w4]
        refine ⟨⟨rfl, by simp [Tryd.f31]⟩, CallC_of [([0], [5])] (try_cr [⟨11, r' - r, 0, []⟩, ⟨9, -(c' - c), 0, []⟩] [⟨2, r', c', []⟩] o1 o0) (by simp [go_sem]) ⟨by simp [go_sem], by simp [go_sem, opsP, opP]⟩ (by simp [go_sem, opsP, opP]) ?_⟩
        rintro y rs ⟨rfl, rfl⟩
        have ob := opsOK_shorter o1 o0
        generalize shorter [⟨11, r' - r, 0, []⟩, ⟨9, -(c' - c), 0, []⟩] [⟨2, r', c', []⟩] = bb at ob ⊢
        simp (maxSteps := 1000000) [go_sem, opsP]
        refine condK_if (fun h5 => ?_) (fun h5 => ?_)
        · simp (maxSteps := 1000000) [go_sem, cut]
          refine ⟨⟨rfl, by simp [Tryd.f31]⟩, CallC_of [([0], [5])] (try_cr [⟨11, r' - r, 0, []⟩, ⟨6, 0, 0, []⟩] bb o2 ob) (by simp [go_sem]) ⟨by simp [go_sem], by simp [go_sem, opsP, opP]⟩ (by simp [go_sem, opsP]) ?_⟩
          rintro y rs ⟨rfl, rfl⟩
          simp (maxSteps := 1000000) [go_sem, opsP]
          exact ret_is (.p (opsP (shorter [⟨11, r' - r, 0, []⟩, ⟨6, 0, 0, []⟩] bb))) rfl (by simp [go_sem, resOf, leA, opsP]) ⟨rfl, by rw [if_pos h5]; rfl⟩
        · simp (maxSteps := 1000000) [go_sem]
          exact ret_is (.p (opsP bb)) rfl (by simp [go_sem, resOf, leA, opsP]) ⟨rfl, by rw [if_neg h5]; rfl⟩
  · simp (maxSteps := 1000000) [go_sem, opsP]
    refine condK_if (fun h2 => ?_) (fun h2 => ?_)
    · simp (maxSteps := 1000000) [go_sem, w2, w3]
      refine condK_if (fun h3 => ?_) (fun h3 => ?_)
      · have hw : wayL r c r' c' = if c' = 0 then shorter [⟨10, -(r' - r), 0, []⟩, ⟨6, 0, 0, []⟩] (shorter [⟨10, -(r' - r), 0, []⟩] [⟨2, r', c', []⟩]) else shorter [⟨10, -(r' - r), 0, []⟩] [⟨2, r', c', []⟩] := by
          have e1 : rowsL r r' = [⟨10, -(r' - r), 0, []⟩] := by rw [rowsL]; exact (if_neg (by omega)).trans (if_pos (by omega))
          have e2 : colsL c c' = [] := by rw [colsL]; exact if_pos (by omega)
          rw [wayL, e1, e2]; rfl
        have o1 : opsOK [⟨10, -(r' - r), 0, []⟩] := opsOK_of _ (by simp [AOp.ok]; try omega) (by simp)
        have o0 : opsOK [⟨2, r', c', []⟩] := opsOK_of _ (by simp [AOp.ok]; try omega) (by simp)
        have o2 : opsOK [⟨10, -(r' - r), 0, []⟩, ⟨6, 0, 0, []⟩] := opsOK_of _ (by simp [AOp.ok]; try omega) (by simp)
        rw [hw]
        clear hw
        simp (maxSteps := 1000000) [go_sem]
        refine ⟨⟨rfl, by simp [Tryd.f31]⟩, CallC_of [([0], [5])] (try_cr [⟨10, -(r' - r), 0, []⟩] [⟨2, r', c', []⟩] o1 o0) (by simp [go_sem]) ⟨by simp [go_sem], by simp [go_sem, opsP, opP]⟩ (by simp [go_sem, opsP, opP]) ?_⟩
        rintro y rs ⟨rfl, rfl⟩
        have ob := opsOK_shorter o1 o0
        generalize shorter [⟨10, -(r' - r), 0, []⟩] [⟨2, r', c', []⟩] = bb at ob ⊢
        simp (maxSteps := 1000000) [go_sem, opsP]
        refine condK_if (fun h5 => ?_) (fun h5 => ?_)
        · simp (maxSteps := 1000000) [go_sem, cut]
          refine ⟨⟨rfl, by simp [Tryd.f31]⟩, CallC_of [([0], [5])] (try_cr [⟨10, -(r' - r), 0, []⟩, ⟨6, 0, 0, []⟩] bb o2 ob) (by simp [go_sem]) ⟨by simp [go_sem], by simp [go_sem, opsP, opP]⟩ (by simp [go_sem, opsP]) ?_⟩
          rintro y rs ⟨rfl, rfl⟩
          simp (maxSteps := 1000000) [go_sem, opsP]
          exact ret_is (.p (opsP (shorter [⟨10, -(r' - r), 0, []⟩, ⟨6, 0, 0, []⟩] bb))) rfl (by simp [go_sem, resOf, leA, opsP]) ⟨rfl, by rw [if_pos h5]; rfl⟩
        · simp (maxSteps := 1000000) [go_sem]
          exact ret_is (.p (opsP bb)) rfl (by simp [go_sem, resOf, leA, opsP]) ⟨rfl, by rw [if_neg h5]; rfl⟩
      · simp (maxSteps := 1000000) [go_sem]
        refine condK_if (fun h4 => ?_) (fun h4 => ?_)
        · have hw : wayL r c r' c' = if c' = 0 then shorter [⟨10, -(r' - r), 0, []⟩, ⟨6, 0, 0, []⟩] (shorter [⟨10, -(r' - r), 0, []⟩, ⟨8, c' - c, 0, []⟩] [⟨2, r', c', []⟩]) else shorter [⟨10, -(r' - r), 0, []⟩, ⟨8, c' - c, 0, []⟩] [⟨2, r', c', []⟩] := by
            have e1 : rowsL r r' = [⟨10, -(r' - r), 0, []⟩] := by rw [rowsL]; exact (if_neg (by omega)).trans (if_pos (by omega))
            have e2 : colsL c c' = [⟨8, c' - c, 0, []⟩] := by rw [colsL]; exact (if_neg (by omega)).trans (if_pos (by omega))
            rw [wayL, e1, e2]; rfl
          have o1 : opsOK [⟨10, -(r' - r), 0, []⟩, ⟨8, c' - c, 0, []⟩] := opsOK_of _ (by simp [AOp.ok]; try omega) (by simp)
          have o0 : opsOK [⟨2, r', c', []⟩] := opsOK_of _ (by simp [AOp.ok]; try omega) (by simp)
          have o2 : opsOK [⟨10, -(r' - r), 0, []⟩, ⟨6, 0, 0, []⟩] := opsOK_of _ (by simp [AOp.ok]; try omega) (by simp)
          rw [hw]
          clear hw
          simp (maxSteps := 1000000) [go_sem]
          refine ⟨⟨rfl, by simp [Tryd.f31]⟩, CallC_of [([0], [5])] (try_cr [⟨10, -(r' - r), 0, []⟩, ⟨8, c' - c, 0, []⟩] [⟨2, r', c', []⟩] o1 o0) (by simp [go_sem]) ⟨by simp [go_sem], by simp [go_sem, opsP, opP]⟩ (by simp [go_sem, opsP, opP]) ?_⟩
          rintro y rs ⟨rfl, rfl⟩
          have ob := opsOK_shorter o1 o0
          generalize shorter [⟨10, -(r' - r), 0, []⟩, ⟨8, c' - c, 0, []⟩] [⟨2, r', c', []⟩] = bb at ob ⊢
          simp (maxSteps := 1000000) [go_sem, opsP]
          refine condK_if (fun h5 => ?_) (fun h5 => ?_)
          · simp (maxSteps := 1000000) [go_sem, cut]
            refine ⟨⟨rfl, by simp [Tryd.f31]⟩, CallC_of [([0], [5])] (try_cr [⟨10, -(r' - r), 0, []⟩, ⟨6, 0, 0, []⟩] bb o2 ob) (by simp [go_sem]) ⟨by simp [go_sem], by simp [go_sem, opsP, opP]⟩ (by simp [go_sem, opsP]) ?_⟩
            rintro y rs ⟨rfl, rfl⟩
            simp (maxSteps := 1000000) [go_sem, opsP]
            exact ret_is (.p (opsP (shorter [⟨10, -(r' - r), 0, []⟩, ⟨6, 0, 0, []⟩] bb))) rfl (by simp [go_sem, resOf, leA, opsP]) ⟨rfl, by rw [if_pos h5]; rfl⟩
          · simp (maxSteps := 1000000) [go_sem]
            exact ret_is (.p (opsP bb)) rfl (by simp [go_sem, resOf, leA, opsP]) ⟨rfl, by rw [if_neg h5]; rfl⟩
        · have hw : wayL r c r' c' = if c' = 0 then shorter [⟨10, -(r' - r), 0, []⟩, ⟨6, 0, 0, []⟩] (shorter [⟨10, -(r' - r), 0, []⟩, ⟨9, -(c' - c), 0, []⟩] [⟨2, r', c', []⟩]) else shorter [⟨10, -(r' - r), 0, []⟩, ⟨9, -(c' - c), 0, []⟩] [⟨2, r', c', []⟩] := by
            have e1 : rowsL r r' = [⟨10, -(r' - r), 0, []⟩] := by rw [rowsL]; exact (if_neg (by omega)).trans (if_pos (by omega))
            have e2 : colsL c c' = [⟨9, -(c' - c), 0, []⟩] := by rw [colsL]; exact (if_neg (by omega)).trans (if_neg (by omega))
            rw [wayL, e1, e2]; rfl
          have o1 : opsOK [⟨10, -(r' - r), 0, []⟩, ⟨9, -(c' - c), 0, []⟩] := opsOK_of _ (by simp [AOp.ok]; try omega) (by simp)
          have o0 : opsOK [⟨2, r', c', []⟩] := opsOK_of _ (by simp [AOp.ok]; try omega) (by simp)
          have o2 : opsOK [⟨10, -(r' - r), 0, []⟩, ⟨6, 0, 0, []⟩] := opsOK_of _ (by simp [AOp.ok]; try omega) (by simp)
          rw [hw]
          clear hw
          simp (maxSteps := 1000000) [go_sem, cut, w4]
          refine ⟨⟨rfl, by simp [Tryd.f31]⟩, CallC_of [([0], [5])] (try_cr [⟨10, -(r' - r), 0, []⟩, ⟨9, -(c' - c), 0, []⟩] [⟨2, r', c', []⟩] o1 o0) (by simp [go_sem]) ⟨by simp [go_sem], by simp [go_sem, opsP, opP]⟩ (by simp [go_sem, opsP, opP]) ?_⟩
          rintro y rs ⟨rfl, rfl⟩
          have ob := opsOK_shorter o1 o0
          generalize shorter [⟨10, -(r' - r), 0, []⟩, ⟨9, -(c' - c), 0, []⟩] [⟨2, r', c', []⟩] = bb at ob ⊢
          simp (maxSteps := 1000000) [go_sem, opsP]
          refine condK_if (fun h5 => ?_) (fun h5 => ?_)
          · simp (maxSteps := 1000000) [go_sem, cut]
            refine ⟨⟨rfl, by simp [Tryd.f31]⟩, CallC_of [([0], [5])] (try_cr [⟨10, -(r' - r), 0, []⟩, ⟨6, 0, 0, []⟩] bb o2 ob) (by simp [go_sem]) ⟨by simp [go_sem], by simp [go_sem, opsP, opP]⟩ (by simp [go_sem, opsP]) ?_⟩
            rintro y rs ⟨rfl, rfl⟩
            simp (maxSteps := 1000000) [go_sem, opsP]
            exact ret_is (.p (opsP (shorter [⟨10, -(r' - r), 0, []⟩, ⟨6, 0, 0, []⟩] bb))) rfl (by simp [go_sem, resOf, leA, opsP]) ⟨rfl, by rw [if_pos h5]; rfl⟩
          · simp (maxSteps := 1000000) [go_sem]
            exact ret_is (.p (opsP bb)) rfl (by simp [go_sem, resOf, leA, opsP]) ⟨rfl, by rw [if_neg h5]; rfl⟩
    · simp (maxSteps := 1000000) [go_sem, w2]
      refine condK_if (fun h3 => ?_) (fun h3 => ?_)
      · have hw : wayL r c r' c' = if c' = 0 then shorter [⟨6, 0, 0, []⟩] (shorter [] [⟨2, r', c', []⟩]) else shorter [] [⟨2, r', c', []⟩] := by
          have e1 : rowsL r r' = [] := by rw [rowsL]; exact (if_neg (by omega)).trans (if_neg (by omega))
          have e2 : colsL c c' = [] := by rw [colsL]; exact if_pos (by omega)
          rw [wayL, e1, e2]; rfl
        have o1 : opsOK [] := opsOK_of _ (by simp [AOp.ok]; try omega) (by simp)
        have o0 : opsOK [⟨2, r', c', []⟩] := opsOK_of _ (by simp [AOp.ok]; try omega) (by simp)
        have o2 : opsOK [⟨6, 0, 0, []⟩] := opsOK_of _ (by simp [AOp.ok]; try omega) (by simp)
        rw [hw]
        clear hw
        simp (maxSteps := 1000000) [go_sem]
        refine ⟨⟨rfl, by simp [Tryd.f31]⟩, CallC_of [([0], [5])] (try_cr [] [⟨2, r', c', []⟩] o1 o0) (by simp [go_sem]) ⟨by simp [go_sem], by simp [go_sem, opsP]⟩ (by simp [go_sem, opsP, opP]) ?_⟩
        rintro y rs ⟨rfl, rfl⟩
        have ob := opsOK_shorter o1 o0
        generalize shorter [] [⟨2, r', c', []⟩] = bb at ob ⊢
        simp (maxSteps := 1000000) [go_sem, opsP]
        refine condK_if (fun h5 => ?_) (fun h5 => ?_)
        · simp (maxSteps := 1000000) [go_sem, cut]
          refine ⟨⟨rfl, by simp [Tryd.f31]⟩, CallC_of [([0], [5])] (try_cr [⟨6, 0, 0, []⟩] bb o2 ob) (by simp [go_sem]) ⟨by simp [go_sem], by simp [go_sem, opsP, opP]⟩ (by simp [go_sem, opsP]) ?_⟩
          rintro y rs ⟨rfl, rfl⟩
          simp (maxSteps := 1000000) [go_sem, opsP]
          exact ret_is (.p (opsP (shorter [⟨6, 0, 0, []⟩] bb))) rfl (by simp [go_sem, resOf, leA, opsP]) ⟨rfl, by rw [if_pos h5]; rfl⟩
        · simp (maxSteps := 1000000) [go_sem]
          exact ret_is (.p (opsP bb)) rfl (by simp [go_sem, resOf, leA, opsP]) ⟨rfl, by rw [if_neg h5]; rfl⟩
      · simp (maxSteps := 1000000) [go_sem]
        refine condK_if (fun h4 => ?_) (fun h4 => ?_)
        · have hw : wayL r c r' c' = if c' = 0 then shorter [⟨6, 0, 0, []⟩] (shorter [⟨8, c' - c, 0, []⟩] [⟨2, r', c', []⟩]) else shorter [⟨8, c' - c, 0, []⟩] [⟨2, r', c', []⟩] := by
            have e1 : rowsL r r' = [] := by rw [rowsL]; exact (if_neg (by omega)).trans (if_neg (by omega))
            have e2 : colsL c c' = [⟨8, c' - c, 0, []⟩] := by rw [colsL]; exact (if_neg (by omega)).trans (if_pos (by omega))
            rw [wayL, e1, e2]; rfl
          have o1 : opsOK [⟨8, c' - c, 0, []⟩] := opsOK_of _ (by simp [AOp.ok]; try omega) (by simp)
          have o0 : opsOK [⟨2, r', c', []⟩] := opsOK_of _ (by simp [AOp.ok]; try omega) (by simp)
          have o2 : opsOK [⟨6, 0, 0, []⟩] := opsOK_of _ (by simp [AOp.ok]; try omega) (by simp)
          rw [hw]
          clear hw
          simp (maxSteps := 1000000) [go_sem]
          refine ⟨⟨rfl, by simp [Tryd.f31]⟩, CallC_of [([0], [5])] (try_cr [⟨8, c' - c, 0, []⟩] [⟨2, r', c', []⟩] o1 o0) (by simp [go_sem]) ⟨by simp [go_sem], by simp [go_sem, opsP, opP]⟩ (by simp [go_sem, opsP, opP]) ?_⟩
          rintro y rs ⟨rfl, rfl⟩
          have ob := opsOK_shorter o1 o0
          generalize shorter [⟨8, c' - c, 0, []⟩] [⟨2, r', c', []⟩] = bb at ob ⊢
          simp (maxSteps := 1000000) [go_sem, opsP]
          refine condK_if (fun h5 => ?_) (fun h5 => ?_)
          · simp (maxSteps := 1000000) [go_sem, cut]
            refine ⟨⟨rfl, by simp [Tryd.f31]⟩, CallC_of [([0], [5])] (try_cr [⟨6, 0, 0, []⟩] bb o2 ob) (by simp [go_sem]) ⟨by simp [go_sem], by simp [go_sem, opsP, opP]⟩ (by simp [go_sem, opsP]) ?_⟩
            rintro y rs ⟨rfl, rfl⟩
            simp (maxSteps := 1000000) [go_sem, opsP]
            exact ret_is (.p (opsP (shorter [⟨6, 0, 0, []⟩] bb))) rfl (by simp [go_sem, resOf, leA, opsP]) ⟨rfl, by rw [if_pos h5]; rfl⟩
          · simp (maxSteps := 1000000) [go_sem]
            exact ret_is (.p (opsP bb)) rfl (by simp [go_sem, resOf, leA, opsP]) ⟨rfl, by rw [if_neg h5]; rfl⟩
        · have hw : wayL r c r' c' = if c' = 0 then shorter [⟨6, 0, 0, []⟩] (shorter [⟨9, -(c' - c), 0, []⟩] [⟨2, r', c', []⟩]) else shorter [⟨9, -(c' - c), 0, []⟩] [⟨2, r', c', []⟩] := by
            have e1 : rowsL r r' = [] := by rw [rowsL]; exact (if_neg (by omega)).trans (if_neg (by omega))
            have e2 : colsL c c' = [⟨9, -(c' - c), 0, []⟩] := by rw [colsL]; exact (if_neg (by omega)).trans (if_neg (by omega))
            rw [wayL, e1, e2]; rfl
          have o1 : opsOK [⟨9, -(c' - c), 0, []⟩] := opsOK_of _ (by simp [AOp.ok]; try omega) (by simp)
          have o0 : opsOK [⟨2, r', c', []⟩] := opsOK_of _ (by simp [AOp.ok]; try omega) (by simp)
          have o2 : opsOK [⟨6, 0, 0, []⟩] := opsOK_of _ (by simp [AOp.ok]; try omega) (by simp)
          rw [hw]
          clear hw
          simp (maxSteps := 1000000) [go_sem, cut, w4]
          refine ⟨⟨rfl, by simp [Tryd.f31]⟩, CallC_of [([0], [5])] (try_cr [⟨9, -(c' - c), 0, []⟩] [⟨2, r', c', []⟩] o1 o0) (by simp [go_sem]) ⟨by simp [go_sem], by simp [go_sem, opsP, opP]⟩ (by simp [go_sem, opsP, opP]) ?_⟩
          rintro y rs ⟨rfl, rfl⟩
          have ob := opsOK_shorter o1 o0
          generalize shorter [⟨9, -(c' - c), 0, []⟩] [⟨2, r', c', []⟩] = bb at ob ⊢
          simp (maxSteps := 1000000) [go_sem, opsP]
          refine condK_if (fun h5 => ?_) (fun h5 => ?_)
          · simp (maxSteps := 1000000) [go_sem, cut]
            refine ⟨⟨rfl, by simp [Tryd.f31]⟩, CallC_of [([0], [5])] (try_cr [⟨6, 0, 0, []⟩] bb o2 ob) (by simp [go_sem]) ⟨by simp [go_sem], by simp [go_sem, opsP, opP]⟩ (by simp [go_sem, opsP]) ?_⟩
            rintro y rs ⟨rfl, rfl⟩
            simp (maxSteps := 1000000) [go_sem, opsP]
            exact ret_is (.p (opsP (shorter [⟨6, 0, 0, []⟩] bb))) rfl (by simp [go_sem, resOf, leA, opsP]) ⟨rfl, by rw [if_pos h5]; rfl⟩
          · simp (maxSteps := 1000000) [go_sem]
            exact ret_is (.p (opsP bb)) rfl (by simp [go_sem, resOf, leA, opsP]) ⟨rfl, by rw [if_neg h5]; rfl⟩
end Go.Proofs.YtjgfmanahimpoaaDoor
namespace Go.Proofs.YtjgfmanahimpoaaDoor
open Go.AM
set_option maxHeartbeats 1600000
set_option maxRecDepth 10000
theorem opsOK_way (r c r' c' : Int) (_ : 0 ≤ r ∧ r ≤ 1000) (_ : 0 ≤ c ∧ c ≤ 1000) (hr' : 0 ≤ r' ∧ r' ≤ 1000) (hc' : 0 ≤ c' ∧ c' ≤ 1000) : opsOK (wayL r c r' c') := by
  have o0 : opsOK [⟨2, r', c', []⟩] := opsOK_of _ (by simp [AOp.ok]; try omega) (by simp)
  have o1 : opsOK (rowsL r r' ++ colsL c c') := opsOK_of _ (by
    intro o ho
    rw [rowsL, colsL] at ho
    rcases List.mem_append.1 ho with h | h
    · split at h
      · simp at h; subst h; simp [AOp.ok]; omega
      · split at h
        · simp at h; subst h; simp [AOp.ok]; omega
        · cases h
    · split at h
      · cases h
      · split at h
        · simp at h; subst h; simp [AOp.ok]; omega
        · simp at h; subst h; simp [AOp.ok]; omega) (by
    rw [rowsL, colsL]
    repeat' split
    all_goals simp)
  have o2 : opsOK (rowsL r r' ++ [⟨6, 0, 0, []⟩]) := opsOK_of _ (by
    intro o ho
    rw [rowsL] at ho
    rcases List.mem_append.1 ho with h | h
    · split at h
      · simp at h; subst h; simp [AOp.ok]; omega
      · split at h
        · simp at h; subst h; simp [AOp.ok]; omega
        · cases h
    · simp at h; subst h; simp [AOp.ok]) (by
    rw [rowsL]
    repeat' split
    all_goals simp)
  rw [wayL]
  split
  · exact opsOK_shorter o2 (opsOK_shorter o1 o0)
  · exact opsOK_shorter o1 o0
theorem awake_cr : CR Tryd.prog 6 [] [] [] (is (.p (.bool true))) := by
  have a1 : allL (wayL 2 7 2 0) = [13] := by decide +kernel
  have a2 : allL (wayL 2 7 2 8) = [27, 91, 67] := by decide +kernel
  have a3 : putL ⟨2, 0, 4, []⟩ = [27, 91, 49, 59, 53, 72] := by decide +kernel
  have k1 := way_cr 2 7 2 0 (by omega) (by omega) (by omega) (by omega)
  have k2 := way_cr 2 7 2 8 (by omega) (by omega) (by omega) (by omega)
  have k3 := aput_cr ⟨2, 0, 4, []⟩ (by decide) (by decide)
  have o1 := opsOK_way 2 7 2 0 (by omega) (by omega) (by omega) (by omega)
  have o2 := opsOK_way 2 7 2 8 (by omega) (by omega) (by omega) (by omega)
  have k4 := aall_cr _ o1.1 o1.2.1 o1.2.2
  have k5 := aall_cr _ o2.1 o2.2.1 o2.2.2
  rw [a1] at k4
  rw [a2] at k5
  rw [a3] at k3
  generalize wayL 2 7 2 0 = w1 at k1 k4
  generalize wayL 2 7 2 8 = w2 at k2 k5
  refine CR_of_wp mixed 2 [] Tryd.func6 rfl (by kernel_rfl) rfl (by simp) (by simp) ?_
  simp (maxSteps := 1000000) [go_sem, Tryd.f6]
  refine ⟨⟨rfl, by simp [Tryd.f12]⟩, CallK_of [] k1 (by simp [go_sem]) ⟨by simp [go_sem], by simp [go_sem, spotP]⟩ (by simp [go_sem]) ?_⟩
  rintro y rs ⟨rfl, rfl⟩
  simp (maxSteps := 1000000) [go_sem, opsP]
  refine ⟨⟨rfl, by simp [Tryd.f7]⟩, CallK_of [] k3 (by simp [go_sem]) ⟨by simp [go_sem], by simp [go_sem, opP]⟩ (by simp [go_sem]) ?_⟩
  rintro y rs ⟨rfl, rfl⟩
  simp (maxSteps := 1000000) [go_sem]
  refine ⟨⟨rfl, by simp [Tryd.f10]⟩, CallK_of [] k4 (by simp [go_sem]) ⟨by simp [go_sem], by simp [go_sem, opsP]⟩ (by simp [go_sem]) ?_⟩
  rintro y rs ⟨rfl, rfl⟩
  simp (maxSteps := 1000000) [go_sem]
  refine ⟨⟨rfl, by simp [Tryd.f12]⟩, CallK_of [] k2 (by simp [go_sem]) ⟨by simp [go_sem], by simp [go_sem, spotP]⟩ (by simp [go_sem]) ?_⟩
  rintro y rs ⟨rfl, rfl⟩
  simp (maxSteps := 1000000) [go_sem, opsP]
  refine ⟨⟨rfl, by simp [Tryd.f10]⟩, CallK_of [] k5 (by simp [go_sem]) ⟨by simp [go_sem], by simp [go_sem, opsP]⟩ (by simp [go_sem]) ?_⟩
  rintro y rs ⟨rfl, rfl⟩
  simp (maxSteps := 1000000) [go_sem]
  exact ret_is (.p (.bool true)) rfl (by simp [go_sem, resOf, leA]) ⟨rfl, rfl⟩
end Go.Proofs.YtjgfmanahimpoaaDoor
