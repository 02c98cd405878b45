/- What slices.Clone does at a grid's cells, and the grid's Size and Row, as contracts of the abstract machine. Conditions: as each law says. -/
import Derived.Test.YtjgfmanahimpoaaGriB
import Derived.Test.YtjgfmanahimpoaaClt
namespace Go.Proofs.Ytjgfmanahimpoaa
open Go.AM
set_option maxHeartbeats 1600000
set_option maxRecDepth 10000
def rowP (l : Row) : PV := .sl 2 (l.map clP)
attribute [go_sem] rowP
theorem cw_flat (l : Row) : cw l = ((l.map clP).flatMap PV.cells).map .p := by
  induction l with
  | nil => rfl
  | cons c l ih => 
    simp only [List.map_cons, List.flatMap_cons, List.map_append, ← ih]
    rfl
theorem rowP_fits (l : Row) : ∀ e ∈ l.map clP, e.cells.length = 2 ∧ e.fits = true := by
  intro e he
  simp only [List.mem_map] at he
  obtain ⟨c, _, rfl⟩ := he
  exact ⟨rfl, rfl⟩
theorem clone_cr (l : Row) (m n : Nat) (hn : 0 < n) (hb : m + n ≤ l.length) (hbig : n ≤ 1000000) :
    CR Try.prog 62 [[0]] [.la [0] 2 (m * 2) n] [([0], cw l)] (fun x rs' => x = .p (rowP ((l.drop m).take n)) ∧ rs' = [([0], cw l)]) := by
  intro w g vs hargs hG
  simp only [RepAL, RepA] at hargs
  obtain ⟨v, vs', rfl, ⟨b, o', cap, hk, rfl, hcap, ho, hblk⟩, rfl⟩ := hargs
  obtain rfl : 2 * m = o' := by have := ho.resolve_left (by omega); omega
  obtain ⟨cs, hl, h0, arr, T, hbk, hle, hc⟩ := hG.roots b _ hk
  have hl' : cs = cw l := by simpa [lookT] using hl.symm
  subst hl'
  rw [cw_len] at hle
  have hbw := hG.own b (by rw [hk]; simp)
  let ds := (arr.toList.drop (2 * m)).take (n * 2)
  have hds : ds.length = n * 2 := by simp only [ds, List.length_take, List.length_drop, Array.length_toList]; omega
  have hget : ∀ (j : Nat) (u : Value), ds[j]? = some u → arr[2 * m + j]? = some u ∧ j < n * 2 := fun j u hj => by
    have hj2 : j < n * 2 := by rw [← hds]; exact (List.getElem?_eq_some_iff.1 hj).1
    simp only [ds, List.getElem?_take, hj2, if_true, List.getElem?_drop] at hj
    exact ⟨by simpa using hj, hj2⟩
  have hcell : ∀ (j : Nat) (u : Value), ds[j]? = some u → w.cell? ⟨b, 2 * m + j, none⟩ = some u := fun j u hj => by
    rw [cell_of_cells hbk]; exact (hget j u hj).1
  have hat : ∀ (j : Nat) (u : Value), ds[j]? = some u → ∃ x, (cw l)[2 * m + j]? = some x ∧ u.oneCell' = true ∧ RepA g w x u := fun j u hj => by
    obtain ⟨h1, h2⟩ := hget j u hj
    obtain ⟨x, hx⟩ : ∃ x, (cw l)[2 * m + j]? = some x := ⟨_, List.getElem?_eq_getElem (by rw [cw_len]; omega)⟩
    obtain ⟨u', hu', h3, h4⟩ := hc _ x hx
    rw [h1] at hu'; injection hu' with hu'; subst hu'
    exact ⟨x, hx, h3, h4⟩
  have hone : ∀ u ∈ ds, u.oneCell' = true := fun u hu => by
    obtain ⟨j, hj⟩ := List.mem_iff_getElem?.1 hu
    exact (hat j u hj).choose_spec.2.1
  obtain ⟨G, hGn, hG63, hcall⟩ := clone62_some b (2 * m) n cap ds w hn (by omega) hds hcell hone
  refine hcall.mono ?_
  rintro e w' ⟨rfl, hw⟩
  obtain ⟨B, hB⟩ : ∃ B, B = w.heap.size + 1 := ⟨_, rfl⟩
  have hs : ((w.alloc (.cells #[] 99)).drew).heap.size = w.heap.size + 1 := by simp [drew_heap]
  have hsz : w'.heap.size = w.heap.size + 2 := by rw [hw]; simp [hs]
  have hold : ∀ d, d < w.heap.size → w'.heap[d]? = w.heap[d]? := fun d hd => by
    rw [hw, heap_alloc, hs, if_neg (by omega), drew_heap, heap_alloc, if_neg (by omega)]
  have hnew : w'.heap[B]? = some (.cells (ds.toArray ++ Builtin.zeroCells ((.agg #[.string ByteArray.empty, .int .i64 0]) : Value).cells (G - n)) 99 (0, 0)) := by
    rw [hw, heap_alloc, hs, if_pos hB]
  have hout : w'.os = w.os ∧ w'.tape = w.tape ∧ w'.output = w.output := by rw [hw]; exact ⟨rfl, rfl, rfl⟩
  clear hw hcall
  let g2 : Gh := ⟨updN g.fr B (n * 2), g.K⟩
  have hBp : ∀ d, g.K d ≠ .prot → d ≠ B := fun d hd e => by have := hG.own d hd; omega
  have hx : Ext g.fr w g2.fr w' := fun d o hd => by
    have hlt : d < w.heap.size := by
      rcases Nat.lt_or_ge d w.heap.size with h | h
      · exact h
      · have := hG.frb d h; omega
    exact ⟨by show o < updN g.fr B _ d; rw [updN_ne _ _ _ (by omega)]; exact hd, same_of_heap (hold d hlt)⟩
  have hBlk : ∀ c u, g.K c = .root u → ∀ k, Blk w c k → Blk w' c k := fun c u hk k h => Blk.of_heap (hold c (hG.own c (by rw [hk]; simp))) h
  have hkeep : ∀ (x : AV) (u : Value), RepA g w x u → RepA g2 w' (fil1 ftt ftt x) u := fun x u => RepA.flat1 (g := g) (g' := g2) (w := w) (w' := w') (rt := ftt) (tt := ftt)
    ⟨hx, fun c u _ hk => ⟨hk, hBlk c u hk⟩, fun c u _ hk => ⟨hk, updN_ne _ _ _ (hBp c (by rw [hk]; simp)), hold c (hG.own c (by rw [hk]; simp))⟩⟩ x u
  have hcwp : ∀ (j : Nat) (x : AV), (cw l)[j]? = some x → ∃ p, x = .p p := fun j x hj => by
    rw [cw_flat, List.getElem?_map, Option.map_eq_some_iff] at hj
    obtain ⟨p, _, rfl⟩ := hj
    exact ⟨p, rfl⟩
  have hE : RepE g2.fr w' 2 B (((l.drop m).take n).map clP) 0 := by
    refine RepE_of_flat (vs := ds) ?_ (rowP_fits _) (fun j u hj => ?_)
    · have hL : ∀ (es : List PV) (k : Nat) (us : List Value), ((l.map clP).flatMap PV.cells).drop (2 * m + k) = es ++ (((l.map clP).flatMap PV.cells).drop (2 * m + n * 2)) → us = ds.drop k → k + es.length = n * 2 → RepL g2.fr w' es us := by
        intro es
        induction es with
        | nil =>
          intro k us _ e hk2
          subst e
          have hk3 : k = n * 2 := by simpa using hk2
          rw [List.drop_of_length_le (by rw [hds]; omega)]
          simp only [RepL]
        | cons e es ih =>
          intro k us hd e2 hk2
          subst e2
          have hkl : k < ds.length := by rw [hds]; simp at hk2; omega
          rw [List.drop_eq_getElem_cons hkl]
          obtain ⟨x, hx1, hx2, hx3⟩ := hat k _ (List.getElem?_eq_getElem hkl)
          have hxe : x = .p e := by
            have h1 : ((l.map clP).flatMap PV.cells)[2 * m + k]? = some e := by
              rw [← Nat.add_zero (2 * m + k), ← List.getElem?_drop, hd]; rfl
            rw [cw_flat, List.getElem?_map, h1] at hx1
            exact (Option.some.inj hx1).symm
          subst hxe
          simp only [RepA] at hx3
          simp only [RepL]
          refine ⟨_, _, rfl, hx2, hx3.ext hx, ih (k + 1) _ ?_ rfl (by simp at hk2; omega)⟩
          rw [show 2 * m + (k + 1) = (2 * m + k) + 1 from by omega, ← List.drop_drop, hd]; rfl
      refine hL _ 0 ds ?_ rfl ?_
      · rw [Nat.add_zero]
        have e1 : ∀ (q : Row) (j : Nat), ((q.drop j).map clP).flatMap PV.cells = ((q.map clP).flatMap PV.cells).drop (2 * j) := by
          intro q
          induction q with
          | nil => intro j; simp
          | cons c q ih =>
            intro j
            cases j with
            | zero => rfl
            | succ j => rw [show 2 * (j + 1) = 2 * j + 2 from by omega]; exact ih j
        rw [← e1 l m, show 2 * m + n * 2 = 2 * (m + n) from by omega, ← e1 l (m + n), ← List.flatMap_append, ← List.map_append, ← List.drop_drop, List.take_append_drop]
      · have : ∀ q : Row, ((q.map clP).flatMap PV.cells).length = 2 * q.length := by
          intro q
          induction q with
          | nil => rfl
          | cons c q ih => rw [List.map_cons, List.flatMap_cons, List.length_append, ih]; simp [clP, PV.cells]; omega
        rw [this]; simp; omega
    · rw [cell_of_cells hnew, Nat.zero_add, Array.getElem?_append_left (by simpa [hds] using (List.getElem?_eq_some_iff.1 hj).1)]
      simpa using hj
  refine ⟨_, .p (rowP ((l.drop m).take n)), [([0], cw l)], g2, rfl, ⟨rfl, rfl⟩, ?_, ?_, ?_⟩
  · rw [rowP]
    simp only [RepA, RepP]
    refine .inr ⟨B, 0, G, ?_, ?_, ?_, hE⟩
    · simp [hB]; omega
    · simp; omega
    · show _ ≤ updN g.fr B _ B
      rw [updN_same]; simp; omega
  · refine ⟨fun c u hc => ?_, hG.ur, hG.ut, fun c hc => by have := hG.own c hc; omega, fun c hc => ?_⟩
    · obtain ⟨cs, hl2, h02, arr2, T2, hb2, hle2, hc2⟩ := hG.roots c u hc
      refine ⟨cs, hl2, (by show updN g.fr B _ c = 0; rw [updN_ne _ _ _ (hBp c (by rw [hc]; simp))]; exact h02), arr2, T2, by rw [hold c (hG.own c (by rw [hc]; simp))]; exact hb2, hle2, fun j x hj => ?_⟩
      obtain ⟨v, h1, h2, h3⟩ := hc2 j x hj
      refine ⟨v, h1, h2, ?_⟩
      have hcs : cs = cw l := by
        by_cases hu : u = [0]
        · subst hu; simpa [lookT] using hl2.symm
        · simp [lookT, Ne.symm hu] at hl2
      subst hcs
      obtain ⟨p, rfl⟩ := hcwp j x hj
      exact hkeep _ _ h3
    · show updN g.fr B _ c = 0
      rw [updN_ne _ _ _ (by omega)]
      exact hG.frb c (by omega)
  · exact ⟨fun d hd hkd => ⟨hold d hd, updN_ne _ _ _ (by omega), hkd⟩, hx, hout, by omega, fun c u hk _ => ⟨hk, hBlk c u hk⟩⟩
theorem size_cr (R C N : Nat) (l : Row) : CR Try.prog 42 [[0], [1]] [.lp [0] 0] (gp R C N l) (fun x rs' => x = .tup [.p (.int .i64 R), .p (.int .i64 C)] ∧ rs' = gp R C N l) := by
  refine CR_of_wpD [3] mixed 4 [] Try.func42 rfl (by kernel_rfl) rfl (by simp) (by simp) ?_
  simp (maxSteps := 1000000) (disch := omega) [go_sem, Try.f42, gp]
  exact ret_keep [[0], [1]] _ (by simp) (by simp [go_sem, resOf, leA]) ⟨rfl, by simp [go_sem, cw_upd]⟩
/-- A row's cells. -/
def rowOf (C : Nat) (l : Row) (k : Nat) : Row := (l.drop (k * C)).take C
theorem rowOf_len {R C : Nat} {l : Row} {k : Nat} (hl : l.length = R * C) (hk : k < R) : (rowOf C l k).length = C := by
  have h5 : k * C + C ≤ R * C := by rw [← Nat.succ_mul]; exact Nat.mul_le_mul_right _ hk
  simp only [rowOf, List.length_take, List.length_drop]; omega
theorem grow_lk (R C N : Nat) (l : Row) (k : Nat) (hN : N = R * C) (hR : R ≤ 500) (hC : 0 < C ∧ C ≤ 1000) (hl : l.length = N) (hk : k < R) :
    CR Try.prog 44 [[0], [1]] [.lp [0] 0, .p (.int .i64 k)] (gp R C N l) (fun x rs' => x = .p (rowP (rowOf C l k)) ∧ lookT rs' [0] = some [.p (.int .i64 R), .p (.int .i64 C), .la [1] 2 0 N] ∧ lookT rs' [1] = some (cw l)) := by
  have hNb : N ≤ 500000 := by rw [hN]; exact Nat.mul_le_mul hR hC.2
  have hin := gin_cr R C N l k 0
  have hB : inB R C k 0 = true := by simp [inB]; omega
  rw [hB] at hin
  have h5 : k * C + C ≤ N := by rw [hN, ← Nat.succ_mul]; exact Nat.mul_le_mul_right _ hk
  obtain ⟨m, hm⟩ : ∃ m, m = k * C := ⟨_, rfl⟩
  have hmI : (k : Int) * (C : Int) = (m : Int) := by rw [hm]; simp
  have hmI2 : ((k : Int) + 1) * (C : Int) = ((m + C : Nat) : Int) := by rw [Int.add_mul, hmI]; simp
  have hcl := clone_cr l m C hC.1 (by omega) (by omega)
  rw [rowOf, ← hm]
  rw [← hm] at h5
  obtain ⟨q, hq⟩ : ∃ q, q = (l.drop m).take C := ⟨_, rfl⟩
  rw [← hq] at hcl ⊢
  clear hq
  clear hm hN hB
  refine CR_of_wp mixed 5 [] Try.func44 rfl (by kernel_rfl) rfl (by simp) (by simp) ?_
  simp (maxSteps := 1000000) (disch := omega) [go_sem, Try.f44, gp]
  refine ⟨⟨rfl, by simp [Try.f58]⟩, CallK_of [([0], [0]), ([1], [1])] hin (by simp [go_sem]) ⟨by simp [go_sem], by simp [go_sem]⟩ (by simp [go_sem, gp, cw_ren]) ?_⟩
  rintro y rs ⟨rfl, rfl⟩
  simp (maxSteps := 1000000) (disch := omega) [go_sem, wrap64, gp, cw_ren, cw_upd, hmI, hmI2]
  have e1 : ((m : Int) + (C : Int)).toNat - m = C := by omega
  rw [e1]
  refine ⟨by omega, ⟨rfl, by simp [Try.f62]⟩, CallK_of [([0], [1])] hcl (by simp [go_sem]) ⟨by simp [go_sem], by simp [go_sem]⟩ (by simp [go_sem, cw_ren]) ?_⟩
  rintro y rs ⟨rfl, rfl⟩
  simp (maxSteps := 1000000) (disch := omega) [go_sem, cw_ren, cw_upd]
  exact ret_keep [[0], [1]] _ (by simp) (by simp [go_sem, resOf, leA]) ⟨rfl, by simp [go_sem, cw_upd]⟩
theorem grow_cr (R C N : Nat) (l : Row) (k : Nat) (hN : N = R * C) (hR : R ≤ 500) (hC : 0 < C ∧ C ≤ 1000) (hl : l.length = N) (hk : k < R) :
    CR Try.prog 44 [[0], [1]] [.lp [0] 0, .p (.int .i64 k)] (gp R C N l) (fun x rs' => x = .p (rowP (rowOf C l k)) ∧ rs' = gp R C N l) := by
  refine (grow_lk R C N l k hN hR hC hl hk).ren 1000 ?_
  rintro x rs' ⟨rfl, h0, h1⟩
  exact ⟨[([0], [0]), ([1], [1])], rfl, rfl, rfl, by simp [rootsR, St.ofR, h0, h1, gp, cw_ren, AV.ren, AV.upd, renG, renF, inM]⟩
end Go.Proofs.Ytjgfmanahimpoaa
