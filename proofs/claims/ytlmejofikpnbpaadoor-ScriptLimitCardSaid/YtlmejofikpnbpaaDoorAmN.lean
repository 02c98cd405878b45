/- A part of the proof of this seat's statements, by an abstract machine: what each operation does to values, proved over the model, whatever the program. No condition beyond those that stand. -/
import Derived.Test.YtlmejofikpnbpaaDoorAmM
namespace Go.AM

theorem RepE_of_flat {fr : Nat → Nat} {w : World} {z b : Nat} : ∀ {es : List PV} {vs : List Value} {o : Nat}, RepL fr w (es.flatMap PV.cells) vs → (∀ e ∈ es, e.cells.length = z ∧ e.fits = true) →
    (∀ (j : Nat) (v : Value), vs[j]? = some v → w.cell? ⟨b, o + j, none⟩ = some v) → RepE fr w z b es o
  | [], vs, o, _, _, _ => by simp [RepE]
  | e :: es, vs, o, r, hz, hc => by
    obtain ⟨he, hf⟩ := hz e (by simp)
    simp only [List.flatMap_cons] at r
    have r1 := r.take z
    have r2 := r.drop z
    rw [← he, List.take_left] at r1
    rw [← he, List.drop_left] at r2
    have hl := RepL.length r1
    simp only [RepE]
    refine ⟨?_, RepE_of_flat (vs := vs.drop e.cells.length) r2 (fun e' h' => hz e' (by simp [h'])) (fun j v hj => ?_)⟩
    · have cellsOK : ∀ (v : Value), v.cells.toList = vs.take e.cells.length → v.cells.size = z ∧ ∀ (j : Nat) (c : Value), v.cells[j]? = some c → c.oneCell' = true ∧ w.cell? ⟨b, o + j, none⟩ = some c := by
        intro v hv
        refine ⟨by rw [← Array.length_toList, hv, hl, he], fun j c hj => ?_⟩
        have hj' : (vs.take e.cells.length)[j]? = some c := by rw [← hv]; simpa using hj
        have hjl : j < e.cells.length := by
          have := (List.getElem?_eq_some_iff.1 hj').1; omega
        obtain ⟨u, hu, h1, _⟩ := r1.get (i := j) (x := e.cells[j]) (List.getElem?_eq_getElem hjl)
        rw [hj'] at hu; injection hu with hu; subst hu
        refine ⟨h1, hc j c ?_⟩
        rw [List.getElem?_take, if_pos hjl] at hj'; exact hj'
      cases e with
      | agg cs =>
        refine ⟨.agg (vs.take (PV.agg cs).cells.length).toArray, ?_, cellsOK _ rfl⟩
        simp only [RepP]
        exact ⟨_, rfl, r1⟩
      | _ =>
        simp only [PV.cells, RepL] at r1
        obtain ⟨v, vs', e1, h1, h2, rfl⟩ := r1
        exact ⟨v, h2, cellsOK v (by rw [cells_of_one h1]; exact e1.symm)⟩
    · rw [List.getElem?_drop] at hj
      have := hc _ _ hj
      rw [he] at this
      rw [Nat.add_assoc]; exact this

theorem fillSeq {z : Nat} : ∀ {l : List (Nat × PV)} {k : Nat} {cells : List PV}, l.map (·.1) = List.range' k l.length → cells.length = (k + l.length) * z → (∀ x ∈ l, x.2.cells.length = z ∧ x.2.fits = true) →
    (fillL (fun i => some (i * z, z)) cells l).1 ∧ (fillL (fun i => some (i * z, z)) cells l).2 = cells.take (k * z) ++ l.flatMap (fun x => x.2.cells)
  | [], k, cells, _, hc, _ => by
    simp only [fillL, List.flatMap_nil, List.append_nil, true_and]
    rw [List.take_of_length_le]; simp at hc; omega
  | (i, x) :: l, k, cells, hm, hc, hz => by
    simp only [List.map_cons, List.length_cons, List.range'_succ, List.cons.injEq] at hm
    obtain ⟨rfl, hm⟩ := hm
    obtain ⟨h1, h2⟩ := hz (i, x) (by simp)
    simp only [] at h1 h2
    have hlen : i * z + z ≤ cells.length := by
      rw [hc, List.length_cons, Nat.add_mul, Nat.add_mul]; omega
    have ih := fillSeq (l := l) (k := i + 1) (cells := cells.take (i * z) ++ x.cells ++ cells.drop (i * z + z)) hm (by
      simp only [List.length_append, List.length_take, List.length_drop, h1]
      rw [hc, List.length_cons] at hlen ⊢
      simp only [Nat.add_mul] at hlen ⊢
      omega) (fun y hy => hz y (by simp [hy]))
    unfold fillL
    simp only []
    refine ⟨⟨⟨h1, hlen, h2⟩, ih.1⟩, ?_⟩
    rw [ih.2]
    simp only [List.flatMap_cons]
    rw [← List.append_assoc]
    congr 1
    have e1 : (i + 1) * z = i * z + z := by rw [Nat.add_mul]; omega
    rw [e1, List.take_append_of_le_length (by simp [h1]; omega), List.take_of_length_le (by simp [h1]; omega)]

def sizedB (z : Nat) (l : List (Nat × PV)) : Bool := l.all fun x => decide (x.2.cells.length = z) && x.2.fits
def buildSliceD (P : Program) (S : St) (d : Nat) (T : TypeId) (n : Nat) (parts : List (Nat × Operand)) : Prop × St :=
  match ty P T, partsA S parts with
  | some ⟨.slice e, _, _, _⟩, (c, some l) =>
    match ty P e with
    | some ⟨_, z, _, some zs⟩ =>
      ((c ∧ l.map (·.1) = List.range' 0 n ∧ sizedB z l = true ∧ zs.length = z ∧ zs.all PV.one = true ∧ n * z ≤ 2 ^ 24) ∧ d < S.n, S.set d (.os [d] z (l.map (·.2))))
    | _ => (False, S)
  | _, _ => (False, S)
/-- What a new slice needs, and what it holds. -/
def bsR (P : Program) (S : St) (T : TypeId) (n : Nat) (parts : List (Nat × Operand)) : Option (Prop × Nat × List PV) :=
  match ty P T, partsA S parts with
  | some ⟨.slice e, _, _, _⟩, (c, some l) =>
    match ty P e with
    | some ⟨_, z, _, some zs⟩ => some ((c ∧ l.map (·.1) = List.range' 0 n ∧ sizedB z l = true ∧ zs.length = z ∧ zs.all PV.one = true ∧ n * z ≤ 2 ^ 24), z, l.map (·.2))
    | _ => none
  | _, _ => none
theorem bsR_sound [Gi] {P : Program} {E : Ent} {S : St} {g : Gh} {a : Act} {w : World} (hS : SR E S g a w) {T : TypeId} {n : Nat} {parts : Array (Nat × Operand)} {c : Prop} {z0 : Nat} {es : List PV} (e0 : bsR P S T n parts.toList = some (c, z0, es)) (hc : c) (t : Tok) :
    ∃ r w' g', (Instr.buildSlice T n (parts.map fun x => (x.1, a.eval x.2))).run P w = .ok r w' ∧ SR E S g' a w' ∧ RepA g' w' (.os t z0 es) r ∧ g'.K = g.K := by
  unfold bsR at e0
  split at e0
  · rename_i e sz by_ ze c l hT hp
    split at e0
    · rename_i dd z bytes zs hE
      simp only [Option.some.injEq, Prod.mk.injEq] at e0
      obtain ⟨rfl, rfl, rfl⟩ := e0
      obtain ⟨hc, hidx, hsz, hzl, hall, hn⟩ := hc
      have hu := ty_underlying w hT
      simp only [] at hu
      have hs := ty_size w hE
      simp only [] at hs
      obtain ⟨zv, hz1, hz2⟩ := ty_zero hE rfl
      have hzl' : zv.cells.size = z := by rw [← hzl, ← hz2]; simp
      have hpa : (partsA S parts.toList).1 := by rw [hp]; exact hc
      have hpb : (partsA S parts.toList).2 = some l := by rw [hp]
      obtain ⟨h1, h2⟩ := partsA_sound hS hpa hpb
      have hlen : l.length = n := by have := congrArg List.length hidx; simpa using this
      have hsz' : ∀ x ∈ l, x.2.cells.length = z ∧ x.2.fits = true := by
        intro x hx
        have := List.all_eq_true.1 hsz x hx
        simpa using this
      -- the zero cells
      let arr0 : Array Value := (Array.range (n * z)).map fun i => (if n * z = 0 then #[] else zv.cells)[i % (if n * z = 0 then #[] else zv.cells).size]!
      have hr0 : RepL g.fr w (arr0.toList.map toPV) arr0.toList := by
        refine RepL.of_map rfl (List.all_eq_true.2 fun x hx => ?_)
        obtain ⟨v, hv, rfl⟩ := List.mem_map.1 hx
        simp only [arr0, Array.toList_map, Array.toList_range, List.mem_map, List.mem_range] at hv
        obtain ⟨i, hi, rfl⟩ := hv
        have hnz : n * z ≠ 0 := by omega
        simp only [hnz, if_false]
        have hzpos : 0 < z := Nat.pos_of_ne_zero (fun e => hnz (by rw [e]; simp))
        have hil : i % zv.cells.size < zv.cells.size := Nat.mod_lt _ (by omega)
        have hmem : toPV (zv.cells[i % zv.cells.size]!) ∈ zs := by
          rw [← hz2]
          refine List.mem_map.2 ⟨_, ?_, rfl⟩
          rw [getElem!_pos zv.cells _ hil]
          simp
        exact List.all_eq_true.1 hall _ hmem
      obtain ⟨f1, f2⟩ := fillSeq (z := z) (l := l) (k := 0) (cells := arr0.toList.map toPV) (by rw [hlen]; exact hidx) (by simp [arr0, hlen]) hsz'
      obtain ⟨arr', hfill, hR⟩ := fill_sound f1 hr0 h1 h2
      rw [f2] at hR
      simp only [Nat.zero_mul, List.take_zero, List.nil_append] at hR
      have hrun : (Instr.buildSlice T n (parts.map fun x => (x.1, a.eval x.2))).run P w = .ok (.slice (some ⟨w.heap.size, 0, none⟩) n n) (w.alloc (.cells arr' e)) := by
        unfold Instr.buildSlice
        simp only [Sem.run_bind, hu, Result.andThen_ok, hs]
        rw [if_neg (by omega)]
        have hfill' : Instr.fill (fun i => some (i * z, z)) ((Array.range (n * z)).map fun i => (if n * z = 0 then #[] else zv.cells)[i % (if n * z = 0 then #[] else zv.cells).size]!)
            (parts.map fun x => (x.1, a.eval x.2)).toList = some arr' := by rw [Array.toList_map]; exact hfill
        by_cases hnz : n * z = 0
        · simp only [hnz, if_true] at hfill'
          simp only [hnz, if_true, Sem.run_bind, Sem.run_pure, Result.andThen_ok, hfill', newRow, run_newObj]
          rfl
        · simp only [hnz, if_false] at hfill'
          simp only [hnz, if_false, Sem.run_bind, Sem.run_pure, Result.andThen_ok, hz1, hfill', newRow, run_newObj]
          rfl
      refine ⟨.slice (some ⟨w.heap.size, 0, none⟩) n n, w.alloc (.cells arr' e), ?_⟩
      suffices H : ∃ g', SR E S g' a (w.alloc (.cells arr' e)) ∧ RepA g' (w.alloc (.cells arr' e)) (.os t z (l.map (·.2))) (.slice (some ⟨w.heap.size, 0, none⟩) n n) ∧ g'.K = g.K by
        obtain ⟨g', H⟩ := H; exact ⟨g', hrun, H⟩
      have hp : g.K w.heap.size = .prot := by
        rcases Classical.em (g.K w.heap.size = .prot) with e' | e'
        · exact e'
        · have := (hS.own _ e').1; omega
      have hfr0 : g.fr w.heap.size = 0 := hS.frb _ (Nat.le_refl _)
      have k2 := (hS.alloc (.cells arr' e)).claim (b := w.heap.size) (m := n * z) hp (.inl hS.mono) (by simp) (by omega)
      refine ⟨_, k2, ?_, rfl⟩
      have hheap : (w.alloc (.cells arr' e)).heap[w.heap.size]? = some (.cells arr' e (0, 0)) := by rw [heap_alloc, if_pos rfl]
      have hx2 : Ext g.fr w (updN g.fr w.heap.size (n * z)) (w.alloc (.cells arr' e)) := fun b o ho => by
        have hbl := hS.heap_lt ho
        exact ⟨by rw [updN_ne _ _ _ (by omega)]; exact ho, same_of_heap (by rw [heap_alloc, if_neg (by omega)])⟩
      simp only [RepA]
      refine ⟨?_, .inl ⟨_, _, rfl⟩⟩
      simp only [RepP]
      right
      refine ⟨w.heap.size, 0, n, by simp [hlen], by simp [hlen], ?_, ?_⟩
      · show _ ≤ updN g.fr w.heap.size _ w.heap.size
        rw [updN_same]; simp [hlen]
      · have hflat : l.flatMap (fun x => x.2.cells) = (l.map (·.2)).flatMap PV.cells := by rw [List.flatMap_map]
        rw [hflat] at hR
        have hext : ∀ cs vs, RepL g.fr w cs vs → RepL (updN g.fr w.heap.size (n * z)) (w.alloc (.cells arr' e)) cs vs := fun cs vs r => r.ext hx2
        refine RepE_of_flat (hext _ _ hR) (fun e' he' => ?_) (fun j v hj => ?_)
        · obtain ⟨x, hx, rfl⟩ := List.mem_map.1 he'
          exact hsz' x hx
        · rw [Nat.zero_add, cell_of_cells hheap]; simpa using hj
    · cases e0
  · cases e0
theorem buildSlice_sound [Gi] {P : Program} {E : Ent} {S : St} {g : Gh} {a : Act} {w : World} (hS : SR E S g a w) {d : Nat} {T : TypeId} {n : Nat} {parts : Array (Nat × Operand)} (h : (buildSliceD P S d T n parts.toList).1) :
    ∃ r w' g', (Instr.buildSlice T n (parts.map fun x => (x.1, a.eval x.2))).run P w = .ok r w' ∧ SR E (buildSliceD P S d T n parts.toList).2 g' (a.put (some d) r) w' := by
  unfold buildSliceD at h ⊢
  split at h
  · rename_i e sz by_ ze c l hT hp
    split at h
    · rename_i dd z bytes zs hE
      obtain ⟨h1, hd⟩ := h
      obtain ⟨r, w', g', k1, k2, k3, _⟩ := bsR_sound (P := P) hS (T := T) (n := n) (parts := parts) (by unfold bsR; rw [hT, hp]; simp only []; rw [hE]) h1 [d]
      exact ⟨r, w', g', k1, k2.put k3 hd⟩
    · exact h.elim
  · exact h.elim

end Go.AM
