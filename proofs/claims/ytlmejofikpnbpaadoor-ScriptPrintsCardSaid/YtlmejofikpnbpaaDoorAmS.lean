/- A part of the proof of this seat's statements, by an abstract machine: what each operation does to values, proved over the model, whatever the program. No condition beyond those that stand. -/
import Derived.Test.YtlmejofikpnbpaaDoorAmN
namespace Go.AM

/-! ### make -/
def zerosA (n : Nat) (zs : List PV) : List PV := (List.replicate n zs).flatten
theorem range_mod (z : Nat) (l : List Value) (hl : l.length = z) : ∀ n : Nat, (List.range (n * z)).map (fun i => l.toArray[i % z]!) = (List.replicate n l).flatten
  | 0 => by simp
  | n + 1 => by
    have ih := range_mod z l hl n
    have e1 : (n + 1) * z = n * z + z := by rw [Nat.add_mul]; omega
    rw [e1, List.range_add, List.map_append, ih, List.map_map, List.replicate_succ', List.flatten_append]
    congr 1
    simp only [List.flatten_cons, List.flatten_nil, List.append_nil]
    apply List.ext_getElem?
    intro j
    simp only [List.getElem?_map]
    by_cases hj : j < z
    · rw [List.getElem?_range hj]
      simp only [Option.map_some, Function.comp]
      have hm : (n * z + j) % z = j := by rw [Nat.add_comm, Nat.add_mul_mod_self_right]; exact Nat.mod_eq_of_lt hj
      rw [hm, getElem!_pos _ _ (by simp; omega)]
      simp [List.getElem?_eq_getElem (show j < l.length by omega)]
    · rw [List.getElem?_eq_none (by simp; omega), List.getElem?_eq_none (by omega)]; rfl
theorem RepL_zeros {fr : Nat → Nat} {w : World} {zs : List PV} {vs : List Value} (r : RepL fr w zs vs) : ∀ n : Nat, RepL fr w (zerosA n zs) (List.replicate n vs).flatten
  | 0 => by simp [zerosA, RepL]
  | n + 1 => by
    simp only [zerosA, List.replicate_succ, List.flatten_cons]
    exact r.append (RepL_zeros r n)
def makeSliceD (P : Program) (S : St) (d : Nat) (T : TypeId) (l c : AV) : Prop × St :=
  match ty P T, l, c with
  | some ⟨.slice e, _, _, _⟩, .p (.int _ n), .p (.int _ m) =>
    match ty P e with
    | some ⟨_, z, bytes, some zs⟩ =>
      ((zs.all PV.one = true ∧ zs.length = z ∧ 0 < bytes ∧ [d] ∉ S.pin ∧ d < S.n) ∧ m = n ∧ 0 ≤ n ∧ n * bytes ≤ 140737488355328,
        (newRoot S [d] ((zerosA n.toNat zs).map .p)).set d (.la [d] z 0 n.toNat))
    | _ => (False, S)
  | _, _, _ => (False, S)
theorem wrap64' {x : Int} (h1 : -9223372036854775808 ≤ x) (h2 : x ≤ 9223372036854775807) : IntKind.i64.wrap x = x := by
  simp only [IntKind.wrap, IntKind.signed, IntKind.bits]
  simp
  omega
theorem makeSlice_sound [Gi] {P : Program} {E : Ent} {S : St} {g : Gh} {a : Act} {w : World} (hS : SR E S g a w) {d : Nat} {T : TypeId} {l c : AV} {lv cv : Value} (h : (makeSliceD P S d T l c).1) (rl : RepA g w l lv) (rc : RepA g w c cv) :
    ∃ r w' g', (Instr.makeSlice T lv cv).run P w = .ok r w' ∧ SR E (makeSliceD P S d T l c).2 g' (a.put (some d) r) w' := by
  unfold makeSliceD at h ⊢
  split at h
  · rename_i e sz by_ ze k n k' m hT
    split at h
    · rename_i dd z bytes zs hE
      obtain ⟨⟨hall, hzl, hb, hpin, hd⟩, rfl, h0, hfit⟩ := h
      simp only [RepA, RepP] at rl rc
      subst rl; subst rc
      have hu := ty_underlying w hT
      simp only [] at hu
      have hs := ty_size w hE
      simp only [] at hs
      obtain ⟨i, hi, hib⟩ := ty_info hE
      simp only [] at hib
      obtain ⟨zv, hz1, hz2⟩ := ty_zero hE rfl
      have hzl' : zv.cells.toList.length = z := by rw [← hzl, ← hz2]; simp
      have hnb : m ≤ 140737488355328 := by
        have : m * 1 ≤ m * bytes := Int.mul_le_mul_of_nonneg_left (by omega) h0
        omega
      have hw : IntKind.i64.wrap m = m := wrap64' (by omega) (by omega)
      have hz : RepL g.fr w zs zv.cells.toList := RepL.of_map hz2 hall
      have harr : ((Array.range (m.toNat * z)).map (fun i => zv.cells[i % zv.cells.size]!)).toList = (List.replicate m.toNat zv.cells.toList).flatten := by
        have := range_mod z zv.cells.toList hzl' m.toNat
        rw [← this]
        simp only [Array.toList_map, Array.toList_range, Array.toArray_toList]
        have hsz : zv.cells.size = z := by rw [← hzl']; simp
        rw [hsz]
      obtain ⟨g', k1, k2⟩ := hS.newRoot (arr := (Array.range (m.toNat * z)).map (fun i => zv.cells[i % zv.cells.size]!)) [d] hpin e (by rw [harr]; exact (RepL_zeros hz m.toNat).toRC)
      have hrun : (Instr.makeSlice T (.int k m) (.int k' m)).run P w = .ok (.slice (some ⟨w.heap.size, 0, none⟩) m.toNat m.toNat) (w.alloc (.cells ((Array.range (m.toNat * z)).map (fun i => zv.cells[i % zv.cells.size]!)) e)) := by
        have ht : ¬ ((i.bytes : Int) * m > 2 ^ 48) := by
          rw [hib, Int.mul_comm]; omega
        unfold Instr.makeSlice
        simp only [Sem.run_bind, hu, Result.andThen_ok, asInt, asIntOf, Sem.run_pure, hi, hw]
        have c1 : (decide (m < 0) || decide (↑i.bytes * m > 2 ^ 48) || decide (m < 0) || decide (m > m)) = false := by
          simp only [Bool.or_eq_false_iff, decide_eq_false_iff_not]
          exact ⟨⟨⟨by omega, ht⟩, by omega⟩, by omega⟩
        rw [c1]
        simp only [Bool.false_eq_true, if_false, Sem.run_bind, run_askRoom, Result.andThen_ok, hs]
        by_cases hnz : m.toNat * z = 0
        · simp only [hnz, if_true, Sem.run_bind, Sem.run_pure, Result.andThen_ok, newRow, run_newObj]
          have e1 : ∀ f : Nat → Value, (Array.range 0).map f = #[] := fun f => by simp
          rw [e1, e1]
          rfl
        · simp only [hnz, if_false, Sem.run_bind, Sem.run_pure, Result.andThen_ok, hz1, newRow, run_newObj]
          rfl
      exact ⟨_, _, g', hrun, k1.put (by simp only [RepA]; exact ⟨_, 0, _, k2, rfl, Nat.le_refl _, .inr rfl, _, e, by rw [heap_alloc, if_pos rfl], by simp⟩) hd⟩
    · exact h.elim
  · exact h.elim

/-! ### copy, clear -/
def copyD (P : Program) (S : St) (T : TypeId) (x y : AV) : Prop × Int × St :=
  match x, elemSize P T, srcS S y with
  | .la t z o n, some size, some (cy, zy, ys) =>
    match lookT S.rs t with
    | some cs => ((cy ∧ z = size ∧ zy = size ∧ ys.all PV.fits = true) ∧ o + (min ys.length n) * z ≤ cs.length ∧ ((ys.take (min ys.length n)).flatMap PV.cells).length = (min ys.length n) * z,
        ((min ys.length n : Nat) : Int), setRoot S t (splice cs o (((ys.take (min ys.length n)).flatMap PV.cells).map .p)))
    | none => (False, 0, S)
  | _, _, _ => (False, 0, S)
def clearD (P : Program) (S : St) (T : TypeId) (x : AV) : Prop × St :=
  match x, ty P T with
  | .la t z o n, some ⟨.slice e, _, _, _⟩ =>
    match ty P e, lookT S.rs t with
    | some ⟨_, size, _, some zs⟩, some cs => ((z = size ∧ zs.length = size ∧ zs.all PV.one = true) ∧ o + n * z ≤ cs.length, setRoot S t (splice cs o ((zerosA n zs).map .p)))
    | _, _ => (False, S)
  | _, _ => (False, S)
theorem flatMap_take_len : ∀ (l : List PV) (vs : List Value) (z k : Nat) {fr : Nat → Nat} {w : World}, RepL fr w (l.flatMap PV.cells) vs → ((l.take k).flatMap PV.cells).length = k * z → RepL fr w ((l.take k).flatMap PV.cells) (vs.take (k * z)) := by
  intro l vs z k fr w r h
  have e : l.flatMap PV.cells = (l.take k).flatMap PV.cells ++ (l.drop k).flatMap PV.cells := by rw [← List.flatMap_append, List.take_append_drop]
  rw [e] at r
  have := r.take (k * z)
  rwa [← h, List.take_left, h] at this
theorem copy_sound [Gi] {P : Program} {E : Ent} {S : St} {g : Gh} {a : Act} {w : World} (hS : SR E S g a w) {T T' tt : TypeId} {x y : AV} {u v : Value} (h : (copyD P S T x y).1) (rx : RepA g w x u) (ry : RepA g w y v) :
    ∃ w' g', (Builtin.copy_ #[T, T'] tt #[u, v]).run P w = .ok (.int .i64 (copyD P S T x y).2.1) w' ∧ SR E (copyD P S T x y).2.2 g' a w' := by
  unfold copyD at h ⊢
  split at h
  · rename_i t z o n size cy zy ys hz hy
    simp only [RepA] at rx
    obtain ⟨b, o', cap, hk, rfl, hcap, ho, hB⟩ := rx
    cases hl : lookT S.rs t with
    | none => simp only [hl] at h
    | some cs =>
      simp only [hl] at h ⊢
      obtain ⟨⟨hcy, hz1, hz2, hfits⟩, hlen, hfl⟩ := h
      subst hz1; subst hz2
      obtain ⟨hlo, ns, n1, n2, n3, n4, n5, _⟩ := srcS_sound (P := P) hS hy hcy ry
      have hE : ∃ e D T', ty P T = some D ∧ D.desc = .slice e ∧ ty P e = some T' ∧ T'.size = zy := by
        unfold elemSize at hz
        split at hz
        · rename_i e _ _ _ hT
          simp only [Option.map_eq_some_iff] at hz
          obtain ⟨T', h1, h2⟩ := hz
          exact ⟨e, _, T', hT, rfl, h1, h2⟩
        · cases hz
      obtain ⟨e, D, TE, hT, hD, hTE, hsz⟩ := hE
      have hu := fun w => ty_underlying (P := P) w hT
      rw [hD] at hu
      have hs := fun w => ty_size (P := P) w hTE
      rw [hsz] at hs
      have hkm : min ys.length n ≤ ys.length := Nat.min_le_left _ _
      have h5 := n5 w (min ys.length n) hkm (fun _ _ => rfl)
      have hnl : (ns.take (min ys.length n * zy)).length = min ys.length n * zy := by
        rw [List.length_take, n1]
        exact Nat.min_eq_left (Nat.mul_le_mul_right _ hkm)
      have hrl := flatMap_take_len ys ns zy (min ys.length n) (n4 hfits) hfl
      have hrc := hrl.toRC
      have fin : ∀ w', (storeCells ⟨b, o', none⟩ (ns.take (min ys.length n * zy))).run P w = .ok () w' →
          (Builtin.copy_ #[T, T'] tt #[.slice (some ⟨b, o', none⟩) n cap, v]).run P w = .ok (.int .i64 ((min ys.length n : Nat) : Int)) w' := by
        intro w' hst
        simp only [Nat.min_def] at h5 hst ⊢
        simp [Builtin.copy_, hu, hs, hlo, goInt, Nat.min_def, h5, hst]
      rcases Nat.eq_zero_or_pos n with hn0 | hn0
      · subst hn0
        simp only [Nat.min_zero, Nat.zero_mul, List.take_zero, List.flatMap_nil, List.map_nil] at fin hlen ⊢
        obtain ⟨w', hw', hs'⟩ := hS.storeRoot (P := P) (o := o) (ys := []) (vs := []) hk hl (by simpa using hlen) rfl (by simp)
        refine ⟨w, g, fin w (by simp [storeCells]), ?_⟩
        have hww : w' = w := by
          simp only [storeCells, Sem.run_pure] at hw'
          injection hw' with _ e; exact e.symm
        rw [hww] at hs'
        exact hs'
      · have ho' : o' = o := ho.resolve_left (by omega)
        subst ho'
        obtain ⟨w', hw', hs'⟩ := hS.storeRoot (P := P) (o := o') (ys := ((ys.take (min ys.length n)).flatMap PV.cells).map .p) (vs := ns.take (min ys.length n * zy)) hk hl (by simp only [List.length_map]; omega) (by simp only [List.length_map]; omega) (fun j x hj => hrc.get hj)
        exact ⟨w', g, fin w' hw', hs'⟩
  · exact h.elim

theorem zeroCells_list (zv : Value) (n : Nat) : (Builtin.zeroCells zv.cells n).toList = (List.replicate n zv.cells.toList).flatten := by
  have := range_mod zv.cells.size zv.cells.toList (by simp) n
  rw [← this]
  simp only [Builtin.zeroCells, Array.toList_map, Array.toList_range, Array.toArray_toList]
theorem clear_sound [Gi] {P : Program} {E : Ent} {S : St} {g : Gh} {a : Act} {w : World} (hS : SR E S g a w) {T tt : TypeId} {x : AV} {u : Value} (h : (clearD P S T x).1) (rx : RepA g w x u) :
    ∃ w' g', (Builtin.clear_ #[T] tt #[u]).run P w = .ok (.tuple #[]) w' ∧ SR E (clearD P S T x).2 g' a w' := by
  unfold clearD at h ⊢
  split at h
  · rename_i t z o n e b1 b2 b3 hT
    simp only [RepA] at rx
    obtain ⟨b, o', cap, hk, rfl, hcap, ho, hB⟩ := rx
    split at h
    · rename_i d2 size b4 zs cs hE hl
      obtain ⟨⟨rfl, hzl, hall⟩, hlen⟩ := h
      have hu := fun w => ty_underlying (P := P) w hT
      simp only [] at hu
      obtain ⟨zv, hz1, hz2⟩ := ty_zero hE rfl
      have hzl' : zv.cells.size = z := by rw [← hzl, ← hz2]; simp
      have hz : RepL g.fr w zs zv.cells.toList := RepL.of_map hz2 hall
      rcases Nat.eq_zero_or_pos n with hn0 | hn0
      · subst hn0
        obtain ⟨w', hw', hs'⟩ := hS.storeRoot (P := P) (o := o) (ys := []) (vs := []) hk hl (by simpa using hlen) rfl (by simp)
        have hww : w' = w := by
          simp only [storeCells, Sem.run_pure] at hw'
          injection hw' with _ e; exact e.symm
        rw [hww] at hs'
        refine ⟨w, g, ?_, by simpa [zerosA, setRoot] using hs'⟩
        simp [Builtin.clear_, hu]
      · have ho' : o' = o := ho.resolve_left (by omega)
        subst ho'
        have hvl : (Builtin.zeroCells zv.cells n).toList.length = n * z := by simp [Builtin.zeroCells, hzl']
        have hzn : (zerosA n zs).length = n * z := by simp [zerosA, hzl]
        obtain ⟨w', hw', hs'⟩ := hS.storeRoot (P := P) (o := o') (ys := (zerosA n zs).map .p) (vs := (Builtin.zeroCells zv.cells n).toList) hk hl (by simp only [List.length_map]; omega) (by simp only [List.length_map]; omega)
          (fun j x hj => by rw [zeroCells_list]; exact (RepL_zeros hz n).toRC.get hj)
        refine ⟨w', g, ?_, hs'⟩
        obtain ⟨k, rfl⟩ : ∃ k, n = k + 1 := ⟨n - 1, by omega⟩
        simp [Builtin.clear_, hu, hz1, hw']
    · exact h.elim
  · exact h.elim

end Go.AM
