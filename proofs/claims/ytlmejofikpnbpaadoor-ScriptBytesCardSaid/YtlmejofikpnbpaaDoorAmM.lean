/- A part of the proof of this seat's statements, by an abstract machine: what each operation does to values, proved over the model, whatever the program. No condition beyond those that stand. -/
import Derived.Test.YtlmejofikpnbpaaDoorAmL
namespace Go.AM

/-- The slice that is appended to: owned, or never made. -/
def dstA (x : AV) : Option (Tok × List PV × Option Nat) :=
  match x with
  | .os t z es => some (t, es, some z)
  | x => if isNilSl x then some ([], [], none) else none
def appendD (P : Program) (S : St) (d : Nat) (sT xT : TypeId) (x y : AV) : Prop × St :=
  match ty P sT, ty P xT, dstA x, srcS S y with
  | some ⟨.slice e, _, _, _⟩, some X, some (t, es, z), some (cy, zy, ys) =>
    match ty P e with
    | some ⟨_, size, bytes, some zs⟩ =>
      ((cy ∧ isSrcD X.desc = true ∧ (z = none ∨ z = some size) ∧ zy = size ∧ zs.length = size ∧ 0 < bytes ∧ d < S.n) ∧ (es.length + ys.length) * bytes ≤ 140737488355328,
        (S.fil ftt (neTok t [d])).set d (.os [d] size (es ++ ys)))
    | _ => (False, S)
  | _, _, _, _ => (False, S)
theorem dstA_spec {g : Gh} {w : World} {x : AV} {t : Tok} {es : List PV} {z : Option Nat} {v : Value} {size : Nat} (h : dstA x = some (t, es, z)) (hz : z = none ∨ z = some size) (r : RepA g w x v) : RepA g w (.os t size es) v := by
  unfold dstA at h
  split at h
  · simp only [Option.some.injEq, Prod.mk.injEq] at h
    obtain ⟨rfl, rfl, rfl⟩ := h
    simp at hz; subst hz; exact r
  · split at h
    · rename_i hn
      simp only [Option.some.injEq, Prod.mk.injEq] at h
      obtain ⟨rfl, rfl, rfl⟩ := h
      exact nil_os hn r _ _
    · cases h

theorem SR.heap_lt [Gi] {E : Ent} {S : St} {g : Gh} {a : Act} {w : World} (h : SR E S g a w) {b o : Nat} (ho : o < g.fr b) : b < w.heap.size := by
  rcases Nat.lt_or_ge b w.heap.size with h' | h'
  · exact h'
  · have := h.frb b h'; omega

theorem append_sound [Gi] {P : Program} {E : Ent} {S : St} {g : Gh} {a : Act} {w : World} (hS : SR E S g a w) {d : Nat} {sT xT tt : TypeId} {x y : AV} {u v : Value} (h : (appendD P S d sT xT x y).1)
    (rx : RepA g w x u) (ry : RepA g w y v) :
    ∃ r w' g', (Builtin.append_ #[sT, xT] tt #[u, v]).run P w = .ok r w' ∧ SR E (appendD P S d sT xT x y).2 g' (a.put (some d) r) w' := by
  unfold appendD at h ⊢
  split at h
  · rename_i e sz by_ ze X t es z cy zy ys hT hX hx hy
    split at h
    · rename_i dd size bytes zs hE
      obtain ⟨⟨hcy, hXi, hz, hzy, hzl, hb, hd⟩, hfit⟩ := h
      subst hzy
      have hos := dstA_spec hx hz rx
      obtain ⟨hlen, ns, n1, n2, n3, _, _, n4⟩ := srcS_sound (P := P) hS hy hcy ry
      have hos' := hos
      simp only [RepA] at hos'
      obtain ⟨rs, hown⟩ := hos'
      obtain ⟨base, cap, rfl, hcap⟩ := slice_shape rs
      obtain ⟨os, o1, o2, o3, _, _, o4⟩ := rs.slCells P
      rcases Nat.lt_or_ge cap (es.length + ys.length) with hg | hroom
      · -- a new row
        obtain ⟨ncap, rest, c1, c2, c3⟩ := run_append_grow' (P := P) (w := w) (tt := tt) (os := os) (ns := ns) hT rfl hX hXi hE rfl hlen hg hb hfit (fun w' hw => o3 w' hw) (fun w' hw => n3 w' hw)
        refine ⟨.slice (some ⟨w.heap.size, 0, none⟩) (es.length + ys.length) ncap, w.drew.alloc (.cells (os ++ ns ++ rest).toArray e), ?_⟩
        suffices H : ∃ g', SR E ((S.fil ftt (neTok t [d])).set d (.os [d] zy (es ++ ys))) g' (a.put (some d) (.slice (some ⟨w.heap.size, 0, none⟩) (es.length + ys.length) ncap)) (w.drew.alloc (.cells (os ++ ns ++ rest).toArray e)) by
          obtain ⟨g', H⟩ := H; exact ⟨g', c3, H⟩
        have k1 := ((hS.filter ftt (neTok t [d])).drew).alloc (.cells (os ++ ns ++ rest).toArray e)
        have hp : (g.fil ftt (neTok t [d])).K w.heap.size = .prot := by
          rcases Classical.em (g.K w.heap.size = .prot) with e' | e'
          · show (g.K w.heap.size).fil _ _ = _; rw [e']; rfl
          · have := (hS.own _ e').1; omega
        have hfr0 : g.fr w.heap.size = 0 := hS.frb _ (Nat.le_refl _)
        have k2 := k1.claim (b := w.heap.size) (m := (es.length + ys.length) * zy) hp (.inl hS.mono) (by simp [World.alloc]) (by show g.fr w.heap.size ≤ _; omega)
        have k3 := k2.adoptTail (b := w.heap.size) (t := [d]) hp (.inl hS.mono) (by simp [World.alloc]) (fun c hc => by
          have := (Gh.fil_tail.1 hc).2; simp [neTok] at this)
        refine ⟨_, k3.put ?_ hd⟩
        have hheap : (w.drew.alloc (.cells (os ++ ns ++ rest).toArray e)).heap[w.heap.size]? = some (.cells (os ++ ns ++ rest).toArray e (0, 0)) := by
          have := heap_alloc w.drew (.cells (os ++ ns ++ rest).toArray e) w.heap.size
          rw [this]; exact if_pos rfl
        have hx2 : Ext g.fr w (updN g.fr w.heap.size ((es.length + ys.length) * zy)) (w.drew.alloc (.cells (os ++ ns ++ rest).toArray e)) := fun b o ho => by
          have hbl := hS.heap_lt ho
          refine ⟨by rw [updN_ne _ _ _ (by omega)]; exact ho, same_of_heap ?_⟩
          have := heap_alloc w.drew (.cells (os ++ ns ++ rest).toArray e) b
          rw [this]; exact if_neg (by show b ≠ w.heap.size; omega)
        have hcell : ∀ j : Nat, (w.drew.alloc (.cells (os ++ ns ++ rest).toArray e)).cell? ⟨w.heap.size, j, none⟩ = (os ++ ns ++ rest)[j]? := fun j => by
          rw [cell_of_cells hheap]; simp
        simp only [RepA]
        refine ⟨?_, .inr ⟨w.heap.size, 0, _, ncap, rfl, updN_same _ _ _, ?_, (os ++ ns ++ rest).toArray, e, hheap, ?_⟩⟩
        · simp only [RepP]
          right
          refine ⟨w.heap.size, 0, ncap, by rw [List.length_append], by rw [List.length_append]; exact c1, ?_, ?_⟩
          · show _ ≤ updN g.fr w.heap.size _ w.heap.size
            rw [updN_same, List.length_append]; omega
          · refine RepE.append (o4 _ _ _ _ hx2 (fun j q hj => ?_)) (n4 _ _ _ _ hx2 (fun j q hj => ?_))
            · show (w.drew.alloc (.cells (os ++ ns ++ rest).toArray e)).cell? ⟨w.heap.size, 0 + j, none⟩ = some q
              rw [Nat.zero_add, hcell, List.append_assoc, List.getElem?_append_left (by exact (List.getElem?_eq_some_iff.1 hj).1)]; exact hj
            · have hjl := (List.getElem?_eq_some_iff.1 hj).1
              show (w.drew.alloc (.cells (os ++ ns ++ rest).toArray e)).cell? ⟨w.heap.size, 0 + es.length * zy + j, none⟩ = some q
              rw [Nat.zero_add, hcell, ← o1, List.getElem?_append_left (by simp; omega), List.getElem?_append_right (by omega)]
              rw [Nat.add_sub_cancel_left]; exact hj
        · show updN g.fr w.heap.size _ w.heap.size = _
          rw [updN_same]; omega
        · simp only [Nat.zero_add, List.size_toArray, List.length_append, o1, n1, c2, hzl]
          have : ncap = es.length + ys.length + (ncap - (es.length + ys.length)) := by omega
          calc ncap * zy = (es.length + ys.length + (ncap - (es.length + ys.length))) * zy := by rw [← this]
            _ = es.length * zy + ys.length * zy + (ncap - (es.length + ys.length)) * zy := by rw [Nat.add_mul, Nat.add_mul]
            _ ≤ _ := Nat.le_refl _
      · -- there is room
        rcases List.eq_nil_or_concat ys with hy0 | ⟨y0, yl, hy0⟩
        · subst hy0
          have hns : ns = [] := List.length_eq_zero_iff.1 (by simpa using n1)
          subst hns
          have hrun := run_append_room' (P := P) (w := w) (w' := w) (tt := tt) (base := base) (ns := []) hT rfl hX hXi hE hlen hroom (by simpa using n3 w (fun _ _ => rfl)) (by cases base <;> simp [storeCells])
          simp only [List.append_nil]
          obtain ⟨g', _, _, k1, k2⟩ := hS.retail hos [d]
          exact ⟨_, w, g', hrun, k1.put k2 hd⟩
        · have hylen : 0 < ys.length := by rw [hy0]; simp
          rcases hown with ⟨q, l, e'⟩ | ⟨b, o, len, cap', e', hk, hf, arr, T, hb1, hb2⟩
          · injection e' with _ e1 e2; omega
          · injection e' with e1 e2 e3
            subst e1; subst e2; subst e3
            have hmul : es.length * zy + ys.length * zy ≤ cap * zy := by rw [← Nat.add_mul]; exact Nat.mul_le_mul_right _ hroom
            have hfits : o + es.length * zy + 0 + ns.length ≤ arr.size := by omega
            have hst := run_storeCells_at P b (o + es.length * zy) T ns 0 arr w hb1 hfits n2
            simp only [Nat.add_zero] at hst
            have hsp : arr.toList.take (o + es.length * zy) ++ ns ++ arr.toList.drop (o + es.length * zy + ns.length) = splice arr.toList (o + es.length * zy) ns := rfl
            rw [hsp] at hst
            have hrun := run_append_room' (P := P) (w := w) (tt := tt) (base := some ⟨b, o, none⟩) (ns := ns) hT rfl hX hXi hE hlen hroom (n3 w (fun _ _ => rfl)) (by simp only []; rw [addr_add]; exact hst)
            have hget : ∀ j : Nat, ((splice arr.toList (o + es.length * zy) ns).toArray)[j]? = if o + es.length * zy ≤ j ∧ j < o + es.length * zy + ns.length then ns[j - (o + es.length * zy)]? else arr[j]? := fun j => by
              have e1 : ((splice arr.toList (o + es.length * zy) ns).toArray)[j]? = (splice arr.toList (o + es.length * zy) ns)[j]? := by simp
              rw [e1, splice_get _ _ _ (by simp; omega)]; simp
            have hown := hS.own b (by rw [hk]; simp)
            have hp : (g.fil ftt (neTok t [d])).K b = .prot := by
              show (g.K b).fil _ _ = _
              rw [hk]; simp [Kd.fil, neTok]
            have k1 := hS.filter ftt (neTok t [d])
            have k2 := k1.modify (arr' := (splice arr.toList (o + es.length * zy) ns).toArray) hb1 hp hown.2 (fun j hj => by
              have hj' : j < g.fr b := hj
              rw [hget, if_neg (by omega)])
            have k3 := k2.claim (b := b) (m := o + (es.length + ys.length) * zy) hp hown.2 (by rw [size_setRow]; exact hown.1) (by show g.fr b ≤ _; rw [hf, Nat.add_mul]; omega)
            have k4 := k3.adoptTail (b := b) (t := [d]) hp hown.2 (by rw [size_setRow]; exact hown.1) (fun c hc => by
              have := (Gh.fil_tail.1 hc).2; simp [neTok] at this)
            refine ⟨_, _, _, hrun, k4.put ?_ hd⟩
            have hheap : (w.setRow b (splice arr.toList (o + es.length * zy) ns).toArray).heap[b]? = some (.cells (splice arr.toList (o + es.length * zy) ns).toArray T (0, 0)) := setRow_heap w b arr _ T (0, 0) hb1
            have hcell : ∀ j : Nat, (w.setRow b (splice arr.toList (o + es.length * zy) ns).toArray).cell? ⟨b, j, none⟩ = if o + es.length * zy ≤ j ∧ j < o + es.length * zy + ns.length then ns[j - (o + es.length * zy)]? else arr[j]? := fun j => by
              rw [cell_of_cells hheap, hget]
            have hx2 : Ext g.fr w (updN g.fr b (o + (es.length + ys.length) * zy)) (w.setRow b (splice arr.toList (o + es.length * zy) ns).toArray) := fun c o' ho => by
              by_cases e : c = b
              · subst e
                refine ⟨by rw [updN_same, Nat.add_mul]; omega, ?_, by rw [mapAt_cells hheap, mapAt_cells hb1]⟩
                rw [hcell, if_neg (by omega), cell_of_cells hb1]
              · exact ⟨by rw [updN_ne _ _ _ e]; exact ho, same_of_heap (heap_setRow_ne _ _ _ _ e)⟩
            simp only [RepA]
            refine ⟨?_, .inr ⟨b, o, _, cap, rfl, updN_same _ _ _, ?_, _, T, hheap, ?_⟩⟩
            · simp only [RepP]
              right
              refine ⟨b, o, cap, by rw [List.length_append], by rw [List.length_append]; exact hroom, ?_, ?_⟩
              · show _ ≤ updN g.fr b _ b
                rw [updN_same, List.length_append]; omega
              · have hsame : ∀ (j : Nat) (q : Value), os[j]? = some q → (w.setRow b (splice arr.toList (o + es.length * zy) ns).toArray).cell? ⟨b, o + j, none⟩ = some q := fun j q hj => by
                  have hjl := (List.getElem?_eq_some_iff.1 hj).1
                  have hh := o3 w (fun _ _ => rfl)
                  have hr2 := rs
                  simp only [RepP] at hr2
                  rcases hr2 with ⟨he0, _⟩ | ⟨b', o', cap'', e2, _, hf2, he2⟩
                  · subst he0
                    simp at o1
                    subst o1
                    simp at hjl
                  · injection e2 with e2 _ _
                    injection e2 with e2
                    injection e2 with e2 e3
                    subst e2; subst e3
                    obtain ⟨vs, v1, v2, _, _⟩ := he2.vals
                    have hl2 := run_loadCells_list (P := P) w ⟨b, o, none⟩ vs (fun j u hj => by rw [addr_add]; exact (v2 j u hj).2)
                    simp only [Builtin.firstCells] at hh
                    rw [← v1, hl2] at hh
                    injection hh with hh
                    have hvo : vs = os := by simpa using hh
                    subst hvo
                    have := (v2 j q hj).2
                    rw [hcell, if_neg (by omega)]
                    rwa [cell_of_cells hb1] at this
                refine RepE.append (o4 _ _ _ _ hx2 hsame) (n4 _ _ _ _ hx2 (fun j q hj => ?_))
                have hjl := (List.getElem?_eq_some_iff.1 hj).1
                rw [hcell, if_pos (by omega)]
                rw [Nat.add_sub_cancel_left]; exact hj
            · show updN g.fr b _ b = _
              rw [updN_same]
            · simp [splice]; omega
    · exact h.elim
  · exact h.elim

end Go.AM
