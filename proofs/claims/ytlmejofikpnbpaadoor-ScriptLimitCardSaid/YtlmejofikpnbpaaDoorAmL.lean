/- A part of the proof of this seat's statements, by an abstract machine: what each operation does to values, proved over the model, whatever the program. No condition beyond those that stand. -/
import Derived.Test.YtlmejofikpnbpaaDoorAmK
import Derived.Laws.Append
namespace Go.AM

theorem list_append_get {α : Type} {xs ys : List α} {j : Nat} {v : α} (h : (xs ++ ys)[j]? = some v) : xs[j]? = some v ∨ (xs.length ≤ j ∧ ys[j - xs.length]? = some v) := by
  rw [List.getElem?_append] at h
  split at h
  · exact .inl h
  · exact .inr ⟨by omega, h⟩

/-- The cells of a slice's elements, and that they say the same wherever they stand. -/
theorem RepE.vals {fr : Nat → Nat} {w : World} {z b : Nat} : ∀ {es : List PV} {o : Nat}, RepE fr w z b es o →
    ∃ vs : List Value, vs.length = es.length * z ∧ (∀ (j : Nat) (v : Value), vs[j]? = some v → v.oneCell' = true ∧ w.cell? ⟨b, o + j, none⟩ = some v) ∧
      (es.all PV.fits = true → RepL fr w (es.flatMap PV.cells) vs) ∧
      ∀ (fr' : Nat → Nat) (w' : World) (b' o' : Nat), Ext fr w fr' w' → (∀ (j : Nat) (v : Value), vs[j]? = some v → w'.cell? ⟨b', o' + j, none⟩ = some v) → RepE fr' w' z b' es o'
  | [], o, _ => ⟨[], by simp, by simp, by simp [RepL], fun _ _ _ _ _ _ => by simp [RepE]⟩
  | e :: es, o, r => by
    simp only [RepE] at r
    obtain ⟨⟨v, h1, h2, h3⟩, h4⟩ := r
    obtain ⟨vs, k1, k2, kf, k3⟩ := RepE.vals h4
    refine ⟨v.cells.toList ++ vs, ?_, fun j u hu => ?_, fun hf => ?_, fun fr' w' b' o' hx hc => ?_⟩
    · simp [k1, h2, Nat.add_mul]; omega
    · rcases list_append_get hu with h | ⟨hj, h⟩
      · exact h3 j u (by simpa using h)
      · have := k2 _ u h
        simp only [Array.length_toList, h2] at hj this
        have e1 : o + z + (j - z) = o + j := by omega
        rwa [e1] at this
    · simp only [List.all_cons, Bool.and_eq_true] at hf
      simp only [List.flatMap_cons]
      exact (RepP.cells hf.1 h1).append (kf hf.2)
    · simp only [RepE]
      refine ⟨⟨v, h1.ext hx, h2, fun j c hj => ⟨(h3 j c hj).1, ?_⟩⟩, k3 fr' w' b' (o' + z) hx (fun j u hu => ?_)⟩
      · refine hc j c ?_
        have hjl := (Array.getElem?_eq_some_iff.1 hj).1
        rw [List.getElem?_append_left (by simpa using hjl)]
        simpa using hj
      · have := hc (z + j) u (by
          rw [List.getElem?_append_right (by simp [h2])]
          simpa [h2] using hu)
        rwa [← Nat.add_assoc] at this

/-- The cells of a slice that is read. -/
theorem RepP.slCells {fr : Nat → Nat} {w : World} {z : Nat} {es : List PV} {v : Value} (r : RepP fr w (.sl z es) v) (P : Program) :
    ∃ vs : List Value, vs.length = es.length * z ∧ (∀ u ∈ vs, u.oneCell' = true) ∧ (∀ w', (∀ b o, w'.cell? ⟨b, o, none⟩ = w.cell? ⟨b, o, none⟩) → (Builtin.firstCells z es.length v).run P w' = .ok vs.toArray w') ∧ (es.all PV.fits = true → RepL fr w (es.flatMap PV.cells) vs) ∧
      (∀ w' k, k ≤ es.length → (∀ b o, w'.cell? ⟨b, o, none⟩ = w.cell? ⟨b, o, none⟩) → (Builtin.firstCells z k v).run P w' = .ok (vs.take (k * z)).toArray w') ∧
      ∀ (fr' : Nat → Nat) (w' : World) (b' o' : Nat), Ext fr w fr' w' → (∀ (j : Nat) (v : Value), vs[j]? = some v → w'.cell? ⟨b', o' + j, none⟩ = some v) → RepE fr' w' z b' es o' := by
  simp only [RepP] at r
  rcases r with ⟨rfl, a0, cap0, rfl⟩ | ⟨b, o, cap, rfl, _, hf, he⟩
  · have h0 : ∀ w', (Builtin.firstCells z 0 (.slice a0 0 cap0)).run P w' = .ok #[] w' := fun w' => by
      cases a0 <;> simp [Builtin.firstCells, loadCells, loadCellsFrom]
    exact ⟨[], by simp, by simp, fun w' _ => h0 w', by simp [RepL], fun w' k hk _ => by
      have : k = 0 := by simpa using hk
      subst this
      simpa using h0 w', fun _ _ _ _ _ _ => by simp [RepE]⟩
  · obtain ⟨vs, k1, k2, kf, k3⟩ := he.vals
    refine ⟨vs, k1, fun u hu => ?_, fun w' hw => ?_, kf, fun w' k hk hw => ?_, k3⟩
    · obtain ⟨j, hj⟩ := List.mem_iff_getElem?.1 hu
      exact (k2 j u hj).1
    · simp only [Builtin.firstCells]
      rw [← k1]
      refine run_loadCells_list w' ⟨b, o, none⟩ vs (fun j u hj => ?_)
      rw [addr_add, hw b (o + j)]
      exact (k2 j u hj).2
    · simp only [Builtin.firstCells]
      have hkl : k * z ≤ vs.length := by rw [k1]; exact Nat.mul_le_mul_right _ hk
      have := run_loadCells_list (P := P) w' ⟨b, o, none⟩ (vs.take (k * z)) (fun j u hj => by
        have hj' : vs[j]? = some u := by
          rw [List.getElem?_take] at hj
          split at hj
          · exact hj
          · cases hj
        rw [addr_add, hw b (o + j)]
        exact (k2 j u hj').2)
      rwa [show (vs.take (k * z)).length = k * z from by simp; omega] at this

/-- What is appended: the elements of a slice, the bytes of a string. -/
def srcA : AV → Option (Nat × List PV)
  | .p (.sl z ys) => some (z, ys)
  | .os _ z ys => some (z, ys)
  | .p (.str s) => some (1, s.map fun c => .int .u8 c.toNat)
  | _ => none
/-- A value whose first cells are elements that can be laid elsewhere. -/
def Src (P : Program) (fr : Nat → Nat) (w : World) (z : Nat) (ys : List PV) (v : Value) : Prop :=
  (∀ w', (Builtin.lenOf v).run P w' = .ok ys.length w') ∧
    ∃ vs : List Value, vs.length = ys.length * z ∧ (∀ u ∈ vs, u.oneCell' = true) ∧ (∀ w', (∀ b o, w'.cell? ⟨b, o, none⟩ = w.cell? ⟨b, o, none⟩) → (Builtin.firstCells z ys.length v).run P w' = .ok vs.toArray w') ∧ (ys.all PV.fits = true → RepL fr w (ys.flatMap PV.cells) vs) ∧
      (∀ w' k, k ≤ ys.length → (∀ b o, w'.cell? ⟨b, o, none⟩ = w.cell? ⟨b, o, none⟩) → (Builtin.firstCells z k v).run P w' = .ok (vs.take (k * z)).toArray w') ∧
      ∀ (fr' : Nat → Nat) (w' : World) (b' o' : Nat), Ext fr w fr' w' → (∀ (j : Nat) (v : Value), vs[j]? = some v → w'.cell? ⟨b', o' + j, none⟩ = some v) → RepE fr' w' z b' ys o'
theorem Src.sl {P : Program} {fr : Nat → Nat} {w : World} {z : Nat} {ys : List PV} {v : Value} (r : RepP fr w (.sl z ys) v) : Src P fr w z ys v := by
  obtain ⟨base, cap, e, _⟩ := slice_shape r
  exact ⟨fun w' => by rw [e]; rfl, r.slCells P⟩
theorem RepE_bytes {fr : Nat → Nat} {w : World} {b : Nat} : ∀ {s : List UInt8} {o : Nat}, (∀ (j : Nat) (v : Value), (s.map fun c => Value.int .u8 (c.toNat : Int))[j]? = some v → w.cell? ⟨b, o + j, none⟩ = some v) →
    RepE fr w 1 b (s.map fun c => .int .u8 (c.toNat : Int)) o
  | [], o, _ => by simp [RepE]
  | c :: s, o, hc => by
    simp only [List.map_cons, RepE]
    refine ⟨⟨.int .u8 c.toNat, by simp only [RepP], rfl, fun j u hj => ?_⟩, RepE_bytes (fun j u hu => ?_)⟩
    · cases j with
      | zero => simp [Value.cells] at hj; subst hj; exact ⟨rfl, hc 0 _ (by simp)⟩
      | succ j => simp [Value.cells] at hj
    · have := hc (j + 1) u (by simpa using hu)
      rwa [show o + (j + 1) = o + 1 + j from by omega] at this
theorem srcA_sound {P : Program} {g : Gh} {w : World} {x : AV} {z : Nat} {ys : List PV} {v : Value} (h : srcA x = some (z, ys)) (r : RepA g w x v) : Src P g.fr w z ys v := by
  unfold srcA at h
  split at h
  · simp only [Option.some.injEq, Prod.mk.injEq] at h; obtain ⟨rfl, rfl⟩ := h
    simp only [RepA] at r; exact Src.sl r
  · simp only [Option.some.injEq, Prod.mk.injEq] at h; obtain ⟨rfl, rfl⟩ := h
    simp only [RepA] at r; exact Src.sl r.1
  · rename_i s
    simp only [Option.some.injEq, Prod.mk.injEq] at h; obtain ⟨rfl, rfl⟩ := h
    simp only [RepA, RepP] at r; subst r
    refine ⟨fun w' => by simp [Builtin.lenOf, ByteArray.size], s.map fun c => .int .u8 c.toNat, by simp, by simp [Value.oneCell'], fun w' _ => ?_, fun _ => ?_, fun w' k hk _ => ?_, fun fr' w' b' o' _ hc => RepE_bytes hc⟩
    · simp only [Builtin.firstCells, Sem.run_pure]
      have : (⟨s.toArray⟩ : ByteArray).extract 0 (s.map fun c => PV.int .u8 c.toNat).length = ⟨s.toArray⟩ := by
        rw [ext_list _ _ _ (by omega) (by simp)]; simp
      rw [this]; simp
    · have hb : ∀ l : List UInt8, RepL g.fr w ((l.map fun c => PV.int .u8 (c.toNat : Int)).flatMap PV.cells) (l.map fun c => Value.int .u8 (c.toNat : Int)) := by
        intro l
        induction l with
        | nil => simp [RepL]
        | cons c l ih =>
          simp only [List.map_cons, List.flatMap_cons, PV.cells, List.singleton_append, RepL]
          exact ⟨_, _, rfl, rfl, by simp only [RepP], ih⟩
      exact hb s
    · simp only [Builtin.firstCells, Sem.run_pure]
      have : (⟨s.toArray⟩ : ByteArray).extract 0 k = ⟨(s.take k).toArray⟩ := by
        rw [ext_list _ _ _ (by omega) (by simpa using hk)]; simp
      rw [this]; simp
  · cases h

/-- A slice of the frame's own, its elements of one cell. -/
def srcS (S : St) (x : AV) : Option (Prop × Nat × List PV) :=
  match x with
  | .la t z o n =>
    match lookT S.rs t with
    | some cs => match allP ((cs.drop o).take n) with
      | some ys => some ((z = 1 ∧ ys.length = n ∧ ys.all PV.one = true), 1, ys)
      | none => none
    | none => none
  | x => match srcA x with
    | some (z, ys) => some (True, z, ys)
    | none => none
theorem fits_of_one {x : PV} (h : x.one = true) : x.fits = true ∧ x.cells = [x] := by
  cases x <;> first | (cases h; done) | exact ⟨rfl, rfl⟩ | exact ⟨h, rfl⟩
theorem srcS_sound [Gi] {P : Program} {E : Ent} {S : St} {g : Gh} {a : Act} {w : World} (hS : SR E S g a w) {x : AV} {c : Prop} {z : Nat} {ys : List PV} {v : Value} (e : srcS S x = some (c, z, ys)) (hc : c) (r : RepA g w x v) : Src P g.fr w z ys v := by
  unfold srcS at e
  split at e
  · rename_i t z' o n
    simp only [RepA] at r
    obtain ⟨b, o', cap, hk, rfl, hcap, ho, _⟩ := r
    obtain ⟨cs, hl, h0, arr, T, hb, hle, hcs⟩ := hS.roots b t hk
    simp only [hl] at e
    cases hx : allP ((cs.drop o).take n) with
    | none => simp only [hx] at e; cases e
    | some ys' =>
      simp only [hx, Option.some.injEq, Prod.mk.injEq] at e
      obtain ⟨rfl, rfl, rfl⟩ := e
      obtain ⟨_, hn, hone⟩ := hc
      have he := allP_spec hx
      have hget : ∀ (j : Nat) (y : PV), ys'[j]? = some y → cs[o + j]? = some (.p y) := by
        intro j y hj
        have hjl : j < n := by have := (List.getElem?_eq_some_iff.1 hj).1; omega
        have := congrArg (·[j]?) he
        simp only [List.getElem?_take, hjl, if_true, List.getElem?_drop, List.getElem?_map, hj, Option.map_some] at this
        exact this
      have hcell : ∀ (j : Nat) (y : PV), ys'[j]? = some y → ∃ u, arr[o + j]? = some u ∧ u.oneCell' = true ∧ RepP g.fr w y u := by
        intro j y hj
        obtain ⟨u, hu, h1, hr⟩ := hcs _ _ (hget j y hj)
        simp only [RepA] at hr
        exact ⟨u, hu, h1, hr⟩
      -- the values
      have key : ∀ (l : List PV) (k : Nat), (∀ (j : Nat) (y : PV), l[j]? = some y → ∃ u, arr[o + k + j]? = some u ∧ u.oneCell' = true ∧ RepP g.fr w y u) → l.all PV.one = true →
          ∃ vs : List Value, vs.length = l.length ∧ (∀ u ∈ vs, u.oneCell' = true) ∧ (∀ (j : Nat) (u : Value), vs[j]? = some u → arr[o + k + j]? = some u) ∧ RepL g.fr w (l.flatMap PV.cells) vs ∧
            ∀ (fr' : Nat → Nat) (w' : World) (b' o' : Nat), Ext g.fr w fr' w' → (∀ (j : Nat) (v : Value), vs[j]? = some v → w'.cell? ⟨b', o' + j, none⟩ = some v) → RepE fr' w' 1 b' l o' := by
        intro l
        induction l with
        | nil => intro k _ _; exact ⟨[], rfl, by simp, by simp, by simp [RepL], fun _ _ _ _ _ _ => by simp [RepE]⟩
        | cons y l ih =>
          intro k hh hall
          simp only [List.all_cons, Bool.and_eq_true] at hall
          obtain ⟨u, hu, h1, hr⟩ := hh 0 y rfl
          obtain ⟨vs, v1, v2, v3, v4, v5⟩ := ih (k + 1) (fun j q hj => by
            have := hh (j + 1) q (by simpa using hj)
            rwa [show o + k + (j + 1) = o + (k + 1) + j from by omega] at this) hall.2
          have hyc := (fits_of_one hall.1).2
          refine ⟨u :: vs, by simp [v1], fun q hq => ?_, fun j q hj => ?_, ?_, fun fr' w' b' o' hx hc => ?_⟩
          · rcases List.mem_cons.1 hq with rfl | hq
            · exact h1
            · exact v2 q hq
          · cases j with
            | zero => simp at hj; subst hj; simpa using hu
            | succ j =>
              have := v3 j q (by simpa using hj)
              rwa [show o + k + (j + 1) = o + (k + 1) + j from by omega]
          · simp only [List.flatMap_cons, hyc, List.singleton_append, RepL]
            exact ⟨u, vs, rfl, h1, hr, v4⟩
          · simp only [RepE]
            have hcu := cells_of_one h1
            refine ⟨⟨u, hr.ext hx, by rw [hcu]; rfl, fun j q hj => ?_⟩, v5 fr' w' b' (o' + 1) hx (fun j q hj => ?_)⟩
            · rw [hcu] at hj
              cases j with
              | zero => simp at hj; subst hj; exact ⟨h1, hc 0 _ rfl⟩
              | succ j => simp at hj
            · have := hc (j + 1) q (by simpa using hj)
              rwa [show o' + (j + 1) = o' + 1 + j from by omega] at this
      obtain ⟨vs, v1, v2, v3, v4, v5⟩ := key ys' 0 (fun j y hj => by simpa using hcell j y hj) hone
      have hfirst : ∀ w' k, k ≤ ys'.length → (∀ b o, w'.cell? ⟨b, o, none⟩ = w.cell? ⟨b, o, none⟩) → (Builtin.firstCells 1 k (.slice (some ⟨b, o', none⟩) n cap)).run P w' = .ok (vs.take (k * 1)).toArray w' := by
        intro w' k hk hw
        simp only [Builtin.firstCells]
        rcases Nat.eq_zero_or_pos k with hz | hz
        · subst hz; simp [loadCells, loadCellsFrom]
        · have ho' : o' = o := ho.resolve_left (by omega)
          subst ho'
          have := run_loadCells_list (P := P) w' ⟨b, o', none⟩ (vs.take (k * 1)) (fun j u hj => by
            have hj' : vs[j]? = some u := by
              rw [List.getElem?_take] at hj
              split at hj
              · exact hj
              · cases hj
            rw [addr_add, hw b (o' + j), cell_of_cells hb]
            simpa using v3 j u hj')
          rwa [show (vs.take (k * 1)).length = k * 1 from by simp; omega] at this
      refine ⟨fun w' => by simp [Builtin.lenOf, hn], vs, by omega, v2, fun w' hw => ?_, fun _ => v4, hfirst, v5⟩
      have := hfirst w' ys'.length (Nat.le_refl _) hw
      rwa [List.take_of_length_le (by omega)] at this
  · split at e
    · rename_i z' ys' h
      simp only [Option.some.injEq, Prod.mk.injEq] at e
      obtain ⟨rfl, rfl, rfl⟩ := e
      exact srcA_sound h r
    · cases e

theorem run_choose_cap {P : Program} {w : World} (need old : Nat) (e : TypeId) : ∃ n, need ≤ n ∧ (choose (.appendCap need old e)).run P w = .ok n { w with drawn := w.drawn + 1 } := by
  refine ⟨_, ?_, by simp [Question.forced]; rfl⟩
  simp [Question.cut]

def isSrcD : TypeDesc → Bool
  | .slice _ => true
  | .string => true
  | _ => false
theorem run_append_grow' {P : Program} {w : World} {sT xT tt e : TypeId} {D X T : Ty} (hT : ty P sT = some D) (hD : D.desc = .slice e) (hX : ty P xT = some X) (hXi : isSrcD X.desc = true) (hE : ty P e = some T)
    {zs : List PV} (hz : T.zero = some zs) {base : Option Addr} {len cap n : Nat} {x : Value} (hl : ∀ w, (Builtin.lenOf x).run P w = .ok n w) (hgrow : cap < len + n) (hb : 0 < T.bytes) (hfit : (len + n) * T.bytes ≤ 140737488355328)
    {os ns : List Value} (ho : ∀ w', (∀ b o, w'.cell? ⟨b, o, none⟩ = w.cell? ⟨b, o, none⟩) → (Builtin.firstCells T.size len (.slice base len cap)).run P w' = .ok os.toArray w')
    (hn : ∀ w', (∀ b o, w'.cell? ⟨b, o, none⟩ = w.cell? ⟨b, o, none⟩) → (Builtin.firstCells T.size n x).run P w' = .ok ns.toArray w') :
    ∃ ncap rest, len + n ≤ ncap ∧ rest.length = (ncap - (len + n)) * zs.length ∧
      (Builtin.append_ #[sT, xT] tt #[.slice base len cap, x]).run P w =
        .ok (.slice (some ⟨w.heap.size, 0, none⟩) (len + n) ncap) (w.drew.alloc (.cells (os ++ ns ++ rest).toArray e)) := by
  have hu := fun w => ty_underlying (P := P) w hT
  rw [hD] at hu
  have hux := fun w => ty_underlying (P := P) w hX
  have hs := fun w => ty_size (P := P) w hE
  obtain ⟨i, hi, hib⟩ := ty_info hE
  obtain ⟨zv, hz1, hz2⟩ := ty_zero hE hz
  have hzl : zv.cells.size = zs.length := by rw [← hz2]; simp
  have ho' := ho w.drew (fun _ _ => rfl)
  have hn' := hn w.drew (fun _ _ => rfl)
  have hle : len + n ≤ grownCap w (len + n) cap e := by simp [grownCap, Question.cut]
  refine ⟨grownCap w (len + n) cap e, (Builtin.zeroCells zv.cells (grownCap w (len + n) cap e - (len + n))).toList, hle, by simp [Builtin.zeroCells, hzl], ?_⟩
  have h48 : ¬ (281474976710656 < Builtin.nextslicecap (len + n) cap * i.bytes) := by
    rw [hib]
    have := growslice_fits hgrow hfit
    omega
  have hib0 : i.bytes ≠ 0 := by omega
  have hg : ¬ (len + n ≤ cap) := by omega
  have hq : (∃ k, X.desc = .slice k) ∨ X.desc = .string := by
    cases hq : X.desc <;> simp [hq, isSrcD] at hXi <;> simp
  rcases hq with ⟨k, hq⟩ | hq
  · rw [hq] at hux
    simp [Builtin.append_, hu, hux, hs, hl, hi, hz1, hg, h48, hib0, Question.forced, ho', hn', newRow, grownCap]
    congr 2
    apply Array.ext'
    simp
  · rw [hq] at hux
    simp [Builtin.append_, hu, hux, hs, hl, hi, hz1, hg, h48, hib0, Question.forced, ho', hn', newRow, grownCap]
    congr 2
    apply Array.ext'
    simp
theorem run_append_room' {P : Program} {w w' : World} {sT xT tt e : TypeId} {D X T : Ty} (hT : ty P sT = some D) (hD : D.desc = .slice e) (hX : ty P xT = some X) (hXi : isSrcD X.desc = true) (hE : ty P e = some T)
    {base : Option Addr} {len cap n : Nat} {x : Value} (hl : ∀ w, (Builtin.lenOf x).run P w = .ok n w) (hroom : len + n ≤ cap)
    {ns : List Value} (hn : (Builtin.firstCells T.size n x).run P w = .ok ns.toArray w)
    (hst : match base with | some a => (storeCells (a.add (len * T.size)) ns).run P w = .ok () w' | none => w' = w) :
    (Builtin.append_ #[sT, xT] tt #[.slice base len cap, x]).run P w = .ok (.slice base (len + n) cap) w' := by
  have hu := fun w => ty_underlying (P := P) w hT
  rw [hD] at hu
  have hux := fun w => ty_underlying (P := P) w hX
  have hs := fun w => ty_size (P := P) w hE
  have hq : (∃ k, X.desc = .slice k) ∨ X.desc = .string := by
    cases hq : X.desc <;> simp [hq, isSrcD] at hXi <;> simp
  rcases hq with ⟨k, hq⟩ | hq <;> rw [hq] at hux <;> cases base with
  | none => simp only [] at hst; subst hst; simp [Builtin.append_, hu, hux, hs, hl, hroom, hn]
  | some a => simp only [] at hst; simp [Builtin.append_, hu, hux, hs, hl, hroom, hn, hst]

end Go.AM
