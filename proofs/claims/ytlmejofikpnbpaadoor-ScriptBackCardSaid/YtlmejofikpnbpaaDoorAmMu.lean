/- A part of the proof of this seat's statements, by an abstract machine: what each operation does to values, proved over the model, whatever the program. No condition beyond those that stand. -/
import Derived.Test.YtlmejofikpnbpaaDoorAmRa
import Derived.ChangeMaps4
namespace Go.AM
/-! ### A map of one's own: made, written, and then a value -/
def fz1 (t : Tok) (ks xs : List PV) : AV → AV
  | .om u a b => if u = t then .p (.mp ks xs) else .om u a b
  | .os u z es => if u = t then .p (.sl z es) else .os u z es
  | .ow u z es => if u = t then .junk else .ow u z es
  | .bb u T l => if u = t then .junk else .bb u T l
  | .tup _ => .junk
  | .gd _ _ => .junk
  | .ag _ => .junk
  | .fn _ _ => .junk
  | x => x
def fz (t : Tok) (ks xs : List PV) : AV → AV
  | .ag l => .ag (l.map (fz1 t ks xs))
  | .fn f l => .fn f (l.map (fz1 t ks xs))
  | x => fz1 t ks xs x
def St.fz (S : St) (t : Tok) (ks xs : List PV) : St :=
  { S with vs := S.vs.map fun x => (x.1, x.2.upd (AM.fz t ks xs)), ts := S.ts.map fun x => (x.1, x.2.upd (AM.fz t ks xs)), rs := S.rs.map fun x => (x.1, x.2.map (AV.upd (AM.fz t ks xs))) }
theorem St.get_fz (t : Tok) (ks xs : List PV) (S : St) (u : Nat) : (S.fz t ks xs).get u = (S.get u).upd (AM.fz t ks xs) := by
  have hk : (S.fz t ks xs).kept u = S.kept u := rfl
  unfold St.get
  rw [hk]
  have h : ∀ l : List (Nat × AV), orJunk (look (l.map fun x => (x.1, x.2.upd (AM.fz t ks xs))) u) = (orJunk (look l u)).upd (AM.fz t ks xs) := fun l => by
    rw [look_map (AV.upd (AM.fz t ks xs))]
    cases look l u <;> simp [orJunk, AV.upd, AM.fz, AM.fz1]
  split
  · exact h S.vs
  · exact h S.ts
structure KeepZ (g : Gh) (w : World) (g' : Gh) (w' : World) (t : Tok) (ks xs : List PV) : Prop where
  ext : Ext g.fr w g'.fr w'
  kr : ∀ b u, g.K b = .root u → g'.K b = .root u ∧ ∀ n, Blk w b n → Blk w' b n
  kt : ∀ b u, u ≠ t → g.K b = .tail u → g'.K b = .tail u ∧ g'.fr b = g.fr b ∧ w'.heap[b]? = w.heap[b]?
  own : ∀ b, g.K b = .tail t → ∃ arr c, mapAt w' b = some (arr, c) ∧ 0 < g'.fr b ∧ RepV g'.fr w' ks (arr.toList.map (·.key)) ∧ RepV g'.fr w' xs (arr.toList.map (·.val))
theorem RepA.fz1 {g g' : Gh} {w w' : World} {t : Tok} {ks xs : List PV} (k : KeepZ g w g' w' t ks xs) (x : AV) (v : Value) (r : RepA g w x v) : RepA g' w' (fz1 t ks xs x) v := by
  cases x with
  | p x => simp only [AM.fz1, RepA] at r ⊢; exact r.ext k.ext
  | os u z es =>
    simp only [RepA] at r
    simp only [AM.fz1]
    split
    · simp only [RepA]; exact r.1.ext k.ext
    · rename_i hu
      simp only [RepA]
      refine ⟨r.1.ext k.ext, r.2.imp id ?_⟩
      rintro ⟨b, o, len, cap, e, hk, hf, hb⟩
      obtain ⟨a1, a2, a3⟩ := k.kt b u hu hk
      exact ⟨b, o, len, cap, e, a1, a2.trans hf, Blk.of_heap a3 hb⟩
  | om u a b =>
    simp only [RepA] at r
    obtain ⟨c, arr, n, e, hk, hf, hm, r1, r2⟩ := r
    simp only [AM.fz1]
    split
    · rename_i hu
      subst hu
      obtain ⟨arr', c', h1, h2, h3, h4⟩ := k.own c hk
      simp only [RepA, RepP]
      exact ⟨c, arr', c', e, h2, h1, h3, h4⟩
    · rename_i hu
      simp only [RepA]
      obtain ⟨a1, a2, a3⟩ := k.kt c u hu hk
      exact ⟨c, arr, n, e, a1, a2.trans hf, (mapAt_of_heap a3).trans hm, r1.ext k.ext, r2.ext k.ext⟩
  | ow u z es =>
    simp only [AM.fz1]
    split
    · simp only [RepA]
    · rename_i hu
      simp only [RepA] at r ⊢
      refine r.imp id ?_
      rintro ⟨b, cap, e, hc, hk, hf, hw, he⟩
      obtain ⟨a1, a2, a3⟩ := k.kt b u hu hk
      exact ⟨b, cap, e, hc, a1, a2.trans hf, Whole.of_heap a3 hw, RepE.move k.ext (fun o => cell_of_heap a3) es 0 he⟩
  | bz u T m =>
    simp only [AM.fz1, RepA] at r ⊢
    obtain ⟨b, hk, hb, e⟩ := r
    exact ⟨b, (k.kr b u hk).1, (k.kr b u hk).2 _ hb, e⟩
  | bb u T l =>
    simp only [AM.fz1]
    split
    · simp only [RepA]
    · rename_i hu
      simp only [RepA] at r ⊢
      refine r.imp id ?_
      rintro ⟨b, cap, arr, e, hk, hf, hb, rest⟩
      obtain ⟨a1, a2, a3⟩ := k.kt b u hu hk
      exact ⟨b, cap, arr, e, a1, a2.trans hf, a3.trans hb, rest⟩
  | lp u o => simp only [AM.fz1, RepA] at r ⊢; obtain ⟨b, hk, e⟩ := r; exact ⟨b, (k.kr b u hk).1, e⟩
  | la u z o n => simp only [AM.fz1, RepA] at r ⊢; obtain ⟨b, o', cap, hk, e, hn⟩ := r; exact ⟨b, o', cap, (k.kr b u hk).1, e, hn.1, hn.2.1, (k.kr b u hk).2 _ hn.2.2⟩
  | ip z e o =>
    simp only [AM.fz1, RepA] at r ⊢
    obtain ⟨b, base, ev, hf, he⟩ := r
    exact ⟨b, base, ev, Nat.le_trans hf (k.ext.le b), RepE.ext k.ext z b [e] base (by simpa using hf) he⟩
  | _ => simp only [AM.fz1, RepA]
theorem RepA.fz {g g' : Gh} {w w' : World} {t : Tok} {ks xs : List PV} (k : KeepZ g w g' w' t ks xs) (x : AV) (v : Value) (r : RepA g w x v) : RepA g' w' (AM.fz t ks xs x) v := by
  cases x with
  | ag l =>
    simp only [AM.fz, RepA] at r ⊢
    obtain ⟨vs, e, h1, r⟩ := r
    exact ⟨vs, e, h1, RepAL.map _ (RepA.fz1 k) l _ r⟩
  | fn f l =>
    simp only [AM.fz, RepA] at r ⊢
    obtain ⟨vs, e, r⟩ := r
    exact ⟨vs, e, RepAL.map _ (RepA.fz1 k) l _ r⟩
  | _ => exact RepA.fz1 k _ v r
theorem RepA.updz {g g' : Gh} {w w' : World} {t : Tok} {ks xs : List PV} (k : KeepZ g w g' w' t ks xs) (x : AV) (v : Value) (r : RepA g w x v) : RepA g' w' (x.upd (AM.fz t ks xs)) v := by
  cases x with
  | tup l =>
    simp only [AV.upd, RepA] at r ⊢
    obtain ⟨vs, e, r⟩ := r
    exact ⟨vs, e, RepAL.map _ (RepA.fz k) l _ r⟩
  | gd c x =>
    simp only [AV.upd, RepA] at r ⊢
    exact ⟨fun hc => RepA.fz k x v (r.1 hc), r.2⟩
  | _ => exact RepA.fz k _ v r
theorem heap_setBlock {w : World} {b : Nat} {o : Obj} (h : b < w.heap.size) (c : Nat) : (Go.ChangeMaps.setBlock w b o).heap[c]? = if c = b then some o else w.heap[c]? := by
  simp only [Go.ChangeMaps.setBlock, Array.getElem?_setIfInBounds]
  by_cases e : b = c
  · subst e; simp [h]
  · rw [if_neg e, if_neg (fun e' => e e'.symm)]
theorem mapAt_map {w : World} {b : Nat} {arr : Array MapEntry} {c : Nat} (h : w.heap[b]? = some (.map arr c)) : mapAt w b = some (arr, c) := by unfold mapAt; rw [h]
theorem SR.fz [Gi] {E : Ent} {S : St} {g : Gh} {a : Act} {w : World} (h : SR E S g a w) {b : Nat} {t : Tok} (hk : g.K b = .tail t) (h0 : g.fr b = 0) {arr' : Array MapEntry} {c' : Nat} {ks xs : List PV}
    (r1 : RepV g.fr w ks (arr'.toList.map (·.key))) (r2 : RepV g.fr w xs (arr'.toList.map (·.val))) : ∃ g', SR E (S.fz t ks xs) g' a (Go.ChangeMaps.setBlock w b (.map arr' c')) := by
  have hb := h.own b (by rw [hk]; simp)
  have hheap := heap_setBlock (w := w) (b := b) (o := .map arr' c') hb.1
  have hsz : (Go.ChangeMaps.setBlock w b (.map arr' c')).heap.size = w.heap.size := by simp [Go.ChangeMaps.setBlock]
  let g' : Gh := ⟨updN g.fr b 1, updN g.K b .prot⟩
  have ne : ∀ c, c ≠ b → g'.fr c = g.fr c ∧ g'.K c = g.K c ∧ (Go.ChangeMaps.setBlock w b (.map arr' c')).heap[c]? = w.heap[c]? := fun c hc => ⟨updN_ne _ _ _ hc, updN_ne _ _ _ hc, by rw [hheap, if_neg hc]⟩
  have hext : Ext g.fr w g'.fr (Go.ChangeMaps.setBlock w b (.map arr' c')) := fun c o ho => by
    have hc : c ≠ b := fun e => by subst e; omega
    exact ⟨by rw [(ne c hc).1]; exact ho, same_of_heap (ne c hc).2.2⟩
  have kp : KeepZ g w g' (Go.ChangeMaps.setBlock w b (.map arr' c')) t ks xs := by
    refine ⟨hext, fun c u hc => ?_, fun c u hu hc => ?_, fun c hc => ?_⟩
    · have hcb : c ≠ b := fun e => by subst e; rw [hk] at hc; cases hc
      exact ⟨by rw [(ne c hcb).2.1]; exact hc, fun _ hn => Blk.of_heap (ne c hcb).2.2 hn⟩
    · have hcb : c ≠ b := fun e => by subst e; rw [hk] at hc; injection hc with hc; exact hu hc.symm
      exact ⟨by rw [(ne c hcb).2.1]; exact hc, (ne c hcb).1, keep_of_heap (ne c hcb).2.2⟩
    · have : c = b := h.ut c b t hc hk
      subst this
      exact ⟨arr', c', mapAt_map (by rw [hheap, if_pos rfl]), by show 0 < updN g.fr c 1 c; rw [updN_same]; omega, r1.ext hext, r2.ext hext⟩
  refine ⟨g', ⟨h.size, h.defers, fun u => by rw [St.get_fz]; exact RepA.updz kp _ _ (h.slots u), fun c u hc => ?_, fun c d u hc hd => ?_, fun c d u hc hd => ?_, fun c hc => ?_, fun c hc => ?_, h.ext.trans hext, h.out, by rw [hsz]; exact h.mono, fun c hc => ?_, fun c u hc hu => ⟨(kp.kr c u (h.pins c u hc hu).1).1, fun n hn => (kp.kr c u (h.pins c u hc hu).1).2 n ((h.pins c u hc hu).2 n hn)⟩⟩⟩
  · have hcb : c ≠ b := fun e => by subst e; rw [show g'.K c = .prot from updN_same _ _ _] at hc; cases hc
    rw [(ne c hcb).2.1] at hc
    obtain ⟨cs, hl, hz, arr, T, hbb, hle, hcc⟩ := h.roots c u hc
    refine ⟨cs.map (AV.upd (AM.fz t ks xs)), ?_, ((ne c hcb).1).trans hz, arr, T, (ne c hcb).2.2.trans hbb, by simpa using hle, fun j x hj => ?_⟩
    · simp only [St.fz]
      rw [lookT_map (List.map (AV.upd (AM.fz t ks xs))), hl]
      rfl
    · simp only [List.getElem?_map, Option.map_eq_some_iff] at hj
      obtain ⟨y, hy, rfl⟩ := hj
      obtain ⟨v, hv, h1, r⟩ := hcc j y hy
      exact ⟨v, hv, h1, RepA.updz kp _ _ r⟩
  · have e1 : c ≠ b := fun e => by subst e; rw [show g'.K c = .prot from updN_same _ _ _] at hc; cases hc
    have e2 : d ≠ b := fun e => by subst e; rw [show g'.K d = .prot from updN_same _ _ _] at hd; cases hd
    rw [(ne c e1).2.1] at hc; rw [(ne d e2).2.1] at hd
    exact h.ur c d u hc hd
  · have e1 : c ≠ b := fun e => by subst e; rw [show g'.K c = .prot from updN_same _ _ _] at hc; cases hc
    have e2 : d ≠ b := fun e => by subst e; rw [show g'.K d = .prot from updN_same _ _ _] at hd; cases hd
    rw [(ne c e1).2.1] at hc; rw [(ne d e2).2.1] at hd
    exact h.ut c d u hc hd
  · have e1 : c ≠ b := fun e => by subst e; exact hc (updN_same _ _ _)
    rw [(ne c e1).2.1] at hc
    exact ⟨by rw [hsz]; exact (h.own c hc).1, (h.own c hc).2⟩
  · have e1 : c ≠ b := fun e => by subst e; exact hc hb.2
    exact ⟨(ne c e1).2.2.trans (h.frame c hc).1, (ne c e1).1.trans (h.frame c hc).2⟩
  · rw [hsz] at hc
    rw [(ne c (fun e => by subst e; omega)).1]
    exact h.frb c hc
/-! ### The key that stays -/
theorem eqC_eq : ∀ {kc : List Kc} {a b : List PV}, okC kc a = true → okC kc b = true → eqC a b = true → a = b
  | [], [], [], _, _, _ => rfl
  | [], _ :: _, _, h, _, _ => by simp [okC] at h
  | [], [], _ :: _, _, h, _ => by simp [okC] at h
  | .b :: ks, [], _, h, _, _ => by simp [okC] at h
  | .i _ :: ks, [], _, h, _, _ => by simp [okC] at h
  | .s :: ks, [], _, h, _, _ => by simp [okC] at h
  | .b :: ks, _ :: _, [], _, h, _ => by simp [okC] at h
  | .i _ :: ks, _ :: _, [], _, h, _ => by simp [okC] at h
  | .s :: ks, _ :: _, [], _, h, _ => by simp [okC] at h
  | .b :: ks, x :: xs, y :: ys, h, k, e => by
    cases x <;> simp [okC] at h
    cases y <;> simp [okC] at k
    simp [eqC] at e
    rw [e.1, eqC_eq h k e.2]
  | .i _ :: ks, x :: xs, y :: ys, h, k, e => by
    cases x <;> simp [okC] at h
    cases y <;> simp [okC] at k
    simp [eqC] at e
    rw [e.1, eqC_eq h.2 k.2 e.2, h.1, k.1]
  | .s :: ks, x :: xs, y :: ys, h, k, e => by
    cases x <;> simp [okC] at h
    cases y <;> simp [okC] at k
    simp [eqC] at e
    rw [e.1, eqC_eq h k e.2]
theorem repL_bits {fr : Nat → Nat} {w : World} (n : Nat) : ∀ {kc : List Kc} {xs : List PV} {a b : List Value}, okC kc xs = true → RepL fr w xs a → RepL fr w xs b → a.length = b.length ∧ ((a.zip b).all fun (x, y) => Instr.sameBits n x y) = true
  | [], [], a, b, _, ra, rb => by simp only [RepL] at ra rb; subst ra; subst rb; exact ⟨rfl, rfl⟩
  | [], _ :: _, _, _, h, _, _ => by simp [okC] at h
  | .b :: ks, [], _, _, h, _, _ => by simp [okC] at h
  | .i _ :: ks, [], _, _, h, _, _ => by simp [okC] at h
  | .s :: ks, [], _, _, h, _, _ => by simp [okC] at h
  | .b :: ks, x :: xs, a, b, h, ra, rb => by
    cases x <;> simp [okC] at h
    simp only [RepL, RepP] at ra rb
    obtain ⟨_, a', rfl, _, rfl, ra⟩ := ra
    obtain ⟨_, b', rfl, _, rfl, rb⟩ := rb
    obtain ⟨h1, h2⟩ := repL_bits n h ra rb
    exact ⟨by simp [h1], by simp only [List.zip_cons_cons, List.all_cons, h2, Bool.and_true]; cases n <;> simp [Instr.sameBits]⟩
  | .i _ :: ks, x :: xs, a, b, h, ra, rb => by
    cases x <;> simp [okC] at h
    simp only [RepL, RepP] at ra rb
    obtain ⟨_, a', rfl, _, rfl, ra⟩ := ra
    obtain ⟨_, b', rfl, _, rfl, rb⟩ := rb
    obtain ⟨h1, h2⟩ := repL_bits n h.2 ra rb
    exact ⟨by simp [h1], by simp only [List.zip_cons_cons, List.all_cons, h2, Bool.and_true]; cases n <;> simp [Instr.sameBits]⟩
  | .s :: ks, x :: xs, a, b, h, ra, rb => by
    cases x <;> simp [okC] at h
    simp only [RepL, RepP] at ra rb
    obtain ⟨_, a', rfl, _, rfl, ra⟩ := ra
    obtain ⟨_, b', rfl, _, rfl, rb⟩ := rb
    obtain ⟨h1, h2⟩ := repL_bits n h ra rb
    exact ⟨by simp [h1], by simp only [List.zip_cons_cons, List.all_cons, h2, Bool.and_true]; cases n <;> simp [Instr.sameBits, beq_toListBytes]⟩
theorem set_self {α : Type} : ∀ {l : List α} {j : Nat} {x : α}, l[j]? = some x → l.set j x = l
  | [], j, x, h => by simp at h
  | y :: l, 0, x, h => by simp at h; subst h; rfl
  | y :: l, j + 1, x, h => by simp at h; simp [set_self h]
theorem RepV.set {fr : Nat → Nat} {w : World} : ∀ {xs : List PV} {vs : List Value} {j : Nat} {x : PV} {v : Value}, RepV fr w xs vs → RepP fr w x v → RepV fr w (xs.set j x) (vs.set j v)
  | [], vs, j, x, v, r, _ => by simp only [RepV] at r; subst r; simp [RepV]
  | y :: xs, vs, j, x, v, r, rv => by
    simp only [RepV] at r
    obtain ⟨u, vs', rfl, h1, h2⟩ := r
    cases j with
    | zero => simp only [List.set_cons_zero, RepV]; exact ⟨_, _, rfl, rv, h2⟩
    | succ j => simp only [List.set_cons_succ, RepV]; exact ⟨_, _, rfl, h1, RepV.set h2 rv⟩
theorem RepV.snoc {fr : Nat → Nat} {w : World} : ∀ {xs : List PV} {vs : List Value} {x : PV} {v : Value}, RepV fr w xs vs → RepP fr w x v → RepV fr w (xs ++ [x]) (vs ++ [v])
  | [], vs, x, v, r, rv => by simp only [RepV] at r; subst r; simp only [List.nil_append, RepV]; exact ⟨_, _, rfl, rv, rfl⟩
  | y :: xs, vs, x, v, r, rv => by
    simp only [RepV] at r
    obtain ⟨u, vs', rfl, h1, h2⟩ := r
    simp only [List.cons_append, RepV]
    exact ⟨_, _, rfl, h1, RepV.snoc h2 rv⟩
def updKs (key ks xs : List PV) : List PV := if (findP key ks xs 0).isSome then ks else ks ++ [.agg key]
def updXs (key : List PV) (x : PV) (ks xs : List PV) : List PV := match findP key ks xs 0 with
  | some (j, _) => xs.set j x
  | none => xs ++ [x]
/-- A map of one's own is written; from then on it is a value. -/
def mapUpdE (P : Program) (S : St) (T : TypeId) (m k x : AV) : Prop × St :=
  match ty P T with
  | some ⟨.map kt _, _, _, _⟩ =>
    match kindsOf P kt, m, k, x with
    | some kc, .om t ks xs, .p (.agg key), .p y => ((okC kc key = true ∧ ks.all (keyOK kc) = true), S.fz t (updKs key ks xs) (updXs key y ks xs))
    | _, _, _, _ => (False, S)
  | _ => (False, S)
theorem modify_set {α : Type} (f : α → α) : ∀ {l : List α} {j : Nat} {e : α}, l[j]? = some e → l.modify j f = l.set j (f e)
  | [], j, e, h => by simp at h
  | x :: l, 0, e, h => by simp at h; subst h; simp
  | x :: l, j + 1, e, h => by simp at h; simp [modify_set f h]
theorem mapUpdE_sound [Gi] {P : Program} {E : Ent} {S : St} {g : Gh} {a : Act} {w : World} (hS : SR E S g a w) {T : TypeId} {m k x : AV} {vm vk vx : Value} (h : (mapUpdE P S T m k x).1) (rm : RepA g w m vm) (rk : RepA g w k vk) (rx : RepA g w x vx) :
    ∃ w' g', (Instr.mapUpdate T vm vk vx).run P w = .ok () w' ∧ SR E (mapUpdE P S T m k x).2 g' a w' := by
  unfold mapUpdE at h ⊢
  split at h
  · rename_i kt et sz by_ ze hT
    have hu := ty_underlying w hT
    simp only [] at hu
    split at h
    · rename_i kc t ks xs key y hk
      obtain ⟨hkey, hall⟩ := h
      simp only [RepA] at rm
      obtain ⟨b, arr, c, rfl, hK, h0, hm, r1, r2⟩ := rm
      have hb : w.heap[b]? = some (.map arr c) := by
        unfold mapAt at hm
        split at hm
        · rename_i e c' hb; injection hm with hm; injection hm with h1 h2; subst h1; subst h2; exact hb
        · cases hm
      simp only [RepA, RepP] at rk rx
      obtain ⟨p, rfl, rp⟩ := rk
      obtain ⟨h8, fs, hfs⟩ := kindsOf_spec hk
      have hck : (Instr.checkKey false 10000 kt (.agg p)).run P w = .ok () w := kinds_key false 9992 8 kt kc key (.agg p) p.toList h8 hkey rp (stands_agg hfs p)
      obtain ⟨r, hr, hf⟩ := findKey_sound (P := P) hk hkey rp hall r1 r2
      have rkey : RepP g.fr w (.agg key) (.agg p) := by simp only [RepP]; exact ⟨p, rfl, rp⟩
      rcases hf with ⟨hf, rfl⟩ | ⟨j, z, zv, hf, rfl, _, _, e, he, ys, hys, heq⟩
      · have hrun : (Instr.mapUpdate T (.map (some b)) (.agg p) vx).run P w = .ok () (Go.ChangeMaps.setBlock w b (.map (arr.push { key := .agg p, val := vx, born := c }) (c + 1))) := by
          unfold Instr.mapUpdate
          simp only [Sem.run_bind, hu, Result.andThen_ok, MapKept.run_getObj_map hb, hck, hr]
          exact MapKept.run_setObj_map _ hb
        obtain ⟨g', hs⟩ := hS.fz hK h0 (arr' := arr.push { key := .agg p, val := vx, born := c }) (c' := c + 1) (ks := updKs key ks xs) (xs := updXs key y ks xs)
          (by unfold updKs; rw [hf]; simpa using r1.snoc rkey) (by unfold updXs; rw [hf]; simpa using r2.snoc rx)
        exact ⟨_, g', hrun, hs⟩
      · have hj : arr[j]? = some e := by simpa using he
        have hek : RepP g.fr w (.agg ys) e.key := by
          have : ∀ {l : List PV} {vs : List Value} {i : Nat} {q : PV} {v : Value}, RepV g.fr w l vs → l[i]? = some q → vs[i]? = some v → RepP g.fr w q v := by
            intro l
            induction l with
            | nil => intro vs i q v _ hq _; simp at hq
            | cons y l ih =>
              intro vs i q v r hq hv
              simp only [RepV] at r
              obtain ⟨u, vs', rfl, h1, h2⟩ := r
              cases i with
              | zero => simp at hq hv; subst hq; subst hv; exact h1
              | succ i => exact ih h2 (by simpa using hq) (by simpa using hv)
          exact this r1 hys (by simp [hj])
        simp only [RepP] at hek
        obtain ⟨q, hq, rq⟩ := hek
        have hyk : okC kc ys = true := by
          have := List.all_eq_true.1 hall _ (List.mem_of_getElem? hys)
          exact this
        have hke : key = ys := eqC_eq hkey hyk heq
        subst hke
        have hbits := repL_bits 9999 hkey rq rp
        have hstay : (Instr.keyThatStays e.key (.agg p)).run P w = .ok (.agg p) w := by
          unfold Instr.keyThatStays
          rw [hq]
          have : Instr.sameBits 10000 (.agg q) (.agg p) = true := by
            have hs : q.size = p.size := by simpa using hbits.1
            show (q.size == p.size && _) = true
            simp [hs]
            have := hbits.2
            intro x y hxy
            exact (List.all_eq_true.1 this (x, y) hxy)
          rw [if_pos this]; rfl
        have hrun : (Instr.mapUpdate T (.map (some b)) (.agg p) vx).run P w = .ok () (Go.ChangeMaps.setBlock w b (.map (arr.modify j fun e => { e with key := .agg p, val := vx }) c)) := by
          unfold Instr.mapUpdate
          simp only [Sem.run_bind, hu, Result.andThen_ok, MapKept.run_getObj_map hb, hck, hr, hj, Option.map_some, Option.getD_some, hstay]
          exact MapKept.run_setObj_map _ hb
        have hmod : (arr.modify j fun e => { e with key := .agg p, val := vx }).toList = arr.toList.set j { e with key := .agg p, val := vx } := by
          rw [Array.toList_modify, modify_set _ he]
        obtain ⟨g', hs⟩ := hS.fz hK h0 (arr' := arr.modify j fun e => { e with key := .agg p, val := vx }) (c' := c) (ks := updKs key ks xs) (xs := updXs key y ks xs)
          (by
            unfold updKs; rw [hf, hmod]
            simp only [Option.isSome_some, if_true, List.map_set]
            have := r1.set (j := j) rkey
            rwa [set_self hys] at this) (by unfold updXs; rw [hf, hmod]; simp only [List.map_set]; exact r2.set rx)
        exact ⟨_, g', hrun, hs⟩
    · exact h.elim
  · exact h.elim
/-- A new map. -/
def makeMapD (S : St) (d : Nat) : Prop × St := (d < S.n, (S.fil ftt (neTok [d] [d])).set d (.om [d] [] []))
theorem makeMapD_sound [Gi] {P : Program} {E : Ent} {S : St} {g : Gh} {a : Act} {w : World} (hS : SR E S g a w) {T : TypeId} {d : Nat} (h : (makeMapD S d).1) :
    ∃ r w' g', (Instr.makeMap T none).run P w = .ok r w' ∧ SR E (makeMapD S d).2 g' (a.put (some d) r) w' := by
  have h1 := (hS.filter ftt (neTok [d] [d])).alloc (.map #[] 0)
  have hp : (g.fil ftt (neTok [d] [d])).K w.heap.size = .prot := by
    rcases Classical.em ((g.fil ftt (neTok [d] [d])).K w.heap.size = .prot) with e | e
    · exact e
    · have := ((hS.filter ftt (neTok [d] [d])).own _ e).1; omega
  have h2 := h1.adoptTail (b := w.heap.size) (t := [d]) hp (.inl hS.mono) (by simp) (fun c hc => by
    have := (Gh.fil_tail.1 hc).2
    simp [neTok] at this)
  refine ⟨.map (some w.heap.size), w.alloc (.map #[] 0), _, rfl, h2.put ?_ h⟩
  simp only [RepA]
  exact ⟨w.heap.size, #[], 0, rfl, updN_same _ _ _, hS.frb _ (Nat.le_refl _), mapAt_map (by rw [heap_alloc, if_pos rfl]), by simp [RepV], by simp [RepV]⟩
end Go.AM
