/- script.Parse, as a contract of the abstract machine. Conditions: as each law says. -/
import Derived.Test.YtlmejofikpnbpaaDoorChecked
import Derived.Test.YtlmejofikpnbpaaDoorShelf
import Derived.RangeFuncBox
import Derived.RangeFuncLeaves
import Derived.Shelf.Abstract
import Derived.WalkKit
import Derived.OwnWalkIn
import Derived.TacticsInMore
import Derived.LoopNIn
import Derived.LoopIn
import Derived.Lib.IndexLaws
import Derived.Test.YtlmejofikpnbpaaDoorC1
import Derived.Test.YtlmejofikpnbpaaDoorAmRf
namespace Go.Proofs.YtlmejofikpnbpaaDoor
open Go.RowKit Go.Shelf
set_option maxHeartbeats 4000000
set_option maxRecDepth 100000
attribute [local go_sem] Oper.semAt_some
/-- A text's pieces between bytes of one kind. -/
def splitB (c : UInt8) : List UInt8 → List (List UInt8)
  | [] => [[]]
  | b :: r => if b = c then [] :: splitB c r else match splitB c r with
    | [] => [[b]]
    | p :: ps => (b :: p) :: ps
theorem splitB_ne (c : UInt8) : ∀ s, splitB c s ≠ []
  | [] => by simp [splitB]
  | b :: r => by
    unfold splitB
    split
    · simp
    · split <;> simp
theorem splitB_none {c : UInt8} : ∀ {s : List UInt8}, Lib.indexByte s c = -1 → splitB c s = [s]
  | [], _ => rfl
  | b :: r, h => by
    unfold Lib.indexByte at h
    by_cases hb : (b == c) = true
    · rw [if_pos hb] at h; cases h
    · rw [if_neg hb] at h
      have hr : Lib.indexByte r c = -1 := by
        by_cases e : (Lib.indexByte r c == -1) = true
        · simpa using e
        · rw [if_neg e] at h
          have := Lib.indexByte_ge r c
          have e' : ¬ Lib.indexByte r c = -1 := by simpa using e
          exfalso; omega
      have hbc : ¬ b = c := by simpa using hb
      unfold splitB
      rw [if_neg hbc, splitB_none hr]
theorem splitB_some {c : UInt8} : ∀ {s : List UInt8} {k : Nat}, Lib.indexByte s c = k → splitB c s = s.take k :: splitB c (s.drop (k + 1))
  | [], k, h => by simp [Lib.indexByte] at h
  | b :: r, k, h => by
    unfold Lib.indexByte at h
    by_cases hb : (b == c) = true
    · rw [if_pos hb] at h
      have : k = 0 := by omega
      subst this
      have hbc : b = c := by simpa using hb
      simp [splitB, hbc]
    · rw [if_neg hb] at h
      by_cases e : (Lib.indexByte r c == -1) = true
      · rw [if_pos e] at h; exfalso; omega
      · rw [if_neg e] at h
        have e' : ¬ Lib.indexByte r c = -1 := by simpa using e
        have hge := Lib.indexByte_ge r c
        obtain ⟨j, rfl⟩ : ∃ j, k = j + 1 := ⟨k - 1, by omega⟩
        have hbc : ¬ b = c := by simpa using hb
        have := splitB_some (c := c) (s := r) (k := j) (by omega)
        conv => lhs; unfold splitB
        rw [if_neg hbc, this]
        simp
theorem index_le (l : List UInt8) (c : UInt8) : Lib.indexByte l c < l.length := by
  by_cases h : Lib.indexByte l c < 0
  · omega
  · obtain ⟨k, hk⟩ : ∃ k : Nat, Lib.indexByte l c = k := ⟨(Lib.indexByte l c).toNat, by omega⟩
    have h1 := (Lib.indexByte_some hk).1
    have := (List.getElem?_eq_some_iff.1 h1).1
    omega
theorem bytes_ext {a b : ByteArray} (h : a.data.toList = b.data.toList) : a = b := by
  cases a; cases b; congr; exact Array.toList_inj.1 h
/-- What the iterator reads and writes. -/
structure Boxes (b1 b2 b3 : Nat) (c : UInt8) (s : List UInt8) (w : World) : Prop where
  h1 : w.cell? ⟨b1, 0, none⟩ = some (.string ⟨#[c]⟩)
  h2 : w.cell? ⟨b2, 0, none⟩ = some (.string ⟨s.toArray⟩)
  f2 : w.frozen? ⟨b2, 0, none⟩ = false
  h3 : w.cell? ⟨b3, 0, none⟩ = some (.int .i64 0)
theorem Boxes.keep {b1 b2 b3 : Nat} {c : UInt8} {s : List UInt8} {w w' : World} (h : Boxes b1 b2 b3 c s w) (k : ∀ b, b = b1 ∨ b = b2 ∨ b = b3 → w'.heap[b]? = w.heap[b]?) : Boxes b1 b2 b3 c s w' :=
  ⟨(World.cell?_of_block (a := ⟨b1, 0, none⟩) (k b1 (.inl rfl))).trans h.h1, (World.cell?_of_block (a := ⟨b2, 0, none⟩) (k b2 (.inr (.inl rfl)))).trans h.h2,
    (World.frozen?_of_block (a := ⟨b2, 0, none⟩) (k b2 (.inr (.inl rfl)))).trans h.f2, (World.cell?_of_block (a := ⟨b3, 0, none⟩) (k b3 (.inr (.inr rfl)))).trans h.h3⟩
theorem split_in (F : Fence) (hF : ∀ f, F.fn f) (hro : F.round = none) (l b1 b2 b3 : Nat) (h12 : b1 ≠ b2) (h32 : b3 ≠ b2) (c : UInt8) (s0 : List UInt8) (hs0 : s0.length ≤ 4611686018427387904)
    (hix : ∀ (s : List UInt8) (w : World), CallsIn F 0 Tryd.prog 38 #[.string ⟨s.toArray⟩, .string ⟨#[c]⟩] w fun e w' => e = .returned (.int .i64 (Lib.indexByte s c)) ∧ w' = w)
    (J : List (List UInt8) → World → Prop) (Jx : World → Prop)
    (hJ : ∀ pre A v, J pre A → J pre (A.setCell ⟨b2, 0, none⟩ v))
    (hY : ∀ pre x A, J pre A → (pre ++ [x]) <+: splitB c s0 → YieldAt F 0 Tryd.prog l #[.string ⟨x.toArray⟩] A fun e B =>
      (∀ b, b = b1 ∨ b = b2 ∨ b = b3 → B.heap[b]? = A.heap[b]?) ∧ ((e = .returned (.bool true) ∧ J (pre ++ [x]) B) ∨ (e = .returned (.bool false) ∧ Jx B)))
    (W : World) (hB : Boxes b1 b2 b3 c s0 W) (h0 : J [] W) :
    CallsIn F 1 Tryd.prog 36 #[.func (.yield l) #[] #[], .pointer (some ⟨b1, 0, none⟩), .pointer (some ⟨b2, 0, none⟩), .pointer (some ⟨b3, 0, none⟩)] W fun e B => (∃ v, e = .returned v) ∧ (J (splitB c s0) B ∨ Jx B) := by
  have h36 := hF 36
  have h38 := hF 38
  have hd : F.depth.isSome = true → 1 ≤ 1 := fun _ => Nat.le_refl _
  refine callsIn_of_wp Tryd.func36 rfl h36 ?_ hro
  simp only [Tryd.ntmps36, List.size_toArray, List.length_cons, List.length_nil, Nat.reduceAdd, Nat.reduceSub, Array.replicate_succ, Array.replicate_zero, List.push_toArray, List.append_toArray, List.nil_append, List.cons_append]
  obtain ⟨k1, k2, k3, k4⟩ := hB
  gi_wp2
  gi_loopw [7, 8] (fun _ _ wr => ∃ pre rest, splitB c s0 = pre ++ splitB c rest ∧ rest.length ≤ s0.length ∧ J pre wr ∧ Boxes b1 b2 b3 c rest wr)
    (fun _ _ wr => match wr.cell? ⟨b2, 0, none⟩ with | some (.string b) => b.size | _ => 0)
  case atStart => exact ⟨[], s0, rfl, Nat.le_refl _, h0, ⟨k1, k2, k3, k4⟩⟩
  case round =>
    clear k1 k2 k3 k4
    obtain ⟨pre, rest, hs, hle, hJs, k1, k2, k3, k4⟩ := hrel
    by_cases hi : Lib.indexByte rest c = -1
    · have hsp := splitB_none hi
      obtain ⟨fn, tmps, assign, body, hy, hR⟩ := hY pre rest wr hJs (by rw [hs, hsp]; exact List.prefix_refl _)
      have hxx := hix rest wr
      rw [hi] at hxx
      gi_wp2_with (gi_at_call 38; refine hxx.mono ?_; rintro e w' ⟨rfl, rfl⟩)
      refine hR.mono ?_
      rintro e W3 ⟨_, (⟨rfl, hj⟩ | ⟨rfl, hj⟩)⟩
      · gi_wp2
        go_end0
        exact ⟨⟨_, rfl⟩, .inl (by rw [hs, hsp]; exact hj)⟩
      · gi_wp2
        go_end0
        exact ⟨⟨_, rfl⟩, .inr hj⟩
    · have hge := Lib.indexByte_ge rest c
      have hlt := index_le rest c
      obtain ⟨k, hk⟩ : ∃ k : Nat, Lib.indexByte rest c = k := ⟨(Lib.indexByte rest c).toNat, by omega⟩
      have hsp := splitB_some hk
      obtain ⟨fn, tmps, assign, body, hy, hR⟩ := hY pre (rest.take k) wr hJs (by rw [hs, hsp]; exact ⟨splitB c (rest.drop (k + 1)), by simp⟩)
      have hxx := hix rest wr
      rw [hk] at hxx hlt
      have hsz : (⟨rest.toArray⟩ : ByteArray).size = rest.length := by simp [ByteArray.size]
      have e1 : IntKind.i64.wrap (k : Int) = k := by simp only [IntKind.wrap, IntKind.signed, IntKind.bits]; simp; omega
      have e2 : IntKind.i64.wrap ((k : Int) + 1) = k + 1 := by simp only [IntKind.wrap, IntKind.signed, IntKind.bits]; simp; omega
      have x1 : (⟨(rest.take k).toArray⟩ : ByteArray) = (⟨rest.toArray⟩ : ByteArray).extract 0 k := by
        apply bytes_ext; rw [Lib.extract_data]; simp
      have x2 : (⟨(rest.drop (k + 1)).toArray⟩ : ByteArray) = (⟨rest.toArray⟩ : ByteArray).extract (k + 1) rest.length := by
        apply bytes_ext; rw [Lib.extract_data]; exact (List.take_of_length_le (by simp)).symm
      rw [x1] at hy
      gi_wp2_with (gi_at_call 38; refine hxx.mono ?_; rintro e w' ⟨rfl, rfl⟩)
      refine hR.mono ?_
      rintro e W3 ⟨hkeep, (⟨rfl, hj⟩ | ⟨rfl, hj⟩)⟩
      · have hB3 : Boxes b1 b2 b3 c rest W3 := (Boxes.mk k1 k2 k3 k4).keep hkeep
        obtain ⟨m1, m2, m3, m4⟩ := hB3
        gi_wp2
        have hs1 : (W3.setCell ⟨b2, 0, none⟩ (.string ((⟨rest.toArray⟩ : ByteArray).extract (k + 1) rest.length))).cell? ⟨b2, 0, none⟩ = some (.string ((⟨rest.toArray⟩ : ByteArray).extract (k + 1) rest.length)) := World.cell?_setCell_same' _ _ _ (by rw [m2]; rfl)
        have hne : ∀ b, b ≠ b2 → (W3.setCell ⟨b2, 0, none⟩ (.string ((⟨rest.toArray⟩ : ByteArray).extract (k + 1) rest.length))).heap[b]? = W3.heap[b]? := fun b hb => Below.heap_setCell W3 ⟨b2, 0, none⟩ _ b hb
        have hl2 : ((⟨rest.toArray⟩ : ByteArray).extract (k + 1) rest.length).size = rest.length - (k + 1) := by
          rw [← x2]; simp [ByteArray.size]
        refine ⟨⟨pre ++ [rest.take k], rest.drop (k + 1), by rw [hs, hsp]; simp, by simp; omega, hJ _ _ _ hj, ?_⟩, ?_⟩
        · exact ⟨(World.cell?_of_block (a := ⟨b1, 0, none⟩) (hne b1 h12)).trans m1, by rw [hs1, x2], by rw [World.frozen?_setCell]; exact m3, (World.cell?_of_block (a := ⟨b3, 0, none⟩) (hne b3 h32)).trans m4⟩
        · rw [hs1, k2]
          show ((⟨rest.toArray⟩ : ByteArray).extract (k + 1) rest.length).size < (⟨rest.toArray⟩ : ByteArray).size
          omega
      · gi_wp2
        refine bodyPost_ret (results_none rfl _ _ _) rfl ?_
        exact ⟨⟨_, rfl⟩, .inr hj⟩
end Go.Proofs.YtlmejofikpnbpaaDoor
namespace Go.Proofs.YtlmejofikpnbpaaDoor
open Go.AM Go.RowKit
set_option maxHeartbeats 1600000
set_option maxRecDepth 10000
theorem root_cell {g : Gh} {w : World} {b : Nat} {x : PV} {v : Value} (h : RootOK g w b [.p x]) (hx : ∀ u, RepP g.fr w x u → u = v) : w.cell? ⟨b, 0, none⟩ = some v ∧ w.frozen? ⟨b, 0, none⟩ = false := by
  obtain ⟨_, arr, T, hb, _, hc⟩ := h
  obtain ⟨u, hu, _, hr⟩ := hc 0 (.p x) rfl
  simp only [RepA] at hr
  obtain rfl := hx u hr
  exact ⟨by simp [World.cell?, hb, hu], Lib.frozen_of_heap hb 0⟩
theorem iter36 {t1 t2 t3 : Tok} (h12 : t1 ≠ t2) (h32 : t3 ≠ t2) (c : UInt8) (s : List UInt8) (hs : s.length ≤ 4611686018427387904) {rs : List (Tok × List AV)} (l1 : lookT rs t1 = some [.p (.str [c])]) (l2 : lookT rs t2 = some [.p (.str s)]) (l3 : lookT rs t3 = some [.p (.int .i64 0)]) :
    IterA Tryd.prog 36 [.lp t1 0, .lp t2 0, .lp t3 0] [t1, t2, t3] rs (splitB c s) := by
  intro g w vs hr hroots
  simp only [RepAL, RepA] at hr
  obtain ⟨v1, _, rfl, ⟨b1, k1, rfl⟩, v2, _, rfl, ⟨b2, k2, rfl⟩, v3, _, rfl, ⟨b3, k3, rfl⟩, rfl⟩ := hr
  have d12 : b1 ≠ b2 := fun e => by subst e; rw [k1] at k2; injection k2 with e; exact h12 e
  have d32 : b3 ≠ b2 := fun e => by subst e; rw [k3] at k2; injection k2 with e; exact h32 e
  obtain ⟨c1, q1, r1⟩ := hroots b1 t1 k1 (by simp)
  obtain ⟨c2, q2, r2⟩ := hroots b2 t2 k2 (by simp)
  obtain ⟨c3, q3, r3⟩ := hroots b3 t3 k3 (by simp)
  rw [l1] at q1; injection q1 with q1; subst q1
  rw [l2] at q2; injection q2 with q2; subst q2
  rw [l3] at q3; injection q3 with q3; subst q3
  obtain ⟨m1, _⟩ := root_cell r1 (v := .string ⟨#[c]⟩) (fun u hu => by simpa [RepP] using hu)
  obtain ⟨m2, f2⟩ := root_cell r2 (v := .string ⟨s.toArray⟩) (fun u hu => by simpa [RepP] using hu)
  obtain ⟨m3, _⟩ := root_cell r3 (v := .int .i64 0) (fun u hu => by simpa [RepP] using hu)
  refine ⟨fun b => b = b1 ∨ b = b2 ∨ b = b3, fun b hb => ?_, ?_⟩
  · rcases hb with rfl | rfl | rfl
    · exact ⟨t1, by simp, k1⟩
    · exact ⟨t2, by simp, k2⟩
    · exact ⟨t3, by simp, k3⟩
  intro l J Jx W hW hJ hJx hY h0
  have hB : Boxes b1 b2 b3 c s W := (Boxes.mk m1 m2 f2 m3).keep hW
  have := split_in Fence.wide (fun _ => trivial) rfl l b1 b2 b3 d12 d32 c s hs (fun s w => (callsIn_wide (n := 0)).2 (Tryd.strings_Index_one ⟨s.toArray⟩ c w)) J Jx
    (fun pre A v hA => hJ pre A _ hA ⟨by show A.heap.size ≤ (A.heap.modify _ _).size; rw [Array.size_modify]; exact Nat.le_refl _, fun b _ hb => Below.heap_setCell A ⟨b2, 0, none⟩ v b (fun e => hb (.inr (.inl e))), rfl, rfl, rfl⟩) hY W hB h0
  exact (callsIn_wide (n := 0)).2 ((callsIn_wide (n := 1)).1 this)
def splitR (a b c : Tok) (s : List UInt8) (d : UInt8) : AV → List (Tok × List AV) → Prop := fun x rs => x = .fn 36 [.lp b 0, .lp a 0, .lp c 0] ∧ rs = [(a, [.p (.str s)]), (b, [.p (.str [d])]), (c, [.p (.int .i64 0)])]
theorem split1_cr [Evs] (s : List UInt8) (d : UInt8) : CR Tryd.prog 25 [] [.p (.str s), .p (.str [d]), .p (.int .i64 0)] [] (splitR [3] [4] [5] s d) := by
  refine CR_of_wp mixed 7 [] Tryd.func25 rfl (by kernel_rfl) rfl (by simp) (by simp) ?_
  simp (maxSteps := 1000000) [go_sem, Tryd.f25]
  exact ret_keep [[3], [4], [5]] (.fn 36 [.lp [4] 0, .lp [3] 0, .lp [5] 0]) ⟨rfl, rfl⟩ (by simp [go_sem, resOf, leA]) ⟨rfl, by simp [go_sem]⟩
theorem split_cr [Evs] (s : List UInt8) (d : UInt8) : CR Tryd.prog 16 [] [.p (.str s), .p (.str [d])] [] (splitR [7, 3] [7, 4] [7, 5] s d) := by
  refine CR_of_wp mixed 5 [] Tryd.func16 rfl (by kernel_rfl) rfl (by simp) (by simp) ?_
  simp (maxSteps := 1000000) [go_sem, Tryd.f16]
  refine ⟨⟨rfl, by simp [Tryd.f25]⟩, CallK_of [] (split1_cr s d) (by simp [go_sem]) ⟨by simp [go_sem], by simp [go_sem]⟩ (by simp [go_sem]) ?_⟩
  rintro _ _ ⟨rfl, rfl⟩
  simp (maxSteps := 1000000) [go_sem]
  exact ret_keep [[7, 3], [7, 4], [7, 5]] (.fn 36 [.lp [7, 4] 0, .lp [7, 3] 0, .lp [7, 5] 0]) ⟨rfl, rfl⟩ (by simp [go_sem, resOf, leA]) ⟨rfl, by simp [go_sem]⟩
end Go.Proofs.YtlmejofikpnbpaaDoor
namespace Go.Proofs.YtlmejofikpnbpaaDoor
open Go.AM
set_option maxHeartbeats 1600000
set_option maxRecDepth 10000
@[go_sem] theorem one_nil : (Value.slice none 0 0).oneCell' = true := rfl
/-- The events of lines, behind others. -/
def goL : List (List UInt8) → Nat → List Ev → List Ev × Nat × Nat
  | [], _, out => (out, 0, 0)
  | l :: ls, at_, out => match lineP l with
    | none => ([], at_ + 1, 4)
    | some x => if 65536 < out.length + x.length then ([], at_ + 1, 7) else goL ls (at_ + 1) (out ++ x)
def parseP (s : List UInt8) : List Ev × Nat × Nat :=
  if 262144 < s.length then ([], 0, 3) else if s = [] then ([], 0, 0) else goL (splitB 10 (Lib.trimSuffix s [10])) 0 []
def parseR (r : List Ev × Nat × Nat) : AV → List (Tok × List AV) → Prop := fun x rs => rs = [] ∧ x = .tup [.os [2, 0] 4 (r.1.map evP), .p (.int .i64 r.2.1), .p (.int .i64 r.2.2)]
def outsL (pre : List (List UInt8)) : List Ev := pre.flatMap fun l => (lineP l).getD []
theorem outsL_snoc (pre : List (List UInt8)) (x : List UInt8) : outsL (pre ++ [x]) = outsL pre ++ (lineP x).getD [] := by simp [outsL]
theorem splitB_len (c : UInt8) : ∀ s : List UInt8, (splitB c s).length ≤ s.length + 1
  | [] => by simp [splitB]
  | b :: r => by
    have ih := splitB_len c r
    unfold splitB
    split
    · simp; omega
    · split
      · simp
      · rename_i p ps he
        rw [he] at ih
        simp at ih ⊢; omega
theorem splitB_le (c : UInt8) : ∀ (s : List UInt8) (x : List UInt8), x ∈ splitB c s → x.length ≤ s.length
  | [], x, h => by simp [splitB] at h; subst h; simp
  | b :: r, x, h => by
    unfold splitB at h
    split at h
    · rcases List.mem_cons.1 h with rfl | h
      · simp
      · have := splitB_le c r x h; simp; omega
    · split at h
      · simp at h; subst h; simp
      · rename_i p ps he
        rcases List.mem_cons.1 h with rfl | h
        · have := splitB_le c r p (by rw [he]; simp); simp; omega
        · have := splitB_le c r x (by rw [he]; simp [h]); simp; omega
theorem hexL_len : ∀ (s : List UInt8) (l : List Ev), hexL s = some l → 2 * l.length = s.length
  | [], l, h => by simp [hexL] at h; subst h; rfl
  | [_], l, h => by simp [hexL] at h
  | a :: b :: r, l, h => by
    unfold hexL at h
    split at h
    · cases h
    · obtain ⟨m, hm, rfl⟩ := Option.map_eq_some_iff.1 h
      have := hexL_len r m hm
      simp; omega
theorem lineP_len {x : List UInt8} {l : List Ev} (h : lineP x = some l) : l.length ≤ 32 := by
  unfold lineP at h
  split at h
  · injection h with h; subst h; simp
  · split at h
    · split at h
      · cases h
      · injection h with h; subst h; simp
    · split at h
      · unfold hexS at h
        split at h
        · cases h
        · have := hexL_len _ _ h; omega
      · split at h
        · split at h
          · injection h with h; subst h; simp
          · cases h
        · cases h
/-- The orders of the two regions that tell a line. -/
def ot4 : OT := .mk [(0, .mk [(1, .mk [(2, .mk [(3, .mk [])])])]), (1, .mk [(0, .mk [(2, .mk [(3, .mk [])])])])]
theorem parse_cr [Evs] (s : List UInt8) : CR Tryd.prog 8 [] [.p (.str s)] [] (parseR (parseP s)) := by
  refine CR_of_sem 10 [18] Tryd.func8 rfl rfl (by simp) (by simp) ?_
  refine SemM.seq (D := []) mixed (by kernel_rfl) ?_
  simp (maxSteps := 1000000) [go_sem]
  refine SemM.seq (D := []) mixed (by kernel_rfl) ?_
  simp (maxSteps := 1000000) [go_sem]
  refine condK_if (fun h1 => ?_) (fun h1 => ?_)
  · simp (maxSteps := 1000000) [go_sem]
    have h1' : 262144 < s.length := by omega
    exact ret_is (.tup [.os [2, 0] 4 [], .p (.int .i64 0), .p (.int .i64 3)]) rfl (by simp [go_sem, resOf, leA]) ⟨rfl, by simp [parseP, h1']⟩
  have h1' : ¬ 262144 < s.length := by omega
  simp (maxSteps := 1000000) [go_sem]
  refine SemM.seq (D := []) mixed (by kernel_rfl) ?_
  simp (maxSteps := 1000000) [go_sem]
  refine condK_if (fun h2 => ?_) (fun h2 => ?_)
  · simp (maxSteps := 1000000) [go_sem]
    exact ret_is (.tup [.os [2, 0] 4 [], .p (.int .i64 0), .p (.int .i64 0)]) rfl (by simp [go_sem, resOf, leA]) ⟨rfl, by simp [parseP, h2]⟩
  simp (maxSteps := 1000000) [go_sem]
  refine SemM.seq (D := []) mixed (by kernel_rfl) ?_
  simp (maxSteps := 1000000) [go_sem]
  refine SemM.seq (D := []) mixed (by kernel_rfl) ?_
  simp (maxSteps := 1000000) [go_sem]
  refine SemM.seq2 (D := []) mixed (by kernel_rfl) ?_
  simp (maxSteps := 1000000) [go_sem]
  have ht := trim_cr s [10] (by omega)
  have hP : parseP s = goL (splitB 10 (Lib.trimSuffix s [10])) 0 [] := by simp [parseP, h1', h2]
  have hlen : (Lib.trimSuffix s [10]).length ≤ 262144 := by
    unfold Lib.trimSuffix
    split
    · simp; omega
    · omega
  generalize Lib.trimSuffix s [10] = u at *
  refine ⟨⟨rfl, by simp [Tryd.f17]⟩, CallK_of [] ht (by simp [go_sem]) ⟨by simp [go_sem], by simp [go_sem]⟩ (by simp [go_sem]) ?_⟩
  rintro y rs ⟨rfl, rfl⟩
  simp (maxSteps := 1000000) [go_sem]
  refine ⟨⟨rfl, by simp [Tryd.f16]⟩, CallK_of [] (split_cr u 10) (by simp [go_sem]) ⟨by simp [go_sem], by simp [go_sem]⟩ (by simp [go_sem]) ?_⟩
  rintro y rs ⟨rfl, rfl⟩
  simp (maxSteps := 1000000) [go_sem]
  refine SemB.range (D := [200012, 200014]) mixed (gf := 36) (caps := [.lp [17, 7, 4] 0, .lp [17, 7, 3] 0, .lp [17, 7, 5] 0]) (by simp [go_sem]) rfl (by simp [Tryd.f36]) [[17, 7, 4], [17, 7, 3], [17, 7, 5]] (by simp)
    (els := splitB 10 u) (iter36 (by simp) (by simp) 10 u (by omega) (by simp [go_sem]) (by simp [go_sem]) (by simp [go_sem]))
    [(0, .p (.str s)), (2, .lp [2] 0), (3, .lp [3] 0), (4, .lp [4] 0), (5, .lp [5] 0), (6, .lp [6] 0)] [[2], [3], [4], [5], [6]]
    (fun pre => (∀ ls, goL (pre ++ ls) 0 [] = goL ls pre.length (outsL pre)) ∧ (outsL pre).length ≤ 65536)
    (fun pre => [([2], [.p (.opq (.slice none 0 0))]), ([3], [.p (.int .i64 0)]), ([4], [.p (.int .i64 0)]), ([5], [.os [5, 0] 4 ((outsL pre).map evP)]), ([6], [.p (.int .i64 pre.length)])])
    (by simp [keepV]) (by simp) (by simp [outsL]) (.inl (by simp [go_sem, LeS, leV, leR, leA, leL, has, lst, outsL])) (by simp) (by kernel_rfl) (by kernel_rfl) ?_ ?_
  · rintro pre x ⟨hpre, hout⟩ hx
    have hxl : x.length ≤ u.length := splitB_le 10 u x (hx.subset (by simp))
    have hpl : pre.length + 1 ≤ u.length + 1 := by
      have h3 := hx.length_le
      have h4 := splitB_len 10 u
      simp at h3
      omega
    have w1 : IntKind.i64.wrap ((pre.length : Int) + 1) = (pre.length : Int) + 1 := wrap64 (by omega) (by omega)
    have hstep : ∀ ls, goL (pre ++ x :: ls) 0 [] = goL (x :: ls) pre.length (outsL pre) := fun ls => hpre (x :: ls)
    have hfull : ∃ ls, splitB 10 u = pre ++ x :: ls := by
      obtain ⟨ls, hls⟩ := hx
      exact ⟨ls, by rw [← hls]; simp⟩
    obtain ⟨ls0, hls0⟩ := hfull
    have hPx := hP
    rw [hls0, hstep ls0, goL] at hPx
    have hsn := outsL_snoc pre x
    simp (maxSteps := 1000000) [go_sem, lst, w1]
    refine ⟨⟨rfl, by simp [Tryd.f18]⟩, CallK_of [] (line_cr x (by omega)) (by simp [go_sem]) ⟨by simp [go_sem], by simp [go_sem]⟩ (by simp [go_sem]) ?_⟩
    rintro y rs ⟨rfl, es, rfl, hE⟩
    cases hl : lineP x with
    | none =>
      rw [hl] at hPx
      simp only at hPx
      simp (maxSteps := 1000000) [go_sem]
      refine TreeK_of ot4 (by kernel_rfl) ?_
      simp (maxSteps := 1000000) [go_sem, ot4]
      exact ret_is (.tup [.os [2, 0] 4 [], .p (.int .i64 (pre.length + 1)), .p (.int .i64 4)]) rfl (by simp [go_sem, resOf, leA, lst]) ⟨rfl, by rw [hPx]; simp⟩
    | some l =>
      have hes := hE l hl
      subst hes
      rw [hl] at hPx hsn
      simp only [Option.getD_some] at hsn
      simp only at hPx
      have hlb := lineP_len hl
      have w2 : IntKind.i64.wrap (((outsL pre).length : Int) + (l.length : Int)) = ((outsL pre).length : Int) + (l.length : Int) := wrap64 (by omega) (by omega)
      simp (maxSteps := 1000000) [go_sem, w2]
      refine condK_if (fun h5 => ?_) (fun h5 => ?_)
      · rw [if_pos (by omega)] at hPx
        simp (maxSteps := 1000000) [go_sem]
        refine TreeK_of ot4 (by kernel_rfl) ?_
        simp (maxSteps := 1000000) [go_sem, ot4]
        exact ret_is (.tup [.os [2, 0] 4 [], .p (.int .i64 (pre.length + 1)), .p (.int .i64 7)]) rfl (by simp [go_sem, resOf, leA, lst]) ⟨rfl, by rw [hPx]; simp⟩
      · rw [if_neg (by omega)] at hPx
        simp (maxSteps := 1000000) [go_sem]
        refine ⟨by omega, ⟨fun ls => ?_, ?_⟩, .inl (by simp [go_sem, LeS, leV, leR, leA, leL, has, lst, hsn])⟩
        · rw [hstep ls, goL, hl, hsn]
          simp only
          rw [if_neg (by omega)]
        · rw [hsn, List.length_append]; omega
  · rintro ⟨hels, hout⟩
    have hfin : parseP s = (outsL (splitB 10 u), 0, 0) := by
      rw [hP]
      have := hels []
      simpa [goL] using this
    refine SemT.of_wpA (D := []) (by kernel_rfl) ?_
    simp (maxSteps := 1000000) [go_sem, lst, PinQ]
    exact ret_is (.tup [.os [2, 0] 4 ((outsL (splitB 10 u)).map evP), .p (.int .i64 0), .p (.int .i64 0)]) rfl (by simp [go_sem, resOf, leA]) ⟨rfl, by rw [hfin]; rfl⟩
end Go.Proofs.YtlmejofikpnbpaaDoor
