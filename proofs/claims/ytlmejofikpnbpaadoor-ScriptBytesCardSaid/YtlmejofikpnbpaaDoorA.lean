/- What strings.IndexByte, Index, TrimSuffix, strconv.Atoi and Itoa do, as contracts of the abstract machine: what the variables hold is told. Conditions: as each law says. -/
import Derived.Test.YtlmejofikpnbpaaDoorTy
import Derived.Test.YtlmejofikpnbpaaDoorShelf
import Derived.Test.YtlmejofikpnbpaaDoorAmT
import Derived.Test.YtlmejofikpnbpaaDoorAmW
import Derived.Lib.AtoiErrMem
namespace Go.Proofs.YtlmejofikpnbpaaDoor
open Go.AM Go.RowKit
set_option maxRecDepth 10000
attribute [go_sem] Tryd.t68
def is (x : AV) : AV → List (Tok × List AV) → Prop := fun y rs => rs = [] ∧ y = x
def powArr : Array Value := (Lib.pow10Tab.map fun z => Value.int .u64 z).toArray
/-- What the library's two errors are. -/
class Evs where
  e1 : Value
  e2 : Value
  h1 : e1 = .nilIface ∨ ∃ te pe, e1 = .iface te pe
  h2 : e2 = .nilIface ∨ ∃ te pe, e2 = .iface te pe
/-- The variables that are read. -/
instance scriptGi [Evs] : Gi := ⟨fun b => if b = 5 then some powArr else if b = 3 then some #[Evs.e1] else if b = 4 then some #[Evs.e2] else none⟩
theorem glob5 : Tryd.prog.globalNamed "internal/strconv.uint64pow10" = some 5 := by kernel_rfl
section
variable [Evs]
theorem tab_of {g : Gh} {w : World} (h : GlOK g w) : Lib.TabIs Tryd.prog w "internal/strconv.uint64pow10" .u64 Lib.pow10Tab := by
  obtain ⟨_, T, f, hb⟩ := h 5 powArr rfl
  unfold Lib.TabIs World.var?
  rw [glob5]
  simp only [Option.bind_some, hb]
  rfl
theorem err_of {g : Gh} {w : World} (h : GlOK g w) : w.cell? ⟨3, 0, none⟩ = some Evs.e1 ∧ w.cell? ⟨4, 0, none⟩ = some Evs.e2 := by
  obtain ⟨_, T, f, hb⟩ := h 3 #[Evs.e1] rfl
  obtain ⟨_, T', f', hb'⟩ := h 4 #[Evs.e2] rfl
  exact ⟨by simp [World.cell?, hb], by simp [World.cell?, hb']⟩
/-- A call that makes new blocks alone. -/
theorem CR_growR {f : FuncId} {args : List AV} {R : AV → List (Tok × List AV) → Prop} (h : ∀ w g vs, RepAL g w args vs → GS g w [] → Calls Tryd.prog f vs.toArray w fun e w' => ∃ v x, e = .returned v ∧ R x [] ∧ Below w.heap.size w w' ∧ ∀ g' : Gh, g'.fr = g.fr → RepA g' w' x v) : CR Tryd.prog f [] args [] R := by
  intro w g vs hargs hG
  refine (h w g vs hargs hG).mono ?_
  rintro e w' ⟨v, x, rfl, hR, hB, hr⟩
  let g2 : Gh := ⟨g.fr, fun _ => .prot⟩
  have hmono := hB.size
  have hx : Ext g.fr w g2.fr w' := fun d o ho => ⟨ho, same_of_heap (hB.block d (by
    rcases Nat.lt_or_ge d w.heap.size with h | h
    · exact h
    · have := hG.frb d h; omega))⟩
  have hA : Aft g w g2 w' [] := ⟨fun d hd _ => ⟨hB.block d hd, rfl, rfl⟩, hx, ⟨hB.os, hB.tape, hB.output⟩, hmono, fun b t _ ht => (by cases ht)⟩
  exact ⟨v, x, [], g2, rfl, hR, hr g2 rfl, ⟨fun b t h => (by cases h), fun b b' t h => (by cases h), fun b b' t h => (by cases h), fun b h => absurd rfl h, fun b hb => hG.frb b (by omega), hG.gl.aft hA⟩, hA⟩
theorem itoa_cr (n : Int) (h0 : -9223372036854775808 ≤ n) (h1 : n ≤ 9223372036854775807) : CR Tryd.prog 35 [] [.p (.int .i64 n)] [] (is (.p (.str (Lib.itoa n)))) := by
  refine CR_growR fun w g vs hargs hG => ?_
  simp only [RepAL, RepA, RepP] at hargs
  obtain ⟨v, vs', rfl, rfl, rfl⟩ := hargs
  refine (Tryd.strconv_Itoa n h0 h1 w (tab_of hG.gl)).mono ?_
  rintro e w' ⟨rfl, k, os, rfl⟩
  have hs : (w.drewN k).heap = w.heap := by simp
  refine ⟨_, _, rfl, ⟨rfl, rfl⟩, ⟨rfl, rfl, rfl, by simp [Go.Sort.grow], fun k hk => ?_⟩, fun g' _ => by simp only [RepA, RepP]⟩
  rw [Go.Sort.heap_grow_old _ _ (by rw [hs]; exact hk), hs]
theorem indexByte_cr (s : List UInt8) (c : UInt8) : CR Tryd.prog 41 [] [.p (.str s), .p (.int .u8 (c.toNat : Int))] [] (is (.p (.int .i64 (Lib.indexByte s c)))) := by
  refine CR_growR fun w g vs hargs _ => ?_
  simp only [RepAL, RepA, RepP] at hargs
  obtain ⟨v, vs', rfl, rfl, v2, vs2, rfl, rfl, rfl⟩ := hargs
  refine (Tryd.strings_IndexByte ⟨s.toArray⟩ (c.toNat : Int) w).mono ?_
  rintro e w' ⟨rfl, rfl⟩
  refine ⟨_, _, rfl, ⟨rfl, rfl⟩, Below.refl _ _, fun g' _ => ?_⟩
  have : (c.toNat : Int).toNat.toUInt8 = c := by simp
  simp only [RepA, RepP, this]
theorem index_cr (s : List UInt8) (c : UInt8) : CR Tryd.prog 38 [] [.p (.str s), .p (.str [c])] [] (is (.p (.int .i64 (Lib.indexByte s c)))) := by
  refine CR_growR fun w g vs hargs _ => ?_
  simp only [RepAL, RepA, RepP] at hargs
  obtain ⟨v, vs', rfl, rfl, v2, vs2, rfl, rfl, rfl⟩ := hargs
  refine (Tryd.strings_Index_one ⟨s.toArray⟩ c w).mono ?_
  rintro e w' ⟨rfl, rfl⟩
  exact ⟨_, _, rfl, ⟨rfl, rfl⟩, Below.refl _ _, fun g' _ => by simp only [RepA, RepP]⟩
theorem index1_cr (s : List UInt8) (c : UInt8) : CR Tryd.prog 46 [] [.p (.str s), .p (.str [c])] [] (is (.p (.int .i64 (Lib.indexByte s c)))) := by
  refine CR_growR fun w g vs hargs _ => ?_
  simp only [RepAL, RepA, RepP] at hargs
  obtain ⟨v, vs', rfl, rfl, v2, vs2, rfl, rfl, rfl⟩ := hargs
  refine (Tryd.stringslite_Index_one ⟨s.toArray⟩ c w).mono ?_
  rintro e w' ⟨rfl, rfl⟩
  exact ⟨_, _, rfl, ⟨rfl, rfl⟩, Below.refl _ _, fun g' _ => by simp only [RepA, RepP]⟩
theorem trim_cr (s p : List UInt8) (h : s.length ≤ 9223372036854775807) : CR Tryd.prog 17 [] [.p (.str s), .p (.str p)] [] (is (.p (.str (Lib.trimSuffix s p)))) := by
  refine CR_growR fun w g vs hargs _ => ?_
  simp only [RepAL, RepA, RepP] at hargs
  obtain ⟨v, vs', rfl, rfl, v2, vs2, rfl, rfl, rfl⟩ := hargs
  refine (Tryd.strings_TrimSuffix ⟨s.toArray⟩ ⟨p.toArray⟩ w (by simpa [ByteArray.size] using h)).mono ?_
  rintro e w' ⟨rfl, rfl⟩
  exact ⟨_, _, rfl, ⟨rfl, rfl⟩, Below.refl _ _, fun g' _ => by simp only [RepA, RepP]⟩
/-- What strconv.Atoi hands back. -/
def atoiR (s : List UInt8) : AV → List (Tok × List AV) → Prop := fun y rs => rs = [] ∧ ∃ n v, y = .tup [.p (.int .i64 n), .p (.opq v)] ∧ ((Lib.atoiAll s = .ok n ∧ v = .nilIface) ∨ ((∀ m, Lib.atoiAll s ≠ .ok m) ∧ ∃ t p, v = .iface t p))
theorem atoi_cr (s : List UInt8) (h : s.length ≤ 281474976710656) : CR Tryd.prog 42 [] [.p (.str s)] [] (atoiR s) := by
  refine CR_growR fun w g vs hargs hG => ?_
  simp only [RepAL, RepA, RepP] at hargs
  obtain ⟨v, vs', rfl, rfl, rfl⟩ := hargs
  have hsz : (⟨s.toArray⟩ : ByteArray).size = s.length := by simp [ByteArray.size]
  have hrep : ∀ (g' : Gh) (w' : World) (n : Int) (v : Value), RepA g' w' (.tup [.p (.int .i64 n), .p (.opq v)]) (.tuple #[.int .i64 n, v]) := fun g' w' n v => by
    simp only [RepA, RepAL, RepP]
    exact ⟨_, rfl, _, _, rfl, rfl, _, _, rfl, rfl, rfl⟩
  cases ha : Lib.atoiAll s with
  | ok m =>
    refine (Tryd.strconv_Atoi_ok ⟨s.toArray⟩ (by rw [hsz]; omega) m ha w).mono ?_
    rintro e w' ⟨rfl, hw⟩
    refine ⟨_, _, rfl, ⟨rfl, m, .nilIface, rfl, .inl ⟨ha, rfl⟩⟩, ?_, fun g' _ => hrep _ _ _ _⟩
    rcases hw with rfl | ⟨t, rfl⟩
    · exact Below.refl _ _
    · exact Lib.bytesWorld_below _ _ _
  | «syntax» =>
    refine (Tryd.strconv_Atoi_syntax ⟨s.toArray⟩ (by rw [hsz]; omega) ha Evs.e1 w (err_of hG.gl).1 Evs.h1).mono ?_
    rintro e w' ⟨N, rfl, _, _, hB⟩
    exact ⟨_, _, rfl, ⟨rfl, 0, _, rfl, .inr ⟨fun m => by rw [ha]; simp, _, _, rfl⟩⟩, hB, fun g' _ => hrep _ _ _ _⟩
  | range =>
    refine (Tryd.strconv_Atoi_range ⟨s.toArray⟩ (by rw [hsz]; omega) ha Evs.e2 w (err_of hG.gl).2 Evs.h2).mono ?_
    rintro e w' ⟨N, rfl, _, _, hB⟩
    exact ⟨_, _, rfl, ⟨rfl, _, _, rfl, .inr ⟨fun m => by rw [ha]; simp, _, _, rfl⟩⟩, hB, fun g' _ => hrep _ _ _ _⟩
end
end Go.Proofs.YtlmejofikpnbpaaDoor
