/- What strconv.Itoa does, as a contract of the abstract machine: the table that it reads is told. Conditions: as each law says. -/
import Derived.Test.YtjgfmanahimpoaaDoorTy
import Derived.Test.YtjgfmanahimpoaaDoorShelf
import Derived.Test.YtjgfmanahimpoaaDoorAmW
namespace Go.Proofs.YtjgfmanahimpoaaDoor
open Go.AM
set_option maxRecDepth 10000
def is (x : AV) : AV → List (Tok × List AV) → Prop := fun y rs => rs = [] ∧ y = x
def powArr : Array Value := (Lib.pow10Tab.map fun z => Value.int .u64 z).toArray
/-- The one table that is read. -/
instance doorGi : Gi := ⟨fun b => if b = 0 then some powArr else none⟩
theorem glob0 : Tryd.prog.globalNamed "internal/strconv.uint64pow10" = some 0 := by kernel_rfl
theorem tab_of {g : Gh} {w : World} (h : GlOK g w) : Lib.TabIs Tryd.prog w "internal/strconv.uint64pow10" .u64 Lib.pow10Tab := by
  obtain ⟨_, T, f, hb⟩ := h 0 powArr rfl
  unfold Lib.TabIs World.var?
  rw [glob0]
  simp only [Option.bind_some, hb]
  rfl
/-- A call that makes new blocks alone. -/
theorem CR_grow {f : FuncId} {args : List AV} {x : AV} (h : ∀ w g vs, RepAL g w args vs → GS g w [] → Calls Tryd.prog f vs.toArray w fun e w' => ∃ v, e = .returned v ∧ (∀ k, k < w.heap.size → w'.heap[k]? = w.heap[k]?) ∧ w.heap.size ≤ w'.heap.size ∧
    (w'.os = w.os ∧ w'.tape = w.tape ∧ w'.output = w.output) ∧ ∀ g' : Gh, g'.fr = g.fr → RepA g' w' x v) : CR Tryd.prog f [] args [] (is x) := by
  intro w g vs hargs hG
  refine (h w g vs hargs hG).mono ?_
  rintro e w' ⟨v, rfl, hold, hmono, hout, hr⟩
  let g2 : Gh := ⟨g.fr, fun _ => .prot⟩
  have hx : Ext g.fr w g2.fr w' := fun d o ho => ⟨ho, same_of_heap (hold d (by
    rcases Nat.lt_or_ge d w.heap.size with h | h
    · exact h
    · have := hG.frb d h; omega))⟩
  have hA : Aft g w g2 w' [] := ⟨fun d hd _ => ⟨hold d hd, rfl, rfl⟩, hx, hout, hmono, fun b t _ ht => (by cases ht)⟩
  exact ⟨v, x, [], g2, rfl, ⟨rfl, rfl⟩, hr g2 rfl, ⟨fun b t h => (by cases h), fun b b' t h => (by cases h), fun b b' t h => (by cases h), fun b h => absurd rfl h, fun b hb => hG.frb b (by omega), hG.gl.aft hA⟩, hA⟩
theorem itoa_cr (n : Int) (h0 : -9223372036854775808 ≤ n) (h1 : n ≤ 9223372036854775807) : CR Tryd.prog 25 [] [.p (.int .i64 n)] [] (is (.p (.str (Lib.itoa n)))) := by
  refine CR_grow fun w g vs hargs hG => ?_
  simp only [RepAL, RepA, RepP] at hargs
  obtain ⟨v, vs', rfl, rfl, rfl⟩ := hargs
  refine (Tryd.strconv_Itoa n h0 h1 w (tab_of hG.gl)).mono ?_
  rintro e w' ⟨rfl, k, os, rfl⟩
  have hs : (w.drewN k).heap = w.heap := by simp
  refine ⟨_, rfl, fun k hk => ?_, ?_, ⟨?_, ?_, ?_⟩, fun g' _ => by simp only [RepA, RepP]⟩
  · rw [Go.Sort.heap_grow_old _ _ (by rw [hs]; exact hk), hs]
  · simp [Go.Sort.grow]
  · rfl
  · rfl
  · rfl
end Go.Proofs.YtjgfmanahimpoaaDoor
