/- Grids of deeds: what is made of them. Conditions: as each law says. -/
import Derived.Test.YtjgfmanahimpoaaGriG
import Derived.Test.YtjgfmanahimpoaaDifE
namespace Go.Proofs.Ytjgfmanahimpoaa
open Go.AM
set_option maxRecDepth 10000
/-- A deed: its kind, its place, its glyph. -/
structure GDeed where
  k : Int
  r : Int
  c : Int
  x : Cl
  deriving Inhabited
def gdeedP (d : GDeed) : PV := .agg [.int .i64 d.k, .int .i64 d.r, .int .i64 d.c, .str d.x.t, .int .i64 d.x.w]
/-- A deed, done with the program's grid. -/
def gDo (R C : Nat) (d : GDeed) (l : Row) : Row := if d.k = 3 then gerI R C d.r d.c l else gputI R C d.r d.c d.x l
/-- A deed, done with a row of the document's. -/
def xDo (C R i : Nat) (d : GDeed) (l : Row) : Row := if d.k = 3 then eraseI C R d.r d.c i l else putI C R d.r d.c d.x i l
def gMade (R C : Nat) (ds : List GDeed) : Nat → Row
  | 0 => List.replicate (R * C) blk
  | k + 1 => gDo R C (ds.getD k default) (gMade R C ds k)
def xMade (C R i : Nat) (ds : List GDeed) : Nat → Row
  | 0 => List.replicate C blk
  | k + 1 => xDo C R i (ds.getD k default) (xMade C R i ds k)
theorem rep_ok (n : Nat) : OkR (List.replicate n blk) := fun k x hx => by
  have : x = blk := (List.mem_replicate.1 (List.mem_of_getElem? hx)).2
  subst this
  exact ⟨fun h => absurd h (by decide), fun h => absurd h (by decide)⟩
theorem gMade_len (R C : Nat) (ds : List GDeed) (k : Nat) : (gMade R C ds k).length = R * C := by
  induction k with
  | zero => simp [gMade]
  | succ k ih =>
    rw [gMade, gDo]
    split
    · rw [gerI_len, ih]
    · rw [gputI_len, ih]
theorem gMade_ok (R C : Nat) (ds : List GDeed) (k : Nat) : OkR (gMade R C ds k) := by
  induction k with
  | zero => exact rep_ok _
  | succ k ih =>
    rw [gMade, gDo]
    split
    · exact gerI_ok _ _ _ _ _ ih
    · exact gputI_ok _ _ _ _ _ _ (gMade_len _ _ _ _) ih
theorem xMade_len (C R i : Nat) (ds : List GDeed) (k : Nat) : (xMade C R i ds k).length = C := by
  induction k with
  | zero => simp [xMade]
  | succ k ih =>
    rw [xMade, xDo]
    split
    · rw [eraseI_len, ih]
    · rw [putI_len, ih]
theorem xMade_ok (C R i : Nat) (ds : List GDeed) (k : Nat) : OkR (xMade C R i ds k) := by
  induction k with
  | zero => exact rep_ok _
  | succ k ih =>
    rw [xMade, xDo]
    split
    · exact eraseI_ok _ _ _ _ _ _ ih
    · exact putI_ok _ _ _ _ _ _ _ (xMade_len _ _ _ _ _) ih
theorem elemAt_D {ds : List GDeed} {i : Nat} (h : i < ds.length) : elemAt (ds.map gdeedP) i = .agg [.int .i64 ds[i].k, .int .i64 ds[i].r, .int .i64 ds[i].c, .str ds[i].x.t, .int .i64 ds[i].x.w] := by
  rw [elemAt, List.getD_eq_getElem?_getD, List.getElem?_map, List.getElem?_eq_getElem h]; rfl
theorem deed_getD {ds : List GDeed} {i : Nat} (h : i < ds.length) : ds.getD i default = ds[i] := by rw [List.getD_eq_getElem?_getD, List.getElem?_eq_getElem h]; rfl
end Go.Proofs.Ytjgfmanahimpoaa
