/- A part of the proof of this seat's statements, by an abstract machine: what each operation does to values, proved over the model, whatever the program. No condition beyond those that stand. -/
import Derived.Test.YtklhmamefbehjaaTy
namespace Go.Proofs.Ytklhmamefbehjaa
open Go.AM
/-- Ints as elements, and as cells of a root. -/
def isrc (l : List Int) : List PV := l.map (.int .i64)
def ints (l : List Int) : PV := .sl 1 (isrc l)
def icells (l : List Int) : List AV := l.map fun i => .p (.int .i64 i)
@[go_sem] theorem icells_length (l : List Int) : (icells l).length = l.length := by simp [icells]
@[go_sem] theorem icells_fil (rt tt : Tok → Bool) (l : List Int) : (icells l).map (AV.upd (fil rt tt)) = icells l := by
  simp [icells, AV.upd, fil, fil1, Function.comp_def]
@[go_sem] theorem icells_ren (f : Tok → Option Tok) (l : List Int) : (icells l).map (AV.ren f) = icells l := by
  simp [icells, AV.ren, AV.upd, renG, renF, Function.comp_def]
@[go_sem] theorem icells_take (l : List Int) (n : Nat) : (icells l).take n = icells (l.take n) := by simp [icells]
@[go_sem] theorem icells_drop (l : List Int) (n : Nat) : (icells l).drop n = icells (l.drop n) := by simp [icells]
@[go_sem] theorem icells_app (l l' : List Int) : icells l ++ icells l' = icells (l ++ l') := by simp [icells]
@[go_sem] theorem icells_allP (l : List Int) : allP (icells l) = some (isrc l) := by
  unfold icells isrc
  induction l with
  | nil => rfl
  | cons x l ih => simp [allP, ih]
@[go_sem] theorem icells_get (l : List Int) (n : Nat) : (icells l)[n]? = l[n]?.map fun i => .p (.int .i64 i) := by simp [icells]
@[go_sem] theorem isrc_length (l : List Int) : (isrc l).length = l.length := by simp [isrc]
@[go_sem] theorem isrc_map (l : List Int) : (isrc l).map AV.p = icells l := by simp [icells, isrc]
@[go_sem] theorem isrc_take (l : List Int) (n : Nat) : (isrc l).take n = isrc (l.take n) := by simp [isrc]
@[go_sem] theorem isrc_drop (l : List Int) (n : Nat) : (isrc l).drop n = isrc (l.drop n) := by simp [isrc]
@[go_sem] theorem isrc_app (l l' : List Int) : isrc l ++ isrc l' = isrc (l ++ l') := by simp [isrc]
@[go_sem] theorem isrc_flat (l : List Int) : (isrc l).flatMap PV.cells = isrc l := by
  unfold isrc
  induction l with
  | nil => rfl
  | cons x l ih => simp only [List.map_cons, List.flatMap_cons, PV.cells, ih]; rfl
@[go_sem] theorem isrc_one (l : List Int) : (isrc l).all PV.one = true := by simp [isrc, PV.one]
@[go_sem] theorem isrc_fits (l : List Int) : (isrc l).all PV.fits = true := by simp [isrc, PV.fits]
@[go_sem] theorem isrc_at (l : List Int) (n : Nat) (h : n < l.length) : elemAt (isrc l) n = .int .i64 l[n] := by simp [isrc, elemAt, h]
@[go_sem] theorem isrc_nil : isrc [] = [] := rfl
@[go_sem] theorem isrc_zeros (n : Nat) : zerosA n [PV.int .i64 0] = isrc (List.replicate n 0) := by
  unfold zerosA isrc
  induction n with
  | zero => rfl
  | succ n ih => simp [List.replicate_succ]
@[go_sem] theorem icells_zeros (n : Nat) : List.replicate n (AV.p (PV.int .i64 0)) = icells (List.replicate n 0) := by simp [icells]
/-- The roots of a list with a gap. -/
def gapR (l : List Int) (f t : Nat) : List (Tok × List AV) := [([0], [.la [0, 0] 1 0 l.length, .p (.int .i64 (f : Int)), .p (.int .i64 (t : Int))]), ([0, 0], icells l)]
def gapT : List Tok := [[0], [0, 0]]
set_option maxHeartbeats 400000
set_option maxRecDepth 10000
theorem len_cr (l : List Int) (f t : Nat) (h1 : f ≤ t) (h2 : t ≤ l.length) (h3 : (l.length : Int) ≤ 140737488355328) : CR Try.prog 8 gapT [.lp [0] 0] (gapR l f t) fun x rs => rs = gapR l f t ∧ x = .p (.int .i64 (l.length - (t - f))) := by
  refine CR_of_wp mixed 3 [] Try.func8 rfl (by kernel_rfl) rfl (by simp) (by simp) ?_
  simp [go_sem, Try.f8, gapR, gapT]
  refine ret_keep gapT (.p (.int .i64 (l.length - (t - f)))) (by simp [gapT]) (by simp (disch := omega) [go_sem, resOf, leA, wrap64]) ?_
  simp [go_sem, gapT]
def held (l : List Int) (f t : Nat) : List Int := l.take f ++ l.drop t
/-- Rows of takes and drops, place by place. -/
theorem held_back (l : List Int) (f t k : Nat) (h1 : f ≤ t) (h2 : t ≤ l.length) (h : k ≤ f) :
    held (l.take (k + t - f) ++ ((l.drop k).take (f - k) ++ l.drop t)) k (k + t - f) = held l f t := by
  unfold held
  (apply List.ext_getElem?; intro j; simp only [List.getElem?_append, List.getElem?_take, List.getElem?_drop, List.length_append, List.length_take, List.length_drop, List.getElem?_replicate, List.length_replicate]; (repeat' split); all_goals first | rfl | omega | (congr 1; omega) | (symm; apply List.getElem?_eq_none; omega) | (apply List.getElem?_eq_none; omega))
theorem held_on (l : List Int) (f t k : Nat) (h1 : f ≤ t) (h2 : t ≤ l.length) (h : f ≤ k) (h4 : k + t ≤ l.length + f) :
    held (l.take f ++ ((l.drop t).take (k - f) ++ l.drop k)) k (k + t - f) = held l f t := by
  unfold held
  (apply List.ext_getElem?; intro j; simp only [List.getElem?_append, List.getElem?_take, List.getElem?_drop, List.length_append, List.length_take, List.length_drop, List.getElem?_replicate, List.length_replicate]; (repeat' split); all_goals first | rfl | omega | (congr 1; omega) | (symm; apply List.getElem?_eq_none; omega) | (apply List.getElem?_eq_none; omega))
def moveR (l : List Int) (f t at_ : Nat) : AV → List (Tok × List AV) → Prop := fun _ rs => ∃ l', rs = gapR l' at_ (at_ + t - f) ∧ l'.length = l.length ∧ held l' at_ (at_ + t - f) = held l f t
theorem move_cr (l : List Int) (f t at_ : Nat) (h1 : f ≤ t) (h2 : t ≤ l.length) (h3 : (l.length : Int) ≤ 140737488355328) (h4 : at_ + t ≤ l.length + f) :
    CR Try.prog 15 gapT [.lp [0] 0, .p (.int .i64 at_)] (gapR l f t) (moveR l f t at_) := by
  refine CR_of_wp mixed 6 [] Try.func15 rfl (by kernel_rfl) rfl (by simp) (by simp) ?_
  simp [go_sem, Try.f15, gapR, gapT]
  refine condK_if (fun h => ?_) (fun h => ?_)
  · simp (disch := omega) [go_sem, wrap64]
    have e1 : ((t : Int) - ((f : Int) - (at_ : Int))).toNat = at_ + t - f := by omega
    have e2 : at_ + t - f + (f - at_) = t := by omega
    have e3 : ((t : Int) - ((f : Int) - (at_ : Int))) = ((at_ + t - f : Nat) : Int) := by omega
    refine ⟨by omega, by omega, by omega, ?_⟩
    rw [e1, e2, e3, List.take_take, Nat.min_self]
    refine ret_keep gapT (.tup []) (by simp [gapT]) (by simp [go_sem, resOf, leA]) ?_
    refine ⟨_, ?_, ?_, held_back l f t at_ h1 h2 (by omega)⟩
    · simp [go_sem, gapT, gapR]; omega
    · simp; omega
  · simp (disch := omega) [go_sem, wrap64]
    refine condK_if (fun h' => ?_) (fun h' => ?_)
    · simp (disch := omega) [go_sem, wrap64]
      have e1 : ((t : Int) + ((at_ : Int) - (f : Int))).toNat - t = at_ - f := by omega
      have e2 : f + (at_ - f) = at_ := by omega
      have e3 : ((t : Int) + ((at_ : Int) - (f : Int))) = ((at_ + t - f : Nat) : Int) := by omega
      refine ⟨by omega, by omega, by omega, ?_⟩
      rw [e1, e2, e3, List.take_take, Nat.min_self]
      refine ret_keep gapT (.tup []) (by simp [gapT]) (by simp [go_sem, resOf, leA]) ?_
      refine ⟨_, ?_, ?_, held_on l f t at_ h1 h2 (by omega) h4⟩
      · simp [go_sem, gapT, gapR]; omega
      · simp; omega
    · simp (disch := omega) [go_sem, wrap64]
      have e : f = at_ := by omega
      subst e
      have e2 : f + t - f = t := by omega
      refine ret_keep gapT (.tup []) (by simp [gapT]) (by simp [go_sem, resOf, leA]) ?_
      refine ⟨l, ?_, rfl, by rw [e2]⟩
      rw [e2]
      simp [go_sem, gapT, gapR]
end Go.Proofs.Ytklhmamefbehjaa
