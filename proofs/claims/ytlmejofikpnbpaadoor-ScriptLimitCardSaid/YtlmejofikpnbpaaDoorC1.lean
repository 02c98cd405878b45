/- What the program's number and line are, as contracts of the abstract machine. Conditions: as each law says. -/
import Derived.Test.YtlmejofikpnbpaaDoorB
namespace Go.Proofs.YtlmejofikpnbpaaDoor
open Go.AM
set_option maxHeartbeats 1600000
set_option maxRecDepth 10000
theorem strAt_at (s : List UInt8) (i : Nat) (h : i < s.length) : strAt s i = (s[i].toNat : Int) := by simp [strAt, h]
/-- Digits behind a number; -1: they are none. -/
def numL : List UInt8 → Int → Int
  | [], n => n
  | c :: r, n => if 48 ≤ (c.toNat : Int) ∧ (c.toNat : Int) ≤ 57 then numL r (10 * n + ((c.toNat : Int) - 48)) else -1
def numV (s : List UInt8) : Int := if s.length < 1 ∨ 4 < s.length ∨ (strAt s 0 = 48 ∧ 1 < s.length) then -1 else numL s 0
theorem pow4 {i : Nat} (h : i ≤ 3) : (10 : Int) ^ i ≤ 1000 := by
  have : i = 0 ∨ i = 1 ∨ i = 2 ∨ i = 3 := by omega
  rcases this with rfl | rfl | rfl | rfl <;> decide
theorem rnumber_cr [Evs] (s : List UInt8) : CR Tryd.prog 31 [] [.p (.str s)] [] (is (.p (.int .i64 (numV s)))) := by
  refine CR_of_wp mixed 5 [] Tryd.func31 rfl (by kernel_rfl) rfl (by simp) (by simp) ?_
  by_cases h1 : s.length < 1
  · have : s = [] := by simpa using h1
    subst this
    simp (maxSteps := 1000000) [go_sem, Tryd.f31]
    exact ret_is (.p (.int .i64 (-1))) rfl (by simp [go_sem, resOf, leA]) ⟨rfl, by simp [numV]⟩
  have e1 : ¬ ((s.length : Int) < 1) := by omega
  by_cases h4 : 4 < s.length
  · have e2 : (4 : Int) < (s.length : Int) := by omega
    simp (maxSteps := 1000000) [go_sem, Tryd.f31, e1, e2]
    exact ret_is (.p (.int .i64 (-1))) rfl (by simp [go_sem, resOf, leA]) ⟨rfl, by simp [numV, h4]⟩
  have e2 : ¬ (4 : Int) < (s.length : Int) := by omega
  have hpos : 0 < s.length := by omega
  by_cases h5 : strAt s 0 = 48 ∧ 1 < s.length
  · have e3 : (1 : Int) < (s.length : Int) := by omega
    simp (maxSteps := 1000000) [go_sem, Tryd.f31, e1, e2, h5.1, e3, hpos]
    exact ret_is (.p (.int .i64 (-1))) rfl (by simp [go_sem, resOf, leA]) ⟨rfl, by simp [numV, h5]⟩
  have e3 : (decide (strAt s 0 = 48) && decide ((1 : Int) < (s.length : Int))) = false := by simp; omega
  simp (maxSteps := 1000000) [go_sem, Tryd.f31, e1, e2, e3, hpos]
  have hV : numV s = numL s 0 := by unfold numV; rw [if_neg (by omega)]
  refine wpA_loop (fun i : Nat × Int => i.1 ≤ s.length ∧ numL (s.drop i.1) i.2 = numL s 0 ∧ 0 ≤ i.2 ∧ i.2 < 10 ^ i.1) (fun i => { n := 48, nv := 5, vs := [(0, .p (.str s)), (2, .p (.int .i64 0)), (3, .p (.int .i64 i.2)), (4, .p (.int .i64 i.1))], ts := [], rs := [] }) (fun i => s.length - i.1) (0, 0) (by simp) (by simp [go_sem, LeS, leV, leR, leA]) ?_
  rintro ⟨i, n⟩ ⟨hi, hn, hn0, hn1⟩
  simp (maxSteps := 1000000) [go_sem]
  refine condK_if (fun h => ?_) (fun h => ?_)
  · simp only at hi hn hn0 hn1
    have hc := strAt_at s i h
    have hd : s.drop i = s[i] :: s.drop (i + 1) := List.drop_eq_getElem_cons h
    have hb : (s[i].toNat : Int) < 256 := by have := s[i].toNat_lt; omega
    have hp := pow4 (i := i) (by omega)
    have hpp : (10 : Int) ^ (i + 1) = 10 * 10 ^ i := by rw [Int.pow_succ]; omega
    rw [hd, numL] at hn
    by_cases hq : 48 ≤ (s[i].toNat : Int) ∧ (s[i].toNat : Int) ≤ 57
    · rw [if_pos hq] at hn
      have w1 : IntKind.i64.wrap (10 * n) = 10 * n := wrap64 (by omega) (by omega)
      have w2 : IntKind.u8.wrap ((s[i].toNat : Int) - 48) = (s[i].toNat : Int) - 48 := wrap8 (by omega) (by omega)
      have w3 : IntKind.i64.wrap ((s[i].toNat : Int) - 48) = (s[i].toNat : Int) - 48 := wrap64 (by omega) (by omega)
      have w4 : IntKind.i64.wrap (10 * n + ((s[i].toNat : Int) - 48)) = 10 * n + ((s[i].toNat : Int) - 48) := wrap64 (by omega) (by omega)
      have w5 : IntKind.i64.wrap ((i : Int) + 1) = (i : Int) + 1 := wrap64 (by omega) (by omega)
      have q1 : ¬ (s[i].toNat : Int) < 48 := by omega
      have q2 : ¬ 57 < (s[i].toNat : Int) := by omega
      simp (maxSteps := 1000000) [go_sem, hc, h, w1, w2, w3, w4, w5, q1, q2]
      exact LoopK_next (i + 1, 10 * n + ((s[i].toNat : Int) - 48)) ⟨by simp only; omega, hn, by simp only; omega, by simp only [hpp]; omega⟩ (by simp [go_sem, LeS, leV, leR, leA]) (by simp only; omega)
    · rw [if_neg hq] at hn
      have q1 : (decide ((s[i].toNat : Int) < 48) || decide (57 < (s[i].toNat : Int))) = true := by simp; omega
      simp (maxSteps := 1000000) [go_sem, hc, h, q1]
      exact ret_is (.p (.int .i64 (-1))) rfl (by simp [go_sem, resOf, leA]) ⟨rfl, by rw [hV, ← hn]⟩
  · have hk : i = s.length := by omega
    subst hk
    simp (maxSteps := 1000000) [go_sem]
    have hn' : n = numL s 0 := by simpa [numL] using hn
    exact ret_is (.p (.int .i64 n)) rfl (by simp [go_sem, resOf, leA]) ⟨rfl, by rw [hV, hn']⟩
end Go.Proofs.YtlmejofikpnbpaaDoor
namespace Go.Proofs.YtlmejofikpnbpaaDoor
open Go.AM
set_option maxHeartbeats 1600000
set_option maxRecDepth 10000
/-- An event: its kind, its byte, its rows and columns. -/
structure Ev where
  k : Int
  b : Int
  r : Int
  c : Int
  deriving Inhabited, DecidableEq
def evP (e : Ev) : PV := .agg [.int .i64 e.k, .int .u8 e.b, .int .i64 e.r, .int .i64 e.c]
def evsP (l : List Ev) : PV := .sl 4 (l.map evP)
/-- Bytes, in pairs of digits. -/
def hexL : List UInt8 → Option (List Ev)
  | [] => some []
  | [_] => none
  | a :: b :: r => if digV a < 0 ∨ digV b < 0 then none else (hexL r).map fun l => ⟨1, 16 * digV a + digV b, 0, 0⟩ :: l
def hexS (s : List UInt8) : Option (List Ev) := if s = [] ∨ s.length % 2 ≠ 0 ∨ 64 < s.length then none else hexL s
/-- Events, or none of them: what a function says that tells both. -/
def evR (o : Option (List Ev)) : AV → List (Tok × List AV) → Prop := fun y rs => rs = [] ∧ ∃ es : List PV, y = .tup [.p (.sl 4 es), .p (.bool o.isSome)] ∧ ∀ l, o = some l → es = l.map evP
def digits16 : List UInt8 := [48, 49, 50, 51, 52, 53, 54, 55, 56, 57, 97, 98, 99, 100, 101, 102]
theorem digV_eq (c : UInt8) : Lib.indexByte digits16 c = digV c := by
  have h : ∀ i : Fin 256, Lib.indexByte digits16 (UInt8.ofNat i.1) = digV (UInt8.ofNat i.1) := by decide
  have := h ⟨c.toNat, c.toNat_lt⟩
  simpa using this
theorem digV_ge (c : UInt8) : -1 ≤ digV c ∧ digV c ≤ 15 := by
  unfold digV
  split
  · omega
  · split <;> omega
theorem hex_ind [Evs] (c : UInt8) : CR Tryd.prog 41 [] [.p (.str digits16), .p (.int .u8 (c.toNat : Int))] [] (is (.p (.int .i64 (digV c)))) := by
  have := indexByte_cr digits16 c
  rwa [digV_eq] at this
theorem hex_cr [Evs] (s : List UInt8) (hs : s.length ≤ 4611686018427387904) : CR Tryd.prog 28 [] [.p (.str s)] [] (evR (hexS s)) := by
  refine CR_of_wpD [7] mixed 8 [] Tryd.func28 rfl (by kernel_rfl) rfl (by simp) (by simp) ?_
  have no : hexS s = none → evR (hexS s) (.tup [.p (.sl 4 []), .p (.bool false)]) [] := fun h => by
    rw [h]; exact ⟨rfl, [], rfl, fun l h => by cases h⟩
  by_cases h1 : s = []
  · subst h1
    simp (maxSteps := 1000000) [go_sem, Tryd.f28]
    exact ret_is (.tup [.p (.sl 4 []), .p (.bool false)]) rfl (by simp [go_sem, resOf, leA]) (no (by simp [hexS]))
  have e0 : (s.length : Int).tmod 2 = (s.length : Int) % 2 := Int.tmod_eq_emod_of_nonneg (by omega)
  by_cases h2 : s.length % 2 = 0
  · have e2 : ((s.length : Int).tmod 2 = 0) := by omega
    by_cases h3 : 64 < s.length
    · have e3 : (64 : Int) < s.length := by omega
      simp (maxSteps := 1000000) [go_sem, Tryd.f28, h1, e2, e3]
      exact ret_is (.tup [.p (.sl 4 []), .p (.bool false)]) rfl (by simp [go_sem, resOf, leA]) (no (by simp [hexS, h3]))
    · have e3 : ¬ (64 : Int) < s.length := by omega
      have hS : hexS s = hexL s := by unfold hexS; rw [if_neg (by simp [h1, h2]; omega)]
      simp (maxSteps := 1000000) [go_sem, Tryd.f28, h1, e2, e3]
      refine wpA_loop (fun i : Nat × List Ev => i.1 ≤ s.length ∧ 2 * i.2.length = i.1 ∧ hexL s = (hexL (s.drop i.1)).map (i.2 ++ ·))
        (fun i => { n := 52, nv := 8, vs := [(0, .p (.str s)), (2, .p (.sl 4 [])), (3, .p (.bool false)), (4, .os [4] 4 (i.2.map evP)), (5, .p (.int .i64 (i.1 : Nat)))], ts := [], rs := [] }) (fun i => s.length - i.1) (0, []) (by simp) (by simp [go_sem, LeS, leV, leR, leA]) ?_
      rintro ⟨k, out⟩ ⟨hi, hl, hn⟩
      simp only at hi hl hn
      simp (maxSteps := 1000000) [go_sem]
      refine condK_if (fun h => ?_) (fun h => ?_)
      · have h' : k + 1 < s.length := by omega
        have hc := strAt_at s k h
        have hc2 := strAt_at s (k + 1) h'
        have hd : s.drop k = s[k] :: s[k + 1] :: s.drop (k + 2) := by
          rw [List.drop_eq_getElem_cons h, List.drop_eq_getElem_cons h']
        have i1 := hex_ind s[k]
        have i2 := hex_ind s[k + 1]
        have g1 := digV_ge s[k]
        have g2 := digV_ge s[k + 1]
        rw [hd, hexL] at hn
        have w1 : IntKind.i64.wrap ((k : Int) + 1) = ((k + 1 : Nat) : Int) := by rw [wrap64 (by omega) (by omega)]; simp
        have w2 : IntKind.i64.wrap ((k : Int) + 2) = ((k + 2 : Nat) : Int) := by rw [wrap64 (by omega) (by omega)]; simp
        simp (maxSteps := 1000000) [go_sem, h, hc]
        refine HCallK_of (.p (.int .i64 (digV s[k]))) rfl rfl (fun _ => pcallA_of 41 i1 rfl ⟨rfl, by simp [Tryd.f41]⟩ ⟨by simp [go_sem], by simp [go_sem, digits16]⟩) ?_
        simp (maxSteps := 1000000) [go_sem, w1]
        refine ⟨⟨by omega, by omega⟩, ?_⟩
        rw [hc2]
        refine HCallK_of (.p (.int .i64 (digV s[k + 1]))) rfl rfl (fun _ => pcallA_of 41 i2 rfl ⟨rfl, by simp [Tryd.f41]⟩ ⟨by simp [go_sem], by simp [go_sem, digits16]⟩) ?_
        generalize digV s[k] = a at *
        generalize digV s[k + 1] = b at *
        by_cases hab : a < 0 ∨ b < 0
        · have q1 : (decide (a < 0) || decide (b < 0)) = true := by simpa using hab
          rw [if_pos hab] at hn
          simp (maxSteps := 1000000) [go_sem, q1]
          exact ret_is (.tup [.p (.sl 4 []), .p (.bool false)]) rfl (by simp [go_sem, resOf, leA]) (no (by rw [hS, hn]; rfl))
        · have q1 : (decide (a < 0) || decide (b < 0)) = false := by simpa using hab
          rw [if_neg hab] at hn
          have w3 : IntKind.i64.wrap (16 * a) = 16 * a := wrap64 (by omega) (by omega)
          have w4 : IntKind.i64.wrap (16 * a + b) = 16 * a + b := wrap64 (by omega) (by omega)
          have w5 : IntKind.u8.wrap (16 * a + b) = 16 * a + b := wrap8 (by omega) (by omega)
          simp (maxSteps := 1000000) [go_sem, q1, w2, w3, w4, w5]
          refine ⟨by omega, LoopK_next (k + 2, out ++ [⟨1, 16 * a + b, 0, 0⟩]) ⟨by simp only; omega, by simp only [List.length_append, List.length_singleton]; omega, ?_⟩ (by simp [go_sem, LeS, leV, leR, leA, evP]) (by simp only; omega)⟩
          simp only
          rw [hn, Option.map_map]
          congr 1
          funext l
          simp
      · have hk : k = s.length := by omega
        simp (maxSteps := 1000000) [go_sem]
        have hn' : hexL s = some out := by rw [hn, hk]; simp [hexL]
        exact ret_is (.tup [.p (evsP out), .p (.bool true)]) rfl (by simp [go_sem, resOf, leA, evsP]) ⟨rfl, out.map evP, by rw [hS, hn']; rfl, fun l hl => by rw [hS, hn'] at hl; injection hl with hl; rw [hl]⟩
  · have e2 : ¬ ((s.length : Int).tmod 2 = 0) := by omega
    simp (maxSteps := 1000000) [go_sem, Tryd.f28, h1, e2]
    exact ret_is (.tup [.p (.sl 4 []), .p (.bool false)]) rfl (by simp [go_sem, resOf, leA]) (no (by simp [hexS]; omega))
end Go.Proofs.YtlmejofikpnbpaaDoor
namespace Go.Proofs.YtlmejofikpnbpaaDoor
open Go.AM
set_option maxHeartbeats 1600000
set_option maxRecDepth 10000
/-- A number of four digits at the most. -/
def numO (s : List UInt8) : Option Int :=
  match Lib.atoiAll s with
  | .ok n => if s.length ≤ 4 ∧ 48 ≤ strAt s 0 ∧ strAt s 0 ≤ 57 ∧ (strAt s 0 ≠ 48 ∨ s.length = 1) then some n else none
  | _ => none
def numR (s : List UInt8) : AV → List (Tok × List AV) → Prop := fun y rs => rs = [] ∧ ∃ n, y = .tup [.p (.int .i64 n), .p (.bool (numO s).isSome)] ∧ ∀ m, numO s = some m → n = m
theorem number_cr [Evs] (s : List UInt8) (hs : s.length ≤ 281474976710656) : CR Tryd.prog 29 [] [.p (.str s)] [] (numR s) := by
  have ha := atoi_cr s hs
  refine CR_of_wp mixed 6 [] Tryd.func29 rfl (by kernel_rfl) rfl (by simp) (by simp) ?_
  simp (maxSteps := 1000000) [go_sem, Tryd.f29]
  refine ⟨⟨rfl, by simp [Tryd.f42]⟩, CallK_of [] ha (by simp [go_sem]) ⟨by simp [go_sem], by simp [go_sem]⟩ (by simp [go_sem]) ?_⟩
  rintro y rs ⟨rfl, n, v, rfl, (⟨hok, rfl⟩ | ⟨hno, t, p, rfl⟩)⟩
  · have hne : 0 < s.length := by
      cases s with
      | nil => simp [Lib.atoiAll] at hok
      | cons _ _ => simp
    simp (maxSteps := 1000000) [go_sem, hne]
    refine ⟨fun h1 h2 h3 => ⟨⟨⟨h1, h2⟩, h3⟩, fun h4 => ⟨⟨⟨h1, h2⟩, h3⟩, h4⟩⟩, ?_⟩
    refine ret_is (.tup [.p (.int .i64 n), .p (.bool (decide ((s.length : Int) ≤ 4) && decide (48 ≤ strAt s 0) && decide (strAt s 0 ≤ 57) && (!decide (strAt s 0 = 48) || decide ((s.length : Int) = 1))))]) rfl (by simp [go_sem, resOf, leA]) ⟨rfl, n, ?_, ?_⟩
    · congr 3
      simp only [numO, hok]
      by_cases hc : s.length ≤ 4 ∧ 48 ≤ strAt s 0 ∧ strAt s 0 ≤ 57 ∧ (strAt s 0 ≠ 48 ∨ s.length = 1)
      · rw [if_pos hc]
        obtain ⟨a, b, c, d⟩ := hc
        have d' : strAt s 0 = 48 → (s.length : Int) = 1 := fun e => by rcases d with d | d <;> omega
        simp [b, c]
        refine ⟨by omega, ?_⟩
        by_cases e : strAt s 0 = 48
        · exact .inr (d' e)
        · exact .inl e
      · rw [if_neg hc]
        simp
        intro a b c
        by_cases e : strAt s 0 = 48
        · exact ⟨e, fun k => hc ⟨by omega, b, c, .inr (by omega)⟩⟩
        · exact absurd ⟨by omega, b, c, .inl e⟩ hc
    · intro m hm
      simp only [numO, hok] at hm
      split at hm
      · injection hm
      · cases hm
  · have hO : numO s = none := by
      unfold numO
      split
      · rename_i m hm; exact absurd hm (hno m)
      · rfl
    simp (maxSteps := 1000000) [go_sem]
    exact ret_is (.tup [.p (.int .i64 n), .p (.bool false)]) rfl (by simp [go_sem, resOf, leA]) ⟨rfl, n, by rw [hO]; rfl, fun m hm => by rw [hO] at hm; cases hm⟩
def tickL : List UInt8 := [116, 105, 99, 107]
def bytesL : List UInt8 := [98, 121, 116, 101, 115]
def sizeL : List UInt8 := [115, 105, 122, 101]
/-- What the program makes of a line. -/
def lineP (s : List UInt8) : Option (List Ev) :=
  if s = [] ∨ strAt s 0 = 35 then some []
  else if (cutL s 32).1 = tickL then (if (cutL s 32).2.2 = true then none else some [⟨2, 0, 0, 0⟩])
  else if (cutL s 32).1 = bytesL then hexS (cutL s 32).2.1
  else if (cutL s 32).1 = sizeL then
    (match numO (cutL (cutL s 32).2.1 32).1, numO (cutL (cutL s 32).2.1 32).2.1 with
     | some n, some m => some [⟨3, 0, n, m⟩]
     | _, _ => none)
  else none
theorem cut_len (s : List UInt8) (a b : Int) : (cut s a b).length ≤ s.length := by simp [cut]; omega
theorem cutL_len (s : List UInt8) (c : UInt8) : (cutL s c).1.length ≤ s.length ∧ (cutL s c).2.1.length ≤ s.length := by
  unfold cutL
  split
  · exact ⟨cut_len _ _ _, cut_len _ _ _⟩
  · simp
theorem line_cr [Evs] (s : List UInt8) (hs : s.length ≤ 281474976710656) : CR Tryd.prog 18 [] [.p (.str s)] [] (evR (lineP s)) := by
  have hk := cut_cr s 32 (by omega)
  obtain ⟨hl1, hl2⟩ := cutL_len s 32
  have hL := lineP.eq_1 s
  generalize (cutL s 32).1 = word at *
  generalize (cutL s 32).2.1 = rest at *
  generalize (cutL s 32).2.2 = found at *
  have no : lineP s = none → ∀ es, evR (lineP s) (.tup [.p (.sl 4 es), .p (.bool false)]) [] := fun h es => by
    rw [h]; exact ⟨rfl, es, rfl, fun l h => by cases h⟩
  have yes : ∀ l, lineP s = some l → evR (lineP s) (.tup [.p (evsP l), .p (.bool true)]) [] := fun l h => by
    rw [h]; exact ⟨rfl, _, rfl, fun l h => by injection h with h; rw [h]⟩
  refine CR_of_wp mixed 14 [] Tryd.func18 rfl (by kernel_rfl) rfl (by simp) (by simp) ?_
  simp (maxSteps := 1000000) [go_sem, Tryd.f18]
  refine ⟨⟨rfl, by simp [Tryd.f27]⟩, CallK_of [] hk (by simp [go_sem]) ⟨by simp [go_sem], by simp [go_sem]⟩ (by simp [go_sem]) ?_⟩
  rintro y rs ⟨rfl, rfl⟩
  by_cases h1 : s = []
  · subst h1
    simp (maxSteps := 1000000) [go_sem]
    exact ret_is (.tup [.p (evsP []), .p (.bool true)]) rfl (by simp [go_sem, resOf, leA, evsP]) (yes [] (by simpa using hL))
  have hne : 0 < s.length := List.length_pos_iff.2 h1
  by_cases h2 : strAt s 0 = 35
  · simp (maxSteps := 1000000) [go_sem, h1, h2, hne]
    exact ret_is (.tup [.p (evsP []), .p (.bool true)]) rfl (by simp [go_sem, resOf, leA, evsP]) (yes [] (by simpa [h2] using hL))
  rw [if_neg (by simp [h1, h2])] at hL
  simp (maxSteps := 1000000) [go_sem, h1, h2, hne]
  refine condK_if (fun h3 => ?_) (fun h3 => ?_)
  · rw [if_pos (show word = tickL from h3)] at hL
    cases found with
    | true =>
      simp (maxSteps := 1000000) [go_sem]
      exact ret_is (.tup [.p (evsP [⟨2, 0, 0, 0⟩]), .p (.bool false)]) rfl (by simp [go_sem, resOf, leA, evsP, evP]) (no hL _)
    | false =>
      simp (maxSteps := 1000000) [go_sem]
      exact ret_is (.tup [.p (evsP [⟨2, 0, 0, 0⟩]), .p (.bool true)]) rfl (by simp [go_sem, resOf, leA, evsP, evP]) (yes _ hL)
  rw [if_neg (show ¬ word = tickL from h3)] at hL
  simp (maxSteps := 1000000) [go_sem]
  refine condK_if (fun h4 => ?_) (fun h4 => ?_)
  · rw [if_pos (show word = bytesL from h4)] at hL
    simp (maxSteps := 1000000) [go_sem]
    refine ⟨⟨rfl, by simp [Tryd.f28]⟩, CallK_of [] (hex_cr rest (by omega)) (by simp [go_sem]) ⟨by simp [go_sem], by simp [go_sem]⟩ (by simp [go_sem]) ?_⟩
    rintro y rs ⟨rfl, es, rfl, hE⟩
    simp (maxSteps := 1000000) [go_sem]
    exact ret_is (.tup [.p (.sl 4 es), .p (.bool (hexS rest).isSome)]) rfl (by simp [go_sem, resOf, leA]) ⟨rfl, es, by rw [hL], fun l hl => hE l (by rw [← hL]; exact hl)⟩
  rw [if_neg (show ¬ word = bytesL from h4)] at hL
  simp (maxSteps := 1000000) [go_sem]
  refine condK_if (fun h5 => ?_) (fun h5 => ?_)
  · rw [if_pos (show word = sizeL from h5)] at hL
    have hk2 := cut_cr rest 32 (by omega)
    obtain ⟨m1, m2⟩ := cutL_len rest 32
    generalize (cutL rest 32).1 = wa at *
    generalize (cutL rest 32).2.1 = wb at *
    generalize (cutL rest 32).2.2 = wf at *
    simp (maxSteps := 1000000) [go_sem]
    refine ⟨⟨rfl, by simp [Tryd.f27]⟩, CallK_of [] hk2 (by simp [go_sem]) ⟨by simp [go_sem], by simp [go_sem]⟩ (by simp [go_sem]) ?_⟩
    rintro y rs ⟨rfl, rfl⟩
    simp (maxSteps := 1000000) [go_sem]
    refine ⟨⟨rfl, by simp [Tryd.f29]⟩, CallK_of [] (number_cr wa (by omega)) (by simp [go_sem]) ⟨by simp [go_sem], by simp [go_sem]⟩ (by simp [go_sem]) ?_⟩
    rintro y rs ⟨rfl, n, rfl, hn⟩
    simp (maxSteps := 1000000) [go_sem]
    refine ⟨⟨rfl, by simp [Tryd.f29]⟩, CallK_of [] (number_cr wb (by omega)) (by simp [go_sem]) ⟨by simp [go_sem], by simp [go_sem]⟩ (by simp [go_sem]) ?_⟩
    rintro y rs ⟨rfl, m, rfl, hm⟩
    generalize numO wa = oa at *
    generalize numO wb = ob at *
    cases oa with
    | none =>
      simp (maxSteps := 1000000) [go_sem]
      exact ret_is (.tup [.p (evsP [⟨3, 0, n, m⟩]), .p (.bool false)]) rfl (by simp [go_sem, resOf, leA, evsP, evP]) (no (by simpa using hL) _)
    | some n' =>
      cases ob with
      | none =>
        simp (maxSteps := 1000000) [go_sem]
        exact ret_is (.tup [.p (evsP [⟨3, 0, n, m⟩]), .p (.bool false)]) rfl (by simp [go_sem, resOf, leA, evsP, evP]) (no (by simpa using hL) _)
      | some m' =>
        obtain rfl := hn n' rfl
        obtain rfl := hm m' rfl
        simp (maxSteps := 1000000) [go_sem]
        exact ret_is (.tup [.p (evsP [⟨3, 0, n, m⟩]), .p (.bool true)]) rfl (by simp [go_sem, resOf, leA, evsP, evP]) (yes _ (by simpa using hL))
  rw [if_neg (show ¬ word = sizeL from h5)] at hL
  simp (maxSteps := 1000000) [go_sem]
  exact ret_is (.tup [.p (.sl 4 []), .p (.bool false)]) rfl (by simp [go_sem, resOf, leA]) (no hL _)
end Go.Proofs.YtlmejofikpnbpaaDoor
