/- The program's events of a text are the document's: plain Lean. Conditions: as each law says. -/
import Derived.Test.YtlmejofikpnbpaaDoorC1
import Derived.Test.YtlmejofikpnbpaaDoorP1
namespace Go.Proofs.YtlmejofikpnbpaaDoor
open Go.AM
set_option maxHeartbeats 1600000
set_option maxRecDepth 10000
/-- Lines, each without its end. -/
def linesG (cur : List UInt8) : List UInt8 → List (List UInt8)
  | [] => if cur = [] then [] else [cur]
  | b :: r => if b = 10 then cur :: linesG [] r else linesG (cur ++ [b]) r
theorem cut_snoc (s : List UInt8) (a i : Nat) (h : i < s.length) (ha : a ≤ i) : cut s a (i + 1) = cut s a i ++ [s[i]] := by
  simp only [cut, Int.toNat_natCast, show ((i : Int) + 1).toNat = i + 1 by omega]
  rw [show i + 1 - a = (i - a) + 1 by omega, List.take_add_one]
  have : (s.drop a)[i - a]? = some s[i] := by
    rw [List.getElem?_drop, show a + (i - a) = i by omega]
    exact List.getElem?_eq_getElem h
  rw [this]; rfl
theorem cut_nil (s : List UInt8) (a : Nat) : cut s a s.length = [] ↔ s.length ≤ a := by
  simp only [cut, Int.toNat_natCast]
  rw [List.take_of_length_le (by simp), List.drop_eq_nil_iff]
theorem cut_same (s : List UInt8) (a : Nat) : cut s a a = [] := by simp [cut]
theorem lines_cr [Evs] (s : List UInt8) (hs : s.length ≤ 262144) : CR Tryd.prog 19 [] [.p (.str s)] [] (is (.p (.sl 1 ((linesG [] s).map .str)))) := by
  refine CR_of_wp mixed 6 [] Tryd.func19 rfl (by kernel_rfl) rfl (by simp) (by simp) ?_
  simp (maxSteps := 1000000) [go_sem, Tryd.f19]
  refine wpA_loop (fun i : Nat × Nat × List (List UInt8) => i.1 ≤ i.2.1 ∧ i.2.1 ≤ s.length ∧ i.2.2.length ≤ i.2.1 ∧ linesG [] s = i.2.2 ++ linesG (cut s i.1 i.2.1) (s.drop i.2.1))
    (fun i => { n := 36, nv := 6, vs := [(0, .p (.str s)), (2, .p (.sl 1 [])), (3, .os [3] 1 (i.2.2.map .str)), (4, .p (.int .i64 i.1)), (5, .p (.int .i64 i.2.1))], ts := [], rs := [] }) (fun i => s.length - i.2.1) (0, 0, []) (by simp [cut]) (by simp [go_sem, LeS, leV, leR, leA]) ?_
  rintro ⟨f, i, out⟩ ⟨hfi, hi, ho, hn⟩
  simp only at hfi hi ho hn
  simp (maxSteps := 1000000) [go_sem]
  refine condK_if (fun h => ?_) (fun h => ?_)
  · have hc := strAt_at s i h
    have hd : s.drop i = s[i] :: s.drop (i + 1) := List.drop_eq_getElem_cons h
    have w1 : IntKind.i64.wrap ((i : Int) + 1) = ((i + 1 : Nat) : Int) := by rw [wrap64 (by omega) (by omega)]; simp
    rw [hd, linesG] at hn
    have hcs := cut_snoc s f i h hfi
    by_cases h10 : s[i] = 10
    · have e10 : (s[i].toNat : Int) = 10 := by rw [h10]; rfl
      rw [if_pos h10] at hn
      simp (maxSteps := 1000000) [go_sem, h, hc, e10, w1, hfi, hi]
      exact ⟨by omega, LoopK_next (i + 1, i + 1, out ++ [cut s f i]) ⟨Nat.le_refl _, by simp only; omega, by simp only [List.length_append, List.length_singleton]; omega, by simp only [cut_same]; rw [hn]; simp⟩ (by simp [go_sem, LeS, leV, leR, leA]) (by simp only; omega)⟩
    · have e10 : ¬ (s[i].toNat : Int) = 10 := fun e => h10 (by apply UInt8.toNat_inj.1; show s[i].toNat = 10; omega)
      rw [if_neg h10] at hn
      simp (maxSteps := 1000000) [go_sem, h, hc, e10, w1]
      exact LoopK_next (f, i + 1, out) ⟨by simp only; omega, by simp only; omega, by simp only; omega, by simp only [Int.natCast_add, Int.natCast_one, hcs]; exact hn⟩ (by simp [go_sem, LeS, leV, leR, leA]) (by simp only; omega)
  · have hk : i = s.length := by omega
    subst hk
    simp (maxSteps := 1000000) [go_sem]
    rw [List.drop_length, linesG] at hn
    refine condK_if (fun h5 => ?_) (fun h5 => ?_)
    · rw [if_neg (by rw [cut_nil]; omega)] at hn
      simp (maxSteps := 1000000) [go_sem]
      refine ⟨by omega, by omega, ?_⟩
      exact ret_is (.p (.sl 1 ((linesG [] s).map .str))) rfl (by simp [go_sem, resOf, leA, hn]) ⟨rfl, rfl⟩
    · rw [if_pos (by rw [cut_nil]; omega)] at hn
      simp (maxSteps := 1000000) [go_sem]
      exact ret_is (.p (.sl 1 ((linesG [] s).map .str))) rfl (by simp [go_sem, resOf, leA, hn]) ⟨rfl, rfl⟩
/-- How far it is to a space. -/
def spc (s : List UInt8) : Nat := (s.takeWhile (· ≠ 32)).length
/-- What the document makes of a line. -/
def lineV (s : List UInt8) : Option (List Ev) :=
  if s = [] ∨ strAt s 0 = 35 then some []
  else if s = tickL then some [⟨2, 0, 0, 0⟩]
  else if beg s [115, 105, 122, 101, 32] = true then
    (if 5 + spc (s.drop 5) = s.length then none
     else if 0 ≤ numV (cut s 5 (5 + spc (s.drop 5) : Nat)) ∧ 0 ≤ numV (cut s (5 + spc (s.drop 5) + 1 : Nat) s.length) then some [⟨3, 0, numV (cut s 5 (5 + spc (s.drop 5) : Nat)), numV (cut s (5 + spc (s.drop 5) + 1 : Nat) s.length)⟩] else none)
  else if beg s [98, 121, 116, 101, 115, 32] = false ∨ s.length % 2 ≠ 0 ∨ s.length < 8 ∨ 70 < s.length then none
  else hexL (s.drop 6)
theorem beg_len {s p : List UInt8} (h : beg s p = true) : p.length ≤ s.length := by simp [beg] at h; exact h.1
theorem rline_cr [Evs] (s : List UInt8) (hs : s.length ≤ 262144) : CR Tryd.prog 20 [] [.p (.str s)] [] (evR (lineV s)) := by
  have b1 := begins_cr s [115, 105, 122, 101, 32]
  have b2 := begins_cr s [98, 121, 116, 101, 115, 32]
  have hL := lineV.eq_1 s
  have no : lineV s = none → ∀ es, evR (lineV s) (.tup [.p (.sl 4 es), .p (.bool false)]) [] := fun h es => by
    rw [h]; exact ⟨rfl, es, rfl, fun l h => by cases h⟩
  have yes : ∀ l, lineV s = some l → evR (lineV s) (.tup [.p (evsP l), .p (.bool true)]) [] := fun l h => by
    rw [h]; exact ⟨rfl, _, rfl, fun l h => by injection h with h; rw [h]⟩
  refine CR_of_wpD [11, 19] mixed 11 [] Tryd.func20 rfl (by kernel_rfl) rfl (by simp) (by simp) ?_
  by_cases h1 : s = []
  · subst h1
    simp (maxSteps := 1000000) [go_sem, Tryd.f20]
    exact ret_is (.tup [.p (evsP []), .p (.bool true)]) rfl (by simp [go_sem, resOf, leA, evsP]) (yes [] (by simpa using hL))
  have hne : 0 < s.length := List.length_pos_iff.2 h1
  by_cases h2 : strAt s 0 = 35
  · simp (maxSteps := 1000000) [go_sem, Tryd.f20, h1, h2, hne]
    exact ret_is (.tup [.p (evsP []), .p (.bool true)]) rfl (by simp [go_sem, resOf, leA, evsP]) (yes [] (by simpa [h2] using hL))
  rw [if_neg (by simp [h1, h2])] at hL
  simp (maxSteps := 1000000) [go_sem, Tryd.f20, h1, h2, hne]
  refine condK_if (fun h3 => ?_) (fun h3 => ?_)
  · rw [if_pos (show s = tickL from h3)] at hL
    simp (maxSteps := 1000000) [go_sem]
    exact ret_is (.tup [.p (evsP [⟨2, 0, 0, 0⟩]), .p (.bool true)]) rfl (by simp [go_sem, resOf, leA, evsP, evP]) (yes _ hL)
  rw [if_neg (show ¬ s = tickL from h3)] at hL
  simp (maxSteps := 1000000) [go_sem]
  refine ⟨⟨rfl, by simp [Tryd.f30]⟩, CallK_of [] b1 (by simp [go_sem]) ⟨by simp [go_sem], by simp [go_sem]⟩ (by simp [go_sem]) ?_⟩
  rintro y rs ⟨rfl, rfl⟩
  by_cases h4 : beg s [115, 105, 122, 101, 32] = true
  · have hl5 := beg_len h4
    rw [if_pos h4] at hL
    simp (maxSteps := 1000000) [go_sem, h4]
    refine wpA_loop (fun i : Nat => 5 ≤ i ∧ i ≤ s.length ∧ 5 + spc (s.drop 5) = i + spc (s.drop i)) (fun i => { n := 109, nv := 11, vs := [(0, .p (.str s)), (2, .p (.sl 4 [])), (3, .p (.bool false)), (4, .p (.int .i64 i))], ts := [], rs := [] }) (fun i => s.length - i) 5 ⟨Nat.le_refl _, hl5, rfl⟩ (by simp [go_sem, LeS, leV, leR, leA]) ?_
    rintro i ⟨hi5, hi, hn⟩
    by_cases hlt : i < s.length
    · have hc := strAt_at s i hlt
      have hd : s.drop i = s[i] :: s.drop (i + 1) := List.drop_eq_getElem_cons hlt
      have w1 : IntKind.i64.wrap ((i : Int) + 1) = ((i + 1 : Nat) : Int) := by rw [wrap64 (by omega) (by omega)]; simp
      by_cases h32 : s[i] = 32
      · have e32 : strAt s i = 32 := by rw [hc, h32]; rfl
        have hk : 5 + spc (s.drop 5) = i := by
          rw [hn]
          unfold spc
          rw [hd, List.takeWhile_cons, if_neg (by simp [h32])]
          rfl
        rw [hk, if_neg (by omega)] at hL
        have hne2 : ¬ (i : Int) = s.length := by omega
        have n1 := rnumber_cr (cut s 5 i)
        have n2 := rnumber_cr (cut s (i + 1 : Nat) s.length)
        generalize numV (cut s 5 i) = a at *
        generalize numV (cut s (i + 1 : Nat) s.length) = b at *
        simp (maxSteps := 1000000) [go_sem, hlt, e32, hne2]
        refine ⟨⟨by omega, by omega⟩, ?_⟩
        refine HCallK_of (.p (.int .i64 a)) rfl rfl (fun _ => pcallA_of 31 n1 rfl ⟨rfl, by simp [Tryd.f31]⟩ ⟨by simp [go_sem], by simp [go_sem]⟩) ?_
        simp (maxSteps := 1000000) [go_sem, w1]
        refine ⟨⟨by omega, by omega⟩, ?_⟩
        refine HCallK_of (.p (.int .i64 b)) rfl rfl (fun _ => pcallA_of 31 n2 rfl ⟨rfl, by simp [Tryd.f31]⟩ ⟨by simp [go_sem], by simp [go_sem]⟩) ?_
        by_cases ha : 0 ≤ a
        · by_cases hb : 0 ≤ b
          · rw [if_pos ⟨ha, hb⟩] at hL
            simp (maxSteps := 1000000) [go_sem, ha, hb]
            exact ret_is (.tup [.p (evsP [⟨3, 0, a, b⟩]), .p (.bool true)]) rfl (by simp [go_sem, resOf, leA, evsP, evP]) (yes _ hL)
          · rw [if_neg (fun k => hb k.2)] at hL
            simp (maxSteps := 1000000) [go_sem, ha, hb]
            exact ret_is (.tup [.p (evsP [⟨3, 0, a, b⟩]), .p (.bool false)]) rfl (by simp [go_sem, resOf, leA, evsP, evP]) (no hL _)
        · rw [if_neg (fun k => ha k.1)] at hL
          simp (maxSteps := 1000000) [go_sem, ha]
          exact ret_is (.tup [.p (evsP [⟨3, 0, a, b⟩]), .p (.bool false)]) rfl (by simp [go_sem, resOf, leA, evsP, evP]) (no hL _)
      · have e32 : ¬ strAt s i = 32 := fun e => h32 (by rw [hc] at e; apply UInt8.toNat_inj.1; show s[i].toNat = 32; omega)
        have hk : spc (s.drop i) = 1 + spc (s.drop (i + 1)) := by
          unfold spc
          rw [hd, List.takeWhile_cons, if_pos (by simp [h32]), List.length_cons]
          omega
        simp (maxSteps := 1000000) [go_sem, hlt, e32, w1]
        exact LoopK_next (i + 1) ⟨by omega, by omega, by omega⟩ (by simp [go_sem, LeS, leV, leR, leA]) (by omega)
    · have hk : i = s.length := by omega
      subst hk
      have hk2 : 5 + spc (s.drop 5) = s.length := by rw [hn, List.drop_length]; rfl
      rw [if_pos hk2] at hL
      simp (maxSteps := 1000000) [go_sem]
      exact ret_is (.tup [.p (.sl 4 []), .p (.bool false)]) rfl (by simp [go_sem, resOf, leA]) (no hL _)
  rw [if_neg h4] at hL
  simp (maxSteps := 1000000) [go_sem, h4]
  refine ⟨⟨rfl, by simp [Tryd.f30]⟩, CallK_of [] b2 (by simp [go_sem]) ⟨by simp [go_sem], by simp [go_sem]⟩ (by simp [go_sem]) ?_⟩
  rintro y rs ⟨rfl, rfl⟩
  have e0 : (s.length : Int).tmod 2 = (s.length : Int) % 2 := Int.tmod_eq_emod_of_nonneg (by omega)
  by_cases h5 : beg s [98, 121, 116, 101, 115, 32] = false ∨ s.length % 2 ≠ 0 ∨ s.length < 8 ∨ 70 < s.length
  · rw [if_pos h5] at hL
    have e2 : s.length % 2 ≠ 0 → ¬ (s.length : Int).tmod 2 = 0 := fun h => by omega
    by_cases q1 : beg s [98, 121, 116, 101, 115, 32] = false
    · simp (maxSteps := 1000000) [go_sem, q1]
      exact ret_is (.tup [.p (.sl 4 []), .p (.bool false)]) rfl (by simp [go_sem, resOf, leA]) (no hL _)
    have q1 : beg s [98, 121, 116, 101, 115, 32] = true := by simpa using q1
    by_cases q2 : (s.length : Int).tmod 2 = 0
    · by_cases q3 : (s.length : Int) < 8
      · simp (maxSteps := 1000000) [go_sem, q1, q2, q3]
        exact ret_is (.tup [.p (.sl 4 []), .p (.bool false)]) rfl (by simp [go_sem, resOf, leA]) (no hL _)
      · have q4 : 70 < (s.length : Int) := by
          rcases h5 with h | h | h | h
          · rw [q1] at h; cases h
          · exact absurd q2 (e2 h)
          · omega
          · omega
        simp (maxSteps := 1000000) [go_sem, q1, q2, q3, q4]
        exact ret_is (.tup [.p (.sl 4 []), .p (.bool false)]) rfl (by simp [go_sem, resOf, leA]) (no hL _)
    · simp (maxSteps := 1000000) [go_sem, q1, q2]
      exact ret_is (.tup [.p (.sl 4 []), .p (.bool false)]) rfl (by simp [go_sem, resOf, leA]) (no hL _)
  · rw [if_neg h5] at hL
    have hb : beg s [98, 121, 116, 101, 115, 32] = true := by
      cases hq : beg s [98, 121, 116, 101, 115, 32] with
      | true => rfl
      | false => exact absurd (.inl hq) h5
    have e2 : (s.length : Int).tmod 2 = 0 := by omega
    have e3 : ¬ (s.length : Int) < 8 := by omega
    have e4 : ¬ 70 < (s.length : Int) := by omega
    simp (maxSteps := 1000000) [go_sem, hb, e2, e3, e4]
    refine wpA_loop (fun i : Nat × List Ev => i.1 ≤ s.length ∧ 6 + 2 * i.2.length = i.1 ∧ hexL (s.drop 6) = (hexL (s.drop i.1)).map (i.2 ++ ·))
      (fun i => { n := 109, nv := 11, vs := [(0, .p (.str s)), (2, .p (.sl 4 [])), (3, .p (.bool false)), (7, .os [7] 4 (i.2.map evP)), (8, .p (.int .i64 (i.1 : Nat)))], ts := [], rs := [] }) (fun i => s.length - i.1) (6, []) (by simp; omega) (by simp [go_sem, LeS, leV, leR, leA]) ?_
    rintro ⟨k, out⟩ ⟨hi, hl, hn⟩
    simp only at hi hl hn
    simp (maxSteps := 1000000) [go_sem]
    refine condK_if (fun h => ?_) (fun h => ?_)
    · have h' : k + 1 < s.length := by omega
      have hc := strAt_at s k h
      have hc2 := strAt_at s (k + 1) h'
      have hd : s.drop k = s[k] :: s[k + 1] :: s.drop (k + 2) := by
        rw [List.drop_eq_getElem_cons h, List.drop_eq_getElem_cons h']
      have i1 := digit_cr s[k]
      have i2 := digit_cr s[k + 1]
      have g1 := digV_ge s[k]
      have g2 := digV_ge s[k + 1]
      rw [hd, hexL] at hn
      have w1 : IntKind.i64.wrap ((k : Int) + 1) = ((k + 1 : Nat) : Int) := by rw [wrap64 (by omega) (by omega)]; simp
      have w2 : IntKind.i64.wrap ((k : Int) + 2) = ((k + 2 : Nat) : Int) := by rw [wrap64 (by omega) (by omega)]; simp
      simp (maxSteps := 1000000) [go_sem, h, hc]
      refine HCallK_of (.p (.int .i64 (digV s[k]))) rfl rfl (fun _ => pcallA_of 32 i1 rfl ⟨rfl, by simp [Tryd.f32]⟩ ⟨by simp [go_sem], by simp [go_sem]⟩) ?_
      simp (maxSteps := 1000000) [go_sem, w1]
      refine ⟨⟨by omega, by omega⟩, ?_⟩
      rw [hc2]
      refine HCallK_of (.p (.int .i64 (digV s[k + 1]))) rfl rfl (fun _ => pcallA_of 32 i2 rfl ⟨rfl, by simp [Tryd.f32]⟩ ⟨by simp [go_sem], by simp [go_sem]⟩) ?_
      generalize digV s[k] = a at *
      generalize digV s[k + 1] = b at *
      by_cases hab : a < 0 ∨ b < 0
      · have q1 : (decide (a < 0) || decide (b < 0)) = true := by simpa using hab
        rw [if_pos hab] at hn
        simp (maxSteps := 1000000) [go_sem, q1]
        exact ret_is (.tup [.p (.sl 4 []), .p (.bool false)]) rfl (by simp [go_sem, resOf, leA]) (no (by rw [hL, hn]; rfl) _)
      · have q1 : (decide (a < 0) || decide (b < 0)) = false := by simpa using hab
        rw [if_neg hab] at hn
        have w3 : IntKind.i64.wrap (16 * a) = 16 * a := wrap64 (by omega) (by omega)
        have w4 : IntKind.i64.wrap (16 * a + b) = 16 * a + b := wrap64 (by omega) (by omega)
        have w5 : IntKind.u8.wrap (16 * a + b) = 16 * a + b := wrap8 (by omega) (by omega)
        simp (maxSteps := 1000000) [go_sem, q1, w2, w3, w4, w5]
        refine ⟨by omega, LoopK_next (k + 2, out ++ [⟨1, 16 * a + b, 0, 0⟩]) ⟨by simp only; omega, by simp only [List.length_append, List.length_singleton]; omega, ?_⟩ (by simp [go_sem, LeS, leV, leR, leA, evP]) (by simp only; omega)⟩
        simp only
        rw [hn, Option.map_map]
        congr 1
        funext l
        simp
    · have hk : k = s.length := by omega
      simp (maxSteps := 1000000) [go_sem]
      have hn' : hexL (s.drop 6) = some out := by rw [hn, hk]; simp [hexL]
      exact ret_is (.tup [.p (evsP out), .p (.bool true)]) rfl (by simp [go_sem, resOf, leA, evsP]) (yes _ (by rw [hL, hn']))
end Go.Proofs.YtlmejofikpnbpaaDoor
namespace Go.Proofs.YtlmejofikpnbpaaDoor
open Go.AM
set_option maxHeartbeats 1600000
set_option maxRecDepth 10000
theorem linesG_le : ∀ (s cur x : List UInt8), x ∈ linesG cur s → x.length ≤ cur.length + s.length
  | [], cur, x, h => by
    unfold linesG at h
    split at h
    · cases h
    · simp at h; subst h; simp
  | b :: r, cur, x, h => by
    unfold linesG at h
    split at h
    · rcases List.mem_cons.1 h with rfl | h
      · simp
      · have := linesG_le r [] x h; simp at this ⊢; omega
    · have := linesG_le r _ x h; simp at this ⊢; omega
theorem linesG_len : ∀ (s cur : List UInt8), (linesG cur s).length ≤ s.length + 1
  | [], cur => by unfold linesG; split <;> simp
  | b :: r, cur => by
    unfold linesG
    split
    · have := linesG_len r []; simp; omega
    · have := linesG_len r (cur ++ [b]); simp; omega
theorem lineV_len {x : List UInt8} {l : List Ev} (h : lineV x = some l) : l.length ≤ 70 := by
  have hx : ∀ (s : List UInt8) (l : List Ev), hexL s = some l → 2 * l.length = s.length := by
    intro s
    induction s using hexL.induct with
    | case1 => intro l h; simp [hexL] at h; subst h; rfl
    | case2 => intro l h; simp [hexL] at h
    | case3 a b r hc => intro l h; rw [hexL, if_pos hc] at h; cases h
    | case4 a b r hc ih =>
      intro l h
      rw [hexL, if_neg hc] at h
      obtain ⟨m, hm, rfl⟩ := Option.map_eq_some_iff.1 h
      have := ih m hm
      simp; omega
  unfold lineV at h
  split at h
  · injection h with h; subst h; simp
  · split at h
    · injection h with h; subst h; simp
    · split at h
      · split at h
        · cases h
        · split at h
          · injection h with h; subst h; simp
          · cases h
      · split at h
        · cases h
        · have := hx _ _ h; simp at this; omega
/-- The events of lines, behind others, as the document says. -/
def goV : List (List UInt8) → Nat → List Ev → List Ev × Nat × Nat
  | [], _, out => (out, 0, 0)
  | l :: ls, at_, out => match lineV l with
    | none => ([], at_ + 1, 4)
    | some x => if 65536 < out.length + x.length then ([], at_ + 1, 7) else goV ls (at_ + 1) (out ++ x)
def parseV (s : List UInt8) : List Ev × Nat × Nat := if 262144 < s.length then ([], 0, 3) else goV (linesG [] s) 0 []
def resR (r : List Ev × Nat × Nat) : AV → List (Tok × List AV) → Prop := is (.tup [.p (evsP r.1), .p (.int .i64 r.2.1), .p (.int .i64 r.2.2)])
theorem rparse_cr [Evs] (s : List UInt8) : CR Tryd.prog 9 [] [.p (.str s)] [] (resR (parseV s)) := by
  refine CR_of_wp mixed 10 [] Tryd.func9 rfl (by kernel_rfl) rfl (by simp) (by simp) ?_
  by_cases h1 : 262144 < s.length
  · have e1 : (262144 : Int) < s.length := by omega
    simp (maxSteps := 1000000) [go_sem, Tryd.f9, e1]
    exact ret_is (.tup [.p (evsP []), .p (.int .i64 0), .p (.int .i64 3)]) rfl (by simp [go_sem, resOf, leA, evsP]) ⟨rfl, by simp [parseV, h1]⟩
  have e1 : ¬ (262144 : Int) < s.length := by omega
  have hP : parseV s = goV (linesG [] s) 0 [] := by simp [parseV, h1]
  have hls := lines_cr s (by omega)
  have hle := fun x hx => linesG_le s [] x hx
  have hlen := linesG_len s []
  generalize linesG [] s = ls at *
  simp (maxSteps := 1000000) [go_sem, Tryd.f9, e1]
  refine ⟨⟨rfl, by simp [Tryd.f19]⟩, CallK_of [] hls (by simp [go_sem]) ⟨by simp [go_sem], by simp [go_sem]⟩ (by simp [go_sem]) ?_⟩
  rintro y rs ⟨rfl, rfl⟩
  simp (maxSteps := 1000000) [go_sem]
  refine wpA_loop (fun i : Nat × List Ev => i.1 ≤ ls.length ∧ goV ls 0 [] = goV (ls.drop i.1) i.1 i.2 ∧ i.2.length ≤ 65536)
    (fun i => { n := 45, nv := 10, vs := [(0, .p (.str s)), (2, .p (.sl 4 [])), (3, .p (.int .i64 0)), (4, .p (.int .i64 0)), (5, .os [5] 4 (i.2.map evP)), (6, .p (.sl 1 (ls.map .str))), (7, .p (.int .i64 i.1))], ts := [], rs := [] }) (fun i => ls.length - i.1) (0, []) (by simp) (by simp [go_sem, LeS, leV, leR, leA]) ?_
  rintro ⟨i, out⟩ ⟨hi, hn, ho⟩
  simp only at hi hn ho
  simp (maxSteps := 1000000) [go_sem]
  refine condK_if (fun h => ?_) (fun h => ?_)
  · have hl := rline_cr ls[i] (by have := hle ls[i] (List.getElem_mem h); simp at this; omega)
    have hd : ls.drop i = ls[i] :: ls.drop (i + 1) := List.drop_eq_getElem_cons h
    have w1 : IntKind.i64.wrap ((i : Int) + 1) = (i : Int) + 1 := wrap64 (by omega) (by omega)
    have em := elemAt_map PV.str ls i h
    rw [hd, goV] at hn
    simp (maxSteps := 1000000) [go_sem, em, h]
    refine ⟨⟨rfl, by simp [Tryd.f20]⟩, CallK_of [] hl (by simp [go_sem]) ⟨by simp [go_sem], by simp [go_sem]⟩ (by simp [go_sem]) ?_⟩
    rintro y rs ⟨rfl, es, rfl, hE⟩
    cases hx : lineV ls[i] with
    | none =>
      rw [hx] at hn
      simp only at hn
      simp (maxSteps := 1000000) [go_sem, w1]
      exact ret_is (.tup [.p (evsP []), .p (.int .i64 (i + 1)), .p (.int .i64 4)]) rfl (by simp [go_sem, resOf, leA, evsP]) ⟨rfl, by rw [hP, hn]; simp⟩
    | some l =>
      obtain rfl := hE l hx
      rw [hx] at hn
      simp only at hn
      have hll := lineV_len hx
      have w2 : IntKind.i64.wrap ((out.length : Int) + (l.length : Int)) = (out.length : Int) + (l.length : Int) := wrap64 (by omega) (by omega)
      simp (maxSteps := 1000000) [go_sem, w2]
      refine condK_if (fun h5 => ?_) (fun h5 => ?_)
      · rw [if_pos (by omega)] at hn
        simp (maxSteps := 1000000) [go_sem, w1]
        exact ret_is (.tup [.p (evsP []), .p (.int .i64 (i + 1)), .p (.int .i64 7)]) rfl (by simp [go_sem, resOf, leA, evsP]) ⟨rfl, by rw [hP, hn]; simp⟩
      · rw [if_neg (by omega)] at hn
        simp (maxSteps := 1000000) [go_sem, w1]
        exact ⟨by omega, LoopK_next (i + 1, out ++ l) ⟨by simp only; omega, hn, by simp only [List.length_append]; omega⟩ (by simp [go_sem, LeS, leV, leR, leA]) (by simp only; omega)⟩
  · have hk : i = ls.length := by omega
    simp (maxSteps := 1000000) [go_sem]
    rw [hk, List.drop_length, goV] at hn
    exact ret_is (.tup [.p (evsP out), .p (.int .i64 0), .p (.int .i64 0)]) rfl (by simp [go_sem, resOf, leA, evsP]) ⟨rfl, by rw [hP, hn]; simp⟩
theorem ev_neq (x y : Ev) : (!decide (x.k = y.k) || (!decide (x.b = y.b) || (!decide (x.r = y.r) || !decide (x.c = y.c)))) = !decide (x = y) := by
  obtain ⟨a, b, c, d⟩ := x
  obtain ⟨e, f, g, h⟩ := y
  simp only [Ev.mk.injEq]
  by_cases h1 : a = e <;> by_cases h2 : b = f <;> by_cases h3 : c = g <;> by_cases h4 : d = h <;> simp [h1, h2, h3, h4]
theorem same_cr [Evs] (a b : List Ev) (hl : a.length ≤ 4611686018427387904) : CR Tryd.prog 10 [] [.p (evsP a), .p (evsP b)] [] (is (.p (.bool (decide (a = b))))) := by
  refine CR_of_wp mixed 6 [] Tryd.func10 rfl (by kernel_rfl) rfl (by simp) (by simp) ?_
  by_cases h1 : a.length = b.length
  · have e1 : (a.length : Int) = b.length := by omega
    simp (maxSteps := 1000000) [go_sem, Tryd.f10, evsP, e1]
    refine wpA_loop (fun i : Nat => i ≤ a.length ∧ a.take i = b.take i) (fun i => { n := 26, nv := 6, vs := [(0, .p (evsP a)), (1, .p (evsP b)), (4, .p (.bool false)), (5, .p (.int .i64 i))], ts := [], rs := [] }) (fun i => a.length - i) 0 (by simp) (by simp [go_sem, LeS, leV, leR, leA, evsP]) ?_
    rintro i ⟨hi, hn⟩
    simp (maxSteps := 1000000) [go_sem, evsP]
    refine condK_if (fun h => ?_) (fun h => ?_)
    · have ha := elemAt_map evP a i h
      have hb := elemAt_map evP b i (by omega)
      have hib : i < b.length := by omega
      have w1 : IntKind.i64.wrap ((i : Int) + 1) = (i : Int) + 1 := wrap64 (by omega) (by omega)
      simp (maxSteps := 1000000) [go_sem, ha, hb, h, hib, evP]
      rw [ev_neq]
      refine condK_ifn (fun hq => ?_) (fun hq => ?_)
      · simp (maxSteps := 1000000) [go_sem]
        exact ret_is (.p (.bool false)) rfl (by simp [go_sem, resOf, leA]) ⟨rfl, by simp; intro e; subst e; exact hq rfl⟩
      · simp (maxSteps := 1000000) [go_sem, w1]
        exact LoopK_next (i + 1) ⟨by omega, by rw [List.take_succ_eq_append_getElem h, List.take_succ_eq_append_getElem hib, hn, hq]⟩ (by simp [go_sem, LeS, leV, leR, leA]) (by omega)
    · have hk : i = a.length := by omega
      have hab : a = b := by
        subst hk
        rw [List.take_length, h1, List.take_length] at hn
        exact hn
      simp (maxSteps := 1000000) [go_sem]
      exact ret_is (.p (.bool true)) rfl (by simp [go_sem, resOf, leA]) ⟨rfl, by simp [hab]⟩
  · have e1 : ¬ (a.length : Int) = b.length := by omega
    simp (maxSteps := 1000000) [go_sem, Tryd.f10, evsP, e1]
    exact ret_is (.p (.bool false)) rfl (by simp [go_sem, resOf, leA]) ⟨rfl, by simp; intro e; exact h1 (by rw [e])⟩
end Go.Proofs.YtlmejofikpnbpaaDoor
namespace Go.Proofs.YtlmejofikpnbpaaDoor
open Go.AM
set_option maxRecDepth 10000
theorem index_app : ∀ (w r : List UInt8), (32 : UInt8) ∉ w → Lib.indexByte (w ++ 32 :: r) 32 = w.length
  | [], r, _ => by simp [Lib.indexByte]
  | b :: w, r, h => by
    have hb : ¬ (b == 32) = true := by simp; intro e; exact h (by simp [e])
    have ih := index_app w r (fun k => h (List.mem_cons_of_mem _ k))
    simp only [List.cons_append, Lib.indexByte, if_neg hb, ih]
    rw [if_neg (by simp)]
    simp
theorem index_not {s : List UInt8} (h : (32 : UInt8) ∉ s) : Lib.indexByte s 32 = -1 := by
  induction s with
  | nil => rfl
  | cons b r ih =>
    have hb : ¬ (b == 32) = true := by simp; intro e; exact h (by simp [e])
    simp only [Lib.indexByte, if_neg hb, ih (fun k => h (List.mem_cons_of_mem _ k))]
    simp
theorem cutL_app (w r : List UInt8) (h : (32 : UInt8) ∉ w) : cutL (w ++ 32 :: r) 32 = (w, r, true) := by
  unfold cutL
  rw [index_app w r h, if_pos (by omega)]
  have e : ((w.length : Int) + 1).toNat = w.length + 1 := by omega
  have e2 : ((w.length : Int) + (r.length + 1)).toNat - (w.length + 1) = r.length := by omega
  simp [cut, e, e2]
theorem cutL_not {s : List UInt8} (h : (32 : UInt8) ∉ s) : cutL s 32 = (s, [], false) := by
  unfold cutL
  rw [index_not h, if_neg (by omega)]
theorem parts (s : List UInt8) : (32 : UInt8) ∉ s ∨ ∃ w r, (32 : UInt8) ∉ w ∧ s = w ++ 32 :: r := by
  induction s with
  | nil => exact .inl (by simp)
  | cons b s ih =>
    by_cases hb : b = 32
    · subst hb; exact .inr ⟨[], s, by simp, rfl⟩
    · rcases ih with h | ⟨w, r, h, rfl⟩
      · exact .inl (by simp [h]; exact fun e => hb e.symm)
      · exact .inr ⟨b :: w, r, by simp [h]; exact fun e => hb e.symm, rfl⟩
theorem beg_iff (s w : List UInt8) : beg s (w ++ [32]) = true ↔ ∃ r, s = w ++ 32 :: r := by
  unfold beg
  simp only [Bool.and_eq_true, decide_eq_true_eq, cut, Int.toNat_natCast, List.drop_zero, Int.toNat_zero, Nat.sub_zero]
  constructor
  · rintro ⟨_, h⟩
    refine ⟨s.drop (w ++ [32]).length, ?_⟩
    have := List.take_append_drop (w ++ [32]).length s
    rw [h] at this
    simpa using this.symm
  · rintro ⟨r, rfl⟩
    constructor
    · simp
    · rw [show w ++ 32 :: r = (w ++ [32]) ++ r by simp, List.take_left]
theorem not_space : (32 : UInt8) ∉ tickL ∧ (32 : UInt8) ∉ bytesL ∧ (32 : UInt8) ∉ sizeL := by decide
theorem beg_size (s : List UInt8) : beg s [115, 105, 122, 101, 32] = true ↔ ∃ r, s = sizeL ++ 32 :: r := beg_iff s sizeL
theorem beg_bytes (s : List UInt8) : beg s [98, 121, 116, 101, 115, 32] = true ↔ ∃ r, s = bytesL ++ 32 :: r := beg_iff s bytesL
/-! ### Numbers -/
theorem numL_neg : ∀ (l : List UInt8) (n : Int), 0 ≤ n → numL l n = -1 ∨ 0 ≤ numL l n
  | [], n, h => .inr h
  | c :: r, n, h => by
    unfold numL
    split
    · exact numL_neg r _ (by omega)
    · exact .inl rfl
theorem parse_small : ∀ (l : List UInt8) (u : Nat), (u + 1) * 10 ^ l.length ≤ 1000000000 → (∃ v : Nat, Lib.parseUint10 u l = .ok v ∧ numL l u = v) ∨ (Lib.parseUint10 u l = .syntax ∧ numL l u = -1)
  | [], u, _ => .inl ⟨u, rfl, rfl⟩
  | c :: r, u, h => by
    unfold Lib.parseUint10 numL
    by_cases hc : 48 ≤ c.toNat ∧ c.toNat ≤ 57
    · have hpos : 1 ≤ 10 ^ r.length := Nat.pow_pos (by omega)
      have h2 : (u * 10 + (c.toNat - 48) + 1) * 10 ^ r.length ≤ (u + 1) * 10 ^ (c :: r).length := by
        rw [List.length_cons, Nat.pow_succ, Nat.mul_comm (10 ^ r.length) 10, ← Nat.mul_assoc]
        exact Nat.mul_le_mul_right _ (by omega)
      have h3 : u * 10 + (c.toNat - 48) + 1 ≤ 1000000000 := Nat.le_trans (Nat.le_mul_of_pos_right _ hpos) (Nat.le_trans h2 h)
      have hc' : 48 ≤ (c.toNat : Int) ∧ (c.toNat : Int) ≤ 57 := by omega
      rw [if_pos hc, if_neg (show ¬ 1844674407370955162 ≤ u by omega), if_neg (show ¬ 18446744073709551616 ≤ u * 10 + (c.toNat - 48) by omega), if_pos hc']
      have e : (10 * (u : Int) + ((c.toNat : Int) - 48)) = ((u * 10 + (c.toNat - 48) : Nat) : Int) := by omega
      have ih := parse_small r (u * 10 + (c.toNat - 48)) (Nat.le_trans h2 h)
      rw [e]; exact ih
    · have hc' : ¬ (48 ≤ (c.toNat : Int) ∧ (c.toNat : Int) ≤ 57) := by omega
      rw [if_neg hc, if_neg hc']
      exact .inr ⟨rfl, rfl⟩
theorem parse_bound : ∀ (l : List UInt8) (u v : Nat), Lib.parseUint10 u l = .ok v → v + 1 ≤ (u + 1) * 10 ^ l.length := by
  intro l
  induction l with
  | nil => intro u v h; simp only [Lib.parseUint10] at h; injection h with h; subst h; simp
  | cons c r ih =>
    intro u v h
    unfold Lib.parseUint10 at h
    split at h
    · split at h
      · cases h
      · split at h
        · cases h
        · have := ih _ _ h
          refine Nat.le_trans this ?_
          rw [List.length_cons, Nat.pow_succ, Nat.mul_comm (10 ^ r.length) 10, ← Nat.mul_assoc]
          exact Nat.mul_le_mul_right _ (by omega)
    · cases h
theorem numO_eq (s : List UInt8) : numO s = if 0 ≤ numV s then some (numV s) else none := by
  cases s with
  | nil => simp [numO, numV, Lib.atoiAll]
  | cons c r =>
    have hs0 : strAt (c :: r) 0 = (c.toNat : Int) := by simp [strAt]
    have hlen : (c :: r).length = r.length + 1 := rfl
    -- what both say, by cases
    have none1 : (¬ ((c :: r).length ≤ 4 ∧ 48 ≤ (c.toNat : Int) ∧ (c.toNat : Int) ≤ 57 ∧ ((c.toNat : Int) ≠ 48 ∨ (c :: r).length = 1))) → numO (c :: r) = none := fun h => by
      unfold numO
      rw [hs0]
      split
      · rw [if_neg h]
      · rfl
    have none2 : ((c :: r).length < 1 ∨ 4 < (c :: r).length ∨ ((c.toNat : Int) = 48 ∧ 1 < (c :: r).length)) → numV (c :: r) = -1 := fun h => by
      unfold numV
      rw [hs0, if_pos h]
    have some2 : (¬ ((c :: r).length < 1 ∨ 4 < (c :: r).length ∨ ((c.toNat : Int) = 48 ∧ 1 < (c :: r).length))) → numV (c :: r) = numL (c :: r) 0 := fun h => by
      unfold numV
      rw [hs0, if_neg h]
    have neg1 : ¬ (0 : Int) ≤ -1 := by omega
    by_cases h4 : 4 < (c :: r).length
    · rw [none1 (by omega), none2 (.inr (.inl h4)), if_neg neg1]
    by_cases hd : 48 ≤ c.toNat ∧ c.toNat ≤ 57
    · have hpow : 10 ^ (c :: r).length ≤ 10 ^ 4 := Nat.pow_le_pow_right (by omega) (by omega)
      have hp := parse_small (c :: r) 0 (by omega)
      have hne : ¬ (c.toNat = 43 ∨ c.toNat = 45) := by omega
      have h45 : ¬ c.toNat = 45 := by omega
      by_cases h8 : c.toNat = 48 ∧ 1 < (c :: r).length
      · rw [none1 (by omega), none2 (.inr (.inr (by omega))), if_neg neg1]
      rw [some2 (by omega)]
      unfold numO
      rw [hs0]
      rcases hp with ⟨v, h1, h2⟩ | ⟨h1, h2⟩
      · have h2' : numL (c :: r) 0 = (v : Int) := h2
        have hb : ¬ 9223372036854775808 ≤ v := by
          have := parse_bound _ _ _ h1
          omega
        have hat : Lib.atoiAll (c :: r) = .ok (v : Int) := by
          unfold Lib.atoiAll Lib.parseMag
          simp [show ¬ c.toNat = 43 by omega, h45, h1, hb]
        rw [hat, h2']
        simp only
        rw [if_pos (by omega), if_pos (by omega)]
      · have h2' : numL (c :: r) 0 = -1 := h2
        have hat : Lib.atoiAll (c :: r) = .syntax := by
          unfold Lib.atoiAll Lib.parseMag
          simp [show ¬ c.toNat = 43 by omega, h45, h1]
        rw [hat, h2', if_neg neg1]
    · rw [none1 (by omega)]
      have hL : numL (c :: r) 0 = -1 := by
        have hd' : ¬ (48 ≤ (c.toNat : Int) ∧ (c.toNat : Int) ≤ 57) := by omega
        unfold numL; rw [if_neg hd']
      by_cases h8 : (c :: r).length < 1 ∨ 4 < (c :: r).length ∨ ((c.toNat : Int) = 48 ∧ 1 < (c :: r).length)
      · rw [none2 h8, if_neg neg1]
      · rw [some2 h8, hL, if_neg neg1]
/-! ### A line -/
theorem spc_not {s : List UInt8} (h : (32 : UInt8) ∉ s) : spc s = s.length := by
  unfold spc
  induction s with
  | nil => rfl
  | cons b s ih =>
    have hb : (decide (b ≠ 32)) = true := by simp; intro e; exact h (by simp [e])
    rw [List.takeWhile_cons, if_pos hb, List.length_cons, ih (fun k => h (List.mem_cons_of_mem _ k)), List.length_cons]
theorem spc_app (a b : List UInt8) (h : (32 : UInt8) ∉ a) : spc (a ++ 32 :: b) = a.length := by
  unfold spc
  rw [List.takeWhile_append_of_pos (fun x hx => by simp; intro e; subst e; exact h hx), List.takeWhile_cons, if_neg (by simp)]
  simp
theorem line_eq (s : List UInt8) : lineP s = lineV s := by
  obtain ⟨nt, nb, ns⟩ := not_space
  unfold lineP lineV
  by_cases h0 : s = [] ∨ strAt s 0 = 35
  · rw [if_pos h0, if_pos h0]
  rw [if_neg h0, if_neg h0]
  rcases parts s with hn | ⟨w, r, hw, rfl⟩
  · rw [cutL_not hn]
    have b1 : ¬ beg s [115, 105, 122, 101, 32] = true := fun h => by obtain ⟨r, rfl⟩ := (beg_size s).1 h; exact hn (by simp)
    have b2 : beg s [98, 121, 116, 101, 115, 32] = false := Bool.eq_false_iff.2 fun h => by obtain ⟨r, rfl⟩ := (beg_bytes s).1 h; exact hn (by simp)
    simp only
    by_cases h1 : s = tickL
    · rw [if_pos h1, if_pos h1]; simp
    have hr : (if beg s [98, 121, 116, 101, 115, 32] = false ∨ s.length % 2 ≠ 0 ∨ s.length < 8 ∨ 70 < s.length then none else hexL (s.drop 6)) = none := if_pos (.inl b2)
    rw [if_neg h1, if_neg h1, if_neg b1, hr]
    by_cases h2 : s = bytesL
    · rw [if_pos h2]; simp [hexS]
    rw [if_neg h2]
    by_cases h3 : s = sizeL
    · rw [if_pos h3, cutL_not (by simp : (32 : UInt8) ∉ [])]
      have : numO [] = none := by rw [numO_eq]; decide
      simp [this]
    · rw [if_neg h3]
  · rw [cutL_app w r hw]
    simp only
    have hnt : ¬ (w ++ 32 :: r) = tickL := fun e => nt (by rw [← e]; simp)
    rw [if_neg hnt]
    have uni : ∀ w' r', (32 : UInt8) ∉ w' → w ++ 32 :: r = w' ++ 32 :: r' → w = w' ∧ r = r' := fun w' r' h e => by
      have h1 := cutL_app w r hw
      rw [e, cutL_app w' r' h] at h1
      simp at h1
      exact ⟨h1.1.symm, h1.2.symm⟩
    by_cases h1 : w = tickL
    · have b1 : ¬ beg (w ++ 32 :: r) [115, 105, 122, 101, 32] = true := fun h => by
        obtain ⟨r', e⟩ := (beg_size _).1 h
        have := (uni _ _ ns e).1; rw [h1] at this; exact absurd this (by decide)
      have b2 : beg (w ++ 32 :: r) [98, 121, 116, 101, 115, 32] = false := Bool.eq_false_iff.2 fun h => by
        obtain ⟨r', e⟩ := (beg_bytes _).1 h
        have := (uni _ _ nb e).1; rw [h1] at this; exact absurd this (by decide)
      have hr : (if beg (w ++ 32 :: r) [98, 121, 116, 101, 115, 32] = false ∨ (w ++ 32 :: r).length % 2 ≠ 0 ∨ (w ++ 32 :: r).length < 8 ∨ 70 < (w ++ 32 :: r).length then none else hexL ((w ++ 32 :: r).drop 6)) = none := if_pos (.inl b2)
      rw [if_pos h1, if_neg b1, hr]
      rfl
    rw [if_neg h1]
    by_cases h2 : w = bytesL
    · have b1 : ¬ beg (w ++ 32 :: r) [115, 105, 122, 101, 32] = true := fun h => by
        obtain ⟨r', e⟩ := (beg_size _).1 h
        have := (uni _ _ ns e).1; rw [h2] at this; exact absurd this (by decide)
      have b2 : beg (w ++ 32 :: r) [98, 121, 116, 101, 115, 32] = true := (beg_bytes _).2 ⟨r, by rw [h2]⟩
      rw [if_pos h2, if_neg b1, b2]
      have hl : (w ++ 32 :: r).length = r.length + 6 := by rw [h2]; simp [bytesL]
      have hdr : (w ++ 32 :: r).drop 6 = r := by rw [h2]; rfl
      rw [hl, hdr]
      unfold hexS
      by_cases hr : r = [] ∨ r.length % 2 ≠ 0 ∨ 64 < r.length
      · rw [if_pos hr, if_pos]
        rcases hr with rfl | hr | hr
        · exact .inr (.inr (.inl (by simp)))
        · exact .inr (.inl (by omega))
        · exact .inr (.inr (.inr (by omega)))
      · rw [if_neg hr, if_neg]
        have hr1 : 0 < r.length := List.length_pos_iff.2 (fun e => hr (.inl e))
        simp only [Bool.true_eq_false, false_or]
        omega
    rw [if_neg h2]
    by_cases h3 : w = sizeL
    · have b1 : beg (w ++ 32 :: r) [115, 105, 122, 101, 32] = true := (beg_size _).2 ⟨r, by rw [h3]⟩
      rw [if_pos h3, if_pos b1]
      subst h3
      have hdr : (sizeL ++ 32 :: r).drop 5 = r := rfl
      have hl : (sizeL ++ 32 :: r).length = r.length + 5 := by simp [sizeL]
      rw [hdr, hl]
      rcases parts r with hn | ⟨a, b, ha, rfl⟩
      · rw [cutL_not hn, spc_not hn, if_pos (by omega)]
        have : numO [] = none := by rw [numO_eq]; decide
        simp only [this]
        split
        · rename_i h _ ; simp_all
        · rfl
      · rw [cutL_app a b ha, spc_app a b ha, if_neg (by simp; omega)]
        have c1 : cut (sizeL ++ 32 :: (a ++ 32 :: b)) 5 ((5 + a.length : Nat) : Int) = a := by
          simp only [cut]
          show ((sizeL ++ 32 :: (a ++ 32 :: b)).drop 5).take _ = a
          rw [hdr, show (((5 + a.length : Nat) : Int).toNat - (5 : Int).toNat) = a.length by omega]
          simp
        have c2 : cut (sizeL ++ 32 :: (a ++ 32 :: b)) ((5 + a.length + 1 : Nat) : Int) (((a ++ 32 :: b).length + 5 : Nat) : Int) = b := by
          simp only [cut, Int.toNat_natCast]
          rw [show 5 + a.length + 1 = 5 + (a.length + 1) by omega, ← List.drop_drop, hdr, show (a ++ 32 :: b).drop (a.length + 1) = b by simp]
          rw [List.take_of_length_le (by simp; omega)]
        rw [c1, c2, numO_eq, numO_eq]
        by_cases ha0 : 0 ≤ numV a
        · by_cases hb0 : 0 ≤ numV b
          · rw [if_pos ha0, if_pos hb0, if_pos ⟨ha0, hb0⟩]
          · rw [if_pos ha0, if_neg hb0, if_neg (fun k : 0 ≤ numV a ∧ 0 ≤ numV b => hb0 k.2)]
        · have hn : ¬ (0 ≤ numV a ∧ 0 ≤ numV b) := fun k => ha0 k.1
          rw [if_neg ha0, if_neg hn]
    · have b1 : ¬ beg (w ++ 32 :: r) [115, 105, 122, 101, 32] = true := fun h => by
        obtain ⟨r', e⟩ := (beg_size _).1 h
        exact h3 (uni _ _ ns e).1
      have b2 : beg (w ++ 32 :: r) [98, 121, 116, 101, 115, 32] = false := Bool.eq_false_iff.2 fun h => by
        obtain ⟨r', e⟩ := (beg_bytes _).1 h
        exact h2 (uni _ _ nb e).1
      rw [if_neg h3, if_neg b1, if_pos (.inl b2)]
/-! ### Lines -/
theorem go_eq : ∀ (ls : List (List UInt8)) (n : Nat) (out : List Ev), goL ls n out = goV ls n out
  | [], _, _ => rfl
  | l :: ls, n, out => by
    unfold goL goV
    rw [line_eq]
    cases lineV l with
    | none => rfl
    | some x =>
      simp only
      split
      · rfl
      · exact go_eq ls _ _
/-- Pieces behind what has been met. -/
def pre1 (cur : List UInt8) : List (List UInt8) → List (List UInt8)
  | [] => [cur]
  | p :: ps => (cur ++ p) :: ps
theorem split_pre (b : UInt8) (h : b ≠ 10) (cur r : List UInt8) : pre1 cur (splitB 10 (b :: r)) = pre1 (cur ++ [b]) (splitB 10 r) := by
  rw [splitB, if_neg h]
  cases hs : splitB 10 r with
  | nil => exact absurd hs (splitB_ne 10 r)
  | cons p ps => simp [pre1]
/-- With no end at the end. -/
theorem lines_bare : ∀ (s cur : List UInt8), (s = [] → cur ≠ []) → s.getLast? ≠ some 10 → linesG cur s = pre1 cur (splitB 10 s)
  | [], cur, hc, _ => by rw [linesG, if_neg (hc rfl)]; simp [splitB, pre1]
  | b :: r, cur, _, hl => by
    unfold linesG
    by_cases hb : b = 10
    · subst hb
      have hr : r ≠ [] := fun e => by subst e; simp at hl
      have hl' : r.getLast? ≠ some 10 := fun e => hl (by rw [List.getLast?_cons_of_ne_nil hr]; exact e)
      rw [if_pos rfl, lines_bare r [] (fun e => absurd e hr) hl', splitB, if_pos rfl]
      cases hs : splitB 10 r with
      | nil => exact absurd hs (splitB_ne 10 r)
      | cons p ps => simp [pre1]
    · rw [if_neg hb, split_pre b hb]
      by_cases hr : r = []
      · subst hr; simp [linesG, splitB, pre1]
      · exact lines_bare r _ (fun e => absurd e hr) (fun e => hl (by rw [List.getLast?_cons_of_ne_nil hr]; exact e))
/-- With an end at the end. -/
theorem lines_end : ∀ (s cur : List UInt8), linesG cur (s ++ [10]) = pre1 cur (splitB 10 s)
  | [], cur => by simp [linesG, splitB, pre1]
  | b :: r, cur => by
    rw [List.cons_append]
    unfold linesG
    by_cases hb : b = 10
    · subst hb
      rw [if_pos rfl, lines_end r [], splitB, if_pos rfl]
      cases hs : splitB 10 r with
      | nil => exact absurd hs (splitB_ne 10 r)
      | cons p ps => simp [pre1]
    · rw [if_neg hb, split_pre b hb, lines_end r]
theorem pre1_nil (c : UInt8) (s : List UInt8) : pre1 [] (splitB c s) = splitB c s := by
  cases hs : splitB c s with
  | nil => exact absurd hs (splitB_ne c s)
  | cons p ps => simp [pre1]
theorem lines_eq (s : List UInt8) (h : s ≠ []) : splitB 10 (Lib.trimSuffix s [10]) = linesG [] s := by
  unfold Lib.trimSuffix Lib.hasSuffix
  by_cases hs : s.getLast? = some 10
  · obtain ⟨u, rfl⟩ : ∃ u, s = u ++ [10] := by
      refine ⟨s.dropLast, ?_⟩
      have hl : s.getLast h = 10 := by rw [List.getLast?_eq_some_getLast h] at hs; injection hs
      have := List.dropLast_concat_getLast h
      rw [hl] at this
      exact this.symm
    rw [if_pos (by simp [List.isSuffixOf_iff_suffix]), lines_end, pre1_nil]
    simp
  · rw [if_neg, lines_bare s [] (fun e => absurd e h) hs, pre1_nil]
    intro k
    rw [List.isSuffixOf_iff_suffix] at k
    obtain ⟨u, rfl⟩ := k
    exact hs (by simp)
theorem parse_eq (s : List UInt8) : parseP s = parseV s := by
  unfold parseP parseV
  split
  · rfl
  · by_cases h : s = []
    · subst h; simp [linesG, goV]
    · rw [if_neg h, lines_eq s h, go_eq]
end Go.Proofs.YtlmejofikpnbpaaDoor
