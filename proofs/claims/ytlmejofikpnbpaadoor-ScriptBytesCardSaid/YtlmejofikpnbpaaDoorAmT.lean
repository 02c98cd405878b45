/- A part of the proof of this seat's statements, by an abstract machine: what each operation does to values, proved over the model, whatever the program. No condition beyond those that stand. -/
import Derived.Test.YtlmejofikpnbpaaDoorAmR
namespace Go.AM
/-! ### What is asked may be less -/
theorem CallK.mono [Gi] {P : Program} {S : St} {f : FuncId} {args : List Operand} {dst : Option Nat} {K K' : St → Prop} (hk : ∀ S, K S → K' S) (h : CallK P S f args dst K) : CallK P S f args dst K' := by
  obtain ⟨m, pin, R, h1, h2, h3, h4⟩ := h
  exact ⟨m, pin, R, h1, h2, h3, fun x rs' hr => hk _ (h4 x rs' hr)⟩
theorem CallC.mono [Gi] {P : Program} {S : St} {f : FuncId} {cs : List AV} {args : List Operand} {dst : Option Nat} {K K' : St → Prop} (hk : ∀ S, K S → K' S) (h : CallC P S f cs args dst K) : CallC P S f cs args dst K' := by
  obtain ⟨m, pin, R, h1, h2, h3, h4⟩ := h
  exact ⟨m, pin, R, h1, h2, h3, fun x rs' hr => hk _ (h4 x rs' hr)⟩
theorem callA_mono [Gi] {P : Program} {S : St} {o : Oper} {K K' : St → Prop} (hk : ∀ S, K S → K' S) (h : callA P S o K) : callA P S o K' := by
  unfold callA at h ⊢
  split at h
  · split at h
    · split at h
      · exact ⟨h.1, h.2.mono hk⟩
      · split at h
        · exact ⟨h.1, h.2.mono hk⟩
        · exact h.elim
    · exact h.elim
  · exact h.elim
theorem effK_mono [Gi] {P : Program} {S : St} {o : Oper} {K K' : St → Prop} (hk : ∀ S, K S → K' S) (h : effK P S o K) : effK P S o K' := by
  unfold effK at h ⊢
  split at h
  · exact ⟨h.1, hk _ h.2⟩
  · exact callA_mono hk h
theorem stepA_mono [Gi] {P : Program} {S : St} {o : Oper} {c : Option Bool} {K K' : St → Prop} (hk : ∀ S, K S → K' S) (h : stepA P S o c K) : stepA P S o c K' := by
  unfold stepA at h ⊢
  split at h
  · split at h
    · exact ⟨h.1, hk _ h.2⟩
    · exact ⟨h.1, hk _ h.2⟩
  · split at h
    · exact effK_mono hk h
    · exact ⟨fun e => effK_mono hk (h.1 e), fun e => ⟨(h.2 e).1, hk _ (h.2 e).2⟩⟩
theorem opsA_mono [Gi] {P : Program} {ops : Array Oper} : ∀ {l : List Oper} {S : St} {K K' : St → Prop}, (∀ S, K S → K' S) → opsA P ops l S K → opsA P ops l S K'
  | [], S, K, K', hk, h => hk _ h
  | o :: l, S, K, K', hk, h => by
    unfold opsA at h ⊢
    split at h
    · exact stepA_mono (fun S' h' => opsA_mono hk h') h
    · exact h.elim
theorem opsD_mono [Gi] {P : Program} {ops : Array Oper} : ∀ {l : List Oper} {S : St} {K K' : St → Prop}, (∀ S, K S → K' S) → opsD P ops l S K → opsD P ops l S K'
  | [], S, K, K', hk, h => hk _ h
  | o :: l, S, K, K', hk, h => by
    unfold opsD at h ⊢
    split
    · rename_i hh
      rw [if_pos hh] at h
      split at h
      · obtain ⟨x, h1, h2, h3⟩ := h
        exact ⟨x, h1, h2, opsD_mono hk h3⟩
      · exact h.elim
    · rename_i hh
      rw [if_neg hh] at h
      exact opsA_mono hk h
mutual
theorem opsT_mono [Gi] {P : Program} {ops : Array Oper} {K K' : St → Prop} (hk : ∀ S, K S → K' S) : ∀ (t : OT) {S : St}, opsT P ops K t S → opsT P ops K' t S
  | .mk [], S, h => by simp only [opsT] at h ⊢; exact hk _ h
  | .mk (x :: l), S, h => by simp only [opsT] at h ⊢; exact opsTL_mono hk (x :: l) h
theorem opsTL_mono [Gi] {P : Program} {ops : Array Oper} {K K' : St → Prop} (hk : ∀ S, K S → K' S) : ∀ (l : List (Nat × OT)) {S : St}, opsTL P ops K l S → opsTL P ops K' l S
  | [], S, _ => by simp only [opsTL]
  | (i, t) :: l, S, h => by
    simp only [opsTL] at h ⊢
    refine ⟨?_, opsTL_mono hk l h.2⟩
    have h1 := h.1
    cases ho : ops[i]? with
    | none => rw [ho] at h1; exact h1.elim
    | some o =>
      rw [ho] at h1
      simp only at h1 ⊢
      cases hg : guardA ops S o with
      | none => rw [hg] at h1; exact h1.elim
      | some c => rw [hg] at h1; exact stepA_mono (fun S' h' => opsT_mono hk t h') h1
end
theorem wpA_mono [Gi] {P : Program} {D : List Nat} : ∀ (c : Code) {Q Q' : Exit → St → Prop} {S : St}, (∀ e S, Q e S → Q' e S) → wpA P D c Q S → wpA P D c Q' S
  | .skip, Q, Q', S, hq, h => by simp only [wpA] at h ⊢; exact hq _ _ h
  | .region id ops draw, Q, Q', S, hq, h => by
    simp only [wpA] at h ⊢
    split
    · rename_i hc; rw [if_pos hc] at h; obtain ⟨t, h1, h2⟩ := h; exact ⟨t, h1, opsT_mono (fun S h => hq _ _ h) t h2⟩
    rename_i hl0
    rw [if_neg hl0] at h
    split
    · rename_i hc; rw [if_pos hc] at h; exact lateA_mono (fun S h => hq _ _ h) h
    · rename_i hl
      rw [if_neg hl] at h
      split
      · rename_i hc; rw [if_pos hc] at h; exact opsD_mono (fun S h => hq _ _ h) h
      · rename_i hc; rw [if_neg hc] at h; exact opsA_mono (fun S h => hq _ _ h) h
  | .seq x y, Q, Q', S, hq, h => by
    simp only [wpA] at h ⊢
    refine wpA_mono x (fun e S' h' => ?_) h
    cases e with
    | normal => exact wpA_mono y hq h'
    | _ => exact hq _ _ h'
  | .cond c x y, Q, Q', S, hq, h => by
    simp only [wpA] at h ⊢
    split at h
    · exact ⟨fun e => wpA_mono x hq (h.1 e), fun e => wpA_mono y hq (h.2 e)⟩
    · exact h.elim
  | .block id c, Q, Q', S, hq, h => by
    simp only [wpA] at h ⊢
    refine wpA_mono c (fun e S' h' => ?_) h
    cases e with
    | exit i =>
      simp only [] at h' ⊢
      split
      · rename_i hi; rw [if_pos hi] at h'; exact hq _ _ h'
      · rename_i hi; rw [if_neg hi] at h'; exact hq _ _ h'
    | _ => exact hq _ _ h'
  | .loop c, Q, Q', S, hq, h => by
    simp only [wpA] at h ⊢
    obtain ⟨ι, st, m, h0, hr⟩ := h
    refine ⟨ι, st, m, h0, fun i => wpA_mono c (fun e S' h' => ?_) (hr i)⟩
    cases e with
    | normal => exact h'
    | _ => exact hq _ _ h'
  | .exit id, Q, Q', S, hq, h => by simp only [wpA] at h ⊢; exact hq _ _ h
  | .ret, Q, Q', S, hq, h => by simp only [wpA] at h ⊢; exact hq _ _ h
  | .rangeFunc .., Q, Q', S, hq, h => by simp only [wpA] at h
  | .scope _, Q, Q', S, hq, h => by simp only [wpA] at h
  | .label _, Q, Q', S, hq, h => by simp only [wpA] at h
  | .goto _, Q, Q', S, hq, h => by simp only [wpA] at h
  | .refuse _, Q, Q', S, hq, h => by simp only [wpA] at h
/-- Where two ways meet: the states there, by a parameter. -/
def JoinK {ι : Type} (st : ι → St) (Q : Exit → St → Prop) : Exit → St → Prop := fun e S => match e with | .normal => ∃ i, S = st i | e => Q e S
@[go_sem] theorem JoinK_exit {ι : Type} {st : ι → St} {Q : Exit → St → Prop} {S : St} {k : Nat} : JoinK st Q (.exit k) S = Q (.exit k) S := rfl
@[go_sem] theorem JoinK_ret {ι : Type} {st : ι → St} {Q : Exit → St → Prop} {S : St} : JoinK st Q .ret S = Q .ret S := rfl
theorem JoinK_in {ι : Type} {st : ι → St} {Q : Exit → St → Prop} {S : St} (i : ι) (h : S = st i) : JoinK st Q .normal S := ⟨i, h⟩
/-- A test, the ways of which meet in the code behind it, which is walked once. -/
theorem condK_join [Gi] {P : Program} {D : List Nat} {x y rest : Code} {Q : Exit → St → Prop} {S : St} {v : AV} {ι : Type} (st : ι → St) (h : condK P D x y (JoinK st Q) S v) (hr : ∀ i, wpA P D rest Q (st i)) : condK P D x y (SeqK P D rest Q) S v := by
  have hq : ∀ e S, JoinK st Q e S → SeqK P D rest Q e S := fun e S h => by
    cases e with
    | normal => obtain ⟨i, rfl⟩ := h; exact hr i
    | _ => exact h
  unfold condK at h ⊢
  split at h
  · exact ⟨fun e => wpA_mono x hq (h.1 e), fun e => wpA_mono y hq (h.2 e)⟩
  · exact h.elim
theorem leL_refl : ∀ l : List AV, leL l l
  | [] => trivial
  | x :: l => ⟨leA_refl x, leL_refl l⟩
attribute [go_sem] has
end Go.AM
