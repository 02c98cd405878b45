/- A part of this seat's proofs, by an abstract machine. Conditions: each law's. -/
import Derived.Test.YtfjdbbpimklecaaGreatDoorRows
import Derived.Test.YtfjdbbpimklecaaGreatDoorT49
import Derived.Test.YtfjdbbpimklecaaGreatDoorT43
set_option maxHeartbeats 40000000
set_option maxRecDepth 100000
namespace Go.Proofs.YtfjdbbpimklecaaGreatDoor
section
open Go.ChangeShapes Go.WideShapes Go.ChangeAt Go.RowKit Go.AM
theorem WD(os:Os)(started:os.Started)(H:Type)(enc:TypeId×Value→H):
  ReturnsInHanded {} Tryz.checked os 5 .any (fun w args=>(Rows.tallyBoundsSpec.pre enc Tryz.prog Tryz.f5 [] false w args∧laidMetH Tryz.prog v8 w)∧sizedMet enc Tryz.prog Tryz.f5 (OpenSpec.ofChange Rows.tallyBoundsSpec) false w args)
   (Rows.tallyBoundsSpec.post enc Tryz.prog Tryz.f5 false true false false):=by
 refine returnsInHanded_of_change_and (C:=Tryz.checked) (X:=fun w _=>laidMetH Tryz.prog v8 w) (fun _ _ _ hh h=>h.of_heap hh) Tryz.own started (by kernel_rfl) Tryz.func5
  (ChangeSpec.witness_shaped (enc:=enc) (C:=Tryz.checked) (os:=os) (X:=fun w _=>laidMetH Tryz.prog v8 w) false (World.doorLaid Tryz.prog 2000 os) #[.slice none 0 0,.int .i64 0,.int .i64 0] 8 rfl (World.shaped_of_RefB (by kernel_rfl) (by kernel_rfl)) (by kernel_rfl) (by kernel_rfl) (by kernel_rfl) (Jc os _)) ?_
 intro W base args ds gs before hval hW _ _ hL _
 refine uo (C:=Tryz.checked) (Qs:=[fun x=>∃l:List V3,(∀f∈l,f.ok)∧x=.sl 3 (l.map vw3),fun x=>∃n,x=.int .i64 n∧ -9223372036854775808≤n∧n≤9223372036854775807,fun x=>∃n,x=.int .i64 n∧ -9223372036854775808≤n∧n≤9223372036854775807]) (tb:=4) Tryz.laidOut rfl (by kernel_rfl) rfl (by kernel_rfl) ?_ ?_ ?_ W base args ds gs before hval hW (WJ hL)
 ·intro ds h
  match ds,h with
  | [_,_,_],_=>rfl
 ·exact⟨yi (by kernel_rfl) fun W=>zcJ,yi (by kernel_rfl) fun W=>va,yi (by kernel_rfl) fun W=>va,trivial⟩
 ·intro xs q
  rcases xs with _|⟨x1,_|⟨x2,_|⟨x3,_|⟨x4,xs⟩⟩⟩⟩
  ·exact q.elim
  ·exact q.2.elim
  ·exact q.2.2.elim
  ·obtain⟨a0,h0,rfl⟩:=q.1
   obtain⟨a1,rfl,h1⟩:=q.2.1
   obtain⟨a2,rfl,h2⟩:=q.2.2.1
   exact Jx a0 a1 a2 h0
  ·exact q.2.2.2.elim
theorem WV:joinedFacts Tryz.pinned.checked.prog 5 Tryz.f5 Rows.tallyBoundsSpec Rows.tallyBoundsRow=true:=by
 simp only[joinedFacts,Bool.and_eq_true]
 repeat'(apply And.intro)
 all_goals as_aux_lemma=>kernel_rfl
theorem KH:Rows.TallyBoundsSaid:=
 OpenClaim.holds_of_wide 5 Tryz.f5 rfl rfl rfl rfl rfl rfl rfl ⟨rfl,rfl,rfl,rfl,rfl⟩ rfl rfl rfl rfl rfl (by kernel_rfl) Tryz.func5 WV
  (of_decide_eq_true (by kernel_rfl)) (by unfold Func.isWrapper;first|(rw[if_pos (by decide+kernel)];kernel_rfl)|(rw[if_neg (by decide+kernel)];exact⟨rfl,rfl⟩))
  (fun os started H enc _=>WD os started H enc)
end
end Go.Proofs.YtfjdbbpimklecaaGreatDoor
