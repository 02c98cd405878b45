/- A part of this seat's proofs, by an abstract machine. Conditions: each law's. -/
import Derived.Test.YtfjdbbpimklecaaGreatDoorRows
import Derived.Test.YtfjdbbpimklecaaGreatDoorT49
import Derived.Test.YtfjdbbpimklecaaGreatDoorT48
import Derived.Test.YtfjdbbpimklecaaGreatDoorT50
import Derived.Test.YtfjdbbpimklecaaGreatDoorT43
set_option maxHeartbeats 40000000
set_option maxRecDepth 100000
namespace Go.Proofs.YtfjdbbpimklecaaGreatDoor
section
open Go.ChangeShapes Go.WideShapes Go.ChangeAt Go.RowKit Go.AM
theorem Vt(os:Os)(started:os.Started)(H:Type)(enc:TypeId×Value→H):
  ReturnsInHanded {} Tryz.checked os 3 .any (fun w args=>(Rows.paintSendsSpec.pre enc Tryz.prog Tryz.f3 [] false w args∧laidMetH Tryz.prog v8 w)∧sizedMet enc Tryz.prog Tryz.f3 (OpenSpec.ofChange Rows.paintSendsSpec) false w args)
   (Rows.paintSendsSpec.post enc Tryz.prog Tryz.f3 false true false false):=by
 refine returnsInHanded_of_change_and (C:=Tryz.checked) (X:=fun w _=>laidMetH Tryz.prog v8 w) (fun _ _ _ hh h=>h.of_heap hh) Tryz.own started (by kernel_rfl) Tryz.func3
  (ChangeSpec.witness_shaped (enc:=enc) (C:=Tryz.checked) (os:=os) (X:=fun w _=>laidMetH Tryz.prog v8 w) false (World.doorLaid Tryz.prog 2000 os) #[.int .i64 0,.int .i64 0,.slice none 0 0] 8 rfl (World.shaped_of_RefB (by kernel_rfl) (by kernel_rfl)) (by kernel_rfl) (by kernel_rfl) (by kernel_rfl) (Jc os _)) ?_
 intro W base args ds gs before hval hW _ _ hL _
 refine uo (C:=Tryz.checked) (Qs:=[fun x=>∃n,x=.int .i64 n∧ -9223372036854775808≤n∧n≤9223372036854775807,fun x=>∃n,x=.int .i64 n∧ -9223372036854775808≤n∧n≤9223372036854775807,fun x=>∃l:List Frm,(∀f∈l,f.ok)∧x=.sl 5 (l.map yD)]) (tb:=4) Tryz.laidOut rfl (by kernel_rfl) rfl (by kernel_rfl) ?_ ?_ ?_ W base args ds gs before hval hW (WJ hL)
 ·intro ds h
  match ds,h with
  | [_,_,_],_=>rfl
 ·exact⟨yi (by kernel_rfl) fun W=>va,yi (by kernel_rfl) fun W=>va,yi (by kernel_rfl) fun W=>VJ,trivial⟩
 ·intro xs q
  rcases xs with _|⟨x1,_|⟨x2,_|⟨x3,_|⟨x4,xs⟩⟩⟩⟩
  ·exact q.elim
  ·exact q.2.elim
  ·exact q.2.2.elim
  ·obtain⟨a0,rfl,h0⟩:=q.1
   obtain⟨a1,rfl,h1⟩:=q.2.1
   obtain⟨a2,h2,rfl⟩:=q.2.2.1
   exact Xc a0 a1 a2 h2 YP
  ·exact q.2.2.2.elim
theorem Vw:joinedFacts Tryz.pinned.checked.prog 3 Tryz.f3 Rows.paintSendsSpec Rows.paintSendsRow=true:=by
 simp only[joinedFacts,Bool.and_eq_true]
 repeat'(apply And.intro)
 all_goals as_aux_lemma=>kernel_rfl
theorem Jp:Rows.PaintSendsSaid:=
 OpenClaim.holds_of_wide 3 Tryz.f3 rfl rfl rfl rfl rfl rfl rfl ⟨rfl,rfl,rfl,rfl,rfl⟩ rfl rfl rfl rfl rfl (by kernel_rfl) Tryz.func3 Vw
  (of_decide_eq_true (by kernel_rfl)) (by unfold Func.isWrapper;first|(rw[if_pos (by decide+kernel)];kernel_rfl)|(rw[if_neg (by decide+kernel)];exact⟨rfl,rfl⟩))
  (fun os started H enc _=>Vt os started H enc)
end
end Go.Proofs.YtfjdbbpimklecaaGreatDoor
