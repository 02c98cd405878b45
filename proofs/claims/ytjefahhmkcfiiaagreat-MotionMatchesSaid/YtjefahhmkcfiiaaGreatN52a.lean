/- A part of the proof of this seat's statements, by an abstract machine: what each operation does to values, and what the law's functions compute. Conditions: as each law says. -/
import Derived.Test.YtjefahhmkcfiiaaGreatN50
import Derived.Test.YtjefahhmkcfiiaaGreatRows
import Derived.Test.YtjefahhmkcfiiaaGreatN42
import Derived.Test.YtjefahhmkcfiiaaGreatN52
section
namespace Go.Proofs.YtjefahhmkcfiiaaGreat
open Go.ChangeShapes Go.WideShapes Go.ChangeAt Go.RowKit Go.AM
set_option maxRecDepth 100000
theorem vz(os:Os)(started:os.Started)(H:Type)(enc:TypeId×Value→H):
  ReturnsInHanded {} Tryz.checked os 12 .any (Rows.motionMatchesSpec.pre6 enc Tryz.prog Tryz.f12 Rows.motionMatchesRow.domain false) (Rows.motionMatchesSpec.post enc Tryz.prog Tryz.f12 false true false false):=by
 refine returnsInHanded_of_change (C:=Tryz.checked) Tryz.own started (by kernel_rfl) Tryz.func12
  (ChangeSpec.witness6 (enc:=enc) (C:=Tryz.checked) false ⟨#[], #[.slice none 0 0,.int .i64 0],[]⟩ 8 (by kernel_rfl) (by kernel_rfl) (by kernel_rfl) (by kernel_rfl)) ?_
 intro W base args ds gs before hval hW _ _
 letI:Gi:=zdX
 refine Q3 (C:=Tryz.checked) (Qs:=[fun x=>∃l:List Int,(∀r∈l,zL r)∧x=Z5 l,fun x=>∃n,x=.int .i64 n∧ -9223372036854775808≤n∧n≤9223372036854775807]) (tb:=4) Tryz.laidOut rfl (by kernel_rfl) rfl (by kernel_rfl) ?_ ?_ ?_ W base args ds gs before hval hW (fun b arr h=>by cases h)
 ·intro ds h
  match ds,h with
  | [_,_],_=>rfl
 ·exact⟨q9 (by kernel_rfl) fun W=>wK,q9 (by kernel_rfl) fun W=>Qt,trivial⟩
 ·intro xs q
  rcases xs with _|⟨x1,_|⟨x2,_|⟨x3,xs⟩⟩⟩
  ·exact q.elim
  ·exact q.2.elim
  ·obtain⟨a0,h0,rfl⟩:=q.1
   obtain⟨a1,rfl,h1⟩:=q.2.1
   exact zeT a0 a1 h0
  ·exact q.2.2.elim
theorem motionMatches_holds:Rows.MotionMatchesSaid:=
 OpenClaim.holds_of_wide 12 Tryz.f12 rfl rfl rfl rfl rfl rfl rfl ⟨rfl,rfl,rfl,rfl,rfl⟩ rfl rfl rfl rfl rfl (by kernel_rfl) Tryz.func12 (by kernel_rfl)
  (of_decide_eq_true (by kernel_rfl)) (by unfold Func.isWrapper;first|(rw[if_pos (by decide+kernel)];kernel_rfl)|(rw[if_neg (by decide+kernel)];exact⟨rfl,rfl⟩))
  (fun os started H enc _=>vz os started H enc)
end Go.Proofs.YtjefahhmkcfiiaaGreat
end
