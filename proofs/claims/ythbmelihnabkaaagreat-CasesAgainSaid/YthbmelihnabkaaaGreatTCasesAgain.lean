/- A part of the proof of this seat's statements, by an abstract machine: what each operation does to values, and what the law's functions compute. Conditions: as each law says. -/
import Derived.Test.YthbmelihnabkaaaGreatRows
import Derived.Test.YthbmelihnabkaaaGreatT37
import Derived.Test.YthbmelihnabkaaaGreatT55
section
namespace Go.Proofs.YthbmelihnabkaaaGreat
open Go.ChangeShapes Go.WideShapes Go.ChangeAt Go.RowKit Go.AM
set_option maxRecDepth 100000
theorem zpq(os:Os)(started:os.Started)(H:Type)(enc:TypeId×Value→H):
  ReturnsInHanded {} Tryz.checked os 3 .any (Rows.casesAgainSpec.pre6 enc Tryz.prog Tryz.f3 Rows.casesAgainRow.domain false) (Rows.casesAgainSpec.post enc Tryz.prog Tryz.f3 false true false false):=by
 refine returnsInHanded_of_change (C:=Tryz.checked) Tryz.own started (by kernel_rfl) Tryz.func3
  (ChangeSpec.witness6 (enc:=enc) (C:=Tryz.checked) false ⟨#[], #[.slice none 0 0,.slice none 0 0],[]⟩ 8 (by kernel_rfl) (by kernel_rfl) (by kernel_rfl) (by kernel_rfl)) ?_
 intro W base args ds gs before hval hW _ _
 letI:Gi:=zmy
 refine vo (C:=Tryz.checked) (Qs:=[fun x=>∃l:List Int,(∀r∈l,zD r)∧x=jP l,fun x=>∃l:List Int,(∀r∈l,zD r)∧x=jP l]) (tb:=4) Tryz.laidOut rfl (by kernel_rfl) rfl (by kernel_rfl) ?_ ?_ ?_ W base args ds gs before hval hW (fun b arr h=>by cases h)
 ·intro ds h
  match ds,h with
  | [_,_],_=>rfl
 ·exact⟨y7 (by kernel_rfl) fun W=>KI,y7 (by kernel_rfl) fun W=>KI,trivial⟩
 ·intro xs q
  rcases xs with _|⟨x1,_|⟨x2,_|⟨x3,xs⟩⟩⟩
  ·exact q.elim
  ·exact q.2.elim
  ·obtain⟨a0,h0,rfl⟩:=q.1
   obtain⟨a1,h1,rfl⟩:=q.2.1
   exact zpy a0 a1 h0 h1
  ·exact q.2.2.elim
theorem casesAgain_holds:Rows.CasesAgainSaid:=
 OpenClaim.holds_of_wide 3 Tryz.f3 rfl rfl rfl rfl rfl rfl rfl ⟨rfl,rfl,rfl,rfl,rfl⟩ rfl rfl rfl rfl rfl (by kernel_rfl) Tryz.func3 (by kernel_rfl)
  (of_decide_eq_true (by kernel_rfl)) (by unfold Func.isWrapper;first|(rw[if_pos (by decide+kernel)];kernel_rfl)|(rw[if_neg (by decide+kernel)];exact⟨rfl,rfl⟩))
  (fun os started H enc _=>zpq os started H enc)
end Go.Proofs.YthbmelihnabkaaaGreat
end
