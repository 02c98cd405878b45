/- A part of the proof of this seat's statements, by an abstract machine: what each operation does to values, and what the law's functions compute. Conditions: as each law says. -/
import Derived.Test.YtjefahhmkcfiiaaGreatRows
import Derived.Test.YtjefahhmkcfiiaaGreatT47
import Derived.Test.YtjefahhmkcfiiaaGreatT53
section
namespace Go.Proofs.YtjefahhmkcfiiaaGreat
open Go.ChangeShapes Go.WideShapes Go.ChangeAt Go.RowKit Go.AM
set_option maxRecDepth 100000
theorem KH(os:Os)(started:os.Started)(H:Type)(enc:TypeId×Value→H):
  ReturnsInHanded {} Tryz.checked os 10 .any (Rows.textPlaysSpec.pre6 enc Tryz.prog Tryz.f10 Rows.textPlaysRow.domain false) (Rows.textPlaysSpec.post enc Tryz.prog Tryz.f10 false true false false):=by
 refine returnsInHanded_of_change (C:=Tryz.checked) Tryz.own started (by kernel_rfl) Tryz.func10
  (ChangeSpec.witness6 (enc:=enc) (C:=Tryz.checked) false ⟨#[], #[.slice none 0 0,.slice none 0 0],[]⟩ 8 (by kernel_rfl) (by kernel_rfl) (by kernel_rfl) (by kernel_rfl)) ?_
 intro W base args ds gs before hval hW _ _
 letI:Gi:=ziB
 refine kl (C:=Tryz.checked) (Qs:=[fun x=>∃l:List Int,(∀r∈l,zB r)∧x=ZR l,fun x=>∃l:List WW,(∀o∈l,kd o)∧x=Z9 l]) (tb:=4) Tryz.laidOut rfl (by kernel_rfl) rfl (by kernel_rfl) ?_ ?_ ?_ W base args ds gs before hval hW (fun b arr h=>by cases h)
 ·intro ds h
  match ds,h with
  | [_,_],_=>rfl
 ·exact⟨jd (by kernel_rfl) fun W=>vU,jd (by kernel_rfl) fun W=>Ub,trivial⟩
 ·intro xs q
  rcases xs with _|⟨x1,_|⟨x2,_|⟨x3,xs⟩⟩⟩
  ·exact q.elim
  ·exact q.2.elim
  ·obtain⟨a0,h0,rfl⟩:=q.1
   obtain⟨a1,h1,rfl⟩:=q.2.1
   exact zcX a0 a1 h0 h1
  ·exact q.2.2.elim
theorem textPlays_holds:Rows.TextPlaysSaid:=
 OpenClaim.holds_of_wide 10 Tryz.f10 rfl rfl rfl rfl rfl rfl rfl ⟨rfl,rfl,rfl,rfl,rfl⟩ rfl rfl rfl rfl rfl (by kernel_rfl) Tryz.func10 (by kernel_rfl)
  (of_decide_eq_true (by kernel_rfl)) (by unfold Func.isWrapper;first|(rw[if_pos (by decide+kernel)];kernel_rfl)|(rw[if_neg (by decide+kernel)];exact⟨rfl,rfl⟩))
  (fun os started H enc _=>KH os started H enc)
end Go.Proofs.YtjefahhmkcfiiaaGreat
end
