/- A part of the proof of this seat's statements, by an abstract machine: what each operation does to values, and what the law's functions compute. Conditions: as each law says. -/
import Derived.Test.YtjefahhmkcfiiaaGreatRows
import Derived.Test.YtjefahhmkcfiiaaGreatT36
import Derived.Test.YtjefahhmkcfiiaaGreatT57
section
namespace Go.Proofs.YtjefahhmkcfiiaaGreat
open Go.ChangeShapes Go.WideShapes Go.ChangeAt Go.RowKit Go.AM
set_option maxRecDepth 100000
theorem WY {H:Type} {enc:TypeId×Value→H} {W:World}:yZ enc Tryz.prog W 0 (fun _=>true) true 4 fun xs=>∃x,xs=[x]∧∃b,x=.bool b:=by
 intro fuel cs x h
 obtain⟨xs,⟨b,rfl⟩,r⟩:=zfW (by kernel_rfl) _ _ _ h
 exact⟨_,⟨_,rfl,b,rfl⟩,r⟩
theorem VK(os:Os)(started:os.Started)(H:Type)(enc:TypeId×Value→H):
  ReturnsInHanded {} Tryz.checked os 13 .any (Rows.modelMotionSpec.pre6 enc Tryz.prog Tryz.f13 Rows.modelMotionRow.domain false) (Rows.modelMotionSpec.post enc Tryz.prog Tryz.f13 false true false false):=by
 refine returnsInHanded_of_change (C:=Tryz.checked) Tryz.own started (by kernel_rfl) Tryz.func13
  (ChangeSpec.witness6 (enc:=enc) (C:=Tryz.checked) false ⟨#[], #[.slice none 0 0,.int .i64 0,.int .i64 0,.bool true],[]⟩ 8 (by kernel_rfl) (by kernel_rfl) (by kernel_rfl) (by kernel_rfl)) ?_
 intro W base args ds gs before hval hW _ _
 letI:Gi:=ziB
 refine kl (C:=Tryz.checked) (Qs:=[fun x=>∃l:List Int,(∀r∈l,zB r)∧x=ZR l,fun x=>∃n,x=.int .i64 n∧ -9223372036854775808≤n∧n≤9223372036854775807,fun x=>∃n,x=.int .i64 n∧ -9223372036854775808≤n∧n≤9223372036854775807,fun x=>∃b,x=.bool b]) (tb:=4) Tryz.laidOut rfl (by kernel_rfl) rfl (by kernel_rfl) ?_ ?_ ?_ W base args ds gs before hval hW (fun b arr h=>by cases h)
 ·intro ds h
  match ds,h with
  | [_,_,_,_],_=>rfl
 ·exact⟨jd (by kernel_rfl) fun W=>vU,jd (by kernel_rfl) fun W=>vq,jd (by kernel_rfl) fun W=>vq,jd (by kernel_rfl) fun W=>WY,trivial⟩
 ·intro xs q
  rcases xs with _|⟨x1,_|⟨x2,_|⟨x3,_|⟨x4,_|⟨x5,xs⟩⟩⟩⟩⟩
  ·exact q.elim
  ·exact q.2.elim
  ·exact q.2.2.elim
  ·exact q.2.2.2.elim
  ·obtain⟨a0,h0,rfl⟩:=q.1
   obtain⟨a1,rfl,h1⟩:=q.2.1
   obtain⟨a2,rfl,h2⟩:=q.2.2.1
   obtain⟨a3,rfl⟩:=q.2.2.2.1
   exact Xm a0 a1 a2 a3 h0
  ·exact q.2.2.2.2.elim
theorem modelMotion_holds:Rows.ModelMotionSaid:=
 OpenClaim.holds_of_wide 13 Tryz.f13 rfl rfl rfl rfl rfl rfl rfl ⟨rfl,rfl,rfl,rfl,rfl⟩ rfl rfl rfl rfl rfl (by kernel_rfl) Tryz.func13 (by kernel_rfl)
  (of_decide_eq_true (by kernel_rfl)) (by unfold Func.isWrapper;first|(rw[if_pos (by decide+kernel)];kernel_rfl)|(rw[if_neg (by decide+kernel)];exact⟨rfl,rfl⟩))
  (fun os started H enc _=>VK os started H enc)
end Go.Proofs.YtjefahhmkcfiiaaGreat
end
