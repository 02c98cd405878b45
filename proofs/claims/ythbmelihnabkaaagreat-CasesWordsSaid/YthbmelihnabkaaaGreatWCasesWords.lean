/- A part of the proof of this seat's statements, by an abstract machine: what each operation does to values, and what the law's functions compute. Conditions: as each law says. -/
import Derived.Test.YthbmelihnabkaaaGreatRows
import Derived.Test.YthbmelihnabkaaaGreatW38
import Derived.Test.YthbmelihnabkaaaGreatW52
section
namespace Go.Proofs.YthbmelihnabkaaaGreat
open Go.ChangeShapes Go.WideShapes Go.ChangeAt Go.RowKit Go.AM
set_option maxRecDepth 100000
theorem VA(os:Os)(started:os.Started)(H:Type)(enc:TypeId×Value→H):
  ReturnsInHanded {} Tryz.checked os 7 .any (Rows.casesWordsSpec.pre6 enc Tryz.prog Tryz.f7 Rows.casesWordsRow.domain false) (Rows.casesWordsSpec.post enc Tryz.prog Tryz.f7 false true false false):=by
 refine returnsInHanded_of_change (C:=Tryz.checked) Tryz.own started (by kernel_rfl) Tryz.func7
  (ChangeSpec.witness6 (enc:=enc) (C:=Tryz.checked) false ⟨#[], #[.slice none 0 0,.int .i64 0,.int .i64 0],[]⟩ 8 (by kernel_rfl) (by kernel_rfl) (by kernel_rfl) (by kernel_rfl)) ?_
 intro W base args ds gs before hval hW _ _
 letI:Gi:=zo1
 refine zcI (C:=Tryz.checked) (Qs:=[fun x=>∃l:List Int,(∀r∈l,zu r)∧x=yV l,fun x=>∃n,x=.int .i64 n∧ -9223372036854775808≤n∧n≤9223372036854775807,fun x=>∃n,x=.int .i64 n∧ -9223372036854775808≤n∧n≤9223372036854775807]) (tb:=4) Tryz.laidOut rfl (by kernel_rfl) rfl (by kernel_rfl) ?_ ?_ ?_ W base args ds gs before hval hW (fun b arr h=>by cases h)
 ·intro ds h
  match ds,h with
  | [_,_,_],_=>rfl
 ·exact⟨zb0 (by kernel_rfl) fun W=>zlh,zb0 (by kernel_rfl) fun W=>zf9,zb0 (by kernel_rfl) fun W=>zf9,trivial⟩
 ·intro xs q
  rcases xs with _|⟨x1,_|⟨x2,_|⟨x3,_|⟨x4,xs⟩⟩⟩⟩
  ·exact q.elim
  ·exact q.2.elim
  ·exact q.2.2.elim
  ·obtain⟨a0,h0,rfl⟩:=q.1
   obtain⟨a1,rfl,h1⟩:=q.2.1
   obtain⟨a2,rfl,h2⟩:=q.2.2.1
   exact Y7 a0 a1 a2 h0
  ·exact q.2.2.2.elim
theorem casesWords_holds:Rows.CasesWordsSaid:=
 OpenClaim.holds_of_wide 7 Tryz.f7 rfl rfl rfl rfl rfl rfl rfl ⟨rfl,rfl,rfl,rfl,rfl⟩ rfl rfl rfl rfl rfl (by kernel_rfl) Tryz.func7 (by kernel_rfl)
  (of_decide_eq_true (by kernel_rfl)) (by unfold Func.isWrapper;first|(rw[if_pos (by decide+kernel)];kernel_rfl)|(rw[if_neg (by decide+kernel)];exact⟨rfl,rfl⟩))
  (fun os started H enc _=>VA os started H enc)
end Go.Proofs.YthbmelihnabkaaaGreat
end
