/- A part of the proof of this seat's statements, by an abstract machine: what each operation does to values, and what the law's functions compute. Conditions: as each law says. -/
import Derived.Test.YtcgfdhdcihmeeaaGreatRows
import Derived.Test.YtcgfdhdcihmeeaaGreatT39
import Derived.Test.YtcgfdhdcihmeeaaGreatT41
section
namespace Go.Proofs.YtcgfdhdcihmeeaaGreat
open Go.ChangeShapes Go.WideShapes Go.ChangeAt Go.RowKit Go.AM
set_option maxRecDepth 100000
theorem VH(os:Os)(started:os.Started)(H:Type)(enc:TypeId×Value→H):
  ReturnsInHanded {} Tryz.checked os 4 .any (Rows.tallyAddsSpec.pre6 enc Tryz.prog Tryz.f4 Rows.tallyAddsRow.domain false) (Rows.tallyAddsSpec.post enc Tryz.prog Tryz.f4 false true false false):=by
 refine returnsInHanded_of_change (C:=Tryz.checked) Tryz.own started (by kernel_rfl) Tryz.func4
  (ChangeSpec.witness6 (enc:=enc) (C:=Tryz.checked) false ⟨#[], #[.int .u16 0,.int .u16 0,.int .u16 0,.int .u16 0],[]⟩ 8 (by kernel_rfl) (by kernel_rfl) (by kernel_rfl) (by kernel_rfl)) ?_
 intro W base args ds gs before hval hW _ _
 letI:Gi:=zoe
 refine UG (C:=Tryz.checked) (Qs:=[fun x=>∃n:Nat,x=.int .u16 n∧n<65536,fun x=>∃n:Nat,x=.int .u16 n∧n<65536,fun x=>∃n:Nat,x=.int .u16 n∧n<65536,fun x=>∃n:Nat,x=.int .u16 n∧n<65536]) (tb:=4) Tryz.laidOut rfl (by kernel_rfl) rfl (by kernel_rfl) ?_ ?_ ?_ W base args ds gs before hval hW (fun b arr h=>by cases h)
 ·intro ds h
  match ds,h with
  | [_,_,_,_],_=>rfl
 ·exact⟨vG (by kernel_rfl) fun W=>UY,vG (by kernel_rfl) fun W=>UY,vG (by kernel_rfl) fun W=>UY,vG (by kernel_rfl) fun W=>UY,trivial⟩
 ·intro xs q
  rcases xs with _|⟨x1,_|⟨x2,_|⟨x3,_|⟨x4,_|⟨x5,xs⟩⟩⟩⟩⟩
  ·exact q.elim
  ·exact q.2.elim
  ·exact q.2.2.elim
  ·exact q.2.2.2.elim
  ·obtain⟨a0,rfl,h0⟩:=q.1
   obtain⟨a1,rfl,h1⟩:=q.2.1
   obtain⟨a2,rfl,h2⟩:=q.2.2.1
   obtain⟨a3,rfl,h3⟩:=q.2.2.2.1
   exact XZ a0 a1 a2 a3 h0 h1 h2 h3
  ·exact q.2.2.2.2.elim
theorem tallyAdds_holds:Rows.TallyAddsSaid:=
 OpenClaim.holds_of_wide 4 Tryz.f4 rfl rfl rfl rfl rfl rfl rfl ⟨rfl,rfl,rfl,rfl,rfl⟩ rfl rfl rfl rfl rfl (by kernel_rfl) Tryz.func4 (by kernel_rfl)
  (of_decide_eq_true (by kernel_rfl)) (by unfold Func.isWrapper;first|(rw[if_pos (by decide+kernel)];kernel_rfl)|(rw[if_neg (by decide+kernel)];exact⟨rfl,rfl⟩))
  (fun os started H enc _=>VH os started H enc)
end Go.Proofs.YtcgfdhdcihmeeaaGreat
end
