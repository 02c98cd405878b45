/- A part of the proof of this seat's statements, by an abstract machine: what each operation does to values, and what the law's functions compute. Conditions: as each law says. -/
import Derived.Test.YtcgfdhdcihmeeaaGreatRows
import Derived.Test.YtcgfdhdcihmeeaaGreatT39
import Derived.Test.YtcgfdhdcihmeeaaGreatT46
section
namespace Go.Proofs.YtcgfdhdcihmeeaaGreat
open Go.ChangeShapes Go.WideShapes Go.ChangeAt Go.RowKit Go.AM
set_option maxRecDepth 100000
theorem Wc(os:Os)(started:os.Started)(H:Type)(enc:TypeId×Value→H):
  ReturnsInHanded {} Tryz.checked os 3 .any (Rows.tallyCountsSpec.pre6 enc Tryz.prog Tryz.f3 Rows.tallyCountsRow.domain false) (Rows.tallyCountsSpec.post enc Tryz.prog Tryz.f3 false true false false):=by
 refine returnsInHanded_of_change (C:=Tryz.checked) Tryz.own started (by kernel_rfl) Tryz.func3
  (ChangeSpec.witness6 (enc:=enc) (C:=Tryz.checked) false ⟨#[], #[.agg #[.slice none 0 0,.slice none 0 0,.int .i64 0],.agg #[.slice none 0 0,.slice none 0 0,.int .i64 0],.int .i64 0,.int .i64 0],[]⟩ 8 (by kernel_rfl) (by kernel_rfl) (by kernel_rfl) (by kernel_rfl)) ?_
 intro W base args ds gs before hval hW _ _
 letI:Gi:=zoe
 refine UG (C:=Tryz.checked) (Qs:=[fun x=>∃xs,x=.agg xs∧u6 [QTs,QT,QI] xs,fun x=>∃xs,x=.agg xs∧u6 [QTs,QT,QI] xs,fun x=>∃n,x=.int .i64 n∧ -9223372036854775808≤n∧n≤9223372036854775807,fun x=>∃n,x=.int .i64 n∧ -9223372036854775808≤n∧n≤9223372036854775807]) (tb:=4) Tryz.laidOut rfl (by kernel_rfl) rfl (by kernel_rfl) ?_ ?_ ?_ W base args ds gs before hval hW (fun b arr h=>by cases h)
 ·intro ds h
  match ds,h with
  | [_,_,_,_],_=>rfl
 ·exact⟨zeU (by kernel_rfl) fun W=>Jf,zeU (by kernel_rfl) fun W=>Jf,vG (by kernel_rfl) fun W=>XK,vG (by kernel_rfl) fun W=>XK,trivial⟩
 ·intro xs q
  rcases xs with _|⟨x1,_|⟨x2,_|⟨x3,_|⟨x4,_|⟨x5,xs⟩⟩⟩⟩⟩
  ·exact q.elim
  ·exact q.2.elim
  ·exact q.2.2.elim
  ·exact q.2.2.2.elim
  ·obtain⟨y0,e0,p0⟩:=q.1
   obtain⟨a0,h0,g0⟩:=YL p0
   rw[g0]at e0
   subst e0
   obtain⟨y1,e1,p1⟩:=q.2.1
   obtain⟨a1,h1,g1⟩:=YL p1
   rw[g1]at e1
   subst e1
   obtain⟨a2,rfl,h2⟩:=q.2.2.1
   obtain⟨a3,rfl,h3⟩:=q.2.2.2.1
   exact K7 a0.1 a0.2.1 a0.2.2 a1.1 a1.2.1 a1.2.2 a2 a3 h0.1 h0.2 h1.1 h1.2
  ·exact q.2.2.2.2.elim
theorem tallyCounts_holds:Rows.TallyCountsSaid:=
 OpenClaim.holds_of_wide 3 Tryz.f3 rfl rfl rfl rfl rfl rfl rfl ⟨rfl,rfl,rfl,rfl,rfl⟩ rfl rfl rfl rfl rfl (by kernel_rfl) Tryz.func3 (by kernel_rfl)
  (of_decide_eq_true (by kernel_rfl)) (by unfold Func.isWrapper;first|(rw[if_pos (by decide+kernel)];kernel_rfl)|(rw[if_neg (by decide+kernel)];exact⟨rfl,rfl⟩))
  (fun os started H enc _=>Wc os started H enc)
end Go.Proofs.YtcgfdhdcihmeeaaGreat
end
