/- A part of the proof of this seat's statements, by an abstract machine: what each operation does to values, and what the law's functions compute. Conditions: as each law says. -/
import Derived.Test.YtjefahhmkcfiiaaGreatM46
import Derived.Test.YtjefahhmkcfiiaaGreatRows
section
namespace Go.Proofs.YtjefahhmkcfiiaaGreat
open Go.ChangeShapes Go.WideShapes Go.ChangeAt Go.RowKit Go.AM
set_option maxRecDepth 100000
theorem Tryz.own:ownKnob Tryz.prog.godebug=none:=by kernel_rfl
theorem Tryz.laidOut:laidOutB Tryz.prog=true:=by kernel_rfl
theorem of_all {α:Type} {f:α→PV} {Q:α→Prop}:∀{es:List PV},(∀el∈es,∃a,Q a∧el=f a)→∃l:List α,(∀a∈l,Q a)∧es=l.map f
 | [],_=>⟨[],by simp,rfl⟩
 |x::xs,h=>by
  obtain⟨a,q,rfl⟩:=h x (by simp)
  obtain⟨l,ql,rfl⟩:=of_all (es:=xs) fun el hel=>h el (by simp[hel])
  exact⟨a::l,by simpa using ⟨q,ql⟩,rfl⟩
@[reducible] def noGi : Gi := ⟨fun _ => none⟩
section
variable {H:Type} {enc:TypeId×Value→H} {W:World}
abbrev QI:List PV→Prop:=fun xs=>∃x,xs=[x]∧∃n,x=.int .i64 n∧ -9223372036854775808≤n∧n≤9223372036854775807
abbrev QR:List PV→Prop:=fun xs=>∃x,xs=[x]∧∃n,x=.int .i32 n∧Rune n
abbrev QT:List PV→Prop:=fun xs=>∃x,xs=[x]∧∃l:List Int,(∀r∈l,Rune r)∧x=runesP l
theorem opens_i:Opens enc Tryz.prog W 0 (fun _=>true) true 3 QI:=by
 intro fuel cs x h
 obtain⟨xs,⟨n,rfl,hw⟩,r⟩:=opens_int (k:=.i64) (by kernel_rfl) _ _ _ h
 simp[Lit.wf,IntKind.min,IntKind.max,IntKind.signed,IntKind.bits]at hw
 exact⟨_,⟨_,rfl,n,rfl,by omega⟩,r⟩
theorem opens_r:Opens enc Tryz.prog W 0 (fun _=>true) true 21 QR:=by
 intro fuel cs x h
 obtain⟨xs,⟨n,rfl,hw⟩,r⟩:=opens_int (k:=.i32) (by kernel_rfl) _ _ _ h
 simp[Lit.wf,IntKind.min,IntKind.max,IntKind.signed,IntKind.bits]at hw
 exact⟨_,⟨_,rfl,n,rfl,⟨by omega,by omega⟩⟩,r⟩
theorem opens_t:Opens enc Tryz.prog W 0 (fun _=>true) true 22 QT:=by
 intro fuel cs x h
 obtain⟨xs,⟨es,rfl,he⟩,r⟩:=opens_slice (e:=21) (QE:=fun el=>∃n,Rune n∧el=PV.int .i32 n) (by kernel_rfl) (of_decide_eq_true (by kernel_rfl)) (fun fuel cs x h=>by
  obtain⟨el,v,⟨n,rfl,q⟩,r⟩:=el_one opens_r _ _ _ h
  exact⟨_,v,⟨n,q,rfl⟩,r⟩) _ _ _ h
 obtain⟨l,ql,rfl⟩:=of_all he
 exact⟨_,⟨_,rfl,l,ql,rfl⟩,r⟩
def okEdit(x:Edit):Prop:=∀r∈x.k,Rune r
theorem opens_edit:Opens enc Tryz.prog W 0 (fun _=>true) true 37 (PartsQ [QI,QI,QT]):=
 opens_struct Tryz.underlying37 (by kernel_rfl) ⟨opens_i,opens_i,opens_t,trivial⟩
theorem edit_spec {xs:List PV}(h:PartsQ [QI,QI,QT] xs):∃o:Edit,okEdit o∧PV.agg xs=editP o:=by
 obtain⟨a,b,rfl,⟨_,rfl,f,rfl,h0⟩,c,d,rfl,⟨_,rfl,g,rfl,h1⟩,e,f',rfl,⟨_,rfl,l,h2,rfl⟩,rfl⟩:=h
 exact⟨⟨f,g,l⟩,h2,rfl⟩
theorem opens_edits:Opens enc Tryz.prog W 0 (fun _=>true) true 23 fun xs=>∃x,xs=[x]∧∃l:List Edit,(∀o∈l,okEdit o)∧x=editsP l:=by
 intro fuel cs x h
 obtain⟨xs,⟨es,rfl,he⟩,r⟩:=opens_slice (e:=37) (QE:=fun el=>∃o:Edit,okEdit o∧el=editP o) (by kernel_rfl) (of_decide_eq_true (by kernel_rfl)) (fun fuel cs x h=>by
  obtain⟨el,v,⟨xs,rfl,q⟩,r⟩:=el_agg opens_edit _ _ _ h
  exact⟨_,v,edit_spec q,r⟩) _ _ _ h
 obtain⟨l,ql,rfl⟩:=of_all he
 exact⟨_,⟨_,rfl,l,ql,rfl⟩,r⟩
end
end Go.Proofs.YtjefahhmkcfiiaaGreat
end
section
namespace Go.Proofs.YtjefahhmkcfiiaaGreat
open Go.ChangeShapes Go.WideShapes Go.ChangeAt Go.RowKit Go.AM
set_option maxRecDepth 100000
theorem puts_lifted(os:Os)(started:os.Started)(H:Type)(enc:TypeId×Value→H):
  ReturnsInHanded {} Tryz.checked os 3 .any (Rows.modelPutsSpec.pre6 enc Tryz.prog Tryz.f3 Rows.modelPutsRow.domain false) (Rows.modelPutsSpec.post enc Tryz.prog Tryz.f3 false true false false):=by
 refine returnsInHanded_of_change (C:=Tryz.checked) Tryz.own started (by kernel_rfl) Tryz.func3
  (ChangeSpec.witness6 (enc:=enc) (C:=Tryz.checked) false ⟨#[], #[.slice none 0 0,.slice none 0 0],[]⟩ 8 (by kernel_rfl) (by kernel_rfl) (by kernel_rfl) (by kernel_rfl)) ?_
 intro W base args ds gs before hval hW _ _
 letI:Gi:=noGi
 refine contract_of (C:=Tryz.checked) (Qs:=[fun x=>∃l:List Int,(∀r∈l,Rune r)∧x=runesP l,fun x=>∃l:List Edit,(∀o∈l,okEdit o)∧x=editsP l]) (tb:=4) Tryz.laidOut rfl (by kernel_rfl) rfl (by kernel_rfl) ?_ ?_ ?_ W base args ds gs before hval hW (fun b arr h=>by cases h)
 ·intro ds h
  match ds,h with
  | [_,_],_=>rfl
 ·exact⟨arg_one (by kernel_rfl) fun W=>opens_t,arg_one (by kernel_rfl) fun W=>opens_edits,trivial⟩
 ·intro xs q
  rcases xs with _|⟨x1,_|⟨x2,_|⟨x3,xs⟩⟩⟩
  ·exact q.elim
  ·exact q.2.elim
  ·obtain⟨s,hs,rfl⟩:=q.1
   obtain⟨l,hl,rfl⟩:=q.2.1
   exact puts_cr s l hs hl
  ·exact q.2.2.elim
theorem puts_holds:Rows.ModelPutsSaid:=
 OpenClaim.holds_of_wide 3 Tryz.f3 rfl rfl rfl rfl rfl rfl rfl ⟨rfl,rfl,rfl,rfl,rfl⟩ rfl rfl rfl rfl rfl (by kernel_rfl) Tryz.func3 (by kernel_rfl)
  (of_decide_eq_true (by kernel_rfl)) (by unfold Func.isWrapper;first|(rw[if_pos (by decide+kernel)];kernel_rfl)|(rw[if_neg (by decide+kernel)];exact⟨rfl,rfl⟩))
  (fun os started H enc _=>puts_lifted os started H enc)
end Go.Proofs.YtjefahhmkcfiiaaGreat
end
