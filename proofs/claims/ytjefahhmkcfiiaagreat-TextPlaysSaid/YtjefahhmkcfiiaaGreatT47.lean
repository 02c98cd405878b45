/- A part of the proof of this seat's statements, by an abstract machine: what each operation does to values, and what the law's functions compute. Conditions: as each law says. -/
import Derived.Test.YtjefahhmkcfiiaaGreatT36
section
namespace Go.Proofs.YtjefahhmkcfiiaaGreat
open Go.ChangeShapes Go.WideShapes Go.ChangeAt Go.RowKit Go.AM
set_option maxRecDepth 100000
section
variable {H:Type} {enc:TypeId×Value→H} {W:World}
theorem zdP:yZ enc Tryz.prog W 0 (fun _=>true) true 87 (Ks [QI,QI,QT]):=
 VX Tryz.underlying87 (by kernel_rfl) ⟨vq,vq,vU,trivial⟩
theorem Ub:yZ enc Tryz.prog W 0 (fun _=>true) true 85 fun xs=>∃x,xs=[x]∧∃l:List WW,(∀o∈l,kd o)∧x=Z9 l:=by
 intro fuel cs x h
 obtain⟨xs,⟨es,rfl,he⟩,r⟩:=uB (e:=87) (QE:=fun el=>∃o:WW,kd o∧el=kj o) (by kernel_rfl) (of_decide_eq_true (by kernel_rfl)) (fun fuel cs x h=>by
  obtain⟨el,v,⟨xs,rfl,q⟩,r⟩:=zly zdP _ _ _ h
  exact⟨_,v,za6 q,r⟩) _ _ _ h
 obtain⟨l,ql,rfl⟩:=zcl he
 exact⟨_,⟨_,rfl,l,ql,rfl⟩,r⟩
end
end Go.Proofs.YtjefahhmkcfiiaaGreat
end
