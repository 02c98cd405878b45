/- A part of this seat's proofs, by an abstract machine. Conditions: each law's. -/
import Derived.Test.YtfjdbbpimklecaaGreatDoorCards
import Derived.Test.YtfjdbbpimklecaaGreatDoorTie
import Derived.Test.YtfjdbbpimklecaaGreatDoorV44
import Derived.SevenTiedAt
set_option maxRecDepth 100000
namespace Go.Proofs.YtfjdbbpimklecaaGreatDoor
section
open Go.ChangeShapes Go.WideShapes Go.ChangeAt Go.RowKit Go.AM
theorem vtermParts_holds:Rows.VtermPartsCardSaid:=
 Claim7.holds_tied_plain_at .later [] [.data,.data,.data,.sentinel,.sentinel] true (true, "a0ba6ccefe3d652b6033df4bb13756994f7e3b0f21fef5600767a907aa101a35") true
  Ue (fun _ h=>by cases h) (by kernel_rfl) (fun _ h=>by cases h) vtermParts_row_tie rfl ⟨rfl,rfl⟩ (by kernel_rfl) rfl
  (fun f fn hf hfn=>by
   obtain rfl:f=8:=Option.some.inj ((show Tryz.prog.funcNamed "typebar/typebarlaw31.VtermParts" =some 8 by kernel_rfl).symm.trans hf) |>.symm
   obtain rfl:fn=Tryz.f8:=(Option.some.inj (Tryz.func8.symm.trans hfn)).symm
   exact⟨by kernel_rfl,fun j t ht=>by
    have hp:Tryz.f8.params= #[3,3,88,3]:=rfl
    rw[hp]at ht
    have hm:t∈[3,3,88,3]:=by simpa using Array.mem_of_getElem? ht
    have hall:([3,3,88,3].all fun u=>!Tryz.prog.wantsStandIn u)=true:=by kernel_rfl
    exact(show Tryz.prog.wantsStandIn t=false by simpa using List.all_eq_true.1 hall t hm)⟩)
  (by kernel_rfl)
end
end Go.Proofs.YtfjdbbpimklecaaGreatDoor
