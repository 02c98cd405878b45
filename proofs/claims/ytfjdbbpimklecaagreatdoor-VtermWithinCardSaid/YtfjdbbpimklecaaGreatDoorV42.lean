/- A part of this seat's proofs, by an abstract machine. Conditions: each law's. -/
import Derived.Test.YtfjdbbpimklecaaGreatDoorRows
import Derived.Test.YtfjdbbpimklecaaGreatDoorV37
import Derived.Test.YtfjdbbpimklecaaGreatDoorV41
import Derived.Test.YtfjdbbpimklecaaGreatDoorV34
set_option maxHeartbeats 40000000
set_option maxRecDepth 100000
namespace Go.Proofs.YtfjdbbpimklecaaGreatDoor
section
open Go.ChangeShapes Go.WideShapes Go.ChangeAt Go.RowKit Go.AM
theorem vd(os:Os)(started:os.Started)(H:Type)(enc:TypeId×Value→H):
  ReturnsInHanded {} Tryz.checked os 7 .any (fun w args=>(Rows.vtermWithinSpec.pre enc Tryz.prog Tryz.f7 [] false w args∧laidMetH Tryz.prog yd w)∧sizedMet enc Tryz.prog Tryz.f7 (OpenSpec.ofChange Rows.vtermWithinSpec) false w args)
   (Rows.vtermWithinSpec.post enc Tryz.prog Tryz.f7 false true false false):=by
 refine returnsInHanded_of_change_and (C:=Tryz.checked) (X:=fun w _=>laidMetH Tryz.prog yd w) (fun _ _ _ hh h=>h.of_heap hh) Tryz.own started (by kernel_rfl) Tryz.func7
  (ChangeSpec.witness_shaped (enc:=enc) (C:=Tryz.checked) (os:=os) (X:=fun w _=>laidMetH Tryz.prog yd w) false (World.laidAll Tryz.prog os yd) #[.int .i64 0,.int .i64 0,.slice none 0 0] 8 (World.laidAll_os _ _ _) (World.shaped_of_ZipB (by kernel_rfl) (by kernel_rfl)) (by kernel_rfl) (by kernel_rfl) (by kernel_rfl) (K1 os _)) ?_
 intro W base args ds gs before hval hW _ _ hL _
 obtain⟨te,pe,hgl⟩:=WY hL
 letI:Gi:=vGi te pe
 refine WN (C:=Tryz.checked) (Qs:=[fun x=>∃n,x=.int .i64 n∧ -9223372036854775808≤n∧n≤9223372036854775807,fun x=>∃n,x=.int .i64 n∧ -9223372036854775808≤n∧n≤9223372036854775807,fun x=>∃l:List (List UInt8),x=.sl 1 (l.map PV.str)]) (tb:=4) Tryz.laidOut rfl (by kernel_rfl) rfl (by kernel_rfl) ?_ ?_ ?_ W base args ds gs before hval hW hgl
 ·intro ds h
  match ds,h with
  | [_,_,_],_=>rfl
 ·exact⟨yC (by kernel_rfl) fun W=>kn,yC (by kernel_rfl) fun W=>kn,yC (by kernel_rfl) fun W=>zat,trivial⟩
 ·intro xs q
  rcases xs with _|⟨x1,_|⟨x2,_|⟨x3,_|⟨x4,xs⟩⟩⟩⟩
  ·exact q.elim
  ·exact q.2.elim
  ·exact q.2.2.elim
  ·obtain⟨a0,rfl,h0⟩:=q.1
   obtain⟨a1,rfl,h1⟩:=q.2.1
   obtain⟨a2,rfl⟩:=q.2.2.1
   exact VV (zcB te pe) a0 a1 a2
  ·exact q.2.2.2.elim
theorem wS:joinedFacts Tryz.pinned.checked.prog 7 Tryz.f7 Rows.vtermWithinSpec Rows.vtermWithinRow=true:=by
 simp only[joinedFacts,Bool.and_eq_true]
 repeat'(apply And.intro)
 all_goals as_aux_lemma=>kernel_rfl
theorem Vf:Rows.VtermWithinSaid:=
 OpenClaim.holds_of_wide 7 Tryz.f7 rfl rfl rfl rfl rfl rfl rfl ⟨rfl,rfl,rfl,rfl,rfl⟩ rfl rfl rfl rfl rfl (by kernel_rfl) Tryz.func7 wS
  (of_decide_eq_true (by kernel_rfl)) (by unfold Func.isWrapper;first|(rw[if_pos (by decide+kernel)];kernel_rfl)|(rw[if_neg (by decide+kernel)];exact⟨rfl,rfl⟩))
  (fun os started H enc _=>vd os started H enc)
end
end Go.Proofs.YtfjdbbpimklecaaGreatDoor
