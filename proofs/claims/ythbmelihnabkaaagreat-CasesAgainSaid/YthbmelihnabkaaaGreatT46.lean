/- A part of the proof of this seat's statements, by an abstract machine: what each operation does to values, and what the law's functions compute. Conditions: as each law says. -/
import Derived.Test.YthbmelihnabkaaaGreatT37
import Derived.Test.YthbmelihnabkaaaGreatT34
import Derived.Laws.AppendOwn
import Derived.Lib.LazyBuf
import Derived.Below
section
namespace Go.Proofs.YthbmelihnabkaaaGreat
open Go.ChangeShapes Go.WideShapes Go.ChangeAt Go.RowKit Go.AM
set_option maxRecDepth 100000
section
variable {H:Type} {enc:TypeId×Value→H} {W:World}
theorem zb4:wT enc Tryz.prog W 0 (fun _=>true) true 39 (K8 [QI,QI,QT]):=
 zao Tryz.underlying39 (by kernel_rfl) ⟨uj,uj,KI,trivial⟩
theorem zaq:wT enc Tryz.prog W 0 (fun _=>true) true 33 fun xs=>∃x,xs=[x]∧∃l:List zcI,(∀o∈l,VZ o)∧x=Yd l:=by
 intro fuel cs x h
 obtain⟨xs,⟨es,rfl,he⟩,r⟩:=Kf (e:=39) (QE:=fun el=>∃o:zcI,VZ o∧el=Kj o) (by kernel_rfl) (of_decide_eq_true (by kernel_rfl)) (fun fuel cs x h=>by
  obtain⟨el,v,⟨xs,rfl,q⟩,r⟩:=zl4 zb4 _ _ _ h
  exact⟨_,v,zgJ q,r⟩) _ _ _ h
 obtain⟨l,ql,rfl⟩:=ze0 he
 exact⟨_,⟨_,rfl,l,ql,rfl⟩,r⟩
end
end Go.Proofs.YthbmelihnabkaaaGreat
end
section
namespace Go.Proofs.YthbmelihnabkaaaGreat
open Go.RowKit Go.Lib
set_option maxRecDepth 100000
set_option maxHeartbeats 4000000
theorem zlX:∃i,Tryz.prog.info? 3=some i∧i.zero=some (.int .i64 0)∧i.size=1∧i.bytes=8:=by
 have h:(Tryz.prog.info? 3).map (fun i=>(i.zero,i.size,i.bytes))=some (some (.int .i64 0),1,8):=by kernel_rfl
 simp only[Option.map_eq_some_iff,Prod.mk.injEq]at h
 obtain⟨i,h0,h1,h2,h3⟩:=h
 exact⟨i,h0,h1,h2,h3⟩
theorem zcn(cap:Nat)(w:World):Calls Tryz.prog 137 #[.slice none 0 cap] w fun e w'=>e=.returned (.slice none 0 0)∧w'=w:=by
 have t97:Tryz.prog.underlying 59=some (.slice 3):=Tryz.underlying59
 have q97:∀(w:World) (a:Option Addr) (n c n' c':Nat),(binOp .eql 59 (.slice a n c) (.slice none n' c')).run Tryz.prog w=.ok (.bool a.isNone) w:=fun w a n c n' c'=>Lib.run_eql_slice_nil w _ _ a n c n' c' t97
 go_enter Tryz.func137,Tryz.ntmps137
 go_wp2
 go_ret
 exact⟨rfl,rfl⟩
theorem zbU(a:Addr)(c:Nat)(w:World):Calls Tryz.prog 137 #[.slice (some a) 0 c] w fun e w'=>∃v',e=.returned v'∧w'.ownsRow w.heap.size 3 1 v' 0 []∧v'≠ .slice none 0 0∧Below w.heap.size w w':=by
 have t97:Tryz.prog.underlying 59=some (.slice 3):=Tryz.underlying59
 have q97:∀(w:World) (a:Option Addr) (n c n' c':Nat),(binOp .eql 59 (.slice a n c) (.slice none n' c')).run Tryz.prog w=.ok (.bool a.isNone) w:=fun w a n c n' c'=>Lib.run_eql_slice_nil w _ _ a n c n' c' t97
 have u97:∀w,Sem.run Tryz.prog (underlying 59) w=.ok (TypeDesc.slice 3) w:=run_underlying t97
 obtain⟨i0,hi,hz0,hz1,hz2⟩:=zlX
 go_enter Tryz.func137,Tryz.ntmps137
 go_wp2_with (at_builtin;refine wpList_append_own _ rfl _ _ 59 rfl w.heap.size 3 i0 (.int .i64 0) 1 8 t97 hi hz0 hz1 hz2 rfl (by decide) _ _ _ rfl (World.ownsRow_made w #[] 0 (Nat.le_refl _) (Nat.zero_le _) rfl) a 0 c [] rfl rfl (by intro j u hj;simp at hj) (by intro u hu;cases hu) (by unfold maxLen;omega) (by omega) (by simp) ?_)
 intro v' w1 hown hgrow hnil
 go_wp2
 go_ret
 refine⟨v',rfl,by simpa using hown,?_,?_⟩
 ·first|exact hnil|(intro e;exact absurd (hnil.1 e).1 (by simp))
 ·exact((Below.refl _ w).alloc (Nat.le_refl _) _).grown hgrow (by simp) (by intro k hk;simp[Value.ownBlock]at hk;omega)
end Go.Proofs.YthbmelihnabkaaaGreat
end
