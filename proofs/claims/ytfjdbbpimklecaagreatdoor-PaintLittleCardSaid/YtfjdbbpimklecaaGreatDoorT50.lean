/- A part of this seat's proofs, by an abstract machine. Conditions: each law's. -/
import Derived.Test.YtfjdbbpimklecaaGreatDoorT48
import Derived.Test.YtfjdbbpimklecaaGreatDoorT47
import Derived.Test.YtfjdbbpimklecaaGreatDoorT45
set_option maxHeartbeats 4000000
set_option maxRecDepth 10000
namespace Go.Proofs.YtfjdbbpimklecaaGreatDoor
section
open Go.AM
attribute [local irreducible] za
theorem zlk:W7 [] [62,32,97,98]:=⟨by simp,by simp,by simp,by simp[qg]⟩
theorem zcD:(vwS ((9:Nat):Int) [] [62,32,97] 3).1-vwT ((1:Nat):Int) ((9:Nat):Int) [] [62,32,97] 3=0∧(vwS ((9:Nat):Int) [] [62,32,97] 3).2=3:=by decide+kernel
theorem XG:(vwS ((9:Nat):Int) [] [62,32,97,98] 4).1-vwT ((1:Nat):Int) ((9:Nat):Int) [] [62,32,97,98] 4=0∧(vwS ((9:Nat):Int) [] [62,32,97,98] 4).2=4:=by decide+kernel
theorem zmV:qS (uY 1 9 (Q7 1 9) (vwL 1 9 [] [62,32,97] 3) 0 0 0 3 false false)=[62,32,97]:=by decide+kernel
theorem zlO:qS (uY 1 9 (vwL 1 9 [] [62,32,97] 3) (vwL 1 9 [] [62,32,97,98] 4) 0 3 0 4 false false)=[98]:=by decide+kernel
theorem ziJ [Gi](R C:Nat)(l:zt)(r c:Int):CR Tryz.prog 79 [] [.p (WA R C l r c)] [] (is (.tup [.p (.int .i64 R),.p (.int .i64 C)])):=by
 have sz:=vN R C l
 refine walk Tryz.func79 4 [] [] [] ?_
 unfold WA
 unfold Zj at sz⊢
 simp (maxSteps:=1000000) [go_sem,Tryz.f79]
 refine zq sz ?_
 simp (maxSteps:=1000000) [go_sem]
 exact ret
attribute [local irreducible] vwL
theorem YP:CR Tryz.prog 21 [] [] [] (is (.p (.bool true))):=by
 refine walk Tryz.func21 8 [] [3,100003] [] ?_
 have np:=KZ 1 9 (by omega) (by omega)
 have p1:=kj 1 9 (Q7 1 9) (vwL 1 9 [] [62,32,97] 3) 0 0 0 3 false false (by omega) (by omega) (by simp[Q7]) (uH _ _ _ _ _) (x8 zi6 _ _ _) (by omega) (by omega) (by omega) (by omega)
 have p2:=kj 1 9 (vwL 1 9 [] [62,32,97] 3) (vwL 1 9 [] [62,32,97,98] 4) 0 3 0 4 false false (by omega) (by omega) (uH _ _ _ _ _) (uH _ _ _ _ _) (x8 zlk _ _ _) (by omega) (by omega) (by omega) (by omega)
 have sz:=ziJ 1 9 (vwL 1 9 [] [62,32,97] 3) 0 3
 rw[zmV]at p1
 rw[zlO]at p2
 simp (maxSteps:=1000000) [go_sem,Tryz.f21]
 refine zq Vm ?_
 simp (maxSteps:=1000000) [go_sem]
 refine call [] yU ?_
 rintro _ _ ⟨rfl,e,rfl,hT⟩
 obtain⟨z0,y0,rfl⟩:∃z y,e=.pt z y:=by
  obtain⟨c,b,j,f,p,_,rfl⟩:=hT
  exact⟨_,_,rfl⟩
 have s1:=yu hT zi6 3 1 9 (by omega) (by omega)
 have s2:=yu hT zlk 4 1 9 (by omega) (by omega)
 have s1:=zbZ s1 (Js _ _ _ _)
 have s2:=zbZ s2 (Js _ _ _ _)
 unfold zcW at s1 s2
 rw[zcD.1,zcD.2]at s1
 rw[XG.1,XG.2]at s2
 generalize vwL 1 9 [] [62,32,97] 3=L1 at*
 generalize vwL 1 9 [] [62,32,97,98] 4=L2 at*
 generalize Q7 1 9=B at*
 unfold WA zio Zj at p1 p2
 unfold WA Zj at np sz
 unfold Zj at s1 s2
 simp (maxSteps:=1000000) [go_sem]
 refine zq np ?_
 simp (maxSteps:=1000000) [go_sem]
 refine⟨by decide,zq s1 ?_ (ha':=by simp[go_sem,zP])⟩
 simp (maxSteps:=1000000) [go_sem]
 refine zq p1 ?_
 simp (maxSteps:=1000000) [go_sem]
 refine⟨by decide,?_⟩
 refine qI 17 s2 ?_ (ha':=by simp[go_sem,zP])
 simp (maxSteps:=1000000) [go_sem]
 refine qI 16 p2 ?_
 simp (maxSteps:=1000000) [go_sem]
 refine zq sz ?_
 simp (maxSteps:=1000000) [go_sem]
 exact ret
end
end Go.Proofs.YtfjdbbpimklecaaGreatDoor
