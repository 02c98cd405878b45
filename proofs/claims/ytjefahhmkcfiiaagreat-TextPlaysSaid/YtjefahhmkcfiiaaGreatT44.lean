/- A part of the proof of this seat's statements, by an abstract machine: what each operation does to values, and what the law's functions compute. Conditions: as each law says. -/
import Derived.Test.YtjefahhmkcfiiaaGreatT43
section
namespace Go.Proofs.YtjefahhmkcfiiaaGreat
open Go.AM
set_option maxHeartbeats 4000000
set_option maxRecDepth 100000
theorem ex1:zZ za [101]=[101]∧zL za [101]=[[101]]:=by decide+kernel
theorem ex2:zD [101] 1 1 [769]=[233]∧zL za [233]=[[233]]∧qU [101] 1=0∧onL [101] 1=1∧yM [101] 1 1 [769]=[233]:=by decide+kernel
theorem ex3:zD [233] 0 0 [120]=[120,233]∧zL za [120,233]=[[120],[233]]∧qU [233] 0=0∧onL [233] 0=0∧yM [233] 0 0 [120]=[120]:=by decide+kernel
theorem ex4:jo [101] [233] 0 1 1=(0,1,1)∧plc [[233]] (cnt (pl [[233]]) (qE [101] [233] 0 1 1 1:Nat))=1:=by decide+kernel
theorem ex5:jo [233] [120,233] 0 0 1=(0,0,1)∧plc [[120],[233]] (cnt (pl [[120],[233]]) (qE [233] [120,233] 0 0 0 1:Nat))=1:=by decide+kernel
attribute [local irreducible] za
theorem zpU:V3 [101] [233] [[233]] 0 1 1 1=kI 0 [101] [233] 1:=by
 unfold V3
 rw[ex4.1,ex4.2];rfl
theorem zqd:V3 [233] [120,233] [[120],[233]] 0 0 1 0=kI 0 [] [120] 1:=by
 unfold V3
 rw[ex5.1,ex5.2];rfl
theorem xg [Gi]:CR Tryz.prog 47 [] [] [] (is (.p (.bool true))):=by
 refine walk Tryz.func47 6 [] [] [] ?_
 have hr1:∀x∈[101],zB x:=by simp[zB]
 have hr2:∀x∈[233],zB x:=by simp[zB]
 have hr3:∀x∈[769],zB x:=by simp[zB]
 have hr4:∀x∈[120],zB x:=by simp[zB]
 have l1:Ln (List.flatten [[101]]) [[101]]:=⟨ex1.2.symm,by decide,hr1⟩
 have l2:Ln (List.flatten [[233]]) [[233]]:=⟨ex2.2.1.symm,by decide,hr2⟩
 simp (maxSteps:=1000000) [go_sem,Tryz.f47]
 refine zo xV ?_
 simp (maxSteps:=1000000) [go_sem]
 refine call [] kS ?_
 rintro _ _ ⟨rfl,e,rfl,hT⟩
 have hnew:=WB hT [101] (by decide) hr1 (by rw[ex1.1];decide)
 rw[ex1.1,ex1.2]at hnew
 simp (maxSteps:=1000000) [go_sem]
 refine call [] hnew ?_ (ha':=by simp[go_sem,zu])
 rintro _ _ ⟨X,hX,_,rfl,rfl⟩
 have g1:=y7 hT hX l1 (by decide) 1 1 (by decide) (by decide) (by decide) (by decide) [769] (by decide) hr3
 have e1:List.flatten [[101]]=([101]:List Int):=rfl
 rw[e1,ex2.1,ex2.2.1,ex2.2.2.1,ex2.2.2.2.1,ex2.2.2.2.2]at g1
 have g1:=g1 (by decide)
 have e2:(0+List.length [(233:Int)])=1:=rfl
 rw[e2,zpU]at g1
 simp (maxSteps:=1000000) [go_sem]
 refine call (xm 9) g1 ?_ (ha':=by simp[go_sem,zu])
 rintro _ _ ⟨⟨Y,hY,rfl⟩,rfl⟩
 have g2:=y7 hT hY l2 (by decide) 0 0 (by decide) (by decide) (by decide) (by decide) [120] (by decide) hr4
 have e3:List.flatten [[233]]=([233]:List Int):=rfl
 rw[e3,ex3.1,ex3.2.1,ex3.2.2.1,ex3.2.2.2.1,ex3.2.2.2.2]at g2
 have g2:=g2 (by decide)
 have e4:(0+List.length [(120:Int)])=1:=rfl
 rw[e4,zqd]at g2
 simp (maxSteps:=1000000) [go_sem,kI]
 refine call (xm 9) g2 ?_ (ha':=by simp[go_sem,zu])
 rintro _ _ ⟨⟨Z,hZ,rfl⟩,rfl⟩
 have g3:=WR e hZ
 have e5:List.flatten [[120],[233]]=([120,233]:List Int):=rfl
 rw[e5]at g3
 simp (maxSteps:=1000000) [go_sem,kI]
 refine call (xm 9) g3 ?_
 rintro _ _ ⟨rfl,rfl⟩
 simp (maxSteps:=1000000) [go_sem]
 refine⟨by decide,zo (jv [120,233] (by decide)) ?_ (ha':=by simp[go_sem,zu])⟩
 simp (maxSteps:=1000000) [go_sem]
 exact ret
end Go.Proofs.YtjefahhmkcfiiaaGreat
end
