/- A part of the proof of this seat's statements, by an abstract machine: what each operation does to values, and what the law's functions compute. Conditions: as each law says. -/
import Derived.Test.YthbmelihnabkaaaGreatT44
import Derived.Test.YthbmelihnabkaaaGreatT37
section
namespace Go.Proofs.YthbmelihnabkaaaGreat
open Go.AM
set_option maxHeartbeats 4000000
set_option maxRecDepth 10000
attribute [local irreducible] za
def xX:PV:=.opq (.pointer none)
def zdI:PV:=.opq (.slice none 0 0)
attribute [go_sem] xX zdI
theorem zbR [Gi](f t:Int)(l:List Int):CR Tryz.prog 20 [] [.p xX,.p (.int .i64 f),.p (.int .i64 t),.p (zh l)] [] (is (.tup [.p ko,.p (.int .i64 6)])):=by
 refine walk Tryz.func20 15 [] [10] [] ?_
 simp (maxSteps:=1000000) [go_sem,Tryz.f20,xX]
 exact ret (hx:=by simp[go_sem,zd,leA,leT,leP,ko])
theorem zlZ [Gi](f:Int)(l:List Int):CR Tryz.prog 22 [] [.p xX,.p (.agg [.int .i64 f,zdI,zh l])] [] (is (.p (.int .i64 6))):=by
 refine walk Tryz.func22 8 [] [] [] ?_
 simp (maxSteps:=1000000) [go_sem,Tryz.f22,xX]
 exact ret
theorem ziN [Gi]:CR Tryz.prog 32 [] [.p xX] [] (is (.p (.int .i64 0))):=by
 refine walk Tryz.func32 3 [] [] [] ?_
 simp (maxSteps:=1000000) [go_sem,Tryz.f32,xX]
 exact ret
theorem zgz [Gi]:CR Tryz.prog 19 [] [.p xX] [] (is (.p zdI)):=by
 refine walk Tryz.func19 3 [] [] [2] ?_
 simp (maxSteps:=1000000) [go_sem,Tryz.f19,xX]
 exact ret (hx:=by simp[go_sem,zd,leA,leT])
theorem zd7 [Gi]:CR Tryz.prog 33 [] [.p xX] [] (is (.p zdI)):=by
 refine walk Tryz.func33 3 [] [] [2] ?_
 simp (maxSteps:=1000000) [go_sem,Tryz.f33,xX]
 exact ret (hx:=by simp[go_sem,zd,leA,leT])
theorem zhJ [Gi](a:Int):CR Tryz.prog 18 [] [.p xX,.p (.int .i64 a)] [] (is (.p (.int .i64 0))):=by
 refine walk Tryz.func18 5 [] [] [] ?_
 simp (maxSteps:=1000000) [go_sem,Tryz.f18,xX]
 exact ret
theorem zmn [Gi](a n:Int):CR Tryz.prog 21 [] [.p xX,.p (.int .i64 a),.p (.int .i64 n)] [] (is (.p (.int .i64 0))):=by
 refine walk Tryz.func21 7 [] [] [] ?_
 simp (maxSteps:=1000000) [go_sem,Tryz.f21,xX]
 exact ret
theorem ziA [Gi](a n:Int):CR Tryz.prog 31 [] [.p xX,.p (.int .i64 a),.p (.int .i64 n)] [] (is (.p (.int .i64 0))):=by
 refine walk Tryz.func31 7 [] [200004,200007] [] ?_
 simp (maxSteps:=1000000) [go_sem,Tryz.f31,xX]
 exact ret
theorem ziB [Gi](a n:Int):CR Tryz.prog 34 [] [.p xX,.p (.int .i64 a),.p (.int .i64 n)] [] (is (.p zdI)):=by
 refine walk Tryz.func34 7 [] [] [6] ?_
 simp (maxSteps:=1000000) [go_sem,Tryz.f34,xX]
 exact ret (hx:=by simp[go_sem,zd,leA,leT])
theorem zdx [Gi](f t:Int)(l:List Int):CR Tryz.prog 6 [] [.p (.int .i64 f),.p (.int .i64 t),.p (zh l)] [] (is (.p (.bool true))):=by
 refine walk Tryz.func6 11 [] [] [] ?_
 simp (maxSteps:=1000000) [go_sem,Tryz.f6]
 refine zn (zbR f t l) ?_
 simp (maxSteps:=1000000) [go_sem,ko]
 refine zn (zlZ f l) ?_
 simp (maxSteps:=1000000) [go_sem]
 refine zn ziN ?_
 simp (maxSteps:=1000000) [go_sem]
 refine zn zgz ?_
 simp (maxSteps:=1000000) [go_sem,zdI]
 refine zn zd7 ?_
 simp (maxSteps:=1000000) [go_sem,zdI]
 refine zn (zhJ f) ?_
 simp (maxSteps:=1000000) [go_sem]
 refine zn (zmn f t) ?_
 simp (maxSteps:=1000000) [go_sem]
 refine zn (ziA f t) ?_
 simp (maxSteps:=1000000) [go_sem]
 refine zn (ziB f t) ?_
 simp (maxSteps:=1000000) [go_sem,zdI]
 refine zn ye ?_
 simp (maxSteps:=1000000) [go_sem]
 exact ret
end Go.Proofs.YthbmelihnabkaaaGreat
end
