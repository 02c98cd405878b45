/- A part of the proof of this seat's statements, by an abstract machine: what each operation does to values, and what the law's functions compute. Conditions: as each law says. -/
import Derived.Test.YtjefahhmkcfiiaaGreatT18
import Derived.Test.YtjefahhmkcfiiaaGreatT26
import Derived.Test.YtjefahhmkcfiiaaGreatT31
section
namespace Go.Proofs.YtjefahhmkcfiiaaGreat
open Go.AM
set_option maxHeartbeats 4000000
set_option maxRecDepth 10000
theorem zcj [Gi](r:Int):CR Tryz.prog 179 [] [.p (.int .i32 r)] [] (is (.p (.bool (Zm r)))):=by
 refine zm mixed 3 [] Tryz.func179 rfl (by kernel_rfl) rfl (by simp) (by simp) ?_
 by_cases c1:44032≤r
 ·simp (maxSteps:=1000000) [go_sem,Tryz.f179,c1]
  refine zh (.p (.bool (Zm r))) rfl ?_ ⟨rfl,rfl⟩
  have:decide (r≤55203)=decide (r<55204):=by congr 1;simp;omega
  simp[go_sem,zd,leA,leT,Zm,c1,this]
 ·simp (maxSteps:=1000000) [go_sem,Tryz.f179,c1]
  exact zh (.p (.bool (Zm r))) rfl (by simp[go_sem,zd,leA,leT,Zm,c1]) ⟨rfl,rfl⟩
theorem xc [Gi](r:Int)(hs:Zm r=true):CR Tryz.prog 180 [] [.p (.int .i32 r)] [] (is (.os [2] 1 (zu (z5 r)))):=by
 refine zm mixed 5 [] Tryz.func180 rfl (by kernel_rfl) rfl (by simp) (by simp) ?_
 simp (maxSteps:=1000000) [go_sem,Tryz.f180]
 refine⟨⟨rfl,by simp[Tryz.f179]⟩,zb [] (zcj r) (by simp[go_sem]) ⟨by simp[go_sem],by simp[go_sem]⟩ (by simp[go_sem]) ?_⟩
 rintro _ rs ⟨rfl,rfl⟩
 have hs':44032≤r∧r<55204:=by simpa[Zm]using hs
 have w0:IntKind.i64.wrap r=r:=wrap64 (by omega) (by omega)
 have w1:IntKind.i64.wrap (r-44032)=r-44032:=wrap64 (by omega) (by omega)
 have d1:(r-44032).tdiv 588=(r-44032)/588:=Int.tdiv_eq_ediv_of_nonneg (by omega)
 have d2:(r-44032).tdiv 28=(r-44032)/28:=Int.tdiv_eq_ediv_of_nonneg (by omega)
 have d3:(r-44032).tmod 28=(r-44032)%28:=Int.tmod_eq_emod_of_nonneg (by omega)
 have d4:((r-44032)/28).tmod 21=(r-44032)/28%21:=Int.tmod_eq_emod_of_nonneg (by omega)
 have w2:IntKind.i64.wrap ((r-44032)/588)=(r-44032)/588:=wrap64 (by omega) (by omega)
 have w3:IntKind.i64.wrap ((r-44032)/28)=(r-44032)/28:=wrap64 (by omega) (by omega)
 have w4:IntKind.i64.wrap ((r-44032)%28)=(r-44032)%28:=wrap64 (by omega) (by omega)
 have w5:IntKind.i64.wrap ((r-44032)/28%21)=(r-44032)/28%21:=wrap64 (by omega) (by omega)
 have w6:IntKind.i64.wrap (4352+(r-44032)/588)=4352+(r-44032)/588:=wrap64 (by omega) (by omega)
 have w7:IntKind.i64.wrap (4449+(r-44032)/28%21)=4449+(r-44032)/28%21:=wrap64 (by omega) (by omega)
 have w8:IntKind.i64.wrap (4519+(r-44032)%28)=4519+(r-44032)%28:=wrap64 (by omega) (by omega)
 have u6:IntKind.i32.wrap (4352+(r-44032)/588)=4352+(r-44032)/588:=yz (by omega)
 have u7:IntKind.i32.wrap (4449+(r-44032)/28%21)=4449+(r-44032)/28%21:=yz (by omega)
 have u8:IntKind.i32.wrap (4519+(r-44032)%28)=4519+(r-44032)%28:=yz (by omega)
 simp (maxSteps:=1000000) [go_sem,hs,w0,w1,d1,d2,d3,d4,w2,w3,w6,w7,u6,u7]
 refine⟨rfl,?_⟩
 refine wX (fun hc=>?_) (fun hc=>?_)
 ·have e:z5 r=[4352+(r-44032)/588,4449+(r-44032)/28%21,4519+(r-44032)%28]:=if_neg (by omega)
  rw[e]
  simp (maxSteps:=1000000) [go_sem,d3,w8,u8]
  exact zh (.os [2] 1 (zu [4352+(r-44032)/588,4449+(r-44032)/28%21,4519+(r-44032)%28])) rfl (by simp[go_sem,zd,leA,leT,zu]) ⟨rfl,rfl⟩
 ·have e:z5 r=[4352+(r-44032)/588,4449+(r-44032)/28%21]:=if_pos (by omega)
  rw[e]
  simp (maxSteps:=1000000) [go_sem]
  exact zh (.os [2] 1 (zu [4352+(r-44032)/588,4449+(r-44032)/28%21])) rfl (by simp[go_sem,zd,leA,leT,zu]) ⟨rfl,rfl⟩
theorem WO [Gi](r:Int)(hs:Zm r=false):CR Tryz.prog 180 [] [.p (.int .i32 r)] [] (is (.os [2] 1 [])):=by
 refine zm mixed 5 [] Tryz.func180 rfl (by kernel_rfl) rfl (by simp) (by simp) ?_
 simp (maxSteps:=1000000) [go_sem,Tryz.f180]
 refine⟨⟨rfl,by simp[Tryz.f179]⟩,zb [] (zcj r) (by simp[go_sem]) ⟨by simp[go_sem],by simp[go_sem]⟩ (by simp[go_sem]) ?_⟩
 rintro _ rs ⟨rfl,rfl⟩
 simp (maxSteps:=1000000) [go_sem,hs]
 exact zh (.os [2] 1 []) rfl (by simp[go_sem,zd,leA,leT]) ⟨rfl,rfl⟩
def z7(a b:Int):Option Int:=
 if 4352≤a∧a≤4370∧4449≤b∧b≤4469 then some (44032+(a-4352)*588+(b-4449)*28)
 else if Zm a=true∧(a-44032)%28=0∧4520≤b∧b≤4546 then some (a+(b-4519))else none
theorem zll [Gi](a b:Int)(ha:zB a)(hb:zB b):CR Tryz.prog 177 [] [.p (.int .i32 a),.p (.int .i32 b)] [] (is (.tup [.p (.int .i32 (Zb (z7 a b))),.p (.bool (z7 a b).isSome)])):=by
 refine zm mixed 7 [] Tryz.func177 rfl (by kernel_rfl) rfl (by simp) (by simp) ?_
 have wa:=WT ha
 have wb:=WT hb
 by_cases h:4352≤a∧a≤4370∧4449≤b∧b≤4469
 ·have e:z7 a b=some (44032+(a-4352)*588+(b-4449)*28):=if_pos h
  obtain⟨h1,h2,h3,h4⟩:=h
  have w1:IntKind.i64.wrap (a-4352)=a-4352:=wrap64 (by omega) (by omega)
  have w2:IntKind.i64.wrap ((a-4352)*588)=(a-4352)*588:=wrap64 (by omega) (by omega)
  have w3:IntKind.i64.wrap (44032+(a-4352)*588)=44032+(a-4352)*588:=wrap64 (by omega) (by omega)
  have w4:IntKind.i64.wrap (b-4449)=b-4449:=wrap64 (by omega) (by omega)
  have w5:IntKind.i64.wrap ((b-4449)*28)=(b-4449)*28:=wrap64 (by omega) (by omega)
  have w6:IntKind.i64.wrap (44032+(a-4352)*588+(b-4449)*28)=44032+(a-4352)*588+(b-4449)*28:=wrap64 (by omega) (by omega)
  have w7:IntKind.i32.wrap (44032+(a-4352)*588+(b-4449)*28)=44032+(a-4352)*588+(b-4449)*28:=yz (by omega)
  simp (maxSteps:=1000000) [go_sem,Tryz.f177,h1,h2,h3,h4,wa,wb,w1,w2,w3,w4,w5,w6,w7]
  exact zh (.tup [.p (.int .i32 (Zb (z7 a b))),.p (.bool (z7 a b).isSome)]) rfl (by simp[go_sem,zd,leA,leT,leP,e,Zb]) ⟨rfl,rfl⟩
 ·have e:z7 a b=if Zm a=true∧(a-44032)%28=0∧4520≤b∧b≤4546 then some (a+(b-4519))else none:=if_neg h
  rcases(show ¬4352≤a∨(4352≤a∧¬a≤4370)∨(4352≤a∧a≤4370∧¬4449≤b)∨(4352≤a∧a≤4370∧4449≤b∧¬b≤4469) by omega)with x1|⟨x1,x2⟩|⟨x1,x2,x3⟩|⟨x1,x2,x3,x4⟩
  ·simp (maxSteps:=1000000) [go_sem,Tryz.f177,x1]
   cases hs:Zm a with
   |false=>
    have e2:z7 a b=none:=by rw[e,hs];simp
    refine⟨⟨rfl,by simp[Tryz.f180]⟩,zb [] (WO a hs) (by simp[go_sem]) ⟨by simp[go_sem],by simp[go_sem]⟩ (by simp[go_sem]) ?_⟩
    rintro _ rs ⟨rfl,rfl⟩
    simp (maxSteps:=1000000) [go_sem]
    exact zh (.tup [.p (.int .i32 (Zb (z7 a b))),.p (.bool (z7 a b).isSome)]) rfl (by simp[go_sem,zd,leA,leT,leP,e2,Zb]) ⟨rfl,rfl⟩
   |true=>
    refine⟨⟨rfl,by simp[Tryz.f180]⟩,zb [] (xc a hs) (by simp[go_sem]) ⟨by simp[go_sem],by simp[go_sem]⟩ (by simp[go_sem]) ?_⟩
    rintro _ rs ⟨rfl,rfl⟩
    by_cases c0:(a-44032)%28=0
    ·have es:z5 a=[4352+(a-44032)/588,4449+(a-44032)/28%21]:=if_pos c0
     rw[es]
     by_cases c1:4520≤b
     ·by_cases c2:b≤4546
      ·have e2:z7 a b=some (a+(b-4519)):=by rw[e,if_pos ⟨hs,c0,c1,c2⟩]
       have hs':44032≤a∧a<55204:=by simpa[Zm]using hs
       have w1:IntKind.i32.wrap (b-4519)=b-4519:=yz (by omega)
       have w2:IntKind.i32.wrap (a+(b-4519))=a+(b-4519):=yz (by omega)
       simp (maxSteps:=1000000) [go_sem,zu,c1,c2,w1,w2]
       exact zh (.tup [.p (.int .i32 (Zb (z7 a b))),.p (.bool (z7 a b).isSome)]) rfl (by simp[go_sem,zd,leA,leT,leP,e2,Zb]) ⟨rfl,rfl⟩
      ·have e2:z7 a b=none:=by rw[e,if_neg (fun h=>c2 h.2.2.2)]
       simp (maxSteps:=1000000) [go_sem,zu,c1,c2]
       exact zh (.tup [.p (.int .i32 (Zb (z7 a b))),.p (.bool (z7 a b).isSome)]) rfl (by simp[go_sem,zd,leA,leT,leP,e2,Zb]) ⟨rfl,rfl⟩
     ·have e2:z7 a b=none:=by rw[e,if_neg (fun h=>c1 h.2.2.1)]
      simp (maxSteps:=1000000) [go_sem,zu,c1]
      exact zh (.tup [.p (.int .i32 (Zb (z7 a b))),.p (.bool (z7 a b).isSome)]) rfl (by simp[go_sem,zd,leA,leT,leP,e2,Zb]) ⟨rfl,rfl⟩
    ·have es:z5 a=[4352+(a-44032)/588,4449+(a-44032)/28%21,4519+(a-44032)%28]:=if_neg c0
     have e2:z7 a b=none:=by rw[e,if_neg (fun h=>c0 h.2.1)]
     rw[es]
     simp (maxSteps:=1000000) [go_sem,zu]
     exact zh (.tup [.p (.int .i32 (Zb (z7 a b))),.p (.bool (z7 a b).isSome)]) rfl (by simp[go_sem,zd,leA,leT,leP,e2,Zb]) ⟨rfl,rfl⟩
  ·simp (maxSteps:=1000000) [go_sem,Tryz.f177,x1,x2]
   cases hs:Zm a with
   |false=>
    have e2:z7 a b=none:=by rw[e,hs];simp
    refine⟨⟨rfl,by simp[Tryz.f180]⟩,zb [] (WO a hs) (by simp[go_sem]) ⟨by simp[go_sem],by simp[go_sem]⟩ (by simp[go_sem]) ?_⟩
    rintro _ rs ⟨rfl,rfl⟩
    simp (maxSteps:=1000000) [go_sem]
    exact zh (.tup [.p (.int .i32 (Zb (z7 a b))),.p (.bool (z7 a b).isSome)]) rfl (by simp[go_sem,zd,leA,leT,leP,e2,Zb]) ⟨rfl,rfl⟩
   |true=>
    refine⟨⟨rfl,by simp[Tryz.f180]⟩,zb [] (xc a hs) (by simp[go_sem]) ⟨by simp[go_sem],by simp[go_sem]⟩ (by simp[go_sem]) ?_⟩
    rintro _ rs ⟨rfl,rfl⟩
    by_cases c0:(a-44032)%28=0
    ·have es:z5 a=[4352+(a-44032)/588,4449+(a-44032)/28%21]:=if_pos c0
     rw[es]
     by_cases c1:4520≤b
     ·by_cases c2:b≤4546
      ·have e2:z7 a b=some (a+(b-4519)):=by rw[e,if_pos ⟨hs,c0,c1,c2⟩]
       have hs':44032≤a∧a<55204:=by simpa[Zm]using hs
       have w1:IntKind.i32.wrap (b-4519)=b-4519:=yz (by omega)
       have w2:IntKind.i32.wrap (a+(b-4519))=a+(b-4519):=yz (by omega)
       simp (maxSteps:=1000000) [go_sem,zu,c1,c2,w1,w2]
       exact zh (.tup [.p (.int .i32 (Zb (z7 a b))),.p (.bool (z7 a b).isSome)]) rfl (by simp[go_sem,zd,leA,leT,leP,e2,Zb]) ⟨rfl,rfl⟩
      ·have e2:z7 a b=none:=by rw[e,if_neg (fun h=>c2 h.2.2.2)]
       simp (maxSteps:=1000000) [go_sem,zu,c1,c2]
       exact zh (.tup [.p (.int .i32 (Zb (z7 a b))),.p (.bool (z7 a b).isSome)]) rfl (by simp[go_sem,zd,leA,leT,leP,e2,Zb]) ⟨rfl,rfl⟩
     ·have e2:z7 a b=none:=by rw[e,if_neg (fun h=>c1 h.2.2.1)]
      simp (maxSteps:=1000000) [go_sem,zu,c1]
      exact zh (.tup [.p (.int .i32 (Zb (z7 a b))),.p (.bool (z7 a b).isSome)]) rfl (by simp[go_sem,zd,leA,leT,leP,e2,Zb]) ⟨rfl,rfl⟩
    ·have es:z5 a=[4352+(a-44032)/588,4449+(a-44032)/28%21,4519+(a-44032)%28]:=if_neg c0
     have e2:z7 a b=none:=by rw[e,if_neg (fun h=>c0 h.2.1)]
     rw[es]
     simp (maxSteps:=1000000) [go_sem,zu]
     exact zh (.tup [.p (.int .i32 (Zb (z7 a b))),.p (.bool (z7 a b).isSome)]) rfl (by simp[go_sem,zd,leA,leT,leP,e2,Zb]) ⟨rfl,rfl⟩
  ·simp (maxSteps:=1000000) [go_sem,Tryz.f177,x1,x2,x3]
   cases hs:Zm a with
   |false=>
    have e2:z7 a b=none:=by rw[e,hs];simp
    refine⟨⟨rfl,by simp[Tryz.f180]⟩,zb [] (WO a hs) (by simp[go_sem]) ⟨by simp[go_sem],by simp[go_sem]⟩ (by simp[go_sem]) ?_⟩
    rintro _ rs ⟨rfl,rfl⟩
    simp (maxSteps:=1000000) [go_sem]
    exact zh (.tup [.p (.int .i32 (Zb (z7 a b))),.p (.bool (z7 a b).isSome)]) rfl (by simp[go_sem,zd,leA,leT,leP,e2,Zb]) ⟨rfl,rfl⟩
   |true=>
    refine⟨⟨rfl,by simp[Tryz.f180]⟩,zb [] (xc a hs) (by simp[go_sem]) ⟨by simp[go_sem],by simp[go_sem]⟩ (by simp[go_sem]) ?_⟩
    rintro _ rs ⟨rfl,rfl⟩
    by_cases c0:(a-44032)%28=0
    ·have es:z5 a=[4352+(a-44032)/588,4449+(a-44032)/28%21]:=if_pos c0
     rw[es]
     by_cases c1:4520≤b
     ·by_cases c2:b≤4546
      ·have e2:z7 a b=some (a+(b-4519)):=by rw[e,if_pos ⟨hs,c0,c1,c2⟩]
       have hs':44032≤a∧a<55204:=by simpa[Zm]using hs
       have w1:IntKind.i32.wrap (b-4519)=b-4519:=yz (by omega)
       have w2:IntKind.i32.wrap (a+(b-4519))=a+(b-4519):=yz (by omega)
       simp (maxSteps:=1000000) [go_sem,zu,c1,c2,w1,w2]
       exact zh (.tup [.p (.int .i32 (Zb (z7 a b))),.p (.bool (z7 a b).isSome)]) rfl (by simp[go_sem,zd,leA,leT,leP,e2,Zb]) ⟨rfl,rfl⟩
      ·have e2:z7 a b=none:=by rw[e,if_neg (fun h=>c2 h.2.2.2)]
       simp (maxSteps:=1000000) [go_sem,zu,c1,c2]
       exact zh (.tup [.p (.int .i32 (Zb (z7 a b))),.p (.bool (z7 a b).isSome)]) rfl (by simp[go_sem,zd,leA,leT,leP,e2,Zb]) ⟨rfl,rfl⟩
     ·have e2:z7 a b=none:=by rw[e,if_neg (fun h=>c1 h.2.2.1)]
      simp (maxSteps:=1000000) [go_sem,zu,c1]
      exact zh (.tup [.p (.int .i32 (Zb (z7 a b))),.p (.bool (z7 a b).isSome)]) rfl (by simp[go_sem,zd,leA,leT,leP,e2,Zb]) ⟨rfl,rfl⟩
    ·have es:z5 a=[4352+(a-44032)/588,4449+(a-44032)/28%21,4519+(a-44032)%28]:=if_neg c0
     have e2:z7 a b=none:=by rw[e,if_neg (fun h=>c0 h.2.1)]
     rw[es]
     simp (maxSteps:=1000000) [go_sem,zu]
     exact zh (.tup [.p (.int .i32 (Zb (z7 a b))),.p (.bool (z7 a b).isSome)]) rfl (by simp[go_sem,zd,leA,leT,leP,e2,Zb]) ⟨rfl,rfl⟩
  ·simp (maxSteps:=1000000) [go_sem,Tryz.f177,x1,x2,x3,x4]
   cases hs:Zm a with
   |false=>
    have e2:z7 a b=none:=by rw[e,hs];simp
    refine⟨⟨rfl,by simp[Tryz.f180]⟩,zb [] (WO a hs) (by simp[go_sem]) ⟨by simp[go_sem],by simp[go_sem]⟩ (by simp[go_sem]) ?_⟩
    rintro _ rs ⟨rfl,rfl⟩
    simp (maxSteps:=1000000) [go_sem]
    exact zh (.tup [.p (.int .i32 (Zb (z7 a b))),.p (.bool (z7 a b).isSome)]) rfl (by simp[go_sem,zd,leA,leT,leP,e2,Zb]) ⟨rfl,rfl⟩
   |true=>
    refine⟨⟨rfl,by simp[Tryz.f180]⟩,zb [] (xc a hs) (by simp[go_sem]) ⟨by simp[go_sem],by simp[go_sem]⟩ (by simp[go_sem]) ?_⟩
    rintro _ rs ⟨rfl,rfl⟩
    by_cases c0:(a-44032)%28=0
    ·have es:z5 a=[4352+(a-44032)/588,4449+(a-44032)/28%21]:=if_pos c0
     rw[es]
     by_cases c1:4520≤b
     ·by_cases c2:b≤4546
      ·have e2:z7 a b=some (a+(b-4519)):=by rw[e,if_pos ⟨hs,c0,c1,c2⟩]
       have hs':44032≤a∧a<55204:=by simpa[Zm]using hs
       have w1:IntKind.i32.wrap (b-4519)=b-4519:=yz (by omega)
       have w2:IntKind.i32.wrap (a+(b-4519))=a+(b-4519):=yz (by omega)
       simp (maxSteps:=1000000) [go_sem,zu,c1,c2,w1,w2]
       exact zh (.tup [.p (.int .i32 (Zb (z7 a b))),.p (.bool (z7 a b).isSome)]) rfl (by simp[go_sem,zd,leA,leT,leP,e2,Zb]) ⟨rfl,rfl⟩
      ·have e2:z7 a b=none:=by rw[e,if_neg (fun h=>c2 h.2.2.2)]
       simp (maxSteps:=1000000) [go_sem,zu,c1,c2]
       exact zh (.tup [.p (.int .i32 (Zb (z7 a b))),.p (.bool (z7 a b).isSome)]) rfl (by simp[go_sem,zd,leA,leT,leP,e2,Zb]) ⟨rfl,rfl⟩
     ·have e2:z7 a b=none:=by rw[e,if_neg (fun h=>c1 h.2.2.1)]
      simp (maxSteps:=1000000) [go_sem,zu,c1]
      exact zh (.tup [.p (.int .i32 (Zb (z7 a b))),.p (.bool (z7 a b).isSome)]) rfl (by simp[go_sem,zd,leA,leT,leP,e2,Zb]) ⟨rfl,rfl⟩
    ·have es:z5 a=[4352+(a-44032)/588,4449+(a-44032)/28%21,4519+(a-44032)%28]:=if_neg c0
     have e2:z7 a b=none:=by rw[e,if_neg (fun h=>c0 h.2.1)]
     rw[es]
     simp (maxSteps:=1000000) [go_sem,zu]
     exact zh (.tup [.p (.int .i32 (Zb (z7 a b))),.p (.bool (z7 a b).isSome)]) rfl (by simp[go_sem,zd,leA,leT,leP,e2,Zb]) ⟨rfl,rfl⟩
theorem zjd [Gi](l:List Row)(x y:Int)(hl:qS l)(hx:zB x)(hy:zB y):CR Tryz.prog 135 [] [.p (zK l),.p (.int .i32 x),.p (.int .i32 y)] [] (is (.tup [.p (.int .i32 (Zb ((z7 x y).or (wY l x y)))),.p (.bool ((z7 x y).or (wY l x y)).isSome)])):=by
 refine zm mixed 11 [] Tryz.func135 rfl (by kernel_rfl) rfl (by simp) (by simp) ?_
 simp (maxSteps:=1000000) [go_sem,Tryz.f135]
 refine⟨⟨rfl,by simp[Tryz.f177]⟩,zb [] (zll x y hx hy) (by simp[go_sem]) ⟨by simp[go_sem],by simp[go_sem]⟩ (by simp[go_sem]) ?_⟩
 rintro _ rs ⟨rfl,rfl⟩
 cases hj:z7 x y with
 |some z=>
  simp (maxSteps:=1000000) [go_sem,Zb]
  exact zh (.tup [.p (.int .i32 z),.p (.bool true)]) rfl (by simp[go_sem,zd,leA,leT,leP]) ⟨rfl,rfl⟩
 |none=>
  simp (maxSteps:=1000000) [go_sem]
  refine⟨⟨rfl,by simp[Tryz.f178]⟩,zb [] (zj6 l x y hl hx hy) (by simp[go_sem]) ⟨by simp[go_sem],by simp[go_sem]⟩ (by simp[go_sem]) ?_⟩
  rintro _ rs ⟨rfl,rfl⟩
  simp (maxSteps:=1000000) [go_sem]
  exact zh (.tup [.p (.int .i32 (Zb (wY l x y))),.p (.bool (wY l x y).isSome)]) rfl (by simp[go_sem,zd,leA,leT,leP]) ⟨rfl,rfl⟩
def qj(l:List Row):Nat→Int→List Int
 |0,r=>if Zm r then z5 r else [r]
 |d+1,r=>if Zm r then z5 r else
  match Zk l r with
  |none=>[r]
  |some p=>qj l d p.1++(if p.2=0 then []else qj l d p.2)
theorem xa(l:List Row):∀d r,(qj l d r).length≤3*2^d
 |0,r=>by
  unfold qj
  split
  ·unfold z5;split<;>simp
  ·simp
 |d+1,r=>by
  have h3:1≤2^d:=Nat.one_le_two_pow
  unfold qj
  rw[Nat.pow_succ]
  split
  ·unfold z5;split<;>simp<;>omega
  ·split
   ·simp;omega
   ·rename_i p _
    have h1:=xa l d p.1
    have h2:=xa l d p.2
    split
    ·simp;omega
    ·simp;omega
theorem ze3 [Gi](l:List Row)(hl:qS l):∀(d:Nat) (_:d≤8) (r:Int) (_:zB r),CR Tryz.prog 136 [] [.p (zK l),.p (.int .i32 r),.p (.int .i64 d)] [] (is (.os [6] 1 (zu (qj l d r)))):=by
 intro d
 induction d with
 |zero=>
  intro hd r hr
  refine zm mixed 11 [] Tryz.func136 rfl (by kernel_rfl) rfl (by simp) (by simp) ?_
  simp (maxSteps:=1000000) [go_sem,Tryz.f136]
  refine⟨⟨rfl,by simp[Tryz.f179]⟩,zb [] (zcj r) (by simp[go_sem]) ⟨by simp[go_sem],by simp[go_sem]⟩ (by simp[go_sem]) ?_⟩
  rintro _ rs ⟨rfl,rfl⟩
  cases hs:Zm r with
  |true=>
   have e:qj l 0 r=z5 r:=by unfold qj;rw[if_pos hs]
   rw[e]
   simp (maxSteps:=1000000) [go_sem]
   refine⟨⟨rfl,by simp[Tryz.f180]⟩,zb [] (xc r hs) (by simp[go_sem]) ⟨by simp[go_sem],by simp[go_sem]⟩ (by simp[go_sem]) ?_⟩
   rintro _ rs ⟨rfl,rfl⟩
   simp (maxSteps:=1000000) [go_sem]
   exact zh (.os [6] 1 (zu (z5 r))) rfl (by simp[go_sem,zd,leA,leT]) ⟨rfl,rfl⟩
  |false=>
   have e:qj l 0 r=[r]:=by unfold qj;rw[hs];rfl
   rw[e]
   simp (maxSteps:=1000000) [go_sem]
   refine⟨⟨rfl,by simp[Tryz.f181]⟩,zb [] (VS l r hl hr) (by simp[go_sem]) ⟨by simp[go_sem],by simp[go_sem]⟩ (by simp[go_sem]) ?_⟩
   rintro _ rs ⟨rfl,rfl⟩
   cases Zk l r with
   |none=>
    simp (maxSteps:=1000000) [go_sem,yS]
    exact zh (.os [6] 1 (zu [r])) rfl (by simp[go_sem,zd,leA,leT,zu]) ⟨rfl,rfl⟩
   |some p=>
    simp (maxSteps:=1000000) [go_sem,yS]
    exact zh (.os [6] 1 (zu [r])) rfl (by simp[go_sem,zd,leA,leT,zu]) ⟨rfl,rfl⟩
 |succ d ih=>
  intro hd r hr
  have hd0:¬((d:Int)+1=0):=by omega
  have wd:IntKind.i64.wrap ((d:Int)+1-1)=(d:Int):=by rw[wrap64 (by omega) (by omega)];omega
  have wd':IntKind.i64.wrap (d:Int)=(d:Int):=wrap64 (by omega) (by omega)
  have hp3:2^d≤2^8:=Nat.pow_le_pow_right (by omega) (by omega)
  refine zm mixed 11 [] Tryz.func136 rfl (by kernel_rfl) rfl (by simp) (by simp) ?_
  simp (maxSteps:=1000000) [go_sem,Tryz.f136]
  refine⟨⟨rfl,by simp[Tryz.f179]⟩,zb [] (zcj r) (by simp[go_sem]) ⟨by simp[go_sem],by simp[go_sem]⟩ (by simp[go_sem]) ?_⟩
  rintro _ rs ⟨rfl,rfl⟩
  cases hs:Zm r with
  |true=>
   have e:qj l (d+1) r=z5 r:=by unfold qj;rw[if_pos hs]
   rw[e]
   simp (maxSteps:=1000000) [go_sem]
   refine⟨⟨rfl,by simp[Tryz.f180]⟩,zb [] (xc r hs) (by simp[go_sem]) ⟨by simp[go_sem],by simp[go_sem]⟩ (by simp[go_sem]) ?_⟩
   rintro _ rs ⟨rfl,rfl⟩
   simp (maxSteps:=1000000) [go_sem]
   exact zh (.os [6] 1 (zu (z5 r))) rfl (by simp[go_sem,zd,leA,leT]) ⟨rfl,rfl⟩
  |false=>
   simp (maxSteps:=1000000) [go_sem]
   refine⟨⟨rfl,by simp[Tryz.f181]⟩,zb [] (VS l r hl hr) (by simp[go_sem]) ⟨by simp[go_sem],by simp[go_sem]⟩ (by simp[go_sem]) ?_⟩
   rintro _ rs ⟨rfl,rfl⟩
   cases hp:Zk l r with
   |none=>
    have e:qj l (d+1) r=[r]:=by unfold qj;rw[hs,hp];rfl
    rw[e]
    simp (maxSteps:=1000000) [go_sem,yS]
    exact zh (.os [6] 1 (zu [r])) rfl (by simp[go_sem,zd,leA,leT,zu]) ⟨rfl,rfl⟩
   |some p=>
    obtain⟨pa,pb⟩:=p
    have hpo:=UQ hl hp
    simp only at hpo
    have hra:zB pa:=⟨by omega,by omega⟩
    have hrb:zB pb:=⟨by omega,by omega⟩
    have e:qj l (d+1) r=qj l d pa++(if pb=0 then []else qj l d pb):=by rw[qj,hs,hp];rfl
    have l1:=xa l d pa
    have l2:=xa l d pb
    rw[e]
    simp (maxSteps:=1000000) [go_sem,yS,hd0,wd']
    refine⟨⟨rfl,by simp[Tryz.f136]⟩,zb [] (ih (by omega) pa hra) (by simp[go_sem]) ⟨by simp[go_sem],by simp[go_sem]⟩ (by simp[go_sem]) ?_⟩
    rintro _ rs ⟨rfl,rfl⟩
    by_cases c:pb=0
    ·simp (maxSteps:=1000000) [go_sem,c]
     exact zh (.os [6] 1 (zu (qj l d pa))) rfl (by simp[go_sem,zd,leA,leT]) ⟨rfl,by simp⟩
    ·simp (maxSteps:=1000000) [go_sem,c,wd']
     refine⟨⟨rfl,by simp[Tryz.f136]⟩,zb [] (ih (by omega) pb hrb) (by simp[go_sem]) ⟨by simp[go_sem],by simp[go_sem]⟩ (by simp[go_sem]) ?_⟩
     rintro _ rs ⟨rfl,rfl⟩
     simp (maxSteps:=1000000) [go_sem]
     exact⟨by simp[zu];omega,zh (.os [6] 1 (zu (qj l d pa++qj l d pb))) rfl (by simp[go_sem,zd,leA,leT,zu]) ⟨rfl,rfl⟩⟩
end Go.Proofs.YtjefahhmkcfiiaaGreat
end
section
namespace Go.Proofs.YtjefahhmkcfiiaaGreat
open Go.AM
set_option maxHeartbeats 4000000
set_option maxRecDepth 10000
def ZQ(M:List Int):List AV:=(M.map fun r=>PV.int .i64 r).map .p
@[go_sem] theorem zoc (rt tt : Tok → Bool) (M : List Int) : (ZQ M).map (AV.upd (fil rt tt)) = ZQ M := by simp [ZQ, AV.upd, fil, Q3]
@[go_sem] theorem znV (M : List Int) : (ZQ M).length = M.length := by simp [ZQ]
theorem zgy(a b:List Int):ZQ (a++b)=ZQ a++ZQ b:=by simp[ZQ]
theorem YY(x:Int):ZQ [x]=[.p (.int .i64 x)]:=rfl
theorem zjC {M:List Int} {i:Nat} {v:Int}(h:M[i]?=some v):(ZQ M)[i]?=some (.p (.int .i64 v)):=by
 rw[ZQ,List.getElem?_map,List.getElem?_map,h];rfl
theorem XE {M:List Int} {i:Nat}(v:Int)(h:i<M.length):(ZQ M).take i++AV.p (.int .i64 v)::(ZQ M).drop (i+1)=ZQ (M.set i v):=by
 have:ZQ (M.set i v)=(ZQ M).set i (.p (.int .i64 v)):=by simp[ZQ,List.map_set]
 rw[this,List.set_eq_take_append_cons_drop,if_pos (by simpa[ZQ]using h)]
def qf(k:Int→Int)(x:Int):List Int→List Int
 | []=>[x]
 |y::l=>if k x≠0∧k x<k y then y::qf k x l else x::y::l
def QK(k:Int→Int)(O:List Int)(x:Int):List Int:=(qf k x O.reverse).reverse
def jK(k:Int→Int)(l:List Int):List Int:=l.foldl (QK k) []
theorem Xi(k:Int→Int)(x:Int):∀l,(qf k x l).length=l.length+1
 | []=>rfl
 |y::l=>by unfold qf;split<;>simp[Xi k x l]
theorem zlL(k:Int→Int)(O:List Int)(x:Int):(QK k O x).length=O.length+1:=by simp[QK,Xi]
theorem xC(k:Int→Int)(l:List Int):(jK k l).length=l.length:=by
 suffices H:∀(l O:List Int),(l.foldl (QK k) O).length=O.length+l.length by simpa[jK]using H l []
 intro l
 induction l with
 |nil=>intro O;rfl
 |cons x l ih=>intro O;rw[List.foldl_cons,ih,zlL,List.length_cons];omega
theorem Ki(k:Int→Int)(l:List Int)(x:Int):jK k (l++[x])=QK k (jK k l) x:=by simp[jK,List.foldl_append]
def kD(rows:List Row)(x:Int):Int:=aL rows 1 x
def oV(o:List Int)(t:Tok):AV:=if o=[]then .p (.opq (.slice none 0 0))else .la t 1 0 o.length
def oR(k:Int→Int)(o:List Int):List (Tok×List AV):=if o=[]then []else [([30],zx o),([34],ZQ (o.map k))]
theorem vX {A:List Int}(h:A≠ []):∃A' y,A=A'++[y]:=by
 rcases List.eq_nil_or_concat A with e|⟨l,z,e⟩
 ·exact absurd e h
 ·exact⟨l,z,by rw[e];simp⟩
theorem zem [Gi](rows:List Row)(hrw:qS rows)(l:List Int)(hl0:l≠ [])(hn:l.length<2^31)(hr:∀x∈l,zB x):
  CR Tryz.prog 137 [] [.p (zK rows),.p (zg l)] [] (fun x rs=>x=.la [30] 1 0 (jK (kD rows) l).length∧rs=[([30],zx (jK (kD rows) l))]):=by
 refine qW [] mixed 10 [] Tryz.func137 rfl (by kernel_rfl) [5,6,30,34] rfl (by simp) (by simp) ?_
 simp (maxSteps:=1000000) [go_sem,Tryz.f137,zg]
 refine zj (fun i:Nat=>i≤l.length) (fun i=>[(7,.p (.int .i64 (i:Nat))),(5,oV (jK (kD rows) (l.take i)) [30]),(6,oV (jK (kD rows) (l.take i)) [34]),(8,.zW),(9,.zW)]) (fun i=>oR (kD rows) (jK (kD rows) (l.take i))) (fun i=>l.length-i) 0 (by omega)
  (by simp[go_sem,LeS,leV,leR,leA,jK,oV,oR]) (fun i hi=>?_)
 have hlt:(jK (kD rows) (l.take i)).length=i:=by rw[xC,List.length_take];omega
 by_cases hil:i<l.length
 ·obtain⟨x,hx⟩:∃x,l[i]=x:=⟨_,rfl⟩
  have hxr:zB x:=hr x (by rw[←hx];exact List.getElem_mem _)
  have em:elemAt (zu l) i=.int .i32 x:=by rw[zu,zr (fun r=>PV.int .i32 r) l i hil,hx]
  have htk:l.take (i+1)=l.take i++[x]:=by rw[List.take_add_one,List.getElem?_eq_getElem hil,hx];rfl
  have hnx:jK (kD rows) (l.take (i+1))=QK (kD rows) (jK (kD rows) (l.take i)) x:=by rw[htk,Ki]
  have w1:IntKind.i64.wrap ((i:Int)+1)=((i+1:Nat):Int):=zI (by omega)
  have hil':(i:Int)<l.length:=by omega
  have w0:IntKind.i64.wrap 1=1:=wrap64 (by omega) (by omega)
  have wm:IntKind.i64.wrap (-1)= -1:=wrap64 (by omega) (by omega)
  generalize jK (kD rows) (l.take i)=O at hlt hnx
  obtain⟨cx,hcx⟩:∃cx,cx=kD rows x:=⟨_,rfl⟩
  have hcx':aL rows 1 x=cx:=hcx.symm
  by_cases hi0:i=0
  ·subst hi0
   obtain rfl:O=[]:=List.eq_nil_of_length_eq_zero hlt
   have e2:jK (kD rows) (l.take (0+1))=[x]:=by rw[hnx];rfl
   simp (maxSteps:=1000000) [go_sem,oV,oR,hil,em,zp]
   refine⟨⟨rfl,by simp[Tryz.f176]⟩,zb [] (k8 rows x hrw.n hxr) (by simp[go_sem]) ⟨by simp[go_sem],by simp[go_sem]⟩ (by simp[go_sem]) ?_⟩
   rintro _ rs ⟨rfl,rfl⟩
   rw[hcx']
   simp (maxSteps:=1000000) [go_sem,hil,em,zp]
   refine zj (fun _:Unit=>True) (fun _=>[]) (fun _=>[]) (fun _=>0) () trivial (by simp[go_sem,LeS,leV,leR,leA,leL]) (fun _ _=>?_)
   simp (maxSteps:=1000000) [go_sem,w0,wm]
   exact zf 1 (by omega) (by simp[go_sem,LeS,leV,leR,leA,leL,e2,qJ,YY,←hcx]) (by omega)
  ·have hne:O≠ []:=fun e=>by rw[e]at hlt;simp at hlt;omega
   have hol:0<O.length:=List.length_pos_iff.2 hne
   simp (maxSteps:=1000000) [go_sem,oV,oR,hne,hil',em,zp]
   refine⟨⟨rfl,by simp[Tryz.f176]⟩,zb [] (k8 rows x hrw.n hxr) (by simp[go_sem]) ⟨by simp[go_sem],by simp[go_sem]⟩ (by simp[go_sem]) ?_⟩
   rintro _ rs ⟨rfl,rfl⟩
   rw[hcx']
   simp (maxSteps:=1000000) [go_sem,hil',em,zp,hol]
   refine⟨by omega,by omega,?_⟩
   refine zj (fun r:List Int×List Int=>QK (kD rows) O x=(qf (kD rows) x r.1.reverse).reverse++r.2∧r.1.length+r.2.length=O.length) (fun r=>[(9,.p (.int .i64 (r.1.length:Nat)))]) (fun r=>[([30],zx (r.1++x::r.2)),([34],ZQ ((r.1.map (kD rows))++cx::r.2.map (kD rows)))]) (fun r=>r.1.length) (O,[]) ⟨by simp[QK],by simp⟩
    (by simp[go_sem,LeS,leV,leR,leA,zn,Zo,zgy,qJ,YY]) (fun r hr2=>?_)
   obtain⟨A,B⟩:=r
   obtain⟨p1,p2⟩:=hr2
   simp only at p1 p2
   have done:qf (kD rows) x A.reverse=x::A.reverse→jK (kD rows) (l.take (i+1))=A++x::B:=fun e=>by rw[hnx,p1,e];simp
   have hABl:(A++x::B).length=O.length+1:=by simp;omega
   have hne2:A++x::B≠ []:=by simp
   have hmap:(A++x::B).map (kD rows)=A.map (kD rows)++cx::B.map (kD rows):=by rw[List.map_append,List.map_cons,←hcx]
   by_cases hA:A=[]
   ·subst hA
    have e2:=done rfl
    have z0:∀hh,(ZQ (cx::B.map (kD rows)))[0]'hh=.p (.int .i64 cx):=fun _=>rfl
    have z1:(ZQ (cx::B.map (kD rows)))[0]?=some (.p (.int .i64 cx)):=rfl
    simp only[List.length_nil,Nat.zero_add]at p2
    simp (maxSteps:=1000000) [go_sem,wm,w1,z0]
    exact zf (i+1) (by omega) (by simp[go_sem,LeS,leV,leR,leA,e2,zn,←hcx,p2]) (by omega)
   ·obtain⟨A',y,rfl⟩:=vX hA
    obtain⟨k,hk⟩:∃k,k=A'.length:=⟨_,rfl⟩
    have hAl:(A'++[y]).length=k+1:=by simp[hk]
    rw[hAl]at p2
    obtain⟨cy,hcy⟩:∃cy,cy=kD rows y:=⟨_,rfl⟩
    have eM:A'++[y]++x::B=A'++y::x::B:=by simp
    have eC:(A'++[y]).map (kD rows)++cx::B.map (kD rows)=A'.map (kD rows)++cy::cx::B.map (kD rows):=by simp[hcy]
    have eM2:A'++x::y::B=A'++x::(y::B):=rfl
    have gR:(zx (A'++y::x::B))[k]?=some (.p (.int .i32 y)):=ZG (by rw[hk,List.getElem?_append_right (Nat.le_refl _)];simp)
    have gI:(ZQ (A'.map (kD rows)++cy::cx::B.map (kD rows)))[k]?=some (.p (.int .i64 cy)):=zjC (by rw[hk,List.getElem?_append_right (by simp)];simp)
    have gR2:∀hh,(zx (A'++y::x::B))[k]'hh=.p (.int .i32 y):=fun hh=>by have:=gR;rw[List.getElem?_eq_getElem hh]at this;injection this
    have gI2:∀hh,(ZQ (A'.map (kD rows)++cy::cx::B.map (kD rows)))[k]'hh=.p (.int .i64 cy):=fun hh=>by have:=gI;rw[List.getElem?_eq_getElem hh]at this;injection this
    have lR:(A'++y::x::B).length=O.length+1:=by simp;omega
    have lI:(A'.map (kD rows)++cy::cx::B.map (kD rows)).length=O.length+1:=by simp;omega
    have wk:IntKind.i64.wrap ((k:Int)+1-1)=(k:Int):=zq (x:=k+1) (by omega) rfl
    have wk':IntKind.i64.wrap (k:Int)=(k:Int):=zdk (by omega)
    have kn:k<O.length+1:=by omega
    have kn1:k+1<O.length+1:=by omega
    have kn':(k:Int)< (O.length:Int)+1:=by omega
    have kn1':(k:Int)+1< (O.length:Int)+1:=by omega
    have k0:(0:Int)< (k:Int)+1:=by omega
    have k0':(0:Int)≤(k:Int)+1:=by omega
    have kt:((k:Int)+1).toNat=k+1:=by omega
    simp only[eM,eC,hAl]at done⊢
    by_cases hc0:cx=0
    ·have e2:=done (by
      have hrv:(A'++[y]).reverse=y::A'.reverse:=by simp
      rw[hrv,qf,if_neg (fun h=>h.1 (by rw[←hcx];exact hc0))])
     clear hcx'
     obtain rfl:cx=0:=hc0
     simp (maxSteps:=1000000) [go_sem,w1,k0,gI2,kn,kn',wk',lI]
     exact zf (i+1) (by omega) (by simp[go_sem,LeS,leV,leR,leA,e2,zn,←hcx,←hcy];omega) (by omega)
    ·by_cases hlt2:cx<cy
     ·have hins:QK (kD rows) O x=(qf (kD rows) x A'.reverse).reverse++(y::B):=by
       have hrv:(A'++[y]).reverse=y::A'.reverse:=by simp
       rw[p1,hrv,qf,if_pos ⟨by rw[←hcx];exact hc0,by rw[←hcx,←hcy];exact hlt2⟩];simp
      have pR1:=ZA (M:=A'++y::x::B) (i:=k+1) y (by omega)
      have pR2:=ZA (M:=(A'++y::x::B).set (k+1) y) (i:=k) x (by rw[List.length_set];omega)
      have pI1:=XE (M:=A'.map (kD rows)++cy::cx::B.map (kD rows)) (i:=k+1) cy (by omega)
      have pI2:=XE (M:=(A'.map (kD rows)++cy::cx::B.map (kD rows)).set (k+1) cy) (i:=k) cx (by rw[List.length_set];omega)
      have sR:=V6 A' B y x
      have sI:=V6 (A'.map (kD rows)) (B.map (kD rows)) cy cx
      rw[List.length_map]at sI
      rw[←hk]at sR sI
      rw[sR]at pR2
      rw[sI]at pI2
      simp (maxSteps:=1000000) [go_sem,k0,hc0,gR2,gI2,kn,kn',kn1',k0',kt,wk',hlt2,lR,lI,pR1,pR2,pI1,pI2,hil',em,zp]
      exact⟨by omega,by omega,zf (A',y::B) ⟨hins,by simp;omega⟩ (by simp[go_sem,LeS,leV,leR,leA,zn,hk,←hcy]) (by simp)⟩
     ·have e2:=done (by
       have hrv:(A'++[y]).reverse=y::A'.reverse:=by simp
       rw[hrv,qf,if_neg (fun h=>hlt2 (by rw[hcx,hcy];exact h.2))])
      simp (maxSteps:=1000000) [go_sem,w1,k0,hc0,gI2,kn,kn',wk',hlt2,lI]
      exact zf (i+1) (by omega) (by simp[go_sem,LeS,leV,leR,leA,e2,zn,←hcx,←hcy];omega) (by omega)
 ·have hil':¬(i:Int)<l.length:=by omega
  obtain rfl:i=l.length:=by omega
  rw[List.take_length]at hlt⊢
  have hne:jK (kD rows) l≠ []:=fun e=>by rw[e]at hlt;simp at hlt;exact hl0 (List.eq_nil_of_length_eq_zero hlt.symm)
  generalize jK (kD rows) l=O at hlt hne
  simp (maxSteps:=1000000) [go_sem,oV,oR,hne,zp]
  exact zi [[30]] (.la [30] 1 0 O.length) ⟨rfl,by simp⟩ (by simp[go_sem,zd,leA,leT]) ⟨rfl,by simp[go_sem]⟩
theorem zjl [Gi](rows:List Row)(hrw:qS rows)(l:List Int)(hn:l.length<2^31)(hr:∀x∈l,zB x):CR Tryz.prog 137 [] [.p (zK rows),.p (zg l)] [] (is (.p (zg (jK (kD rows) l)))):=by
 by_cases hl0:l=[]
 ·subst hl0
  refine qW [] mixed 10 [] Tryz.func137 rfl (by kernel_rfl) [5,6,30,34] rfl (by simp) (by simp) ?_
  simp (maxSteps:=1000000) [go_sem,Tryz.f137,zg]
  refine zj (fun _:Unit=>True) (fun _=>[]) (fun _=>[]) (fun _=>0) () trivial (by simp[go_sem,LeS,leV,leR,leA]) (fun _ _=>?_)
  simp (maxSteps:=1000000) [go_sem,zu]
  exact zh (.p (.sl 1 [])) rfl (by simp[go_sem,zd,leA,leT]) ⟨rfl,rfl⟩
 ·have hlen:=xC (kD rows) l
  exact CR.row (by rw[hlen];exact List.length_pos_iff.2 hl0) (zem rows hrw l hl0 hn hr)
def ZF(rows:List Row)(l:List Int):List Int:=l.flatMap (qj rows 8)
def ky(rows:List Row)(l:List Int):List Int:=jK (kD rows) (ZF rows l)
theorem XU(rows:List Row)(l:List Int):(ZF rows l).length≤768*l.length:=by
 induction l with
 |nil=>simp[ZF]
 |cons x l ih=>
  have:=xa rows 8 x
  simp only[ZF,List.flatMap_cons,List.length_append,List.length_cons]at*
  omega
theorem Vn {rows:List Row}(hrw:qS rows):∀d r,zB r→∀x∈qj rows d r,zB x
 |0,r,hr,x,hx=>by
  unfold qj at hx
  split at hx
  ·rename_i hs
   have hs':44032≤r∧r<55204:=by simpa[Zm]using hs
   unfold z5 at hx
   unfold zB
   split at hx<;>simp at hx<;>omega
  ·rw[List.mem_singleton.1 hx];exact hr
 |d+1,r,hr,x,hx=>by
  unfold qj at hx
  split at hx
  ·rename_i hs
   have hs':44032≤r∧r<55204:=by simpa[Zm]using hs
   unfold z5 at hx
   unfold zB
   split at hx<;>simp at hx<;>omega
  ·split at hx
   ·rw[List.mem_singleton.1 hx];exact hr
   ·rename_i p hp
    have hb:=UQ hrw hp
    rcases List.mem_append.1 hx with hx|hx
    ·exact Vn hrw d _ ⟨by omega,by omega⟩ x hx
    ·split at hx
     ·simp at hx
     ·exact Vn hrw d _ ⟨by omega,by omega⟩ x hx
theorem Jo {rows:List Row}(hrw:qS rows) {l:List Int}(hl:∀x∈l,zB x):∀x∈ZF rows l,zB x:=fun x hx=>by
 obtain⟨r,hr,hx⟩:=List.mem_flatMap.1 hx
 exact Vn hrw 8 r (hl r hr) x hx
theorem zmU [Gi](rows:List Row)(hrw:qS rows)(l:List Int)(hn:l.length<2^20)(hr:∀x∈l,zB x):CR Tryz.prog 82 [] [.p (zK rows),.p (zg l)] [] (is (.p (zg (ky rows l)))):=by
 refine zm mixed 7 [] Tryz.func82 rfl (by kernel_rfl) rfl (by simp) (by simp) ?_
 simp (maxSteps:=1000000) [go_sem,Tryz.f82,zg]
 refine zj (fun i:Nat=>i≤l.length) (fun i=>[(6,.p (.int .i64 (i:Nat))),(5,.os [5] 1 (zu (ZF rows (l.take i))))]) (fun _=>[]) (fun i=>l.length-i) 0 (by omega) (by simp[go_sem,LeS,leV,leR,leA,ZF,zu]) (fun i hi=>?_)
 have hal:=XU rows (l.take i)
 have hal2:(ZF rows (l.take i)).length≤768*l.length:=by rw[List.length_take]at hal;omega
 by_cases hil:i<l.length
 ·obtain⟨x,hx⟩:∃x,l[i]=x:=⟨_,rfl⟩
  have hxr:zB x:=hr x (by rw[←hx];exact List.getElem_mem _)
  have em:elemAt (zu l) i=.int .i32 x:=by rw[zu,zr (fun r=>PV.int .i32 r) l i hil,hx]
  have hnx:ZF rows (l.take (i+1))=ZF rows (l.take i)++qj rows 8 x:=by
   rw[List.take_add_one,List.getElem?_eq_getElem hil,hx];simp[ZF]
  have hfl:=xa rows 8 x
  have w1:IntKind.i64.wrap ((i:Int)+1)=((i+1:Nat):Int):=zI (by omega)
  have hil':(i:Int)<l.length:=by omega
  simp (maxSteps:=1000000) [go_sem,hil',em,zp]
  refine⟨⟨rfl,by simp[Tryz.f136]⟩,zb [] (ze3 rows hrw 8 (by omega) x hxr) (by simp[go_sem]) ⟨by simp[go_sem],by simp[go_sem]⟩ (by simp[go_sem]) ?_⟩
  rintro _ rs ⟨rfl,rfl⟩
  simp (maxSteps:=1000000) [go_sem,w1]
  refine⟨by simp[zu];omega,zf (i+1) (by omega) (by simp[go_sem,LeS,leV,leR,leA,hnx,zu]) (by omega)⟩
 ·have hil':¬(i:Int)<l.length:=by omega
  obtain rfl:i=l.length:=by omega
  rw[List.take_length]at hal2⊢
  simp (maxSteps:=1000000) [go_sem,zp]
  refine⟨⟨rfl,by simp[Tryz.f137]⟩,zb [] (zjl rows hrw (ZF rows l) (by omega) (Jo hrw hr)) (by simp[go_sem]) ⟨by simp[go_sem],by simp[go_sem,zg]⟩ (by simp[go_sem]) ?_⟩
  rintro _ rs ⟨rfl,rfl⟩
  simp (maxSteps:=1000000) [go_sem,zg]
  exact zh (.p (zg (ky rows l))) rfl (by simp[go_sem,zd,leA,leT,zg,ky]) ⟨rfl,rfl⟩
end Go.Proofs.YtjefahhmkcfiiaaGreat
end
