/- A part of the proof of this seat's statements, by an abstract machine: what each operation does to values, and what the law's functions compute. Conditions: as each law says. -/
import Derived.Test.YtjefahhmkcfiiaaGreatM22
import Derived.Test.YtjefahhmkcfiiaaGreatM33
section
namespace Go.Proofs.YtjefahhmkcfiiaaGreat
open Go.AM
set_option maxHeartbeats 4000000
set_option maxRecDepth 10000
theorem isD_cr [Gi](r:Int):CR Tryz.prog 179 [] [.p (.int .i32 r)] [] (is (.p (.bool (sylB r)))):=by
 refine CR_of_wp mixed 3 [] Tryz.func179 rfl (by kernel_rfl) rfl (by simp) (by simp) ?_
 by_cases c1:44032≤r
 ·simp (maxSteps:=1000000) [go_sem,Tryz.f179,c1]
  refine ret_is (.p (.bool (sylB r))) rfl ?_ ⟨rfl,rfl⟩
  have:decide (r≤55203)=decide (r<55204):=by congr 1;simp;omega
  simp[go_sem,resOf,leA,leT,leP,sylB,c1,this]
 ·simp (maxSteps:=1000000) [go_sem,Tryz.f179,c1]
  exact ret_is (.p (.bool (sylB r))) rfl (by simp[go_sem,resOf,leA,leT,leP,sylB,c1]) ⟨rfl,rfl⟩
theorem splitD_cr [Gi](r:Int)(hs:sylB r=true):CR Tryz.prog 180 [] [.p (.int .i32 r)] [] (is (.os [2] 1 (i32s (splitL r)))):=by
 refine CR_of_wp mixed 5 [] Tryz.func180 rfl (by kernel_rfl) rfl (by simp) (by simp) ?_
 simp (maxSteps:=1000000) [go_sem,Tryz.f180]
 refine⟨⟨rfl,by simp[Tryz.f179]⟩,CallK_of [] (isD_cr r) (by simp[go_sem,notHead]) ⟨by simp[go_sem],by simp[go_sem]⟩ (by simp[go_sem]) ?_⟩
 rintro _ rs ⟨rfl,rfl⟩
 have hs':44032≤r∧r<55204:=by simpa[sylB]using hs
 have w0:IntKind.i64.wrap r=r:=wrap64 (by omega) (by omega)
 have w1:IntKind.i64.wrap (r-44032)=r-44032:=wrap64 (by omega) (by omega)
 have d1:(r-44032).tdiv 588=(r-44032)/588:=Int.tdiv_eq_ediv_of_nonneg (by omega)
 have d2:(r-44032).tdiv 28=(r-44032)/28:=Int.tdiv_eq_ediv_of_nonneg (by omega)
 have d3:(r-44032).tmod 28=(r-44032)%28:=Int.tmod_eq_emod_of_nonneg (by omega)
 have d4:((r-44032)/28).tmod 21=(r-44032)/28%21:=Int.tmod_eq_emod_of_nonneg (by omega)
 have w2:IntKind.i64.wrap ((r-44032)/588)=(r-44032)/588:=wrap64 (by omega) (by omega)
 have w3:IntKind.i64.wrap ((r-44032)/28)=(r-44032)/28:=wrap64 (by omega) (by omega)
 have w4:IntKind.i64.wrap ((r-44032)%28)=(r-44032)%28:=wrap64 (by omega) (by omega)
 have w5:IntKind.i64.wrap ((r-44032)/28%21)=(r-44032)/28%21:=wrap64 (by omega) (by omega)
 have w6:IntKind.i64.wrap (4352+(r-44032)/588)=4352+(r-44032)/588:=wrap64 (by omega) (by omega)
 have w7:IntKind.i64.wrap (4449+(r-44032)/28%21)=4449+(r-44032)/28%21:=wrap64 (by omega) (by omega)
 have w8:IntKind.i64.wrap (4519+(r-44032)%28)=4519+(r-44032)%28:=wrap64 (by omega) (by omega)
 have u6:IntKind.i32.wrap (4352+(r-44032)/588)=4352+(r-44032)/588:=wrapR (by omega)
 have u7:IntKind.i32.wrap (4449+(r-44032)/28%21)=4449+(r-44032)/28%21:=wrapR (by omega)
 have u8:IntKind.i32.wrap (4519+(r-44032)%28)=4519+(r-44032)%28:=wrapR (by omega)
 simp (maxSteps:=1000000) [go_sem,hs,w0,w1,d1,d2,d3,d4,w2,w3,w4,w5,w6,w7,u6,u7]
 refine⟨rfl,?_⟩
 refine condK_ifn (fun hc=>?_) (fun hc=>?_)
 ·have e:splitL r=[4352+(r-44032)/588,4449+(r-44032)/28%21,4519+(r-44032)%28]:=if_neg (by omega)
  rw[e]
  simp (maxSteps:=1000000) [go_sem,d3,w4,w8,u8]
  exact ret_is (.os [2] 1 (i32s [4352+(r-44032)/588,4449+(r-44032)/28%21,4519+(r-44032)%28])) rfl (by simp[go_sem,resOf,leA,leT,leP,i32s]) ⟨rfl,rfl⟩
 ·have e:splitL r=[4352+(r-44032)/588,4449+(r-44032)/28%21]:=if_pos (by omega)
  rw[e]
  simp (maxSteps:=1000000) [go_sem]
  exact ret_is (.os [2] 1 (i32s [4352+(r-44032)/588,4449+(r-44032)/28%21])) rfl (by simp[go_sem,resOf,leA,leT,leP,i32s]) ⟨rfl,rfl⟩
theorem splitN_cr [Gi](r:Int)(hs:sylB r=false):CR Tryz.prog 180 [] [.p (.int .i32 r)] [] (is (.os [2] 1 [])):=by
 refine CR_of_wp mixed 5 [] Tryz.func180 rfl (by kernel_rfl) rfl (by simp) (by simp) ?_
 simp (maxSteps:=1000000) [go_sem,Tryz.f180]
 refine⟨⟨rfl,by simp[Tryz.f179]⟩,CallK_of [] (isD_cr r) (by simp[go_sem,notHead]) ⟨by simp[go_sem],by simp[go_sem]⟩ (by simp[go_sem]) ?_⟩
 rintro _ rs ⟨rfl,rfl⟩
 simp (maxSteps:=1000000) [go_sem,hs]
 exact ret_is (.os [2] 1 []) rfl (by simp[go_sem,resOf,leA,leT,leP]) ⟨rfl,rfl⟩
def joinD(a b:Int):Option Int:=
 if 4352≤a∧a≤4370∧4449≤b∧b≤4469 then some (44032+(a-4352)*588+(b-4449)*28)
 else if sylB a=true∧(a-44032)%28=0∧4520≤b∧b≤4546 then some (a+(b-4519))else none
theorem joinD_cr [Gi](a b:Int)(ha:Rune a)(hb:Rune b):CR Tryz.prog 177 [] [.p (.int .i32 a),.p (.int .i32 b)] [] (is (.tup [.p (.int .i32 (accV (joinD a b))),.p (.bool (joinD a b).isSome)])):=by
 refine CR_of_wp mixed 7 [] Tryz.func177 rfl (by kernel_rfl) rfl (by simp) (by simp) ?_
 have wa:=wrapR64 ha
 have wb:=wrapR64 hb
 by_cases h:4352≤a∧a≤4370∧4449≤b∧b≤4469
 ·have e:joinD a b=some (44032+(a-4352)*588+(b-4449)*28):=if_pos h
  obtain⟨h1,h2,h3,h4⟩:=h
  have w1:IntKind.i64.wrap (a-4352)=a-4352:=wrap64 (by omega) (by omega)
  have w2:IntKind.i64.wrap ((a-4352)*588)=(a-4352)*588:=wrap64 (by omega) (by omega)
  have w3:IntKind.i64.wrap (44032+(a-4352)*588)=44032+(a-4352)*588:=wrap64 (by omega) (by omega)
  have w4:IntKind.i64.wrap (b-4449)=b-4449:=wrap64 (by omega) (by omega)
  have w5:IntKind.i64.wrap ((b-4449)*28)=(b-4449)*28:=wrap64 (by omega) (by omega)
  have w6:IntKind.i64.wrap (44032+(a-4352)*588+(b-4449)*28)=44032+(a-4352)*588+(b-4449)*28:=wrap64 (by omega) (by omega)
  have w7:IntKind.i32.wrap (44032+(a-4352)*588+(b-4449)*28)=44032+(a-4352)*588+(b-4449)*28:=wrapR (by omega)
  simp (maxSteps:=1000000) [go_sem,Tryz.f177,h1,h2,h3,h4,wa,wb,w1,w2,w3,w4,w5,w6,w7]
  exact ret_is (.tup [.p (.int .i32 (accV (joinD a b))),.p (.bool (joinD a b).isSome)]) rfl (by simp[go_sem,resOf,leA,leT,leP,e,accV]) ⟨rfl,rfl⟩
 ·have e:joinD a b=if sylB a=true∧(a-44032)%28=0∧4520≤b∧b≤4546 then some (a+(b-4519))else none:=if_neg h
  rcases(show ¬4352≤a∨(4352≤a∧¬a≤4370)∨(4352≤a∧a≤4370∧¬4449≤b)∨(4352≤a∧a≤4370∧4449≤b∧¬b≤4469) by omega)with x1|⟨x1,x2⟩|⟨x1,x2,x3⟩|⟨x1,x2,x3,x4⟩
  ·simp (maxSteps:=1000000) [go_sem,Tryz.f177,x1]
   cases hs:sylB a with
   |false=>
    have e2:joinD a b=none:=by rw[e,hs];simp
    refine⟨⟨rfl,by simp[Tryz.f180]⟩,CallK_of [] (splitN_cr a hs) (by simp[go_sem,notHead]) ⟨by simp[go_sem],by simp[go_sem]⟩ (by simp[go_sem]) ?_⟩
    rintro _ rs ⟨rfl,rfl⟩
    simp (maxSteps:=1000000) [go_sem]
    exact ret_is (.tup [.p (.int .i32 (accV (joinD a b))),.p (.bool (joinD a b).isSome)]) rfl (by simp[go_sem,resOf,leA,leT,leP,e2,accV]) ⟨rfl,rfl⟩
   |true=>
    refine⟨⟨rfl,by simp[Tryz.f180]⟩,CallK_of [] (splitD_cr a hs) (by simp[go_sem,notHead]) ⟨by simp[go_sem],by simp[go_sem]⟩ (by simp[go_sem]) ?_⟩
    rintro _ rs ⟨rfl,rfl⟩
    by_cases c0:(a-44032)%28=0
    ·have es:splitL a=[4352+(a-44032)/588,4449+(a-44032)/28%21]:=if_pos c0
     rw[es]
     by_cases c1:4520≤b
     ·by_cases c2:b≤4546
      ·have e2:joinD a b=some (a+(b-4519)):=by rw[e,if_pos ⟨hs,c0,c1,c2⟩]
       have hs':44032≤a∧a<55204:=by simpa[sylB]using hs
       have w1:IntKind.i32.wrap (b-4519)=b-4519:=wrapR (by omega)
       have w2:IntKind.i32.wrap (a+(b-4519))=a+(b-4519):=wrapR (by omega)
       simp (maxSteps:=1000000) [go_sem,i32s,c1,c2,w1,w2]
       exact ret_is (.tup [.p (.int .i32 (accV (joinD a b))),.p (.bool (joinD a b).isSome)]) rfl (by simp[go_sem,resOf,leA,leT,leP,e2,accV]) ⟨rfl,rfl⟩
      ·have e2:joinD a b=none:=by rw[e,if_neg (fun h=>c2 h.2.2.2)]
       simp (maxSteps:=1000000) [go_sem,i32s,c1,c2]
       exact ret_is (.tup [.p (.int .i32 (accV (joinD a b))),.p (.bool (joinD a b).isSome)]) rfl (by simp[go_sem,resOf,leA,leT,leP,e2,accV]) ⟨rfl,rfl⟩
     ·have e2:joinD a b=none:=by rw[e,if_neg (fun h=>c1 h.2.2.1)]
      simp (maxSteps:=1000000) [go_sem,i32s,c1]
      exact ret_is (.tup [.p (.int .i32 (accV (joinD a b))),.p (.bool (joinD a b).isSome)]) rfl (by simp[go_sem,resOf,leA,leT,leP,e2,accV]) ⟨rfl,rfl⟩
    ·have es:splitL a=[4352+(a-44032)/588,4449+(a-44032)/28%21,4519+(a-44032)%28]:=if_neg c0
     have e2:joinD a b=none:=by rw[e,if_neg (fun h=>c0 h.2.1)]
     rw[es]
     simp (maxSteps:=1000000) [go_sem,i32s]
     exact ret_is (.tup [.p (.int .i32 (accV (joinD a b))),.p (.bool (joinD a b).isSome)]) rfl (by simp[go_sem,resOf,leA,leT,leP,e2,accV]) ⟨rfl,rfl⟩
  ·simp (maxSteps:=1000000) [go_sem,Tryz.f177,x1,x2]
   cases hs:sylB a with
   |false=>
    have e2:joinD a b=none:=by rw[e,hs];simp
    refine⟨⟨rfl,by simp[Tryz.f180]⟩,CallK_of [] (splitN_cr a hs) (by simp[go_sem,notHead]) ⟨by simp[go_sem],by simp[go_sem]⟩ (by simp[go_sem]) ?_⟩
    rintro _ rs ⟨rfl,rfl⟩
    simp (maxSteps:=1000000) [go_sem]
    exact ret_is (.tup [.p (.int .i32 (accV (joinD a b))),.p (.bool (joinD a b).isSome)]) rfl (by simp[go_sem,resOf,leA,leT,leP,e2,accV]) ⟨rfl,rfl⟩
   |true=>
    refine⟨⟨rfl,by simp[Tryz.f180]⟩,CallK_of [] (splitD_cr a hs) (by simp[go_sem,notHead]) ⟨by simp[go_sem],by simp[go_sem]⟩ (by simp[go_sem]) ?_⟩
    rintro _ rs ⟨rfl,rfl⟩
    by_cases c0:(a-44032)%28=0
    ·have es:splitL a=[4352+(a-44032)/588,4449+(a-44032)/28%21]:=if_pos c0
     rw[es]
     by_cases c1:4520≤b
     ·by_cases c2:b≤4546
      ·have e2:joinD a b=some (a+(b-4519)):=by rw[e,if_pos ⟨hs,c0,c1,c2⟩]
       have hs':44032≤a∧a<55204:=by simpa[sylB]using hs
       have w1:IntKind.i32.wrap (b-4519)=b-4519:=wrapR (by omega)
       have w2:IntKind.i32.wrap (a+(b-4519))=a+(b-4519):=wrapR (by omega)
       simp (maxSteps:=1000000) [go_sem,i32s,c1,c2,w1,w2]
       exact ret_is (.tup [.p (.int .i32 (accV (joinD a b))),.p (.bool (joinD a b).isSome)]) rfl (by simp[go_sem,resOf,leA,leT,leP,e2,accV]) ⟨rfl,rfl⟩
      ·have e2:joinD a b=none:=by rw[e,if_neg (fun h=>c2 h.2.2.2)]
       simp (maxSteps:=1000000) [go_sem,i32s,c1,c2]
       exact ret_is (.tup [.p (.int .i32 (accV (joinD a b))),.p (.bool (joinD a b).isSome)]) rfl (by simp[go_sem,resOf,leA,leT,leP,e2,accV]) ⟨rfl,rfl⟩
     ·have e2:joinD a b=none:=by rw[e,if_neg (fun h=>c1 h.2.2.1)]
      simp (maxSteps:=1000000) [go_sem,i32s,c1]
      exact ret_is (.tup [.p (.int .i32 (accV (joinD a b))),.p (.bool (joinD a b).isSome)]) rfl (by simp[go_sem,resOf,leA,leT,leP,e2,accV]) ⟨rfl,rfl⟩
    ·have es:splitL a=[4352+(a-44032)/588,4449+(a-44032)/28%21,4519+(a-44032)%28]:=if_neg c0
     have e2:joinD a b=none:=by rw[e,if_neg (fun h=>c0 h.2.1)]
     rw[es]
     simp (maxSteps:=1000000) [go_sem,i32s]
     exact ret_is (.tup [.p (.int .i32 (accV (joinD a b))),.p (.bool (joinD a b).isSome)]) rfl (by simp[go_sem,resOf,leA,leT,leP,e2,accV]) ⟨rfl,rfl⟩
  ·simp (maxSteps:=1000000) [go_sem,Tryz.f177,x1,x2,x3]
   cases hs:sylB a with
   |false=>
    have e2:joinD a b=none:=by rw[e,hs];simp
    refine⟨⟨rfl,by simp[Tryz.f180]⟩,CallK_of [] (splitN_cr a hs) (by simp[go_sem,notHead]) ⟨by simp[go_sem],by simp[go_sem]⟩ (by simp[go_sem]) ?_⟩
    rintro _ rs ⟨rfl,rfl⟩
    simp (maxSteps:=1000000) [go_sem]
    exact ret_is (.tup [.p (.int .i32 (accV (joinD a b))),.p (.bool (joinD a b).isSome)]) rfl (by simp[go_sem,resOf,leA,leT,leP,e2,accV]) ⟨rfl,rfl⟩
   |true=>
    refine⟨⟨rfl,by simp[Tryz.f180]⟩,CallK_of [] (splitD_cr a hs) (by simp[go_sem,notHead]) ⟨by simp[go_sem],by simp[go_sem]⟩ (by simp[go_sem]) ?_⟩
    rintro _ rs ⟨rfl,rfl⟩
    by_cases c0:(a-44032)%28=0
    ·have es:splitL a=[4352+(a-44032)/588,4449+(a-44032)/28%21]:=if_pos c0
     rw[es]
     by_cases c1:4520≤b
     ·by_cases c2:b≤4546
      ·have e2:joinD a b=some (a+(b-4519)):=by rw[e,if_pos ⟨hs,c0,c1,c2⟩]
       have hs':44032≤a∧a<55204:=by simpa[sylB]using hs
       have w1:IntKind.i32.wrap (b-4519)=b-4519:=wrapR (by omega)
       have w2:IntKind.i32.wrap (a+(b-4519))=a+(b-4519):=wrapR (by omega)
       simp (maxSteps:=1000000) [go_sem,i32s,c1,c2,w1,w2]
       exact ret_is (.tup [.p (.int .i32 (accV (joinD a b))),.p (.bool (joinD a b).isSome)]) rfl (by simp[go_sem,resOf,leA,leT,leP,e2,accV]) ⟨rfl,rfl⟩
      ·have e2:joinD a b=none:=by rw[e,if_neg (fun h=>c2 h.2.2.2)]
       simp (maxSteps:=1000000) [go_sem,i32s,c1,c2]
       exact ret_is (.tup [.p (.int .i32 (accV (joinD a b))),.p (.bool (joinD a b).isSome)]) rfl (by simp[go_sem,resOf,leA,leT,leP,e2,accV]) ⟨rfl,rfl⟩
     ·have e2:joinD a b=none:=by rw[e,if_neg (fun h=>c1 h.2.2.1)]
      simp (maxSteps:=1000000) [go_sem,i32s,c1]
      exact ret_is (.tup [.p (.int .i32 (accV (joinD a b))),.p (.bool (joinD a b).isSome)]) rfl (by simp[go_sem,resOf,leA,leT,leP,e2,accV]) ⟨rfl,rfl⟩
    ·have es:splitL a=[4352+(a-44032)/588,4449+(a-44032)/28%21,4519+(a-44032)%28]:=if_neg c0
     have e2:joinD a b=none:=by rw[e,if_neg (fun h=>c0 h.2.1)]
     rw[es]
     simp (maxSteps:=1000000) [go_sem,i32s]
     exact ret_is (.tup [.p (.int .i32 (accV (joinD a b))),.p (.bool (joinD a b).isSome)]) rfl (by simp[go_sem,resOf,leA,leT,leP,e2,accV]) ⟨rfl,rfl⟩
  ·simp (maxSteps:=1000000) [go_sem,Tryz.f177,x1,x2,x3,x4]
   cases hs:sylB a with
   |false=>
    have e2:joinD a b=none:=by rw[e,hs];simp
    refine⟨⟨rfl,by simp[Tryz.f180]⟩,CallK_of [] (splitN_cr a hs) (by simp[go_sem,notHead]) ⟨by simp[go_sem],by simp[go_sem]⟩ (by simp[go_sem]) ?_⟩
    rintro _ rs ⟨rfl,rfl⟩
    simp (maxSteps:=1000000) [go_sem]
    exact ret_is (.tup [.p (.int .i32 (accV (joinD a b))),.p (.bool (joinD a b).isSome)]) rfl (by simp[go_sem,resOf,leA,leT,leP,e2,accV]) ⟨rfl,rfl⟩
   |true=>
    refine⟨⟨rfl,by simp[Tryz.f180]⟩,CallK_of [] (splitD_cr a hs) (by simp[go_sem,notHead]) ⟨by simp[go_sem],by simp[go_sem]⟩ (by simp[go_sem]) ?_⟩
    rintro _ rs ⟨rfl,rfl⟩
    by_cases c0:(a-44032)%28=0
    ·have es:splitL a=[4352+(a-44032)/588,4449+(a-44032)/28%21]:=if_pos c0
     rw[es]
     by_cases c1:4520≤b
     ·by_cases c2:b≤4546
      ·have e2:joinD a b=some (a+(b-4519)):=by rw[e,if_pos ⟨hs,c0,c1,c2⟩]
       have hs':44032≤a∧a<55204:=by simpa[sylB]using hs
       have w1:IntKind.i32.wrap (b-4519)=b-4519:=wrapR (by omega)
       have w2:IntKind.i32.wrap (a+(b-4519))=a+(b-4519):=wrapR (by omega)
       simp (maxSteps:=1000000) [go_sem,i32s,c1,c2,w1,w2]
       exact ret_is (.tup [.p (.int .i32 (accV (joinD a b))),.p (.bool (joinD a b).isSome)]) rfl (by simp[go_sem,resOf,leA,leT,leP,e2,accV]) ⟨rfl,rfl⟩
      ·have e2:joinD a b=none:=by rw[e,if_neg (fun h=>c2 h.2.2.2)]
       simp (maxSteps:=1000000) [go_sem,i32s,c1,c2]
       exact ret_is (.tup [.p (.int .i32 (accV (joinD a b))),.p (.bool (joinD a b).isSome)]) rfl (by simp[go_sem,resOf,leA,leT,leP,e2,accV]) ⟨rfl,rfl⟩
     ·have e2:joinD a b=none:=by rw[e,if_neg (fun h=>c1 h.2.2.1)]
      simp (maxSteps:=1000000) [go_sem,i32s,c1]
      exact ret_is (.tup [.p (.int .i32 (accV (joinD a b))),.p (.bool (joinD a b).isSome)]) rfl (by simp[go_sem,resOf,leA,leT,leP,e2,accV]) ⟨rfl,rfl⟩
    ·have es:splitL a=[4352+(a-44032)/588,4449+(a-44032)/28%21,4519+(a-44032)%28]:=if_neg c0
     have e2:joinD a b=none:=by rw[e,if_neg (fun h=>c0 h.2.1)]
     rw[es]
     simp (maxSteps:=1000000) [go_sem,i32s]
     exact ret_is (.tup [.p (.int .i32 (accV (joinD a b))),.p (.bool (joinD a b).isSome)]) rfl (by simp[go_sem,resOf,leA,leT,leP,e2,accV]) ⟨rfl,rfl⟩
theorem pairMk_cr [Gi](l:List Row)(x y:Int)(hl:RowsOK l)(hx:Rune x)(hy:Rune y):CR Tryz.prog 135 [] [.p (rowsP l),.p (.int .i32 x),.p (.int .i32 y)] [] (is (.tup [.p (.int .i32 (accV ((joinD x y).or (compD l x y)))),.p (.bool ((joinD x y).or (compD l x y)).isSome)])):=by
 refine CR_of_wp mixed 11 [] Tryz.func135 rfl (by kernel_rfl) rfl (by simp) (by simp) ?_
 simp (maxSteps:=1000000) [go_sem,Tryz.f135]
 refine⟨⟨rfl,by simp[Tryz.f177]⟩,CallK_of [] (joinD_cr x y hx hy) (by simp[go_sem,notHead]) ⟨by simp[go_sem],by simp[go_sem]⟩ (by simp[go_sem]) ?_⟩
 rintro _ rs ⟨rfl,rfl⟩
 cases hj:joinD x y with
 |some z=>
  simp (maxSteps:=1000000) [go_sem,accV]
  exact ret_is (.tup [.p (.int .i32 z),.p (.bool true)]) rfl (by simp[go_sem,resOf,leA,leT,leP]) ⟨rfl,rfl⟩
 |none=>
  simp (maxSteps:=1000000) [go_sem]
  refine⟨⟨rfl,by simp[Tryz.f178]⟩,CallK_of [] (compD_cr l x y hl hx hy) (by simp[go_sem,notHead]) ⟨by simp[go_sem],by simp[go_sem]⟩ (by simp[go_sem]) ?_⟩
  rintro _ rs ⟨rfl,rfl⟩
  simp (maxSteps:=1000000) [go_sem]
  exact ret_is (.tup [.p (.int .i32 (accV (compD l x y))),.p (.bool (compD l x y).isSome)]) rfl (by simp[go_sem,resOf,leA,leT,leP]) ⟨rfl,rfl⟩
def fullD(l:List Row):Nat→Int→List Int
 |0,r=>if sylB r then splitL r else [r]
 |d+1,r=>if sylB r then splitL r else
  match pairD l r with
  |none=>[r]
  |some p=>fullD l d p.1++(if p.2=0 then []else fullD l d p.2)
theorem fullD_len(l:List Row):∀d r,(fullD l d r).length≤3*2^d
 |0,r=>by
  unfold fullD
  split
  ·unfold splitL;split<;>simp
  ·simp
 |d+1,r=>by
  have h3:1≤2^d:=Nat.one_le_two_pow
  unfold fullD
  rw[Nat.pow_succ]
  split
  ·unfold splitL;split<;>simp<;>omega
  ·split
   ·simp;omega
   ·rename_i p _
    have h1:=fullD_len l d p.1
    have h2:=fullD_len l d p.2
    split
    ·simp;omega
    ·simp;omega
theorem fullD_cr [Gi](l:List Row)(hl:RowsOK l):∀(d:Nat) (_:d≤8) (r:Int) (_:Rune r),CR Tryz.prog 136 [] [.p (rowsP l),.p (.int .i32 r),.p (.int .i64 d)] [] (is (.os [6] 1 (i32s (fullD l d r)))):=by
 intro d
 induction d with
 |zero=>
  intro hd r hr
  refine CR_of_wp mixed 11 [] Tryz.func136 rfl (by kernel_rfl) rfl (by simp) (by simp) ?_
  simp (maxSteps:=1000000) [go_sem,Tryz.f136]
  refine⟨⟨rfl,by simp[Tryz.f179]⟩,CallK_of [] (isD_cr r) (by simp[go_sem,notHead]) ⟨by simp[go_sem],by simp[go_sem]⟩ (by simp[go_sem]) ?_⟩
  rintro _ rs ⟨rfl,rfl⟩
  cases hs:sylB r with
  |true=>
   have e:fullD l 0 r=splitL r:=by unfold fullD;rw[if_pos hs]
   rw[e]
   simp (maxSteps:=1000000) [go_sem]
   refine⟨⟨rfl,by simp[Tryz.f180]⟩,CallK_of [] (splitD_cr r hs) (by simp[go_sem,notHead]) ⟨by simp[go_sem],by simp[go_sem]⟩ (by simp[go_sem]) ?_⟩
   rintro _ rs ⟨rfl,rfl⟩
   simp (maxSteps:=1000000) [go_sem]
   exact ret_is (.os [6] 1 (i32s (splitL r))) rfl (by simp[go_sem,resOf,leA,leT,leP]) ⟨rfl,rfl⟩
  |false=>
   have e:fullD l 0 r=[r]:=by unfold fullD;rw[hs];rfl
   rw[e]
   simp (maxSteps:=1000000) [go_sem]
   refine⟨⟨rfl,by simp[Tryz.f181]⟩,CallK_of [] (pairD_cr l r hl hr) (by simp[go_sem,notHead]) ⟨by simp[go_sem],by simp[go_sem]⟩ (by simp[go_sem]) ?_⟩
   rintro _ rs ⟨rfl,rfl⟩
   cases pairD l r with
   |none=>
    simp (maxSteps:=1000000) [go_sem,pairDA]
    exact ret_is (.os [6] 1 (i32s [r])) rfl (by simp[go_sem,resOf,leA,leT,leP,i32s]) ⟨rfl,rfl⟩
   |some p=>
    simp (maxSteps:=1000000) [go_sem,pairDA]
    exact ret_is (.os [6] 1 (i32s [r])) rfl (by simp[go_sem,resOf,leA,leT,leP,i32s]) ⟨rfl,rfl⟩
 |succ d ih=>
  intro hd r hr
  have hd0:¬((d:Int)+1=0):=by omega
  have wd:IntKind.i64.wrap ((d:Int)+1-1)=(d:Int):=by rw[wrap64 (by omega) (by omega)];omega
  have wd':IntKind.i64.wrap (d:Int)=(d:Int):=wrap64 (by omega) (by omega)
  have hp3:2^d≤2^8:=Nat.pow_le_pow_right (by omega) (by omega)
  refine CR_of_wp mixed 11 [] Tryz.func136 rfl (by kernel_rfl) rfl (by simp) (by simp) ?_
  simp (maxSteps:=1000000) [go_sem,Tryz.f136]
  refine⟨⟨rfl,by simp[Tryz.f179]⟩,CallK_of [] (isD_cr r) (by simp[go_sem,notHead]) ⟨by simp[go_sem],by simp[go_sem]⟩ (by simp[go_sem]) ?_⟩
  rintro _ rs ⟨rfl,rfl⟩
  cases hs:sylB r with
  |true=>
   have e:fullD l (d+1) r=splitL r:=by unfold fullD;rw[if_pos hs]
   rw[e]
   simp (maxSteps:=1000000) [go_sem]
   refine⟨⟨rfl,by simp[Tryz.f180]⟩,CallK_of [] (splitD_cr r hs) (by simp[go_sem,notHead]) ⟨by simp[go_sem],by simp[go_sem]⟩ (by simp[go_sem]) ?_⟩
   rintro _ rs ⟨rfl,rfl⟩
   simp (maxSteps:=1000000) [go_sem]
   exact ret_is (.os [6] 1 (i32s (splitL r))) rfl (by simp[go_sem,resOf,leA,leT,leP]) ⟨rfl,rfl⟩
  |false=>
   simp (maxSteps:=1000000) [go_sem]
   refine⟨⟨rfl,by simp[Tryz.f181]⟩,CallK_of [] (pairD_cr l r hl hr) (by simp[go_sem,notHead]) ⟨by simp[go_sem],by simp[go_sem]⟩ (by simp[go_sem]) ?_⟩
   rintro _ rs ⟨rfl,rfl⟩
   cases hp:pairD l r with
   |none=>
    have e:fullD l (d+1) r=[r]:=by unfold fullD;rw[hs,hp];rfl
    rw[e]
    simp (maxSteps:=1000000) [go_sem,pairDA]
    exact ret_is (.os [6] 1 (i32s [r])) rfl (by simp[go_sem,resOf,leA,leT,leP,i32s]) ⟨rfl,rfl⟩
   |some p=>
    obtain⟨pa,pb⟩:=p
    have hpo:=pairD_ok hl hp
    simp only at hpo
    have hra:Rune pa:=⟨by omega,by omega⟩
    have hrb:Rune pb:=⟨by omega,by omega⟩
    have e:fullD l (d+1) r=fullD l d pa++(if pb=0 then []else fullD l d pb):=by rw[fullD,hs,hp];rfl
    have l1:=fullD_len l d pa
    have l2:=fullD_len l d pb
    rw[e]
    simp (maxSteps:=1000000) [go_sem,pairDA,hd0,wd,wd']
    refine⟨⟨rfl,by simp[Tryz.f136]⟩,CallK_of [] (ih (by omega) pa hra) (by simp[go_sem,notHead]) ⟨by simp[go_sem],by simp[go_sem,wd,wd']⟩ (by simp[go_sem]) ?_⟩
    rintro _ rs ⟨rfl,rfl⟩
    by_cases c:pb=0
    ·simp (maxSteps:=1000000) [go_sem,c]
     exact ret_is (.os [6] 1 (i32s (fullD l d pa))) rfl (by simp[go_sem,resOf,leA,leT,leP]) ⟨rfl,by simp[c]⟩
    ·simp (maxSteps:=1000000) [go_sem,c,wd,wd']
     refine⟨⟨rfl,by simp[Tryz.f136]⟩,CallK_of [] (ih (by omega) pb hrb) (by simp[go_sem,notHead]) ⟨by simp[go_sem],by simp[go_sem,wd,wd']⟩ (by simp[go_sem]) ?_⟩
     rintro _ rs ⟨rfl,rfl⟩
     simp (maxSteps:=1000000) [go_sem]
     exact⟨by simp[i32s];omega,ret_is (.os [6] 1 (i32s (fullD l d pa++fullD l d pb))) rfl (by simp[go_sem,resOf,leA,leT,leP,i32s]) ⟨rfl,rfl⟩⟩
end Go.Proofs.YtjefahhmkcfiiaaGreat
end
