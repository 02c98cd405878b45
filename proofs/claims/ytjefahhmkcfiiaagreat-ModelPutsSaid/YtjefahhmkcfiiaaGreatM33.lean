/- A part of the proof of this seat's statements, by an abstract machine: what each operation does to values, and what the law's functions compute. Conditions: as each law says. -/
import Derived.Test.YtjefahhmkcfiiaaGreatM32
import Derived.Test.YtjefahhmkcfiiaaGreatM21
section
namespace Go.Proofs.YtjefahhmkcfiiaaGreat
open Go.AM
set_option maxHeartbeats 4000000
set_option maxRecDepth 10000
theorem SameK.len {k:Int→Int} {l m:List Int}(h:SameK k l m):l.length=m.length:=h.perm.length_eq
theorem stable_cr [Gi] {t:Tells4} {c b j f p:PV}(h:TabV t c b j f p)(hz:ZeroT t)(ck cx sk sx:List PV)(P L S:List Int)(o n:Nat)(hP:P.length=o)(hL:L.length=n)(hn:(P++(L++S)).length<2^40)(hr:∀x∈L, -2147483648≤x∧x<2147483648):
  CR Tryz.prog 228 [[0],[1]] [.la [0] 1 o n,.p (.int .i64 n),cmpA] [([0],cellsR (P++(L++S))),([1],[.p (tabP c b j f p ck cx sk sx)])]
   (fun x rs=>∃L',Stab (keyT t) L L'∧x=.tup []∧rs=[([0],cellsR (P++(L'++S))),([1],[.p (tabP c b j f p ck cx sk sx)])]):=by
 refine CR_of_wp mixed 10 [] Tryz.func228 rfl (by kernel_rfl) rfl (by simp) (by simp) ?_
 have hl:(P++(L++S)).length=P.length+L.length+S.length:=by simp;omega
 rw[hl]at hn
 have hb:n<2^40:=by omega
 simp (maxSteps:=1000000) [go_sem,Tryz.f228,cmpA]
 refine wpA_loopU (fun r:List Int×List Int×List Int=>L=r.1++r.2.2∧SameK (keyT t) r.2.1 r.1∧Runs (keyT t) 20 r.2.1∧∃c,r.2.1.length=c*20) (fun r=>[(7,.p (.int .i64 (r.2.1.length:Nat))),(8,.p (.int .i64 ((r.2.1.length+20:Nat):Int)))]) (fun r=>[([0],cellsR (P++(r.2.1++(r.2.2++S))))]) (fun r=>r.2.2.length) ([],[],L)
  ⟨rfl,SameK.refl _ _,Runs.nil _ _,0,rfl⟩ (by simp[go_sem,LeS,leV,leR,leA,leL,leL_refl,cmpA]) (fun r hr'=>?_)
 obtain⟨L0,D,E⟩:=r
 obtain⟨q1,q2,q3,cc,q4⟩:=hr'
 simp only at q1 q2 q3 q4
 have lD:=q2.len
 have lL:L.length=D.length+E.length:=by rw[q1,lD];simp
 obtain⟨d,hd⟩:∃d,d=D.length:=⟨_,rfl⟩
 simp only[←hd]
 have w1:IntKind.i64.wrap ((d:Int)+20+20)=((d+40:Nat):Int):=by rw[wrap64 (by omega) (by omega)];omega
 simp (maxSteps:=1000000) [go_sem,w1]
 refine condK_if (fun h1=>?_) (fun h1=>?_)
 ·obtain⟨X,Y,rfl,hX⟩:∃X Y,E=X++Y∧X.length=20:=⟨E.take 20,E.drop 20,(List.take_append_drop _ _).symm,by rw[List.length_take];omega⟩
  have lE:(X++Y).length=X.length+Y.length:=by simp
  have hI:=insertionE_cr h hz ck cx sk sx (P++D) X (Y++S) o n d (by simp;omega) (by omega) (by simp;omega) (by simp;omega) (fun x hx=>hr x (by rw[q1];simp[hx]))
  simp only[List.append_assoc,hX]at hI
  simp (maxSteps:=1000000) [go_sem]
  refine⟨⟨rfl,by simp[Tryz.f235]⟩,CallK_of [([0],[0]),([1],[1])] hI (by simp[go_sem,notHead]) ⟨by simp[go_sem],by simp[go_sem,cmpA]⟩ (by simp[go_sem]) ?_⟩
  rintro _ _ ⟨X',hX',rfl,rfl⟩
  have lX':X'.length=20:=by rw[hX'.2.len,hX]
  simp (maxSteps:=1000000) [go_sem,w1]
  refine LoopK_next (L0++X,D++X',Y) ⟨by rw[q1];simp,q2.app hX'.2,Runs.app q4 q3 (Runs.one (by omega) hX'.1),cc+1,by simp;omega⟩ (by simp[go_sem,LeS,leV,leR,leA,leL,leL_refl,cmpA,hd,lX'];omega) (by simp;omega)
 ·have hI:=insertionE_cr h hz ck cx sk sx (P++D) E S o n d (by simp;omega) (by omega) (by simp;omega) (by simp;omega) (fun x hx=>hr x (by rw[q1];simp[hx]))
  have dE:d+E.length=n:=by omega
  simp only[List.append_assoc,dE]at hI
  simp (maxSteps:=1000000) [go_sem]
  refine⟨⟨rfl,by simp[Tryz.f235]⟩,CallK_of [([0],[0]),([1],[1])] hI (by simp[go_sem,notHead]) ⟨by simp[go_sem],by simp[go_sem,cmpA]⟩ (by simp[go_sem]) ?_⟩
  rintro _ _ ⟨E',hE',rfl,rfl⟩
  have lE':=hE'.2.len
  have M1:Runs (keyT t) 20 (D++E')∧SameK (keyT t) (D++E') L:=⟨Runs.app q4 q3 (Runs.one (by omega) hE'.1),by rw[q1];exact q2.app hE'.2⟩
  simp (maxSteps:=1000000) [go_sem]
  clear w1 hI
  refine wpA_loopU (fun r:Nat×List Int=>0<r.1∧r.1<2^42∧Runs (keyT t) r.1 r.2∧SameK (keyT t) r.2 L) (fun r=>[(6,.p (.int .i64 (r.1:Nat))),(7,.junk),(8,.junk),(9,.junk)]) (fun r=>[([0],cellsR (P++(r.2++S)))]) (fun r=>n-r.1) (20,D++E')
   ⟨by simp,by simp,M1⟩ (by simp[go_sem,LeS,leV,leR,leA,leL,leL_refl,cmpA]) (fun r hr2=>?_)
  obtain⟨z,M⟩:=r
  obtain⟨p1,p2,p3,p4⟩:=hr2
  simp only at p1 p2 p3 p4
  have lM:=p4.len
  simp (maxSteps:=1000000) [go_sem]
  refine condK_if (fun h2=>?_) (fun h2=>?_)
  ·have w2:IntKind.i64.wrap (2*(z:Int))=((2*z:Nat):Int):=by rw[wrap64 (by omega) (by omega)];omega
   simp (maxSteps:=1000000) [go_sem,w2]
   clear M1 hE' q1 q2 q3 q4 lE' lL lD dE
   have hrM:∀x∈M, -2147483648≤x∧x<2147483648:=fun x hx=>hr x (p4.mem hx)
   refine wpA_loopU (fun r:List Int×List Int=>Runs (keyT t) (2*z) r.1∧Runs (keyT t) z r.2∧SameK (keyT t) (r.1++r.2) L∧∃c,r.1.length=c*(2*z)) (fun r=>[(7,.p (.int .i64 (r.1.length:Nat))),(8,.p (.int .i64 ((r.1.length+2*z:Nat):Int)))]) (fun r=>[([0],cellsR (P++(r.1++(r.2++S))))]) (fun r=>r.2.length) ([],M)
    ⟨Runs.nil _ _,p3,p4,0,by simp⟩ (by simp[go_sem,LeS,leV,leR,leA,leL,leL_refl,cmpA]) (fun r hr3=>?_)
   obtain⟨E1,F⟩:=r
   obtain⟨s1,s2,s3,cE,s4⟩:=hr3
   simp only at s1 s2 s3 s4
   have lEF:E1.length+F.length=n:=by have:=s3.len;simp at this;omega
   have hrE:∀x∈F, -2147483648≤x∧x<2147483648:=fun x hx=>hr x (s3.mem (by simp[hx]))
   obtain⟨a,ha⟩:∃a,a=E1.length:=⟨_,rfl⟩
   simp only[←ha]
   rw[←ha]at s4 lEF
   have w3:IntKind.i64.wrap ((a:Int)+z)=((a+z:Nat):Int):=wrapN_add (by omega) rfl
   have w4:IntKind.i64.wrap ((a:Int)+2*(z:Int)+2*(z:Int))=((a+2*z+2*z:Nat):Int):=by rw[wrap64 (by omega) (by omega)];omega
   have w5:IntKind.i64.wrap ((a:Int)+2*(z:Int))=((a+2*z:Nat):Int):=by rw[wrap64 (by omega) (by omega)];omega
   simp (maxSteps:=1000000) [go_sem,w2,w3,w4,w5]
   refine condK_if (fun h3=>?_) (fun h3=>?_)
   ·obtain⟨X,Y,Z,rfl,lX,lY⟩:∃X Y Z,F=X++(Y++Z)∧X.length=z∧Y.length=z:=⟨F.take z,(F.drop z).take z,(F.drop z).drop z,by rw[List.take_append_drop,List.take_append_drop],by rw[List.length_take];omega,by rw[List.length_take,List.length_drop];omega⟩
    have lF:(X++(Y++Z)).length=X.length+Y.length+Z.length:=by simp;omega
    rw[lF]at lEF
    have sX:SortK (keyT t) X:=by have:=s2.head;rwa[List.take_append_of_le_length (by omega),List.take_of_length_le (by omega)]at this
    have s2':Runs (keyT t) z (Y++Z):=by have:=s2.drop;rwa[List.drop_append_of_le_length (by omega),List.drop_eq_nil_of_le (by omega),List.nil_append]at this
    have sY:SortK (keyT t) Y:=by have:=s2'.head;rwa[List.take_append_of_le_length (by omega),List.take_of_length_le (by omega)]at this
    have sZ:Runs (keyT t) z Z:=by have:=s2'.drop;rwa[List.drop_append_of_le_length (by omega),List.drop_eq_nil_of_le (by omega),List.nil_append]at this
    have hT:(P++(E1++(X++(Y++(Z++S))))).length=P.length+a+(X.length+Y.length+Z.length)+S.length:=by simp;omega
    have hI:=sym_cr h hz ck cx sk sx n (P++E1) X Y (Z++S) o n a (a+z) (a+2*z) (by simp;omega) (by omega) (by omega) (by omega) (by omega) (by omega) (by omega) (by rw[List.append_assoc,hT];omega) (by rw[List.append_assoc,hT];omega) (fun x hx=>hrE x (by simp[hx])) (fun x hx=>hrE x (by simp[hx])) sX sY
    simp only[List.append_assoc]at hI
    simp (maxSteps:=1000000) [go_sem]
    refine⟨⟨rfl,by simp[Tryz.f236]⟩,CallK_of [([0],[0]),([1],[1])] hI (by simp[go_sem,notHead]) ⟨by simp[go_sem],by simp[go_sem,cmpA,w3]⟩ (by simp[go_sem]) ?_⟩
    rintro _ _ ⟨W,hW,rfl,rfl⟩
    have lW:W.length=2*z:=by rw[hW.2.len];simp;omega
    simp (maxSteps:=1000000) [go_sem,w2,w4]
    refine LoopK_next (E1++W,Z) ⟨Runs.app (ha.symm.trans s4) s1 (Runs.one (by omega) hW.1),sZ,?_,cE+1,by rw[List.length_append,lW,Nat.add_mul,←ha,s4,Nat.one_mul]⟩ (by simp[go_sem,LeS,leV,leR,leA,leL,leL_refl,cmpA,←ha,lW]) (by simp;omega)
    have:=((SameK.refl (keyT t) E1).app (hW.2.app (SameK.refl (keyT t) Z))).trans (by simpa using s3)
    simpa using this
   ·simp (maxSteps:=1000000) [go_sem,w3]
    refine condK_joinU (fun r:List Int=>Runs (keyT t) (2*z) r∧SameK (keyT t) r L) (fun _=>[]) (fun r=>[([0],cellsR (P++(r++S)))]) (condK_if (fun h4=>?_) (fun h4=>?_)) ?_
    ·obtain⟨X,Y,rfl,lX⟩:∃X Y,F=X++Y∧X.length=z:=⟨F.take z,F.drop z,(List.take_append_drop _ _).symm,by rw[List.length_take];omega⟩
     have lF:(X++Y).length=X.length+Y.length:=by simp
     rw[lF]at lEF
     have sX:SortK (keyT t) X:=by have:=s2.head;rwa[List.take_append_of_le_length (by omega),List.take_of_length_le (by omega)]at this
     have s2':Runs (keyT t) z Y:=by have:=s2.drop;rwa[List.drop_append_of_le_length (by omega),List.drop_eq_nil_of_le (by omega),List.nil_append]at this
     have sY:SortK (keyT t) Y:=s2'.all (by omega)
     have hT:(P++(E1++(X++(Y++S)))).length=P.length+a+(X.length+Y.length)+S.length:=by simp;omega
     have hI:=sym_cr h hz ck cx sk sx n (P++E1) X Y S o n a (a+z) n (by simp;omega) (by omega) (by omega) (by omega) (by omega) (by omega) (by omega) (by rw[List.append_assoc,hT];omega) (by rw[List.append_assoc,hT];omega) (fun x hx=>hrE x (by simp[hx])) (fun x hx=>hrE x (by simp[hx])) sX sY
     simp only[List.append_assoc]at hI
     simp (maxSteps:=1000000) [go_sem]
     refine⟨⟨rfl,by simp[Tryz.f236]⟩,CallK_of [([0],[0]),([1],[1])] hI (by simp[go_sem,notHead]) ⟨by simp[go_sem],by simp[go_sem,cmpA]⟩ (by simp[go_sem]) ?_⟩
     rintro _ _ ⟨W,hW,rfl,rfl⟩
     have lW:W.length=X.length+Y.length:=by rw[hW.2.len];simp
     simp (maxSteps:=1000000) [go_sem]
     exact JoinU_in (E1++W) ⟨Runs.app (ha.symm.trans s4) s1 (Runs.one (by omega) hW.1),((SameK.refl (keyT t) E1).app hW.2).trans s3⟩ (by simp[go_sem])
    ·simp (maxSteps:=1000000) [go_sem]
     exact JoinU_in (E1++F) ⟨Runs.app (ha.symm.trans s4) s1 (Runs.one (by omega) (s2.all (by omega))),s3⟩ (by simp[go_sem])
    rintro M2 ts ⟨k1,k2⟩
    have w6:IntKind.i64.wrap ((z:Int)*2)=((2*z:Nat):Int):=by rw[wrap64 (by omega) (by omega)];omega
    simp (maxSteps:=1000000) [go_sem,w6]
    refine LoopK_next (2*z,M2) ⟨by show 0<2*z;omega,by show 2*z<2^42;omega,k1,k2⟩ (by simp[go_sem,LeS,leV,leR,leA,leL,leL_refl,cmpA]) (by show n-2*z<n-z;omega)
  ·simp (maxSteps:=1000000) [go_sem]
   exact ret_keep [[0],[1]] (.tup []) ⟨rfl,by simp⟩ (by simp[go_sem,resOf,leA,leT]) ⟨M,⟨p3.all (by omega),p4⟩,rfl,by simp[go_sem]⟩
theorem sortStable_cr [Gi] {t:Tells4} {c b j f p:PV}(h:TabV t c b j f p)(hz:ZeroT t)(ck cx sk sx:List PV)(P L S:List Int)(o n:Nat)(hP:P.length=o)(hL:L.length=n)(hn:(P++(L++S)).length<2^40)(hr:∀x∈L, -2147483648≤x∧x<2147483648):
  CR Tryz.prog 210 [[0],[1]] [.la [0] 1 o n,cmpA] [([0],cellsR (P++(L++S))),([1],[.p (tabP c b j f p ck cx sk sx)])]
   (fun x rs=>∃L',Stab (keyT t) L L'∧x=.tup []∧rs=[([0],cellsR (P++(L'++S))),([1],[.p (tabP c b j f p ck cx sk sx)])]):=by
 refine CR_of_wp mixed 2 [] Tryz.func210 rfl (by kernel_rfl) rfl (by simp) (by simp) ?_
 simp (maxSteps:=1000000) [go_sem,Tryz.f210,cmpA]
 refine⟨⟨rfl,by simp[Tryz.f228]⟩,CallK_of [([0],[0]),([1],[1])] (stable_cr h hz ck cx sk sx P L S o n hP hL hn hr) (by simp[go_sem,notHead]) ⟨by simp[go_sem],by simp[go_sem,cmpA]⟩ (by simp[go_sem]) ?_⟩
 rintro _ _ ⟨L',hL',rfl,rfl⟩
 simp (maxSteps:=1000000) [go_sem]
 exact ret_keep [[0],[1]] (.tup []) ⟨rfl,by simp⟩ (by simp[go_sem,resOf,leA,leT]) ⟨L',hL',rfl,by simp[go_sem]⟩
end Go.Proofs.YtjefahhmkcfiiaaGreat
end
section
namespace Go.Proofs.YtjefahhmkcfiiaaGreat
open Go.AM
set_option maxHeartbeats 1000000
set_option maxRecDepth 10000
def sylB(r:Int):Bool:=decide (44032≤r)&&decide (r<55204)
theorem syl_cr [Gi](r:Int):CR Tryz.prog 226 [] [.p (.int .i32 r)] [] (is (.p (.bool (sylB r)))):=by
 refine CR_of_wp mixed 3 [] Tryz.func226 rfl (by kernel_rfl) rfl (by simp) (by simp) ?_
 simp[go_sem,Tryz.f226]
 exact ret_is (.p (.bool (sylB r))) rfl (by simp[go_sem,resOf,leA,sylB]) ⟨rfl,rfl⟩
theorem wrap32 {x:Int}(h1: -2147483648≤x)(h2:x≤2147483647):IntKind.i32.wrap x=x:=by
 simp only[IntKind.wrap,IntKind.signed,IntKind.bits]
 simp
 omega
def joinV(a b:Int):Option Int:=
 if 4352≤a∧a<4371∧4449≤b∧b<4470 then some (44032+((a-4352)*21+b-4449)*28)
 else if sylB a=true∧(a-44032)%28=0∧4519<b∧b<4547 then some (a+b-4519)
 else none
def optT(x:Option Int):AV:=.tup [.p (.int .i32 (x.getD 0)),.p (.bool x.isSome)]
theorem join_cr [Gi](a b:Int):CR Tryz.prog 206 [] [.p (.int .i32 a),.p (.int .i32 b)] [] (is (optT (joinV a b))):=by
 refine CR_of_wp mixed 7 [] Tryz.func206 rfl (by kernel_rfl) rfl (by simp) (by simp) ?_
 by_cases h:4352≤a∧a<4371∧4449≤b∧b<4470
 ·have e:joinV a b=some (44032+((a-4352)*21+b-4449)*28):=if_pos h
  obtain⟨h1,h2,h3,h4⟩:=h
  have w1:IntKind.i32.wrap (a-4352)=a-4352:=wrap32 (by omega) (by omega)
  have w2:IntKind.i32.wrap ((a-4352)*21)=(a-4352)*21:=wrap32 (by omega) (by omega)
  have w3:IntKind.i32.wrap ((a-4352)*21+b)=(a-4352)*21+b:=wrap32 (by omega) (by omega)
  have w4:IntKind.i32.wrap ((a-4352)*21+b-4449)=(a-4352)*21+b-4449:=wrap32 (by omega) (by omega)
  have w5:IntKind.i32.wrap (((a-4352)*21+b-4449)*28)=((a-4352)*21+b-4449)*28:=wrap32 (by omega) (by omega)
  have w6:IntKind.i32.wrap (44032+((a-4352)*21+b-4449)*28)=44032+((a-4352)*21+b-4449)*28:=wrap32 (by omega) (by omega)
  simp[go_sem,Tryz.f206,h1,h2,h3,h4,w1,w2,w3,w4,w5,w6]
  exact ret_is (optT (joinV a b)) rfl (by rw[e];simp[go_sem,resOf,leA,optT]) ⟨rfl,rfl⟩
 ·have hq:(decide (4352≤a)&&decide (a<4371)&&decide (4449≤b)&&decide (b<4470))=false:=by
   simp only[Bool.and_eq_false_iff,decide_eq_false_iff_not]
   omega
  simp[go_sem,Tryz.f206,hq]
  refine⟨⟨rfl,by simp[Tryz.f226]⟩,CallK_of [] (syl_cr a) (by simp[go_sem]) ⟨by simp[go_sem],by simp[go_sem]⟩ (by simp[go_sem]) ?_⟩
  rintro y rs ⟨rfl,rfl⟩
  by_cases hs:sylB a=true
  ·have hs':44032≤a∧a<55204:=by simpa[sylB]using hs
   have w1:IntKind.i32.wrap (a-44032)=a-44032:=wrap32 (by omega) (by omega)
   have w2:(a-44032).tmod 28=(a-44032)%28:=Int.tmod_eq_emod_of_nonneg (by omega)
   have w3:IntKind.i32.wrap ((a-44032)%28)=(a-44032)%28:=wrap32 (by omega) (by omega)
   simp[go_sem,hs,w1,w2,w3]
   refine condK_split (fun hc=>?_) (fun hc=>?_)
   ·have hc':(a-44032)%28=0∧4519<b∧b<4547:=by
     simp at hc
     omega
    have e:joinV a b=some (a+b-4519):=by
     unfold joinV
     rw[if_neg h,if_pos ⟨hs,hc'⟩]
    have w4:IntKind.i32.wrap (a+b)=a+b:=wrap32 (by omega) (by omega)
    have w5:IntKind.i32.wrap (a+b-4519)=a+b-4519:=wrap32 (by omega) (by omega)
    simp[go_sem,w4,w5]
    exact ret_is (optT (joinV a b)) rfl (by rw[e];simp[go_sem,resOf,leA,optT]) ⟨rfl,rfl⟩
   ·have hc':¬((a-44032)%28=0∧4519<b∧b<4547):=by
     intro k
     simp[k]at hc
    have e:joinV a b=none:=by
     unfold joinV
     rw[if_neg h,if_neg (fun k=>hc' k.2)]
    simp[go_sem]
    exact ret_is (optT (joinV a b)) rfl (by rw[e];simp[go_sem,resOf,leA,optT]) ⟨rfl,rfl⟩
  ·have e:joinV a b=none:=by
    unfold joinV
    rw[if_neg h,if_neg (fun k=>hs k.1)]
   simp[go_sem,hs]
   exact ret_is (optT (joinV a b)) rfl (by rw[e];simp[go_sem,resOf,leA,optT]) ⟨rfl,rfl⟩
end Go.Proofs.YtjefahhmkcfiiaaGreat
end
section
namespace Go.Proofs.YtjefahhmkcfiiaaGreat
open Go.AM
set_option maxHeartbeats 1000000
set_option maxRecDepth 10000
def splitL(r:Int):List Int:=
 if(r-44032)%28=0 then [4352+(r-44032)/588,4449+(r-44032)/28%21]else [4352+(r-44032)/588,4449+(r-44032)/28%21,4519+(r-44032)%28]
theorem split_root [Gi](r:Int):CR Tryz.prog 208 [] [.p (.int .i32 r)] [] (fun x rs=>(sylB r=false∧x=.p (.opq (.slice none 0 0))∧rs=[])∨(sylB r=true∧x=.la [4] 1 0 (splitL r).length∧∃l,rs=[([4],((splitL r++l).map fun k=>AV.p (.int .i32 k)))])):=by
 refine CR_of_wpM [] mixed 5 [] Tryz.func208 rfl (by kernel_rfl) [2] rfl (by simp) (by simp) ?_
 simp[go_sem,Tryz.f208]
 refine⟨⟨rfl,by simp[Tryz.f226]⟩,CallK_of [] (syl_cr r) (by simp[go_sem]) ⟨by simp[go_sem],by simp[go_sem]⟩ (by simp[go_sem]) ?_⟩
 rintro y rs ⟨rfl,rfl⟩
 by_cases hs:sylB r=true
 ·have hs':44032≤r∧r<55204:=by simpa[sylB]using hs
  have w1:IntKind.i32.wrap (r-44032)=r-44032:=wrap32 (by omega) (by omega)
  have d1:(r-44032).tdiv 588=(r-44032)/588:=Int.tdiv_eq_ediv_of_nonneg (by omega)
  have d2:(r-44032).tdiv 28=(r-44032)/28:=Int.tdiv_eq_ediv_of_nonneg (by omega)
  have d3:(r-44032).tmod 28=(r-44032)%28:=Int.tmod_eq_emod_of_nonneg (by omega)
  have d4:((r-44032)/28).tmod 21=(r-44032)/28%21:=Int.tmod_eq_emod_of_nonneg (by omega)
  have w2:IntKind.i32.wrap ((r-44032)/588)=(r-44032)/588:=wrap32 (by omega) (by omega)
  have w3:IntKind.i32.wrap ((r-44032)/28)=(r-44032)/28:=wrap32 (by omega) (by omega)
  have w4:IntKind.i32.wrap ((r-44032)%28)=(r-44032)%28:=wrap32 (by omega) (by omega)
  have w5:IntKind.i32.wrap ((r-44032)/28%21)=(r-44032)/28%21:=wrap32 (by omega) (by omega)
  have w6:IntKind.i32.wrap (4352+(r-44032)/588)=4352+(r-44032)/588:=wrap32 (by omega) (by omega)
  have w7:IntKind.i32.wrap (4449+(r-44032)/28%21)=4449+(r-44032)/28%21:=wrap32 (by omega) (by omega)
  have w8:IntKind.i32.wrap (4519+(r-44032)%28)=4519+(r-44032)%28:=wrap32 (by omega) (by omega)
  simp[go_sem,hs,w1,d1,d2,d3,d4,w2,w3,w4,w5,w6,w7,w8]
  refine condK_if (fun hc=>?_) (fun hc=>?_)
  ·have e:splitL r=[4352+(r-44032)/588,4449+(r-44032)/28%21]:=if_pos (by omega)
   simp[go_sem]
   exact ret_keep [[4]] (.la [4] 1 0 2) ⟨rfl,by simp⟩ (by simp[go_sem,resOf,leA,leT]) ⟨by rw[e];rfl,[4519+(r-44032)%28],by rw[e];rfl⟩
  ·have e:splitL r=[4352+(r-44032)/588,4449+(r-44032)/28%21,4519+(r-44032)%28]:=if_neg (by omega)
   simp[go_sem]
   exact ret_keep [[4]] (.la [4] 1 0 3) ⟨rfl,by simp⟩ (by simp[go_sem,resOf,leA,leT]) ⟨by rw[e];rfl,[],by rw[e];rfl⟩
 ·simp[go_sem,hs]
  exact ret_keep [] (.p (.opq (.slice none 0 0))) ⟨rfl,by simp⟩ (by simp[go_sem,resOf,leA,leT]) ⟨rfl,rfl⟩
theorem cells_runes(l:List Int):(l.map fun k=>PV.int .i32 k).flatMap PV.cells=l.map fun k=>PV.int .i32 k:=by
 induction l with
 |nil=>rfl
 |cons k l ih=>simp only[List.map_cons,List.flatMap_cons,ih];rfl
def splitV(r:Int):AV:=if sylB r then .p (runesP (splitL r))else .p (.opq (.slice none 0 0))
theorem split_len(r:Int):0< (splitL r).length:=by unfold splitL;split<;>simp
theorem split_cr [Gi](r:Int):CR Tryz.prog 208 [] [.p (.int .i32 r)] [] (is (splitV r)):=by
 refine CR.freeze (split_root r) (fun _=>false) rfl ?_
 rintro x rs (⟨hs,rfl,rfl⟩|⟨hs,rfl,l,rfl⟩)
 ·refine⟨.p (.opq (.slice none 0 0)),fun g w v hG hv=>?_,rfl,by unfold splitV;rw[hs];rfl⟩
  rw[RepA_p]at hv⊢
  exact RepP.ext (frz_ext hG _) _ _ hv
 ·refine⟨.p (runesP (splitL r)),fun g w v hG hv=>?_,rfl,by unfold splitV;rw[hs];rfl⟩
  rw[RepA_p]
  refine frz_flatX hG (l.map fun k=>AV.p (.int .i32 k)) (split_len r) ?_ rfl (by simp) (fun e he=>?_) hv
  ·rw[cells_runes]
   simp[lookT]
  ·obtain⟨s,_,rfl⟩:=List.mem_map.1 he
   exact⟨rfl,rfl⟩
end Go.Proofs.YtjefahhmkcfiiaaGreat
end
