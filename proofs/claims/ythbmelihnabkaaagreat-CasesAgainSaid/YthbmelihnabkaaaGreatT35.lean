/- A part of the proof of this seat's statements, by an abstract machine: what each operation does to values, and what the law's functions compute. Conditions: as each law says. -/
import Derived.Test.YthbmelihnabkaaaGreatT34
import Derived.Test.YthbmelihnabkaaaGreatT18
import Derived.Test.YthbmelihnabkaaaGreatT30
section
namespace Go.Proofs.YthbmelihnabkaaaGreat
open Go.AM
set_option maxHeartbeats 4000000
set_option maxRecDepth 10000
def yA(rows:List Row)(p:Int)(pre:List Int)(x:Int):Bool:=
 if zE rows p=1∧zE rows x=2 then false
 else if QA (zE rows p) || QA (zE rows x)then true
 else if Qi (zE rows p) (zE rows x)then false
 else if zE rows x=4∨zE rows x=5∨zE rows x=8∨zE rows p=7 then false
 else if uI rows (p::pre) x then false
 else if uG rows p pre x then false
 else !vb rows (p::pre) x
theorem ue [Gi] {rows:List Row}(hw:qV rows)(l:List Int)(n m:Nat)(hm:n=m+1)(h:n<l.length)(hl:l.length<2^31)(hr:∀x∈l,zD x):
  CR Tryz.prog 75 [] [.p (zI rows),.p (zh l),.p (.int .i64 n)] [] (is (.p (.bool (yA rows l[m] (l.take m).reverse l[n])))):=by
 refine zP [3] mixed 9 [] Tryz.func75 rfl (by kernel_rfl) rfl (by simp) (by simp) ?_
 have cj:=zba hw l n h hl hr
 have pc:=zbG hw l n m hm h hl hr
 have fl:=zeS hw l n h hl hr
 have g:m<l.length:=by omega
 have tr:(l.take n).reverse=l[m]::(l.take m).reverse:=by subst hm;exact ux g
 rw[tr]at cj fl
 have em:=Qn h
 have em2:=Qn g
 have hx:=hr _ (List.getElem_mem h)
 have hp:=hr _ (List.getElem_mem g)
 generalize l[n]=x at*
 generalize l[m]=p at*
 have h':(n:Int)<l.length:=by omega
 have g':(m:Int)<l.length:=by omega
 have n0:¬((n:Int)=0):=by omega
 have n0':¬(n=0):=by omega
 have w1:IntKind.i64.wrap ((n:Int)-1)=(m:Int):=by rw[wrap64 (by omega) (by omega)];omega
 simp (maxSteps:=1000000) [go_sem,Tryz.f75,zh,zB,n0',w1,g',em2]
 refine Qx (.p (.int .i64 (zE rows p))) rfl rfl (fun _=>Qy 125 (wv hw hp) rfl ⟨rfl,by simp[Tryz.f125]⟩ ⟨by simp[go_sem],by simp[go_sem]⟩) ?_
 simp (maxSteps:=1000000) [go_sem,zB,h',em]
 refine Qx (.p (.int .i64 (zE rows x))) rfl rfl (fun _=>Qy 125 (wv hw hx) rfl ⟨rfl,by simp[Tryz.f125]⟩ ⟨by simp[go_sem],by simp[go_sem]⟩) ?_
 refine⟨by simp[go_sem],?_⟩
 have c1:=zga (zE rows p)
 have c2:=zga (zE rows x)
 have c3:=zhX (zE rows p) (zE rows x)
 unfold yA
 generalize uI rows (p::(l.take m).reverse) x=cc at cj⊢
 generalize uG rows p (l.take m).reverse x=pp at pc⊢
 generalize vb rows (p::(l.take m).reverse) x=ff at fl⊢
 generalize zE rows p=a at*
 generalize zE rows x=b at*
 generalize Qi a b=qh at c3⊢
 generalize QA a=qa at c1⊢
 generalize QA b=qb at c2⊢
 rcases Classical.em (a=1)with t1|t1<;>rcases Classical.em (b=2)with t2|t2
 ·have a1:(a=1)=True:=eq_true t1
  have b2:(b=2)=True:=eq_true t2
  simp (maxSteps:=1000000) [go_sem,a1,b2]
  exact zg (.p (.bool false)) rfl (by simp[go_sem,zd,leA,leT]) ⟨rfl,rfl⟩
 ·have a1:(a=1)=True:=eq_true t1
  have b2:(b=2)=False:=eq_false t2
  simp (maxSteps:=1000000) [go_sem,a1,b2]
  refine⟨⟨rfl,by simp[Tryz.f126]⟩,zc [] c1 (by simp[go_sem]) ⟨by simp[go_sem],by simp[go_sem]⟩ (by simp[go_sem]) ?_⟩
  rintro _ rs ⟨rfl,rfl⟩
  cases qa
  ·simp (maxSteps:=1000000) [go_sem]
   refine⟨⟨rfl,by simp[Tryz.f126]⟩,zc [] c2 (by simp[go_sem]) ⟨by simp[go_sem],by simp[go_sem]⟩ (by simp[go_sem]) ?_⟩
   rintro _ rs ⟨rfl,rfl⟩
   cases qb
   ·simp (maxSteps:=1000000) [go_sem]
    refine⟨⟨rfl,by simp[Tryz.f127]⟩,zc [] c3 (by simp[go_sem]) ⟨by simp[go_sem],by simp[go_sem]⟩ (by simp[go_sem]) ?_⟩
    rintro _ rs ⟨rfl,rfl⟩
    cases qh
    ·skip
     rcases Classical.em (b=4)with t|t
     ·have b4:(b=4)=True:=eq_true t
      simp (maxSteps:=1000000) [go_sem,b4]
      exact zg (.p (.bool (false))) rfl (by simp[go_sem,zd,leA,leT]) ⟨rfl,by simp⟩
     ·have b4:(b=4)=False:=eq_false t
      rcases Classical.em (b=5)with t|t
      ·have b5:(b=5)=True:=eq_true t
       simp (maxSteps:=1000000) [go_sem,b4,b5]
       exact zg (.p (.bool (false))) rfl (by simp[go_sem,zd,leA,leT]) ⟨rfl,by simp⟩
      ·have b5:(b=5)=False:=eq_false t
       rcases Classical.em (b=8)with t|t
       ·have b8:(b=8)=True:=eq_true t
        simp (maxSteps:=1000000) [go_sem,b4,b5,b8]
        exact zg (.p (.bool (false))) rfl (by simp[go_sem,zd,leA,leT]) ⟨rfl,by simp⟩
       ·have b8:(b=8)=False:=eq_false t
        rcases Classical.em (a=7)with t|t
        ·have a7:(a=7)=True:=eq_true t
         simp (maxSteps:=1000000) [go_sem,b4,b5,b8,a7]
         exact zg (.p (.bool (false))) rfl (by simp[go_sem,zd,leA,leT]) ⟨rfl,by simp⟩
        ·have a7:(a=7)=False:=eq_false t
         simp (maxSteps:=1000000) [go_sem,b4,b5,b8,a7]
         refine⟨⟨rfl,by simp[Tryz.f128]⟩,zc [] cj (by simp[go_sem]) ⟨by simp[go_sem],by simp[go_sem,zh]⟩ (by simp[go_sem]) ?_⟩
         rintro _ rs ⟨rfl,rfl⟩
         cases cc
         ·simp (maxSteps:=1000000) [go_sem]
          refine⟨⟨rfl,by simp[Tryz.f129]⟩,zc [] pc (by simp[go_sem]) ⟨by simp[go_sem],by simp[go_sem,zh]⟩ (by simp[go_sem]) ?_⟩
          rintro _ rs ⟨rfl,rfl⟩
          cases pp
          ·simp (maxSteps:=1000000) [go_sem]
           refine⟨⟨rfl,by simp[Tryz.f130]⟩,zc [] fl (by simp[go_sem]) ⟨by simp[go_sem],by simp[go_sem,zh]⟩ (by simp[go_sem]) ?_⟩
           rintro _ rs ⟨rfl,rfl⟩
           simp (maxSteps:=1000000) [go_sem]
           exact zg (.p (.bool (!ff))) rfl (by simp[go_sem,zd,leA,leT]) ⟨rfl,by simp⟩
          ·simp (maxSteps:=1000000) [go_sem]
           exact zg (.p (.bool (false))) rfl (by simp[go_sem,zd,leA,leT]) ⟨rfl,by simp⟩
         ·simp (maxSteps:=1000000) [go_sem]
          exact zg (.p (.bool (false))) rfl (by simp[go_sem,zd,leA,leT]) ⟨rfl,by simp⟩
    ·simp (maxSteps:=1000000) [go_sem]
     exact zg (.p (.bool (false))) rfl (by simp[go_sem,zd,leA,leT]) ⟨rfl,by simp⟩
   ·simp (maxSteps:=1000000) [go_sem]
    exact zg (.p (.bool (true))) rfl (by simp[go_sem,zd,leA,leT]) ⟨rfl,by simp⟩
  ·simp (maxSteps:=1000000) [go_sem]
   exact zg (.p (.bool (true))) rfl (by simp[go_sem,zd,leA,leT]) ⟨rfl,by simp⟩
 ·have a1:(a=1)=False:=eq_false t1
  have b2:(b=2)=True:=eq_true t2
  simp (maxSteps:=1000000) [go_sem,a1,b2]
  refine⟨⟨rfl,by simp[Tryz.f126]⟩,zc [] c1 (by simp[go_sem]) ⟨by simp[go_sem],by simp[go_sem]⟩ (by simp[go_sem]) ?_⟩
  rintro _ rs ⟨rfl,rfl⟩
  cases qa
  ·simp (maxSteps:=1000000) [go_sem]
   refine⟨⟨rfl,by simp[Tryz.f126]⟩,zc [] c2 (by simp[go_sem]) ⟨by simp[go_sem],by simp[go_sem]⟩ (by simp[go_sem]) ?_⟩
   rintro _ rs ⟨rfl,rfl⟩
   cases qb
   ·simp (maxSteps:=1000000) [go_sem]
    refine⟨⟨rfl,by simp[Tryz.f127]⟩,zc [] c3 (by simp[go_sem]) ⟨by simp[go_sem],by simp[go_sem]⟩ (by simp[go_sem]) ?_⟩
    rintro _ rs ⟨rfl,rfl⟩
    cases qh
    ·skip
     rcases Classical.em (b=4)with t|t
     ·have b4:(b=4)=True:=eq_true t
      simp (maxSteps:=1000000) [go_sem,b4]
      exact zg (.p (.bool (false))) rfl (by simp[go_sem,zd,leA,leT]) ⟨rfl,by simp⟩
     ·have b4:(b=4)=False:=eq_false t
      rcases Classical.em (b=5)with t|t
      ·have b5:(b=5)=True:=eq_true t
       simp (maxSteps:=1000000) [go_sem,b4,b5]
       exact zg (.p (.bool (false))) rfl (by simp[go_sem,zd,leA,leT]) ⟨rfl,by simp⟩
      ·have b5:(b=5)=False:=eq_false t
       rcases Classical.em (b=8)with t|t
       ·have b8:(b=8)=True:=eq_true t
        simp (maxSteps:=1000000) [go_sem,b4,b5,b8]
        exact zg (.p (.bool (false))) rfl (by simp[go_sem,zd,leA,leT]) ⟨rfl,by simp⟩
       ·have b8:(b=8)=False:=eq_false t
        rcases Classical.em (a=7)with t|t
        ·have a7:(a=7)=True:=eq_true t
         simp (maxSteps:=1000000) [go_sem,b4,b5,b8,a7]
         exact zg (.p (.bool (false))) rfl (by simp[go_sem,zd,leA,leT]) ⟨rfl,by simp⟩
        ·have a7:(a=7)=False:=eq_false t
         simp (maxSteps:=1000000) [go_sem,b4,b5,b8,a7]
         refine⟨⟨rfl,by simp[Tryz.f128]⟩,zc [] cj (by simp[go_sem]) ⟨by simp[go_sem],by simp[go_sem,zh]⟩ (by simp[go_sem]) ?_⟩
         rintro _ rs ⟨rfl,rfl⟩
         cases cc
         ·simp (maxSteps:=1000000) [go_sem]
          refine⟨⟨rfl,by simp[Tryz.f129]⟩,zc [] pc (by simp[go_sem]) ⟨by simp[go_sem],by simp[go_sem,zh]⟩ (by simp[go_sem]) ?_⟩
          rintro _ rs ⟨rfl,rfl⟩
          cases pp
          ·simp (maxSteps:=1000000) [go_sem]
           refine⟨⟨rfl,by simp[Tryz.f130]⟩,zc [] fl (by simp[go_sem]) ⟨by simp[go_sem],by simp[go_sem,zh]⟩ (by simp[go_sem]) ?_⟩
           rintro _ rs ⟨rfl,rfl⟩
           simp (maxSteps:=1000000) [go_sem]
           exact zg (.p (.bool (!ff))) rfl (by simp[go_sem,zd,leA,leT]) ⟨rfl,by simp⟩
          ·simp (maxSteps:=1000000) [go_sem]
           exact zg (.p (.bool (false))) rfl (by simp[go_sem,zd,leA,leT]) ⟨rfl,by simp⟩
         ·simp (maxSteps:=1000000) [go_sem]
          exact zg (.p (.bool (false))) rfl (by simp[go_sem,zd,leA,leT]) ⟨rfl,by simp⟩
    ·simp (maxSteps:=1000000) [go_sem]
     exact zg (.p (.bool (false))) rfl (by simp[go_sem,zd,leA,leT]) ⟨rfl,by simp⟩
   ·simp (maxSteps:=1000000) [go_sem]
    exact zg (.p (.bool (true))) rfl (by simp[go_sem,zd,leA,leT]) ⟨rfl,by simp⟩
  ·simp (maxSteps:=1000000) [go_sem]
   exact zg (.p (.bool (true))) rfl (by simp[go_sem,zd,leA,leT]) ⟨rfl,by simp⟩
 ·have a1:(a=1)=False:=eq_false t1
  have b2:(b=2)=False:=eq_false t2
  simp (maxSteps:=1000000) [go_sem,a1,b2]
  refine⟨⟨rfl,by simp[Tryz.f126]⟩,zc [] c1 (by simp[go_sem]) ⟨by simp[go_sem],by simp[go_sem]⟩ (by simp[go_sem]) ?_⟩
  rintro _ rs ⟨rfl,rfl⟩
  cases qa
  ·simp (maxSteps:=1000000) [go_sem]
   refine⟨⟨rfl,by simp[Tryz.f126]⟩,zc [] c2 (by simp[go_sem]) ⟨by simp[go_sem],by simp[go_sem]⟩ (by simp[go_sem]) ?_⟩
   rintro _ rs ⟨rfl,rfl⟩
   cases qb
   ·simp (maxSteps:=1000000) [go_sem]
    refine⟨⟨rfl,by simp[Tryz.f127]⟩,zc [] c3 (by simp[go_sem]) ⟨by simp[go_sem],by simp[go_sem]⟩ (by simp[go_sem]) ?_⟩
    rintro _ rs ⟨rfl,rfl⟩
    cases qh
    ·skip
     rcases Classical.em (b=4)with t|t
     ·have b4:(b=4)=True:=eq_true t
      simp (maxSteps:=1000000) [go_sem,b4]
      exact zg (.p (.bool (false))) rfl (by simp[go_sem,zd,leA,leT]) ⟨rfl,by simp⟩
     ·have b4:(b=4)=False:=eq_false t
      rcases Classical.em (b=5)with t|t
      ·have b5:(b=5)=True:=eq_true t
       simp (maxSteps:=1000000) [go_sem,b4,b5]
       exact zg (.p (.bool (false))) rfl (by simp[go_sem,zd,leA,leT]) ⟨rfl,by simp⟩
      ·have b5:(b=5)=False:=eq_false t
       rcases Classical.em (b=8)with t|t
       ·have b8:(b=8)=True:=eq_true t
        simp (maxSteps:=1000000) [go_sem,b4,b5,b8]
        exact zg (.p (.bool (false))) rfl (by simp[go_sem,zd,leA,leT]) ⟨rfl,by simp⟩
       ·have b8:(b=8)=False:=eq_false t
        rcases Classical.em (a=7)with t|t
        ·have a7:(a=7)=True:=eq_true t
         simp (maxSteps:=1000000) [go_sem,b4,b5,b8,a7]
         exact zg (.p (.bool (false))) rfl (by simp[go_sem,zd,leA,leT]) ⟨rfl,by simp⟩
        ·have a7:(a=7)=False:=eq_false t
         simp (maxSteps:=1000000) [go_sem,b4,b5,b8,a7]
         refine⟨⟨rfl,by simp[Tryz.f128]⟩,zc [] cj (by simp[go_sem]) ⟨by simp[go_sem],by simp[go_sem,zh]⟩ (by simp[go_sem]) ?_⟩
         rintro _ rs ⟨rfl,rfl⟩
         cases cc
         ·simp (maxSteps:=1000000) [go_sem]
          refine⟨⟨rfl,by simp[Tryz.f129]⟩,zc [] pc (by simp[go_sem]) ⟨by simp[go_sem],by simp[go_sem,zh]⟩ (by simp[go_sem]) ?_⟩
          rintro _ rs ⟨rfl,rfl⟩
          cases pp
          ·simp (maxSteps:=1000000) [go_sem]
           refine⟨⟨rfl,by simp[Tryz.f130]⟩,zc [] fl (by simp[go_sem]) ⟨by simp[go_sem],by simp[go_sem,zh]⟩ (by simp[go_sem]) ?_⟩
           rintro _ rs ⟨rfl,rfl⟩
           simp (maxSteps:=1000000) [go_sem]
           exact zg (.p (.bool (!ff))) rfl (by simp[go_sem,zd,leA,leT]) ⟨rfl,by simp⟩
          ·simp (maxSteps:=1000000) [go_sem]
           exact zg (.p (.bool (false))) rfl (by simp[go_sem,zd,leA,leT]) ⟨rfl,by simp⟩
         ·simp (maxSteps:=1000000) [go_sem]
          exact zg (.p (.bool (false))) rfl (by simp[go_sem,zd,leA,leT]) ⟨rfl,by simp⟩
    ·simp (maxSteps:=1000000) [go_sem]
     exact zg (.p (.bool (false))) rfl (by simp[go_sem,zd,leA,leT]) ⟨rfl,by simp⟩
   ·simp (maxSteps:=1000000) [go_sem]
    exact zg (.p (.bool (true))) rfl (by simp[go_sem,zd,leA,leT]) ⟨rfl,by simp⟩
  ·simp (maxSteps:=1000000) [go_sem]
   exact zg (.p (.bool (true))) rfl (by simp[go_sem,zd,leA,leT]) ⟨rfl,by simp⟩
end Go.Proofs.YthbmelihnabkaaaGreat
end
section
namespace Go.Proofs.YthbmelihnabkaaaGreat
open Go.AM
set_option maxHeartbeats 4000000
set_option maxRecDepth 10000
def QW(rows:List Row):Int→List Int→List Int→Nat
 |_,_,[]=>0
 |p,pre,x::xs=>if yA rows p pre x then 0 else QW rows x (p::pre) xs+1
theorem KH(rows:List Row):∀(l pre:List Int) (p:Int),QW rows p pre l≤l.length
 | [],_,_=>by simp[QW]
 |x::l,pre,p=>by
  unfold QW
  split
  ·omega
  ·have:=KH rows l (p::pre) x
   simp only[List.length_cons];omega
theorem ziI [Gi] {rows:List Row}(hw:qV rows)(l:List Int)(a:Nat)(h:a<l.length)(hl:l.length<2^31)(hr:∀x∈l,zD x):
  CR Tryz.prog 77 [] [.p (zI rows),.p (zh l),.p (.int .i64 a)] [] (is (.p (.int .i64 ((a+1+QW rows l[a] (l.take a).reverse (l.drop (a+1)):Nat):Int)))):=by
 refine zm mixed 8 [] Tryz.func77 rfl (by kernel_rfl) rfl (by simp) (by simp) ?_
 obtain⟨N,hN⟩:∃N,N=a+1+QW rows l[a] (l.take a).reverse (l.drop (a+1)):=⟨_,rfl⟩
 rw[←hN]
 have w1:IntKind.i64.wrap ((a:Int)+1)=((a+1:Nat):Int):=zT (by omega)
 simp (maxSteps:=1000000) [go_sem,Tryz.f77,zh,w1]
 refine zl (fun k:Nat=>a+1+k≤l.length∧∀h:a+k<l.length,N=a+1+k+QW rows l[a+k] (l.take (a+k)).reverse (l.drop (a+1+k))) (fun k=>[(7,.p (.int .i64 ((a+1+k:Nat):Int)))]) (fun _=>[]) (fun k=>l.length-k) 0 ⟨by omega,fun _=>hN⟩ (by simp[go_sem,LeS,leV,leR,leA]) (fun k hs=>?_)
 obtain⟨h1,h2⟩:=hs
 have h3:=h2 (by omega)
 obtain⟨i,hi⟩:∃i,i=a+1+k:=⟨_,rfl⟩
 have hi':a+k<l.length:=by omega
 rw[←hi]at h1 h3⊢
 by_cases hil:i<l.length
 ·have bg:=ue hw l i (a+k) (by omega) hil hl hr
  rw[List.drop_eq_getElem_cons hil,QW]at h3
  have tr:=ux hi'
  rw[←tr]at h3
  have hil':(i:Int)<l.length:=by omega
  have w2:IntKind.i64.wrap ((i:Int)+1)=((a+1+(k+1):Nat):Int):=by rw[zT (by omega)];omega
  generalize yA rows l[a+k] (l.take (a+k)).reverse l[i]=q at bg h3
  simp (maxSteps:=1000000) [go_sem,zB,hil']
  refine⟨⟨rfl,by simp[Tryz.f75]⟩,zc [] bg (by simp[go_sem]) ⟨by simp[go_sem],by simp[go_sem,zh]⟩ (by simp[go_sem]) ?_⟩
  rintro _ rs ⟨rfl,rfl⟩
  cases q with
  |true=>
   obtain rfl:N=i:=by simpa using h3
   simp (maxSteps:=1000000) [go_sem]
   exact zg (.p (.int .i64 (N:Nat))) rfl (by simp[go_sem,zd,leA,leT]) ⟨rfl,rfl⟩
  |false=>
   simp (maxSteps:=1000000) [go_sem,w2]
   have e1:a+(k+1)=i:=by omega
   have e2:a+1+(k+1)=i+1:=by omega
   have e3:a+k+1=i:=by omega
   exact zf (k+1) ⟨by omega,fun _=>by
    simp only[e1,e2]
    rw[e3]at h3
    simp only[Bool.false_eq_true,if_false]at h3
    omega⟩ (by simp[go_sem,LeS,leV,leR,leA]) (by omega)
 ·have hil':¬(i:Int)<l.length:=by omega
  have e:N=l.length:=by rw[h3,List.drop_eq_nil_of_le (by omega)];simp only[QW];omega
  rw[e]
  simp (maxSteps:=1000000) [go_sem,zB,hil']
  exact zg (.p (.int .i64 (l.length:Nat))) rfl (by simp[go_sem,zd,leA,leT]) ⟨rfl,rfl⟩
def ZP(rows:List Row):Nat→List Int→List Int→List (List Int)
 |0,_,_=>[]
 |_,_,[]=>[]
 |n+1,pre,x::xs=>(x::xs.take (QW rows x pre xs))::ZP rows n ((xs.take (QW rows x pre xs)).reverse++x::pre) (xs.drop (QW rows x pre xs))
def z8(rows:List Row)(l:List Int):List (List Int):=ZP rows l.length [] l
end Go.Proofs.YthbmelihnabkaaaGreat
end
section
namespace Go.Proofs.YthbmelihnabkaaaGreat
open Go.AM
set_option maxHeartbeats 4000000
set_option maxRecDepth 10000
theorem zgb [Gi](a:List Int)(ha:a.length<2^31):CR Tryz.prog 15 [] [.p (zh a),.p (zh a)] [] (is (.p (.bool true))):=by
 refine zm mixed 6 [] Tryz.func15 rfl (by kernel_rfl) rfl (by simp) (by simp) ?_
 simp (maxSteps:=1000000) [go_sem,Tryz.f15,zh,zB]
 refine zl (fun k:Nat=>k≤a.length) (fun k=>[(5,.p (.int .i64 (k:Nat)))]) (fun _=>[]) (fun k=>a.length-k) 0 (by omega) (by simp[go_sem,LeS,leV,leR,leA]) (fun k hk=>?_)
 by_cases h:k<a.length
 ·have em:=Qn h
  have h':(k:Int)<a.length:=by omega
  have w1:IntKind.i64.wrap ((k:Int)+1)=((k+1:Nat):Int):=zT (by omega)
  generalize a[k]=x at em
  simp (maxSteps:=1000000) [go_sem,zB,h',em,w1]
  exact zf (k+1) (by omega) (by simp[go_sem,LeS,leV,leR,leA]) (by omega)
 ·have h':¬(k:Int)<a.length:=by omega
  simp (maxSteps:=1000000) [go_sem,zB,h']
  exact zg (.p (.bool true)) rfl (by simp[go_sem,zd,leA]) ⟨rfl,rfl⟩
end Go.Proofs.YthbmelihnabkaaaGreat
end
section
namespace Go.Proofs.YthbmelihnabkaaaGreat
open Go.AM
set_option maxHeartbeats 4000000
set_option maxRecDepth 10000
theorem zap [Gi](r:Int):CR Tryz.prog 153 [] [.p (.int .i32 r)] [] (is (.p (.bool (q8 r)))):=by
 refine zm mixed 3 [] Tryz.func153 rfl (by kernel_rfl) rfl (by simp) (by simp) ?_
 by_cases c1:44032≤r
 ·simp (maxSteps:=1000000) [go_sem,Tryz.f153,c1]
  refine zg (.p (.bool (q8 r))) rfl ?_ ⟨rfl,rfl⟩
  have:decide (r≤55203)=decide (r<55204):=by congr 1;simp;omega
  simp[go_sem,zd,leA,leT,q8,c1,this]
 ·simp (maxSteps:=1000000) [go_sem,Tryz.f153,c1]
  exact zg (.p (.bool (q8 r))) rfl (by simp[go_sem,zd,leA,leT,q8,c1]) ⟨rfl,rfl⟩
theorem yg [Gi](r:Int)(hs:q8 r=true):CR Tryz.prog 154 [] [.p (.int .i32 r)] [] (is (.os [2] 1 (zx (zO r)))):=by
 refine zm mixed 5 [] Tryz.func154 rfl (by kernel_rfl) rfl (by simp) (by simp) ?_
 simp (maxSteps:=1000000) [go_sem,Tryz.f154]
 refine⟨⟨rfl,by simp[Tryz.f153]⟩,zc [] (zap r) (by simp[go_sem]) ⟨by simp[go_sem],by simp[go_sem]⟩ (by simp[go_sem]) ?_⟩
 rintro _ rs ⟨rfl,rfl⟩
 have hs':44032≤r∧r<55204:=by simpa[q8]using hs
 have w0:IntKind.i64.wrap r=r:=wrap64 (by omega) (by omega)
 have w1:IntKind.i64.wrap (r-44032)=r-44032:=wrap64 (by omega) (by omega)
 have d1:(r-44032).tdiv 588=(r-44032)/588:=Int.tdiv_eq_ediv_of_nonneg (by omega)
 have d2:(r-44032).tdiv 28=(r-44032)/28:=Int.tdiv_eq_ediv_of_nonneg (by omega)
 have d3:(r-44032).tmod 28=(r-44032)%28:=Int.tmod_eq_emod_of_nonneg (by omega)
 have d4:((r-44032)/28).tmod 21=(r-44032)/28%21:=Int.tmod_eq_emod_of_nonneg (by omega)
 have w2:IntKind.i64.wrap ((r-44032)/588)=(r-44032)/588:=wrap64 (by omega) (by omega)
 have w3:IntKind.i64.wrap ((r-44032)/28)=(r-44032)/28:=wrap64 (by omega) (by omega)
 have w4:IntKind.i64.wrap ((r-44032)%28)=(r-44032)%28:=wrap64 (by omega) (by omega)
 have w5:IntKind.i64.wrap ((r-44032)/28%21)=(r-44032)/28%21:=wrap64 (by omega) (by omega)
 have w6:IntKind.i64.wrap (4352+(r-44032)/588)=4352+(r-44032)/588:=wrap64 (by omega) (by omega)
 have w7:IntKind.i64.wrap (4449+(r-44032)/28%21)=4449+(r-44032)/28%21:=wrap64 (by omega) (by omega)
 have w8:IntKind.i64.wrap (4519+(r-44032)%28)=4519+(r-44032)%28:=wrap64 (by omega) (by omega)
 have u6:IntKind.i32.wrap (4352+(r-44032)/588)=4352+(r-44032)/588:=kX (by omega)
 have u7:IntKind.i32.wrap (4449+(r-44032)/28%21)=4449+(r-44032)/28%21:=kX (by omega)
 have u8:IntKind.i32.wrap (4519+(r-44032)%28)=4519+(r-44032)%28:=kX (by omega)
 simp (maxSteps:=1000000) [go_sem,hs,w0,w1,d1,d2,d3,d4,w2,w3,w6,w7,u6,u7]
 refine⟨rfl,?_⟩
 refine xJ (fun hc=>?_) (fun hc=>?_)
 ·have e:zO r=[4352+(r-44032)/588,4449+(r-44032)/28%21,4519+(r-44032)%28]:=if_neg (by omega)
  rw[e]
  simp (maxSteps:=1000000) [go_sem,d3,w8,u8]
  exact zg (.os [2] 1 (zx [4352+(r-44032)/588,4449+(r-44032)/28%21,4519+(r-44032)%28])) rfl (by simp[go_sem,zd,leA,leT,zx]) ⟨rfl,rfl⟩
 ·have e:zO r=[4352+(r-44032)/588,4449+(r-44032)/28%21]:=if_pos (by omega)
  rw[e]
  simp (maxSteps:=1000000) [go_sem]
  exact zg (.os [2] 1 (zx [4352+(r-44032)/588,4449+(r-44032)/28%21])) rfl (by simp[go_sem,zd,leA,leT,zx]) ⟨rfl,rfl⟩
theorem vW [Gi](r:Int)(hs:q8 r=false):CR Tryz.prog 154 [] [.p (.int .i32 r)] [] (is (.os [2] 1 [])):=by
 refine zm mixed 5 [] Tryz.func154 rfl (by kernel_rfl) rfl (by simp) (by simp) ?_
 simp (maxSteps:=1000000) [go_sem,Tryz.f154]
 refine⟨⟨rfl,by simp[Tryz.f153]⟩,zc [] (zap r) (by simp[go_sem]) ⟨by simp[go_sem],by simp[go_sem]⟩ (by simp[go_sem]) ?_⟩
 rintro _ rs ⟨rfl,rfl⟩
 simp (maxSteps:=1000000) [go_sem,hs]
 exact zg (.os [2] 1 []) rfl (by simp[go_sem,zd,leA,leT]) ⟨rfl,rfl⟩
def zS(a b:Int):Option Int:=
 if 4352≤a∧a≤4370∧4449≤b∧b≤4469 then some (44032+(a-4352)*588+(b-4449)*28)
 else if q8 a=true∧(a-44032)%28=0∧4520≤b∧b≤4546 then some (a+(b-4519))else none
theorem zi8 [Gi](a b:Int)(ha:zD a)(hb:zD b):CR Tryz.prog 157 [] [.p (.int .i32 a),.p (.int .i32 b)] [] (is (.tup [.p (.int .i32 (qR (zS a b))),.p (.bool (zS a b).isSome)])):=by
 refine zm mixed 7 [] Tryz.func157 rfl (by kernel_rfl) rfl (by simp) (by simp) ?_
 have wa:=WJ ha
 have wb:=WJ hb
 by_cases h:4352≤a∧a≤4370∧4449≤b∧b≤4469
 ·have e:zS a b=some (44032+(a-4352)*588+(b-4449)*28):=if_pos h
  obtain⟨h1,h2,h3,h4⟩:=h
  have w1:IntKind.i64.wrap (a-4352)=a-4352:=wrap64 (by omega) (by omega)
  have w2:IntKind.i64.wrap ((a-4352)*588)=(a-4352)*588:=wrap64 (by omega) (by omega)
  have w3:IntKind.i64.wrap (44032+(a-4352)*588)=44032+(a-4352)*588:=wrap64 (by omega) (by omega)
  have w4:IntKind.i64.wrap (b-4449)=b-4449:=wrap64 (by omega) (by omega)
  have w5:IntKind.i64.wrap ((b-4449)*28)=(b-4449)*28:=wrap64 (by omega) (by omega)
  have w6:IntKind.i64.wrap (44032+(a-4352)*588+(b-4449)*28)=44032+(a-4352)*588+(b-4449)*28:=wrap64 (by omega) (by omega)
  have w7:IntKind.i32.wrap (44032+(a-4352)*588+(b-4449)*28)=44032+(a-4352)*588+(b-4449)*28:=kX (by omega)
  simp (maxSteps:=1000000) [go_sem,Tryz.f157,h1,h2,h3,h4,wa,wb,w1,w2,w3,w4,w5,w6,w7]
  exact zg (.tup [.p (.int .i32 (qR (zS a b))),.p (.bool (zS a b).isSome)]) rfl (by simp[go_sem,zd,leA,leT,leP,e,qR]) ⟨rfl,rfl⟩
 ·have e:zS a b=if q8 a=true∧(a-44032)%28=0∧4520≤b∧b≤4546 then some (a+(b-4519))else none:=if_neg h
  rcases(show ¬4352≤a∨(4352≤a∧¬a≤4370)∨(4352≤a∧a≤4370∧¬4449≤b)∨(4352≤a∧a≤4370∧4449≤b∧¬b≤4469) by omega)with x1|⟨x1,x2⟩|⟨x1,x2,x3⟩|⟨x1,x2,x3,x4⟩
  ·simp (maxSteps:=1000000) [go_sem,Tryz.f157,x1]
   cases hs:q8 a with
   |false=>
    have e2:zS a b=none:=by rw[e,hs];simp
    refine⟨⟨rfl,by simp[Tryz.f154]⟩,zc [] (vW a hs) (by simp[go_sem]) ⟨by simp[go_sem],by simp[go_sem]⟩ (by simp[go_sem]) ?_⟩
    rintro _ rs ⟨rfl,rfl⟩
    simp (maxSteps:=1000000) [go_sem]
    exact zg (.tup [.p (.int .i32 (qR (zS a b))),.p (.bool (zS a b).isSome)]) rfl (by simp[go_sem,zd,leA,leT,leP,e2,qR]) ⟨rfl,rfl⟩
   |true=>
    refine⟨⟨rfl,by simp[Tryz.f154]⟩,zc [] (yg a hs) (by simp[go_sem]) ⟨by simp[go_sem],by simp[go_sem]⟩ (by simp[go_sem]) ?_⟩
    rintro _ rs ⟨rfl,rfl⟩
    by_cases c0:(a-44032)%28=0
    ·have es:zO a=[4352+(a-44032)/588,4449+(a-44032)/28%21]:=if_pos c0
     rw[es]
     by_cases c1:4520≤b
     ·by_cases c2:b≤4546
      ·have e2:zS a b=some (a+(b-4519)):=by rw[e,if_pos ⟨hs,c0,c1,c2⟩]
       have hs':44032≤a∧a<55204:=by simpa[q8]using hs
       have w1:IntKind.i32.wrap (b-4519)=b-4519:=kX (by omega)
       have w2:IntKind.i32.wrap (a+(b-4519))=a+(b-4519):=kX (by omega)
       simp (maxSteps:=1000000) [go_sem,zx,c1,c2,w1,w2]
       exact zg (.tup [.p (.int .i32 (qR (zS a b))),.p (.bool (zS a b).isSome)]) rfl (by simp[go_sem,zd,leA,leT,leP,e2,qR]) ⟨rfl,rfl⟩
      ·have e2:zS a b=none:=by rw[e,if_neg (fun h=>c2 h.2.2.2)]
       simp (maxSteps:=1000000) [go_sem,zx,c1,c2]
       exact zg (.tup [.p (.int .i32 (qR (zS a b))),.p (.bool (zS a b).isSome)]) rfl (by simp[go_sem,zd,leA,leT,leP,e2,qR]) ⟨rfl,rfl⟩
     ·have e2:zS a b=none:=by rw[e,if_neg (fun h=>c1 h.2.2.1)]
      simp (maxSteps:=1000000) [go_sem,zx,c1]
      exact zg (.tup [.p (.int .i32 (qR (zS a b))),.p (.bool (zS a b).isSome)]) rfl (by simp[go_sem,zd,leA,leT,leP,e2,qR]) ⟨rfl,rfl⟩
    ·have es:zO a=[4352+(a-44032)/588,4449+(a-44032)/28%21,4519+(a-44032)%28]:=if_neg c0
     have e2:zS a b=none:=by rw[e,if_neg (fun h=>c0 h.2.1)]
     rw[es]
     simp (maxSteps:=1000000) [go_sem,zx]
     exact zg (.tup [.p (.int .i32 (qR (zS a b))),.p (.bool (zS a b).isSome)]) rfl (by simp[go_sem,zd,leA,leT,leP,e2,qR]) ⟨rfl,rfl⟩
  ·simp (maxSteps:=1000000) [go_sem,Tryz.f157,x1,x2]
   cases hs:q8 a with
   |false=>
    have e2:zS a b=none:=by rw[e,hs];simp
    refine⟨⟨rfl,by simp[Tryz.f154]⟩,zc [] (vW a hs) (by simp[go_sem]) ⟨by simp[go_sem],by simp[go_sem]⟩ (by simp[go_sem]) ?_⟩
    rintro _ rs ⟨rfl,rfl⟩
    simp (maxSteps:=1000000) [go_sem]
    exact zg (.tup [.p (.int .i32 (qR (zS a b))),.p (.bool (zS a b).isSome)]) rfl (by simp[go_sem,zd,leA,leT,leP,e2,qR]) ⟨rfl,rfl⟩
   |true=>
    refine⟨⟨rfl,by simp[Tryz.f154]⟩,zc [] (yg a hs) (by simp[go_sem]) ⟨by simp[go_sem],by simp[go_sem]⟩ (by simp[go_sem]) ?_⟩
    rintro _ rs ⟨rfl,rfl⟩
    by_cases c0:(a-44032)%28=0
    ·have es:zO a=[4352+(a-44032)/588,4449+(a-44032)/28%21]:=if_pos c0
     rw[es]
     by_cases c1:4520≤b
     ·by_cases c2:b≤4546
      ·have e2:zS a b=some (a+(b-4519)):=by rw[e,if_pos ⟨hs,c0,c1,c2⟩]
       have hs':44032≤a∧a<55204:=by simpa[q8]using hs
       have w1:IntKind.i32.wrap (b-4519)=b-4519:=kX (by omega)
       have w2:IntKind.i32.wrap (a+(b-4519))=a+(b-4519):=kX (by omega)
       simp (maxSteps:=1000000) [go_sem,zx,c1,c2,w1,w2]
       exact zg (.tup [.p (.int .i32 (qR (zS a b))),.p (.bool (zS a b).isSome)]) rfl (by simp[go_sem,zd,leA,leT,leP,e2,qR]) ⟨rfl,rfl⟩
      ·have e2:zS a b=none:=by rw[e,if_neg (fun h=>c2 h.2.2.2)]
       simp (maxSteps:=1000000) [go_sem,zx,c1,c2]
       exact zg (.tup [.p (.int .i32 (qR (zS a b))),.p (.bool (zS a b).isSome)]) rfl (by simp[go_sem,zd,leA,leT,leP,e2,qR]) ⟨rfl,rfl⟩
     ·have e2:zS a b=none:=by rw[e,if_neg (fun h=>c1 h.2.2.1)]
      simp (maxSteps:=1000000) [go_sem,zx,c1]
      exact zg (.tup [.p (.int .i32 (qR (zS a b))),.p (.bool (zS a b).isSome)]) rfl (by simp[go_sem,zd,leA,leT,leP,e2,qR]) ⟨rfl,rfl⟩
    ·have es:zO a=[4352+(a-44032)/588,4449+(a-44032)/28%21,4519+(a-44032)%28]:=if_neg c0
     have e2:zS a b=none:=by rw[e,if_neg (fun h=>c0 h.2.1)]
     rw[es]
     simp (maxSteps:=1000000) [go_sem,zx]
     exact zg (.tup [.p (.int .i32 (qR (zS a b))),.p (.bool (zS a b).isSome)]) rfl (by simp[go_sem,zd,leA,leT,leP,e2,qR]) ⟨rfl,rfl⟩
  ·simp (maxSteps:=1000000) [go_sem,Tryz.f157,x1,x2,x3]
   cases hs:q8 a with
   |false=>
    have e2:zS a b=none:=by rw[e,hs];simp
    refine⟨⟨rfl,by simp[Tryz.f154]⟩,zc [] (vW a hs) (by simp[go_sem]) ⟨by simp[go_sem],by simp[go_sem]⟩ (by simp[go_sem]) ?_⟩
    rintro _ rs ⟨rfl,rfl⟩
    simp (maxSteps:=1000000) [go_sem]
    exact zg (.tup [.p (.int .i32 (qR (zS a b))),.p (.bool (zS a b).isSome)]) rfl (by simp[go_sem,zd,leA,leT,leP,e2,qR]) ⟨rfl,rfl⟩
   |true=>
    refine⟨⟨rfl,by simp[Tryz.f154]⟩,zc [] (yg a hs) (by simp[go_sem]) ⟨by simp[go_sem],by simp[go_sem]⟩ (by simp[go_sem]) ?_⟩
    rintro _ rs ⟨rfl,rfl⟩
    by_cases c0:(a-44032)%28=0
    ·have es:zO a=[4352+(a-44032)/588,4449+(a-44032)/28%21]:=if_pos c0
     rw[es]
     by_cases c1:4520≤b
     ·by_cases c2:b≤4546
      ·have e2:zS a b=some (a+(b-4519)):=by rw[e,if_pos ⟨hs,c0,c1,c2⟩]
       have hs':44032≤a∧a<55204:=by simpa[q8]using hs
       have w1:IntKind.i32.wrap (b-4519)=b-4519:=kX (by omega)
       have w2:IntKind.i32.wrap (a+(b-4519))=a+(b-4519):=kX (by omega)
       simp (maxSteps:=1000000) [go_sem,zx,c1,c2,w1,w2]
       exact zg (.tup [.p (.int .i32 (qR (zS a b))),.p (.bool (zS a b).isSome)]) rfl (by simp[go_sem,zd,leA,leT,leP,e2,qR]) ⟨rfl,rfl⟩
      ·have e2:zS a b=none:=by rw[e,if_neg (fun h=>c2 h.2.2.2)]
       simp (maxSteps:=1000000) [go_sem,zx,c1,c2]
       exact zg (.tup [.p (.int .i32 (qR (zS a b))),.p (.bool (zS a b).isSome)]) rfl (by simp[go_sem,zd,leA,leT,leP,e2,qR]) ⟨rfl,rfl⟩
     ·have e2:zS a b=none:=by rw[e,if_neg (fun h=>c1 h.2.2.1)]
      simp (maxSteps:=1000000) [go_sem,zx,c1]
      exact zg (.tup [.p (.int .i32 (qR (zS a b))),.p (.bool (zS a b).isSome)]) rfl (by simp[go_sem,zd,leA,leT,leP,e2,qR]) ⟨rfl,rfl⟩
    ·have es:zO a=[4352+(a-44032)/588,4449+(a-44032)/28%21,4519+(a-44032)%28]:=if_neg c0
     have e2:zS a b=none:=by rw[e,if_neg (fun h=>c0 h.2.1)]
     rw[es]
     simp (maxSteps:=1000000) [go_sem,zx]
     exact zg (.tup [.p (.int .i32 (qR (zS a b))),.p (.bool (zS a b).isSome)]) rfl (by simp[go_sem,zd,leA,leT,leP,e2,qR]) ⟨rfl,rfl⟩
  ·simp (maxSteps:=1000000) [go_sem,Tryz.f157,x1,x2,x3,x4]
   cases hs:q8 a with
   |false=>
    have e2:zS a b=none:=by rw[e,hs];simp
    refine⟨⟨rfl,by simp[Tryz.f154]⟩,zc [] (vW a hs) (by simp[go_sem]) ⟨by simp[go_sem],by simp[go_sem]⟩ (by simp[go_sem]) ?_⟩
    rintro _ rs ⟨rfl,rfl⟩
    simp (maxSteps:=1000000) [go_sem]
    exact zg (.tup [.p (.int .i32 (qR (zS a b))),.p (.bool (zS a b).isSome)]) rfl (by simp[go_sem,zd,leA,leT,leP,e2,qR]) ⟨rfl,rfl⟩
   |true=>
    refine⟨⟨rfl,by simp[Tryz.f154]⟩,zc [] (yg a hs) (by simp[go_sem]) ⟨by simp[go_sem],by simp[go_sem]⟩ (by simp[go_sem]) ?_⟩
    rintro _ rs ⟨rfl,rfl⟩
    by_cases c0:(a-44032)%28=0
    ·have es:zO a=[4352+(a-44032)/588,4449+(a-44032)/28%21]:=if_pos c0
     rw[es]
     by_cases c1:4520≤b
     ·by_cases c2:b≤4546
      ·have e2:zS a b=some (a+(b-4519)):=by rw[e,if_pos ⟨hs,c0,c1,c2⟩]
       have hs':44032≤a∧a<55204:=by simpa[q8]using hs
       have w1:IntKind.i32.wrap (b-4519)=b-4519:=kX (by omega)
       have w2:IntKind.i32.wrap (a+(b-4519))=a+(b-4519):=kX (by omega)
       simp (maxSteps:=1000000) [go_sem,zx,c1,c2,w1,w2]
       exact zg (.tup [.p (.int .i32 (qR (zS a b))),.p (.bool (zS a b).isSome)]) rfl (by simp[go_sem,zd,leA,leT,leP,e2,qR]) ⟨rfl,rfl⟩
      ·have e2:zS a b=none:=by rw[e,if_neg (fun h=>c2 h.2.2.2)]
       simp (maxSteps:=1000000) [go_sem,zx,c1,c2]
       exact zg (.tup [.p (.int .i32 (qR (zS a b))),.p (.bool (zS a b).isSome)]) rfl (by simp[go_sem,zd,leA,leT,leP,e2,qR]) ⟨rfl,rfl⟩
     ·have e2:zS a b=none:=by rw[e,if_neg (fun h=>c1 h.2.2.1)]
      simp (maxSteps:=1000000) [go_sem,zx,c1]
      exact zg (.tup [.p (.int .i32 (qR (zS a b))),.p (.bool (zS a b).isSome)]) rfl (by simp[go_sem,zd,leA,leT,leP,e2,qR]) ⟨rfl,rfl⟩
    ·have es:zO a=[4352+(a-44032)/588,4449+(a-44032)/28%21,4519+(a-44032)%28]:=if_neg c0
     have e2:zS a b=none:=by rw[e,if_neg (fun h=>c0 h.2.1)]
     rw[es]
     simp (maxSteps:=1000000) [go_sem,zx]
     exact zg (.tup [.p (.int .i32 (qR (zS a b))),.p (.bool (zS a b).isSome)]) rfl (by simp[go_sem,zd,leA,leT,leP,e2,qR]) ⟨rfl,rfl⟩
theorem zgY [Gi](l:List Row)(x y:Int)(hl:qV l)(hx:zD x)(hy:zD y):CR Tryz.prog 110 [] [.p (zI l),.p (.int .i32 x),.p (.int .i32 y)] [] (is (.tup [.p (.int .i32 (qR ((zS x y).or (xv l x y)))),.p (.bool ((zS x y).or (xv l x y)).isSome)])):=by
 refine zm mixed 11 [] Tryz.func110 rfl (by kernel_rfl) rfl (by simp) (by simp) ?_
 simp (maxSteps:=1000000) [go_sem,Tryz.f110]
 refine⟨⟨rfl,by simp[Tryz.f157]⟩,zc [] (zi8 x y hx hy) (by simp[go_sem]) ⟨by simp[go_sem],by simp[go_sem]⟩ (by simp[go_sem]) ?_⟩
 rintro _ rs ⟨rfl,rfl⟩
 cases hj:zS x y with
 |some z=>
  simp (maxSteps:=1000000) [go_sem,qR]
  exact zg (.tup [.p (.int .i32 z),.p (.bool true)]) rfl (by simp[go_sem,zd,leA,leT,leP]) ⟨rfl,rfl⟩
 |none=>
  simp (maxSteps:=1000000) [go_sem]
  refine⟨⟨rfl,by simp[Tryz.f158]⟩,zc [] (ziF l x y hl hx hy) (by simp[go_sem]) ⟨by simp[go_sem],by simp[go_sem]⟩ (by simp[go_sem]) ?_⟩
  rintro _ rs ⟨rfl,rfl⟩
  simp (maxSteps:=1000000) [go_sem]
  exact zg (.tup [.p (.int .i32 (qR (xv l x y))),.p (.bool (xv l x y).isSome)]) rfl (by simp[go_sem,zd,leA,leT,leP]) ⟨rfl,rfl⟩
def z5(l:List Row):Nat→Int→List Int
 |0,r=>if q8 r then zO r else [r]
 |d+1,r=>if q8 r then zO r else
  match qY l r with
  |none=>[r]
  |some p=>z5 l d p.1++(if p.2=0 then []else z5 l d p.2)
theorem yf(l:List Row):∀d r,(z5 l d r).length≤3*2^d
 |0,r=>by
  unfold z5
  split
  ·unfold zO;split<;>simp
  ·simp
 |d+1,r=>by
  have h3:1≤2^d:=Nat.one_le_two_pow
  unfold z5
  rw[Nat.pow_succ]
  split
  ·unfold zO;split<;>simp<;>omega
  ·split
   ·simp;omega
   ·rename_i p _
    have h1:=yf l d p.1
    have h2:=yf l d p.2
    split
    ·simp;omega
    ·simp;omega
theorem zib [Gi](l:List Row)(hl:qV l):∀(d:Nat) (_:d≤8) (r:Int) (_:zD r),CR Tryz.prog 106 [] [.p (zI l),.p (.int .i32 r),.p (.int .i64 d)] [] (is (.os [6] 1 (zx (z5 l d r)))):=by
 intro d
 induction d with
 |zero=>
  intro hd r hr
  refine zm mixed 11 [] Tryz.func106 rfl (by kernel_rfl) rfl (by simp) (by simp) ?_
  simp (maxSteps:=1000000) [go_sem,Tryz.f106]
  refine⟨⟨rfl,by simp[Tryz.f153]⟩,zc [] (zap r) (by simp[go_sem]) ⟨by simp[go_sem],by simp[go_sem]⟩ (by simp[go_sem]) ?_⟩
  rintro _ rs ⟨rfl,rfl⟩
  cases hs:q8 r with
  |true=>
   have e:z5 l 0 r=zO r:=by unfold z5;rw[if_pos hs]
   rw[e]
   simp (maxSteps:=1000000) [go_sem]
   refine⟨⟨rfl,by simp[Tryz.f154]⟩,zc [] (yg r hs) (by simp[go_sem]) ⟨by simp[go_sem],by simp[go_sem]⟩ (by simp[go_sem]) ?_⟩
   rintro _ rs ⟨rfl,rfl⟩
   simp (maxSteps:=1000000) [go_sem]
   exact zg (.os [6] 1 (zx (zO r))) rfl (by simp[go_sem,zd,leA,leT]) ⟨rfl,rfl⟩
  |false=>
   have e:z5 l 0 r=[r]:=by unfold z5;rw[hs];rfl
   rw[e]
   simp (maxSteps:=1000000) [go_sem]
   refine⟨⟨rfl,by simp[Tryz.f155]⟩,zc [] (Va l r hl hr) (by simp[go_sem]) ⟨by simp[go_sem],by simp[go_sem]⟩ (by simp[go_sem]) ?_⟩
   rintro _ rs ⟨rfl,rfl⟩
   cases qY l r with
   |none=>
    simp (maxSteps:=1000000) [go_sem,kN]
    exact zg (.os [6] 1 (zx [r])) rfl (by simp[go_sem,zd,leA,leT,zx]) ⟨rfl,rfl⟩
   |some p=>
    simp (maxSteps:=1000000) [go_sem,kN]
    exact zg (.os [6] 1 (zx [r])) rfl (by simp[go_sem,zd,leA,leT,zx]) ⟨rfl,rfl⟩
 |succ d ih=>
  intro hd r hr
  have hd0:¬((d:Int)+1=0):=by omega
  have wd:IntKind.i64.wrap ((d:Int)+1-1)=(d:Int):=by rw[wrap64 (by omega) (by omega)];omega
  have wd':IntKind.i64.wrap (d:Int)=(d:Int):=wrap64 (by omega) (by omega)
  have hp3:2^d≤2^8:=Nat.pow_le_pow_right (by omega) (by omega)
  refine zm mixed 11 [] Tryz.func106 rfl (by kernel_rfl) rfl (by simp) (by simp) ?_
  simp (maxSteps:=1000000) [go_sem,Tryz.f106]
  refine⟨⟨rfl,by simp[Tryz.f153]⟩,zc [] (zap r) (by simp[go_sem]) ⟨by simp[go_sem],by simp[go_sem]⟩ (by simp[go_sem]) ?_⟩
  rintro _ rs ⟨rfl,rfl⟩
  cases hs:q8 r with
  |true=>
   have e:z5 l (d+1) r=zO r:=by unfold z5;rw[if_pos hs]
   rw[e]
   simp (maxSteps:=1000000) [go_sem]
   refine⟨⟨rfl,by simp[Tryz.f154]⟩,zc [] (yg r hs) (by simp[go_sem]) ⟨by simp[go_sem],by simp[go_sem]⟩ (by simp[go_sem]) ?_⟩
   rintro _ rs ⟨rfl,rfl⟩
   simp (maxSteps:=1000000) [go_sem]
   exact zg (.os [6] 1 (zx (zO r))) rfl (by simp[go_sem,zd,leA,leT]) ⟨rfl,rfl⟩
  |false=>
   simp (maxSteps:=1000000) [go_sem]
   refine⟨⟨rfl,by simp[Tryz.f155]⟩,zc [] (Va l r hl hr) (by simp[go_sem]) ⟨by simp[go_sem],by simp[go_sem]⟩ (by simp[go_sem]) ?_⟩
   rintro _ rs ⟨rfl,rfl⟩
   cases hp:qY l r with
   |none=>
    have e:z5 l (d+1) r=[r]:=by unfold z5;rw[hs,hp];rfl
    rw[e]
    simp (maxSteps:=1000000) [go_sem,kN]
    exact zg (.os [6] 1 (zx [r])) rfl (by simp[go_sem,zd,leA,leT,zx]) ⟨rfl,rfl⟩
   |some p=>
    obtain⟨pa,pb⟩:=p
    have hpo:=WU hl hp
    simp only at hpo
    have hra:zD pa:=⟨by omega,by omega⟩
    have hrb:zD pb:=⟨by omega,by omega⟩
    have e:z5 l (d+1) r=z5 l d pa++(if pb=0 then []else z5 l d pb):=by rw[z5,hs,hp];rfl
    have l1:=yf l d pa
    have l2:=yf l d pb
    rw[e]
    simp (maxSteps:=1000000) [go_sem,kN,hd0,wd']
    refine⟨⟨rfl,by simp[Tryz.f106]⟩,zc [] (ih (by omega) pa hra) (by simp[go_sem]) ⟨by simp[go_sem],by simp[go_sem]⟩ (by simp[go_sem]) ?_⟩
    rintro _ rs ⟨rfl,rfl⟩
    by_cases c:pb=0
    ·simp (maxSteps:=1000000) [go_sem,c]
     exact zg (.os [6] 1 (zx (z5 l d pa))) rfl (by simp[go_sem,zd,leA,leT]) ⟨rfl,by simp⟩
    ·simp (maxSteps:=1000000) [go_sem,c,wd']
     refine⟨⟨rfl,by simp[Tryz.f106]⟩,zc [] (ih (by omega) pb hrb) (by simp[go_sem]) ⟨by simp[go_sem],by simp[go_sem]⟩ (by simp[go_sem]) ?_⟩
     rintro _ rs ⟨rfl,rfl⟩
     simp (maxSteps:=1000000) [go_sem]
     exact⟨by simp[zx];omega,zg (.os [6] 1 (zx (z5 l d pa++z5 l d pb))) rfl (by simp[go_sem,zd,leA,leT,zx]) ⟨rfl,rfl⟩⟩
end Go.Proofs.YthbmelihnabkaaaGreat
end
