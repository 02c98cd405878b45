/- A part of the proof of this seat's statements, by an abstract machine: what each operation does to values, and what the law's functions compute. Conditions: as each law says. -/
import Derived.Test.YthbmelihnabkaaaGreatW35
import Derived.Test.YthbmelihnabkaaaGreatW18
import Derived.Test.YthbmelihnabkaaaGreatW31
section
namespace Go.Proofs.YthbmelihnabkaaaGreat
open Go.AM
set_option maxHeartbeats 4000000
set_option maxRecDepth 10000
def y9(rows:List Row)(p:Int)(pre:List Int)(x:Int):Bool:=
 if zL rows p=1∧zL rows x=2 then false
 else if QZ (zL rows p) || QZ (zL rows x)then true
 else if QD (zL rows p) (zL rows x)then false
 else if zL rows x=4∨zL rows x=5∨zL rows x=8∨zL rows p=7 then false
 else if We rows (p::pre) x then false
 else if u9 rows p pre x then false
 else !ue rows (p::pre) x
theorem V8 [Gi] {rows:List Row}(hw:qX rows)(l:List Int)(n m:Nat)(hm:n=m+1)(h:n<l.length)(hl:l.length<2^31)(hr:∀x∈l,zu x):
  CR Tryz.prog 75 [] [.p (zJ rows),.p (zh l),.p (.int .i64 n)] [] (is (.p (.bool (y9 rows l[m] (l.take m).reverse l[n])))):=by
 refine zS [3] mixed 9 [] Tryz.func75 rfl (by kernel_rfl) rfl (by simp) (by simp) ?_
 have cj:=za2 hw l n h hl hr
 have pc:=zcE hw l n m hm h hl hr
 have fl:=zfJ hw l n h hl hr
 have g:m<l.length:=by omega
 have tr:(l.take n).reverse=l[m]::(l.take m).reverse:=by subst hm;exact uL g
 rw[tr]at cj fl
 have em:=Qv h
 have em2:=Qv g
 have hx:=hr _ (List.getElem_mem h)
 have hp:=hr _ (List.getElem_mem g)
 generalize l[n]=x at*
 generalize l[m]=p at*
 have h':(n:Int)<l.length:=by omega
 have g':(m:Int)<l.length:=by omega
 have n0:¬((n:Int)=0):=by omega
 have n0':¬(n=0):=by omega
 have w1:IntKind.i64.wrap ((n:Int)-1)=(m:Int):=by rw[wrap64 (by omega) (by omega)];omega
 simp (maxSteps:=1000000) [go_sem,Tryz.f75,zh,zC,n0',w1,g',em2]
 refine QO (.p (.int .i64 (zL rows p))) rfl rfl (fun _=>jP 125 (wz hw hp) rfl ⟨rfl,by simp[Tryz.f125]⟩ ⟨by simp[go_sem],by simp[go_sem]⟩) ?_
 simp (maxSteps:=1000000) [go_sem,zC,h',em]
 refine QO (.p (.int .i64 (zL rows x))) rfl rfl (fun _=>jP 125 (wz hw hx) rfl ⟨rfl,by simp[Tryz.f125]⟩ ⟨by simp[go_sem],by simp[go_sem]⟩) ?_
 refine⟨by simp[go_sem],?_⟩
 have c1:=zf0 (zL rows p)
 have c2:=zf0 (zL rows x)
 have c3:=zhb (zL rows p) (zL rows x)
 unfold y9
 generalize We rows (p::(l.take m).reverse) x=cc at cj⊢
 generalize u9 rows p (l.take m).reverse x=pp at pc⊢
 generalize ue rows (p::(l.take m).reverse) x=ff at fl⊢
 generalize zL rows p=a at*
 generalize zL rows x=b at*
 generalize QD a b=qh at c3⊢
 generalize QZ a=qa at c1⊢
 generalize QZ b=qb at c2⊢
 rcases Classical.em (a=1)with t1|t1<;>rcases Classical.em (b=2)with t2|t2
 ·have a1:(a=1)=True:=eq_true t1
  have b2:(b=2)=True:=eq_true t2
  simp (maxSteps:=1000000) [go_sem,a1,b2]
  exact zg (.p (.bool false)) rfl (by simp[go_sem,zd,leA,leT]) ⟨rfl,rfl⟩
 ·have a1:(a=1)=True:=eq_true t1
  have b2:(b=2)=False:=eq_false t2
  simp (maxSteps:=1000000) [go_sem,a1,b2]
  refine⟨⟨rfl,by simp[Tryz.f126]⟩,zc [] c1 (by simp[go_sem]) ⟨by simp[go_sem],by simp[go_sem]⟩ (by simp[go_sem]) ?_⟩
  rintro _ rs ⟨rfl,rfl⟩
  cases qa
  ·simp (maxSteps:=1000000) [go_sem]
   refine⟨⟨rfl,by simp[Tryz.f126]⟩,zc [] c2 (by simp[go_sem]) ⟨by simp[go_sem],by simp[go_sem]⟩ (by simp[go_sem]) ?_⟩
   rintro _ rs ⟨rfl,rfl⟩
   cases qb
   ·simp (maxSteps:=1000000) [go_sem]
    refine⟨⟨rfl,by simp[Tryz.f127]⟩,zc [] c3 (by simp[go_sem]) ⟨by simp[go_sem],by simp[go_sem]⟩ (by simp[go_sem]) ?_⟩
    rintro _ rs ⟨rfl,rfl⟩
    cases qh
    ·skip
     rcases Classical.em (b=4)with t|t
     ·have b4:(b=4)=True:=eq_true t
      simp (maxSteps:=1000000) [go_sem,b4]
      exact zg (.p (.bool (false))) rfl (by simp[go_sem,zd,leA,leT]) ⟨rfl,by simp⟩
     ·have b4:(b=4)=False:=eq_false t
      rcases Classical.em (b=5)with t|t
      ·have b5:(b=5)=True:=eq_true t
       simp (maxSteps:=1000000) [go_sem,b4,b5]
       exact zg (.p (.bool (false))) rfl (by simp[go_sem,zd,leA,leT]) ⟨rfl,by simp⟩
      ·have b5:(b=5)=False:=eq_false t
       rcases Classical.em (b=8)with t|t
       ·have b8:(b=8)=True:=eq_true t
        simp (maxSteps:=1000000) [go_sem,b4,b5,b8]
        exact zg (.p (.bool (false))) rfl (by simp[go_sem,zd,leA,leT]) ⟨rfl,by simp⟩
       ·have b8:(b=8)=False:=eq_false t
        rcases Classical.em (a=7)with t|t
        ·have a7:(a=7)=True:=eq_true t
         simp (maxSteps:=1000000) [go_sem,b4,b5,b8,a7]
         exact zg (.p (.bool (false))) rfl (by simp[go_sem,zd,leA,leT]) ⟨rfl,by simp⟩
        ·have a7:(a=7)=False:=eq_false t
         simp (maxSteps:=1000000) [go_sem,b4,b5,b8,a7]
         refine⟨⟨rfl,by simp[Tryz.f128]⟩,zc [] cj (by simp[go_sem]) ⟨by simp[go_sem],by simp[go_sem,zh]⟩ (by simp[go_sem]) ?_⟩
         rintro _ rs ⟨rfl,rfl⟩
         cases cc
         ·simp (maxSteps:=1000000) [go_sem]
          refine⟨⟨rfl,by simp[Tryz.f129]⟩,zc [] pc (by simp[go_sem]) ⟨by simp[go_sem],by simp[go_sem,zh]⟩ (by simp[go_sem]) ?_⟩
          rintro _ rs ⟨rfl,rfl⟩
          cases pp
          ·simp (maxSteps:=1000000) [go_sem]
           refine⟨⟨rfl,by simp[Tryz.f130]⟩,zc [] fl (by simp[go_sem]) ⟨by simp[go_sem],by simp[go_sem,zh]⟩ (by simp[go_sem]) ?_⟩
           rintro _ rs ⟨rfl,rfl⟩
           simp (maxSteps:=1000000) [go_sem]
           exact zg (.p (.bool (!ff))) rfl (by simp[go_sem,zd,leA,leT]) ⟨rfl,by simp⟩
          ·simp (maxSteps:=1000000) [go_sem]
           exact zg (.p (.bool (false))) rfl (by simp[go_sem,zd,leA,leT]) ⟨rfl,by simp⟩
         ·simp (maxSteps:=1000000) [go_sem]
          exact zg (.p (.bool (false))) rfl (by simp[go_sem,zd,leA,leT]) ⟨rfl,by simp⟩
    ·simp (maxSteps:=1000000) [go_sem]
     exact zg (.p (.bool (false))) rfl (by simp[go_sem,zd,leA,leT]) ⟨rfl,by simp⟩
   ·simp (maxSteps:=1000000) [go_sem]
    exact zg (.p (.bool (true))) rfl (by simp[go_sem,zd,leA,leT]) ⟨rfl,by simp⟩
  ·simp (maxSteps:=1000000) [go_sem]
   exact zg (.p (.bool (true))) rfl (by simp[go_sem,zd,leA,leT]) ⟨rfl,by simp⟩
 ·have a1:(a=1)=False:=eq_false t1
  have b2:(b=2)=True:=eq_true t2
  simp (maxSteps:=1000000) [go_sem,a1,b2]
  refine⟨⟨rfl,by simp[Tryz.f126]⟩,zc [] c1 (by simp[go_sem]) ⟨by simp[go_sem],by simp[go_sem]⟩ (by simp[go_sem]) ?_⟩
  rintro _ rs ⟨rfl,rfl⟩
  cases qa
  ·simp (maxSteps:=1000000) [go_sem]
   refine⟨⟨rfl,by simp[Tryz.f126]⟩,zc [] c2 (by simp[go_sem]) ⟨by simp[go_sem],by simp[go_sem]⟩ (by simp[go_sem]) ?_⟩
   rintro _ rs ⟨rfl,rfl⟩
   cases qb
   ·simp (maxSteps:=1000000) [go_sem]
    refine⟨⟨rfl,by simp[Tryz.f127]⟩,zc [] c3 (by simp[go_sem]) ⟨by simp[go_sem],by simp[go_sem]⟩ (by simp[go_sem]) ?_⟩
    rintro _ rs ⟨rfl,rfl⟩
    cases qh
    ·skip
     rcases Classical.em (b=4)with t|t
     ·have b4:(b=4)=True:=eq_true t
      simp (maxSteps:=1000000) [go_sem,b4]
      exact zg (.p (.bool (false))) rfl (by simp[go_sem,zd,leA,leT]) ⟨rfl,by simp⟩
     ·have b4:(b=4)=False:=eq_false t
      rcases Classical.em (b=5)with t|t
      ·have b5:(b=5)=True:=eq_true t
       simp (maxSteps:=1000000) [go_sem,b4,b5]
       exact zg (.p (.bool (false))) rfl (by simp[go_sem,zd,leA,leT]) ⟨rfl,by simp⟩
      ·have b5:(b=5)=False:=eq_false t
       rcases Classical.em (b=8)with t|t
       ·have b8:(b=8)=True:=eq_true t
        simp (maxSteps:=1000000) [go_sem,b4,b5,b8]
        exact zg (.p (.bool (false))) rfl (by simp[go_sem,zd,leA,leT]) ⟨rfl,by simp⟩
       ·have b8:(b=8)=False:=eq_false t
        rcases Classical.em (a=7)with t|t
        ·have a7:(a=7)=True:=eq_true t
         simp (maxSteps:=1000000) [go_sem,b4,b5,b8,a7]
         exact zg (.p (.bool (false))) rfl (by simp[go_sem,zd,leA,leT]) ⟨rfl,by simp⟩
        ·have a7:(a=7)=False:=eq_false t
         simp (maxSteps:=1000000) [go_sem,b4,b5,b8,a7]
         refine⟨⟨rfl,by simp[Tryz.f128]⟩,zc [] cj (by simp[go_sem]) ⟨by simp[go_sem],by simp[go_sem,zh]⟩ (by simp[go_sem]) ?_⟩
         rintro _ rs ⟨rfl,rfl⟩
         cases cc
         ·simp (maxSteps:=1000000) [go_sem]
          refine⟨⟨rfl,by simp[Tryz.f129]⟩,zc [] pc (by simp[go_sem]) ⟨by simp[go_sem],by simp[go_sem,zh]⟩ (by simp[go_sem]) ?_⟩
          rintro _ rs ⟨rfl,rfl⟩
          cases pp
          ·simp (maxSteps:=1000000) [go_sem]
           refine⟨⟨rfl,by simp[Tryz.f130]⟩,zc [] fl (by simp[go_sem]) ⟨by simp[go_sem],by simp[go_sem,zh]⟩ (by simp[go_sem]) ?_⟩
           rintro _ rs ⟨rfl,rfl⟩
           simp (maxSteps:=1000000) [go_sem]
           exact zg (.p (.bool (!ff))) rfl (by simp[go_sem,zd,leA,leT]) ⟨rfl,by simp⟩
          ·simp (maxSteps:=1000000) [go_sem]
           exact zg (.p (.bool (false))) rfl (by simp[go_sem,zd,leA,leT]) ⟨rfl,by simp⟩
         ·simp (maxSteps:=1000000) [go_sem]
          exact zg (.p (.bool (false))) rfl (by simp[go_sem,zd,leA,leT]) ⟨rfl,by simp⟩
    ·simp (maxSteps:=1000000) [go_sem]
     exact zg (.p (.bool (false))) rfl (by simp[go_sem,zd,leA,leT]) ⟨rfl,by simp⟩
   ·simp (maxSteps:=1000000) [go_sem]
    exact zg (.p (.bool (true))) rfl (by simp[go_sem,zd,leA,leT]) ⟨rfl,by simp⟩
  ·simp (maxSteps:=1000000) [go_sem]
   exact zg (.p (.bool (true))) rfl (by simp[go_sem,zd,leA,leT]) ⟨rfl,by simp⟩
 ·have a1:(a=1)=False:=eq_false t1
  have b2:(b=2)=False:=eq_false t2
  simp (maxSteps:=1000000) [go_sem,a1,b2]
  refine⟨⟨rfl,by simp[Tryz.f126]⟩,zc [] c1 (by simp[go_sem]) ⟨by simp[go_sem],by simp[go_sem]⟩ (by simp[go_sem]) ?_⟩
  rintro _ rs ⟨rfl,rfl⟩
  cases qa
  ·simp (maxSteps:=1000000) [go_sem]
   refine⟨⟨rfl,by simp[Tryz.f126]⟩,zc [] c2 (by simp[go_sem]) ⟨by simp[go_sem],by simp[go_sem]⟩ (by simp[go_sem]) ?_⟩
   rintro _ rs ⟨rfl,rfl⟩
   cases qb
   ·simp (maxSteps:=1000000) [go_sem]
    refine⟨⟨rfl,by simp[Tryz.f127]⟩,zc [] c3 (by simp[go_sem]) ⟨by simp[go_sem],by simp[go_sem]⟩ (by simp[go_sem]) ?_⟩
    rintro _ rs ⟨rfl,rfl⟩
    cases qh
    ·skip
     rcases Classical.em (b=4)with t|t
     ·have b4:(b=4)=True:=eq_true t
      simp (maxSteps:=1000000) [go_sem,b4]
      exact zg (.p (.bool (false))) rfl (by simp[go_sem,zd,leA,leT]) ⟨rfl,by simp⟩
     ·have b4:(b=4)=False:=eq_false t
      rcases Classical.em (b=5)with t|t
      ·have b5:(b=5)=True:=eq_true t
       simp (maxSteps:=1000000) [go_sem,b4,b5]
       exact zg (.p (.bool (false))) rfl (by simp[go_sem,zd,leA,leT]) ⟨rfl,by simp⟩
      ·have b5:(b=5)=False:=eq_false t
       rcases Classical.em (b=8)with t|t
       ·have b8:(b=8)=True:=eq_true t
        simp (maxSteps:=1000000) [go_sem,b4,b5,b8]
        exact zg (.p (.bool (false))) rfl (by simp[go_sem,zd,leA,leT]) ⟨rfl,by simp⟩
       ·have b8:(b=8)=False:=eq_false t
        rcases Classical.em (a=7)with t|t
        ·have a7:(a=7)=True:=eq_true t
         simp (maxSteps:=1000000) [go_sem,b4,b5,b8,a7]
         exact zg (.p (.bool (false))) rfl (by simp[go_sem,zd,leA,leT]) ⟨rfl,by simp⟩
        ·have a7:(a=7)=False:=eq_false t
         simp (maxSteps:=1000000) [go_sem,b4,b5,b8,a7]
         refine⟨⟨rfl,by simp[Tryz.f128]⟩,zc [] cj (by simp[go_sem]) ⟨by simp[go_sem],by simp[go_sem,zh]⟩ (by simp[go_sem]) ?_⟩
         rintro _ rs ⟨rfl,rfl⟩
         cases cc
         ·simp (maxSteps:=1000000) [go_sem]
          refine⟨⟨rfl,by simp[Tryz.f129]⟩,zc [] pc (by simp[go_sem]) ⟨by simp[go_sem],by simp[go_sem,zh]⟩ (by simp[go_sem]) ?_⟩
          rintro _ rs ⟨rfl,rfl⟩
          cases pp
          ·simp (maxSteps:=1000000) [go_sem]
           refine⟨⟨rfl,by simp[Tryz.f130]⟩,zc [] fl (by simp[go_sem]) ⟨by simp[go_sem],by simp[go_sem,zh]⟩ (by simp[go_sem]) ?_⟩
           rintro _ rs ⟨rfl,rfl⟩
           simp (maxSteps:=1000000) [go_sem]
           exact zg (.p (.bool (!ff))) rfl (by simp[go_sem,zd,leA,leT]) ⟨rfl,by simp⟩
          ·simp (maxSteps:=1000000) [go_sem]
           exact zg (.p (.bool (false))) rfl (by simp[go_sem,zd,leA,leT]) ⟨rfl,by simp⟩
         ·simp (maxSteps:=1000000) [go_sem]
          exact zg (.p (.bool (false))) rfl (by simp[go_sem,zd,leA,leT]) ⟨rfl,by simp⟩
    ·simp (maxSteps:=1000000) [go_sem]
     exact zg (.p (.bool (false))) rfl (by simp[go_sem,zd,leA,leT]) ⟨rfl,by simp⟩
   ·simp (maxSteps:=1000000) [go_sem]
    exact zg (.p (.bool (true))) rfl (by simp[go_sem,zd,leA,leT]) ⟨rfl,by simp⟩
  ·simp (maxSteps:=1000000) [go_sem]
   exact zg (.p (.bool (true))) rfl (by simp[go_sem,zd,leA,leT]) ⟨rfl,by simp⟩
end Go.Proofs.YthbmelihnabkaaaGreat
end
section
namespace Go.Proofs.YthbmelihnabkaaaGreat
open Go.AM
set_option maxHeartbeats 4000000
set_option maxRecDepth 10000
def jd(rows:List Row):Int→List Int→List Int→Nat
 |_,_,[]=>0
 |p,pre,x::xs=>if y9 rows p pre x then 0 else jd rows x (p::pre) xs+1
theorem KS(rows:List Row):∀(l pre:List Int) (p:Int),jd rows p pre l≤l.length
 | [],_,_=>by simp[jd]
 |x::l,pre,p=>by
  unfold jd
  split
  ·omega
  ·have:=KS rows l (p::pre) x
   simp only[List.length_cons];omega
theorem ziY [Gi] {rows:List Row}(hw:qX rows)(l:List Int)(a:Nat)(h:a<l.length)(hl:l.length<2^31)(hr:∀x∈l,zu x):
  CR Tryz.prog 77 [] [.p (zJ rows),.p (zh l),.p (.int .i64 a)] [] (is (.p (.int .i64 ((a+1+jd rows l[a] (l.take a).reverse (l.drop (a+1)):Nat):Int)))):=by
 refine zn mixed 8 [] Tryz.func77 rfl (by kernel_rfl) rfl (by simp) (by simp) ?_
 obtain⟨N,hN⟩:∃N,N=a+1+jd rows l[a] (l.take a).reverse (l.drop (a+1)):=⟨_,rfl⟩
 rw[←hN]
 have w1:IntKind.i64.wrap ((a:Int)+1)=((a+1:Nat):Int):=zN (by omega)
 simp (maxSteps:=1000000) [go_sem,Tryz.f77,zh,w1]
 refine zm (fun k:Nat=>a+1+k≤l.length∧∀h:a+k<l.length,N=a+1+k+jd rows l[a+k] (l.take (a+k)).reverse (l.drop (a+1+k))) (fun k=>[(7,.p (.int .i64 ((a+1+k:Nat):Int)))]) (fun _=>[]) (fun k=>l.length-k) 0 ⟨by omega,fun _=>hN⟩ (by simp[go_sem,LeS,leV,leR,leA]) (fun k hs=>?_)
 obtain⟨h1,h2⟩:=hs
 have h3:=h2 (by omega)
 obtain⟨i,hi⟩:∃i,i=a+1+k:=⟨_,rfl⟩
 have hi':a+k<l.length:=by omega
 rw[←hi]at h1 h3⊢
 by_cases hil:i<l.length
 ·have bg:=V8 hw l i (a+k) (by omega) hil hl hr
  rw[List.drop_eq_getElem_cons hil,jd]at h3
  have tr:=uL hi'
  rw[←tr]at h3
  have hil':(i:Int)<l.length:=by omega
  have w2:IntKind.i64.wrap ((i:Int)+1)=((a+1+(k+1):Nat):Int):=by rw[zN (by omega)];omega
  generalize y9 rows l[a+k] (l.take (a+k)).reverse l[i]=q at bg h3
  simp (maxSteps:=1000000) [go_sem,zC,hil']
  refine⟨⟨rfl,by simp[Tryz.f75]⟩,zc [] bg (by simp[go_sem]) ⟨by simp[go_sem],by simp[go_sem,zh]⟩ (by simp[go_sem]) ?_⟩
  rintro _ rs ⟨rfl,rfl⟩
  cases q with
  |true=>
   obtain rfl:N=i:=by simpa using h3
   simp (maxSteps:=1000000) [go_sem]
   exact zg (.p (.int .i64 (N:Nat))) rfl (by simp[go_sem,zd,leA,leT]) ⟨rfl,rfl⟩
  |false=>
   simp (maxSteps:=1000000) [go_sem,w2]
   have e1:a+(k+1)=i:=by omega
   have e2:a+1+(k+1)=i+1:=by omega
   have e3:a+k+1=i:=by omega
   exact zf (k+1) ⟨by omega,fun _=>by
    simp only[e1,e2]
    rw[e3]at h3
    simp only[Bool.false_eq_true,if_false]at h3
    omega⟩ (by simp[go_sem,LeS,leV,leR,leA]) (by omega)
 ·have hil':¬(i:Int)<l.length:=by omega
  have e:N=l.length:=by rw[h3,List.drop_eq_nil_of_le (by omega)];simp only[jd];omega
  rw[e]
  simp (maxSteps:=1000000) [go_sem,zC,hil']
  exact zg (.p (.int .i64 (l.length:Nat))) rfl (by simp[go_sem,zd,leA,leT]) ⟨rfl,rfl⟩
def ZY(rows:List Row):Nat→List Int→List Int→List (List Int)
 |0,_,_=>[]
 |_,_,[]=>[]
 |n+1,pre,x::xs=>(x::xs.take (jd rows x pre xs))::ZY rows n ((xs.take (jd rows x pre xs)).reverse++x::pre) (xs.drop (jd rows x pre xs))
def qn(rows:List Row)(l:List Int):List (List Int):=ZY rows l.length [] l
end Go.Proofs.YthbmelihnabkaaaGreat
end
section
namespace Go.Proofs.YthbmelihnabkaaaGreat
open Go.AM
set_option maxHeartbeats 4000000
set_option maxRecDepth 10000
theorem xg [Gi](a:List Int)(ha:a.length<2^31):CR Tryz.prog 15 [] [.p (zh a),.p (zh a)] [] (is (.p (.bool true))):=by
 refine zn mixed 6 [] Tryz.func15 rfl (by kernel_rfl) rfl (by simp) (by simp) ?_
 simp (maxSteps:=1000000) [go_sem,Tryz.f15,zh,zC]
 refine zm (fun k:Nat=>k≤a.length) (fun k=>[(5,.p (.int .i64 (k:Nat)))]) (fun _=>[]) (fun k=>a.length-k) 0 (by omega) (by simp[go_sem,LeS,leV,leR,leA]) (fun k hk=>?_)
 by_cases h:k<a.length
 ·have em:=Qv h
  have h':(k:Int)<a.length:=by omega
  have w1:IntKind.i64.wrap ((k:Int)+1)=((k+1:Nat):Int):=zN (by omega)
  generalize a[k]=x at em
  simp (maxSteps:=1000000) [go_sem,zC,h',em,w1]
  exact zf (k+1) (by omega) (by simp[go_sem,LeS,leV,leR,leA]) (by omega)
 ·have h':¬(k:Int)<a.length:=by omega
  simp (maxSteps:=1000000) [go_sem,zC,h']
  exact zg (.p (.bool true)) rfl (by simp[go_sem,zd,leA]) ⟨rfl,rfl⟩
theorem Yq [Gi](a b c:List Int)(hn:a.length+b.length+c.length<2^31):CR Tryz.prog 139 [] [.p (zh a),.p (zh b),.p (zh c)] [] (is (.p (zh (a++(b++c))))):=by
 refine zn mixed 8 [] Tryz.func139 rfl (by kernel_rfl) rfl (by simp) (by simp) ?_
 simp (maxSteps:=1000000) [go_sem,Tryz.f139,zh,zC]
 refine⟨by omega,by omega,by omega,?_⟩
 exact zg (.p (zh (a++(b++c)))) rfl (by simp[go_sem,zd,leA,leT,zh,zea]) ⟨rfl,rfl⟩
end Go.Proofs.YthbmelihnabkaaaGreat
end
section
namespace Go.Proofs.YthbmelihnabkaaaGreat
open Go.AM
set_option maxHeartbeats 4000000
set_option maxRecDepth 10000
theorem zbZ [Gi](r:Int):CR Tryz.prog 153 [] [.p (.int .i32 r)] [] (is (.p (.bool (Zc r)))):=by
 refine zn mixed 3 [] Tryz.func153 rfl (by kernel_rfl) rfl (by simp) (by simp) ?_
 by_cases c1:44032≤r
 ·simp (maxSteps:=1000000) [go_sem,Tryz.f153,c1]
  refine zg (.p (.bool (Zc r))) rfl ?_ ⟨rfl,rfl⟩
  have:decide (r≤55203)=decide (r<55204):=by congr 1;simp;omega
  simp[go_sem,zd,leA,leT,Zc,c1,this]
 ·simp (maxSteps:=1000000) [go_sem,Tryz.f153,c1]
  exact zg (.p (.bool (Zc r))) rfl (by simp[go_sem,zd,leA,leT,Zc,c1]) ⟨rfl,rfl⟩
theorem yM [Gi](r:Int)(hs:Zc r=true):CR Tryz.prog 154 [] [.p (.int .i32 r)] [] (is (.os [2] 1 (zr (zQ r)))):=by
 refine zn mixed 5 [] Tryz.func154 rfl (by kernel_rfl) rfl (by simp) (by simp) ?_
 simp (maxSteps:=1000000) [go_sem,Tryz.f154]
 refine⟨⟨rfl,by simp[Tryz.f153]⟩,zc [] (zbZ r) (by simp[go_sem]) ⟨by simp[go_sem],by simp[go_sem]⟩ (by simp[go_sem]) ?_⟩
 rintro _ rs ⟨rfl,rfl⟩
 have hs':44032≤r∧r<55204:=by simpa[Zc]using hs
 have w0:IntKind.i64.wrap r=r:=wrap64 (by omega) (by omega)
 have w1:IntKind.i64.wrap (r-44032)=r-44032:=wrap64 (by omega) (by omega)
 have d1:(r-44032).tdiv 588=(r-44032)/588:=Int.tdiv_eq_ediv_of_nonneg (by omega)
 have d2:(r-44032).tdiv 28=(r-44032)/28:=Int.tdiv_eq_ediv_of_nonneg (by omega)
 have d3:(r-44032).tmod 28=(r-44032)%28:=Int.tmod_eq_emod_of_nonneg (by omega)
 have d4:((r-44032)/28).tmod 21=(r-44032)/28%21:=Int.tmod_eq_emod_of_nonneg (by omega)
 have w2:IntKind.i64.wrap ((r-44032)/588)=(r-44032)/588:=wrap64 (by omega) (by omega)
 have w3:IntKind.i64.wrap ((r-44032)/28)=(r-44032)/28:=wrap64 (by omega) (by omega)
 have w4:IntKind.i64.wrap ((r-44032)%28)=(r-44032)%28:=wrap64 (by omega) (by omega)
 have w5:IntKind.i64.wrap ((r-44032)/28%21)=(r-44032)/28%21:=wrap64 (by omega) (by omega)
 have w6:IntKind.i64.wrap (4352+(r-44032)/588)=4352+(r-44032)/588:=wrap64 (by omega) (by omega)
 have w7:IntKind.i64.wrap (4449+(r-44032)/28%21)=4449+(r-44032)/28%21:=wrap64 (by omega) (by omega)
 have w8:IntKind.i64.wrap (4519+(r-44032)%28)=4519+(r-44032)%28:=wrap64 (by omega) (by omega)
 have u6:IntKind.i32.wrap (4352+(r-44032)/588)=4352+(r-44032)/588:=ye (by omega)
 have u7:IntKind.i32.wrap (4449+(r-44032)/28%21)=4449+(r-44032)/28%21:=ye (by omega)
 have u8:IntKind.i32.wrap (4519+(r-44032)%28)=4519+(r-44032)%28:=ye (by omega)
 simp (maxSteps:=1000000) [go_sem,hs,w0,w1,d1,d2,d3,d4,w2,w3,w6,w7,u6,u7]
 refine⟨rfl,?_⟩
 refine xJ (fun hc=>?_) (fun hc=>?_)
 ·have e:zQ r=[4352+(r-44032)/588,4449+(r-44032)/28%21,4519+(r-44032)%28]:=if_neg (by omega)
  rw[e]
  simp (maxSteps:=1000000) [go_sem,d3,w8,u8]
  exact zg (.os [2] 1 (zr [4352+(r-44032)/588,4449+(r-44032)/28%21,4519+(r-44032)%28])) rfl (by simp[go_sem,zd,leA,leT,zr]) ⟨rfl,rfl⟩
 ·have e:zQ r=[4352+(r-44032)/588,4449+(r-44032)/28%21]:=if_pos (by omega)
  rw[e]
  simp (maxSteps:=1000000) [go_sem]
  exact zg (.os [2] 1 (zr [4352+(r-44032)/588,4449+(r-44032)/28%21])) rfl (by simp[go_sem,zd,leA,leT,zr]) ⟨rfl,rfl⟩
theorem uQ [Gi](r:Int)(hs:Zc r=false):CR Tryz.prog 154 [] [.p (.int .i32 r)] [] (is (.os [2] 1 [])):=by
 refine zn mixed 5 [] Tryz.func154 rfl (by kernel_rfl) rfl (by simp) (by simp) ?_
 simp (maxSteps:=1000000) [go_sem,Tryz.f154]
 refine⟨⟨rfl,by simp[Tryz.f153]⟩,zc [] (zbZ r) (by simp[go_sem]) ⟨by simp[go_sem],by simp[go_sem]⟩ (by simp[go_sem]) ?_⟩
 rintro _ rs ⟨rfl,rfl⟩
 simp (maxSteps:=1000000) [go_sem,hs]
 exact zg (.os [2] 1 []) rfl (by simp[go_sem,zd,leA,leT]) ⟨rfl,rfl⟩
def zT(a b:Int):Option Int:=
 if 4352≤a∧a≤4370∧4449≤b∧b≤4469 then some (44032+(a-4352)*588+(b-4449)*28)
 else if Zc a=true∧(a-44032)%28=0∧4520≤b∧b≤4546 then some (a+(b-4519))else none
theorem zjD [Gi](a b:Int)(ha:zu a)(hb:zu b):CR Tryz.prog 157 [] [.p (.int .i32 a),.p (.int .i32 b)] [] (is (.tup [.p (.int .i32 (qY (zT a b))),.p (.bool (zT a b).isSome)])):=by
 refine zn mixed 7 [] Tryz.func157 rfl (by kernel_rfl) rfl (by simp) (by simp) ?_
 have wa:=uB ha
 have wb:=uB hb
 by_cases h:4352≤a∧a≤4370∧4449≤b∧b≤4469
 ·have e:zT a b=some (44032+(a-4352)*588+(b-4449)*28):=if_pos h
  obtain⟨h1,h2,h3,h4⟩:=h
  have w1:IntKind.i64.wrap (a-4352)=a-4352:=wrap64 (by omega) (by omega)
  have w2:IntKind.i64.wrap ((a-4352)*588)=(a-4352)*588:=wrap64 (by omega) (by omega)
  have w3:IntKind.i64.wrap (44032+(a-4352)*588)=44032+(a-4352)*588:=wrap64 (by omega) (by omega)
  have w4:IntKind.i64.wrap (b-4449)=b-4449:=wrap64 (by omega) (by omega)
  have w5:IntKind.i64.wrap ((b-4449)*28)=(b-4449)*28:=wrap64 (by omega) (by omega)
  have w6:IntKind.i64.wrap (44032+(a-4352)*588+(b-4449)*28)=44032+(a-4352)*588+(b-4449)*28:=wrap64 (by omega) (by omega)
  have w7:IntKind.i32.wrap (44032+(a-4352)*588+(b-4449)*28)=44032+(a-4352)*588+(b-4449)*28:=ye (by omega)
  simp (maxSteps:=1000000) [go_sem,Tryz.f157,h1,h2,h3,h4,wa,wb,w1,w2,w3,w4,w5,w6,w7]
  exact zg (.tup [.p (.int .i32 (qY (zT a b))),.p (.bool (zT a b).isSome)]) rfl (by simp[go_sem,zd,leA,leT,leP,e,qY]) ⟨rfl,rfl⟩
 ·have e:zT a b=if Zc a=true∧(a-44032)%28=0∧4520≤b∧b≤4546 then some (a+(b-4519))else none:=if_neg h
  rcases(show ¬4352≤a∨(4352≤a∧¬a≤4370)∨(4352≤a∧a≤4370∧¬4449≤b)∨(4352≤a∧a≤4370∧4449≤b∧¬b≤4469) by omega)with x1|⟨x1,x2⟩|⟨x1,x2,x3⟩|⟨x1,x2,x3,x4⟩
  ·simp (maxSteps:=1000000) [go_sem,Tryz.f157,x1]
   cases hs:Zc a with
   |false=>
    have e2:zT a b=none:=by rw[e,hs];simp
    refine⟨⟨rfl,by simp[Tryz.f154]⟩,zc [] (uQ a hs) (by simp[go_sem]) ⟨by simp[go_sem],by simp[go_sem]⟩ (by simp[go_sem]) ?_⟩
    rintro _ rs ⟨rfl,rfl⟩
    simp (maxSteps:=1000000) [go_sem]
    exact zg (.tup [.p (.int .i32 (qY (zT a b))),.p (.bool (zT a b).isSome)]) rfl (by simp[go_sem,zd,leA,leT,leP,e2,qY]) ⟨rfl,rfl⟩
   |true=>
    refine⟨⟨rfl,by simp[Tryz.f154]⟩,zc [] (yM a hs) (by simp[go_sem]) ⟨by simp[go_sem],by simp[go_sem]⟩ (by simp[go_sem]) ?_⟩
    rintro _ rs ⟨rfl,rfl⟩
    by_cases c0:(a-44032)%28=0
    ·have es:zQ a=[4352+(a-44032)/588,4449+(a-44032)/28%21]:=if_pos c0
     rw[es]
     by_cases c1:4520≤b
     ·by_cases c2:b≤4546
      ·have e2:zT a b=some (a+(b-4519)):=by rw[e,if_pos ⟨hs,c0,c1,c2⟩]
       have hs':44032≤a∧a<55204:=by simpa[Zc]using hs
       have w1:IntKind.i32.wrap (b-4519)=b-4519:=ye (by omega)
       have w2:IntKind.i32.wrap (a+(b-4519))=a+(b-4519):=ye (by omega)
       simp (maxSteps:=1000000) [go_sem,zr,c1,c2,w1,w2]
       exact zg (.tup [.p (.int .i32 (qY (zT a b))),.p (.bool (zT a b).isSome)]) rfl (by simp[go_sem,zd,leA,leT,leP,e2,qY]) ⟨rfl,rfl⟩
      ·have e2:zT a b=none:=by rw[e,if_neg (fun h=>c2 h.2.2.2)]
       simp (maxSteps:=1000000) [go_sem,zr,c1,c2]
       exact zg (.tup [.p (.int .i32 (qY (zT a b))),.p (.bool (zT a b).isSome)]) rfl (by simp[go_sem,zd,leA,leT,leP,e2,qY]) ⟨rfl,rfl⟩
     ·have e2:zT a b=none:=by rw[e,if_neg (fun h=>c1 h.2.2.1)]
      simp (maxSteps:=1000000) [go_sem,zr,c1]
      exact zg (.tup [.p (.int .i32 (qY (zT a b))),.p (.bool (zT a b).isSome)]) rfl (by simp[go_sem,zd,leA,leT,leP,e2,qY]) ⟨rfl,rfl⟩
    ·have es:zQ a=[4352+(a-44032)/588,4449+(a-44032)/28%21,4519+(a-44032)%28]:=if_neg c0
     have e2:zT a b=none:=by rw[e,if_neg (fun h=>c0 h.2.1)]
     rw[es]
     simp (maxSteps:=1000000) [go_sem,zr]
     exact zg (.tup [.p (.int .i32 (qY (zT a b))),.p (.bool (zT a b).isSome)]) rfl (by simp[go_sem,zd,leA,leT,leP,e2,qY]) ⟨rfl,rfl⟩
  ·simp (maxSteps:=1000000) [go_sem,Tryz.f157,x1,x2]
   cases hs:Zc a with
   |false=>
    have e2:zT a b=none:=by rw[e,hs];simp
    refine⟨⟨rfl,by simp[Tryz.f154]⟩,zc [] (uQ a hs) (by simp[go_sem]) ⟨by simp[go_sem],by simp[go_sem]⟩ (by simp[go_sem]) ?_⟩
    rintro _ rs ⟨rfl,rfl⟩
    simp (maxSteps:=1000000) [go_sem]
    exact zg (.tup [.p (.int .i32 (qY (zT a b))),.p (.bool (zT a b).isSome)]) rfl (by simp[go_sem,zd,leA,leT,leP,e2,qY]) ⟨rfl,rfl⟩
   |true=>
    refine⟨⟨rfl,by simp[Tryz.f154]⟩,zc [] (yM a hs) (by simp[go_sem]) ⟨by simp[go_sem],by simp[go_sem]⟩ (by simp[go_sem]) ?_⟩
    rintro _ rs ⟨rfl,rfl⟩
    by_cases c0:(a-44032)%28=0
    ·have es:zQ a=[4352+(a-44032)/588,4449+(a-44032)/28%21]:=if_pos c0
     rw[es]
     by_cases c1:4520≤b
     ·by_cases c2:b≤4546
      ·have e2:zT a b=some (a+(b-4519)):=by rw[e,if_pos ⟨hs,c0,c1,c2⟩]
       have hs':44032≤a∧a<55204:=by simpa[Zc]using hs
       have w1:IntKind.i32.wrap (b-4519)=b-4519:=ye (by omega)
       have w2:IntKind.i32.wrap (a+(b-4519))=a+(b-4519):=ye (by omega)
       simp (maxSteps:=1000000) [go_sem,zr,c1,c2,w1,w2]
       exact zg (.tup [.p (.int .i32 (qY (zT a b))),.p (.bool (zT a b).isSome)]) rfl (by simp[go_sem,zd,leA,leT,leP,e2,qY]) ⟨rfl,rfl⟩
      ·have e2:zT a b=none:=by rw[e,if_neg (fun h=>c2 h.2.2.2)]
       simp (maxSteps:=1000000) [go_sem,zr,c1,c2]
       exact zg (.tup [.p (.int .i32 (qY (zT a b))),.p (.bool (zT a b).isSome)]) rfl (by simp[go_sem,zd,leA,leT,leP,e2,qY]) ⟨rfl,rfl⟩
     ·have e2:zT a b=none:=by rw[e,if_neg (fun h=>c1 h.2.2.1)]
      simp (maxSteps:=1000000) [go_sem,zr,c1]
      exact zg (.tup [.p (.int .i32 (qY (zT a b))),.p (.bool (zT a b).isSome)]) rfl (by simp[go_sem,zd,leA,leT,leP,e2,qY]) ⟨rfl,rfl⟩
    ·have es:zQ a=[4352+(a-44032)/588,4449+(a-44032)/28%21,4519+(a-44032)%28]:=if_neg c0
     have e2:zT a b=none:=by rw[e,if_neg (fun h=>c0 h.2.1)]
     rw[es]
     simp (maxSteps:=1000000) [go_sem,zr]
     exact zg (.tup [.p (.int .i32 (qY (zT a b))),.p (.bool (zT a b).isSome)]) rfl (by simp[go_sem,zd,leA,leT,leP,e2,qY]) ⟨rfl,rfl⟩
  ·simp (maxSteps:=1000000) [go_sem,Tryz.f157,x1,x2,x3]
   cases hs:Zc a with
   |false=>
    have e2:zT a b=none:=by rw[e,hs];simp
    refine⟨⟨rfl,by simp[Tryz.f154]⟩,zc [] (uQ a hs) (by simp[go_sem]) ⟨by simp[go_sem],by simp[go_sem]⟩ (by simp[go_sem]) ?_⟩
    rintro _ rs ⟨rfl,rfl⟩
    simp (maxSteps:=1000000) [go_sem]
    exact zg (.tup [.p (.int .i32 (qY (zT a b))),.p (.bool (zT a b).isSome)]) rfl (by simp[go_sem,zd,leA,leT,leP,e2,qY]) ⟨rfl,rfl⟩
   |true=>
    refine⟨⟨rfl,by simp[Tryz.f154]⟩,zc [] (yM a hs) (by simp[go_sem]) ⟨by simp[go_sem],by simp[go_sem]⟩ (by simp[go_sem]) ?_⟩
    rintro _ rs ⟨rfl,rfl⟩
    by_cases c0:(a-44032)%28=0
    ·have es:zQ a=[4352+(a-44032)/588,4449+(a-44032)/28%21]:=if_pos c0
     rw[es]
     by_cases c1:4520≤b
     ·by_cases c2:b≤4546
      ·have e2:zT a b=some (a+(b-4519)):=by rw[e,if_pos ⟨hs,c0,c1,c2⟩]
       have hs':44032≤a∧a<55204:=by simpa[Zc]using hs
       have w1:IntKind.i32.wrap (b-4519)=b-4519:=ye (by omega)
       have w2:IntKind.i32.wrap (a+(b-4519))=a+(b-4519):=ye (by omega)
       simp (maxSteps:=1000000) [go_sem,zr,c1,c2,w1,w2]
       exact zg (.tup [.p (.int .i32 (qY (zT a b))),.p (.bool (zT a b).isSome)]) rfl (by simp[go_sem,zd,leA,leT,leP,e2,qY]) ⟨rfl,rfl⟩
      ·have e2:zT a b=none:=by rw[e,if_neg (fun h=>c2 h.2.2.2)]
       simp (maxSteps:=1000000) [go_sem,zr,c1,c2]
       exact zg (.tup [.p (.int .i32 (qY (zT a b))),.p (.bool (zT a b).isSome)]) rfl (by simp[go_sem,zd,leA,leT,leP,e2,qY]) ⟨rfl,rfl⟩
     ·have e2:zT a b=none:=by rw[e,if_neg (fun h=>c1 h.2.2.1)]
      simp (maxSteps:=1000000) [go_sem,zr,c1]
      exact zg (.tup [.p (.int .i32 (qY (zT a b))),.p (.bool (zT a b).isSome)]) rfl (by simp[go_sem,zd,leA,leT,leP,e2,qY]) ⟨rfl,rfl⟩
    ·have es:zQ a=[4352+(a-44032)/588,4449+(a-44032)/28%21,4519+(a-44032)%28]:=if_neg c0
     have e2:zT a b=none:=by rw[e,if_neg (fun h=>c0 h.2.1)]
     rw[es]
     simp (maxSteps:=1000000) [go_sem,zr]
     exact zg (.tup [.p (.int .i32 (qY (zT a b))),.p (.bool (zT a b).isSome)]) rfl (by simp[go_sem,zd,leA,leT,leP,e2,qY]) ⟨rfl,rfl⟩
  ·simp (maxSteps:=1000000) [go_sem,Tryz.f157,x1,x2,x3,x4]
   cases hs:Zc a with
   |false=>
    have e2:zT a b=none:=by rw[e,hs];simp
    refine⟨⟨rfl,by simp[Tryz.f154]⟩,zc [] (uQ a hs) (by simp[go_sem]) ⟨by simp[go_sem],by simp[go_sem]⟩ (by simp[go_sem]) ?_⟩
    rintro _ rs ⟨rfl,rfl⟩
    simp (maxSteps:=1000000) [go_sem]
    exact zg (.tup [.p (.int .i32 (qY (zT a b))),.p (.bool (zT a b).isSome)]) rfl (by simp[go_sem,zd,leA,leT,leP,e2,qY]) ⟨rfl,rfl⟩
   |true=>
    refine⟨⟨rfl,by simp[Tryz.f154]⟩,zc [] (yM a hs) (by simp[go_sem]) ⟨by simp[go_sem],by simp[go_sem]⟩ (by simp[go_sem]) ?_⟩
    rintro _ rs ⟨rfl,rfl⟩
    by_cases c0:(a-44032)%28=0
    ·have es:zQ a=[4352+(a-44032)/588,4449+(a-44032)/28%21]:=if_pos c0
     rw[es]
     by_cases c1:4520≤b
     ·by_cases c2:b≤4546
      ·have e2:zT a b=some (a+(b-4519)):=by rw[e,if_pos ⟨hs,c0,c1,c2⟩]
       have hs':44032≤a∧a<55204:=by simpa[Zc]using hs
       have w1:IntKind.i32.wrap (b-4519)=b-4519:=ye (by omega)
       have w2:IntKind.i32.wrap (a+(b-4519))=a+(b-4519):=ye (by omega)
       simp (maxSteps:=1000000) [go_sem,zr,c1,c2,w1,w2]
       exact zg (.tup [.p (.int .i32 (qY (zT a b))),.p (.bool (zT a b).isSome)]) rfl (by simp[go_sem,zd,leA,leT,leP,e2,qY]) ⟨rfl,rfl⟩
      ·have e2:zT a b=none:=by rw[e,if_neg (fun h=>c2 h.2.2.2)]
       simp (maxSteps:=1000000) [go_sem,zr,c1,c2]
       exact zg (.tup [.p (.int .i32 (qY (zT a b))),.p (.bool (zT a b).isSome)]) rfl (by simp[go_sem,zd,leA,leT,leP,e2,qY]) ⟨rfl,rfl⟩
     ·have e2:zT a b=none:=by rw[e,if_neg (fun h=>c1 h.2.2.1)]
      simp (maxSteps:=1000000) [go_sem,zr,c1]
      exact zg (.tup [.p (.int .i32 (qY (zT a b))),.p (.bool (zT a b).isSome)]) rfl (by simp[go_sem,zd,leA,leT,leP,e2,qY]) ⟨rfl,rfl⟩
    ·have es:zQ a=[4352+(a-44032)/588,4449+(a-44032)/28%21,4519+(a-44032)%28]:=if_neg c0
     have e2:zT a b=none:=by rw[e,if_neg (fun h=>c0 h.2.1)]
     rw[es]
     simp (maxSteps:=1000000) [go_sem,zr]
     exact zg (.tup [.p (.int .i32 (qY (zT a b))),.p (.bool (zT a b).isSome)]) rfl (by simp[go_sem,zd,leA,leT,leP,e2,qY]) ⟨rfl,rfl⟩
theorem zhf [Gi](l:List Row)(x y:Int)(hl:qX l)(hx:zu x)(hy:zu y):CR Tryz.prog 110 [] [.p (zJ l),.p (.int .i32 x),.p (.int .i32 y)] [] (is (.tup [.p (.int .i32 (qY ((zT x y).or (xN l x y)))),.p (.bool ((zT x y).or (xN l x y)).isSome)])):=by
 refine zn mixed 11 [] Tryz.func110 rfl (by kernel_rfl) rfl (by simp) (by simp) ?_
 simp (maxSteps:=1000000) [go_sem,Tryz.f110]
 refine⟨⟨rfl,by simp[Tryz.f157]⟩,zc [] (zjD x y hx hy) (by simp[go_sem]) ⟨by simp[go_sem],by simp[go_sem]⟩ (by simp[go_sem]) ?_⟩
 rintro _ rs ⟨rfl,rfl⟩
 cases hj:zT x y with
 |some z=>
  simp (maxSteps:=1000000) [go_sem,qY]
  exact zg (.tup [.p (.int .i32 z),.p (.bool true)]) rfl (by simp[go_sem,zd,leA,leT,leP]) ⟨rfl,rfl⟩
 |none=>
  simp (maxSteps:=1000000) [go_sem]
  refine⟨⟨rfl,by simp[Tryz.f158]⟩,zc [] (zjw l x y hl hx hy) (by simp[go_sem]) ⟨by simp[go_sem],by simp[go_sem]⟩ (by simp[go_sem]) ?_⟩
  rintro _ rs ⟨rfl,rfl⟩
  simp (maxSteps:=1000000) [go_sem]
  exact zg (.tup [.p (.int .i32 (qY (xN l x y))),.p (.bool (xN l x y).isSome)]) rfl (by simp[go_sem,zd,leA,leT,leP]) ⟨rfl,rfl⟩
def z6(l:List Row):Nat→Int→List Int
 |0,r=>if Zc r then zQ r else [r]
 |d+1,r=>if Zc r then zQ r else
  match Za l r with
  |none=>[r]
  |some p=>z6 l d p.1++(if p.2=0 then []else z6 l d p.2)
theorem yI(l:List Row):∀d r,(z6 l d r).length≤3*2^d
 |0,r=>by
  unfold z6
  split
  ·unfold zQ;split<;>simp
  ·simp
 |d+1,r=>by
  have h3:1≤2^d:=Nat.one_le_two_pow
  unfold z6
  rw[Nat.pow_succ]
  split
  ·unfold zQ;split<;>simp<;>omega
  ·split
   ·simp;omega
   ·rename_i p _
    have h1:=yI l d p.1
    have h2:=yI l d p.2
    split
    ·simp;omega
    ·simp;omega
theorem zdN [Gi](l:List Row)(hl:qX l):∀(d:Nat) (_:d≤8) (r:Int) (_:zu r),CR Tryz.prog 106 [] [.p (zJ l),.p (.int .i32 r),.p (.int .i64 d)] [] (is (.os [6] 1 (zr (z6 l d r)))):=by
 intro d
 induction d with
 |zero=>
  intro hd r hr
  refine zn mixed 11 [] Tryz.func106 rfl (by kernel_rfl) rfl (by simp) (by simp) ?_
  simp (maxSteps:=1000000) [go_sem,Tryz.f106]
  refine⟨⟨rfl,by simp[Tryz.f153]⟩,zc [] (zbZ r) (by simp[go_sem]) ⟨by simp[go_sem],by simp[go_sem]⟩ (by simp[go_sem]) ?_⟩
  rintro _ rs ⟨rfl,rfl⟩
  cases hs:Zc r with
  |true=>
   have e:z6 l 0 r=zQ r:=by unfold z6;rw[if_pos hs]
   rw[e]
   simp (maxSteps:=1000000) [go_sem]
   refine⟨⟨rfl,by simp[Tryz.f154]⟩,zc [] (yM r hs) (by simp[go_sem]) ⟨by simp[go_sem],by simp[go_sem]⟩ (by simp[go_sem]) ?_⟩
   rintro _ rs ⟨rfl,rfl⟩
   simp (maxSteps:=1000000) [go_sem]
   exact zg (.os [6] 1 (zr (zQ r))) rfl (by simp[go_sem,zd,leA,leT]) ⟨rfl,rfl⟩
  |false=>
   have e:z6 l 0 r=[r]:=by unfold z6;rw[hs];rfl
   rw[e]
   simp (maxSteps:=1000000) [go_sem]
   refine⟨⟨rfl,by simp[Tryz.f155]⟩,zc [] (Vt l r hl hr) (by simp[go_sem]) ⟨by simp[go_sem],by simp[go_sem]⟩ (by simp[go_sem]) ?_⟩
   rintro _ rs ⟨rfl,rfl⟩
   cases Za l r with
   |none=>
    simp (maxSteps:=1000000) [go_sem,yj]
    exact zg (.os [6] 1 (zr [r])) rfl (by simp[go_sem,zd,leA,leT,zr]) ⟨rfl,rfl⟩
   |some p=>
    simp (maxSteps:=1000000) [go_sem,yj]
    exact zg (.os [6] 1 (zr [r])) rfl (by simp[go_sem,zd,leA,leT,zr]) ⟨rfl,rfl⟩
 |succ d ih=>
  intro hd r hr
  have hd0:¬((d:Int)+1=0):=by omega
  have wd:IntKind.i64.wrap ((d:Int)+1-1)=(d:Int):=by rw[wrap64 (by omega) (by omega)];omega
  have wd':IntKind.i64.wrap (d:Int)=(d:Int):=wrap64 (by omega) (by omega)
  have hp3:2^d≤2^8:=Nat.pow_le_pow_right (by omega) (by omega)
  refine zn mixed 11 [] Tryz.func106 rfl (by kernel_rfl) rfl (by simp) (by simp) ?_
  simp (maxSteps:=1000000) [go_sem,Tryz.f106]
  refine⟨⟨rfl,by simp[Tryz.f153]⟩,zc [] (zbZ r) (by simp[go_sem]) ⟨by simp[go_sem],by simp[go_sem]⟩ (by simp[go_sem]) ?_⟩
  rintro _ rs ⟨rfl,rfl⟩
  cases hs:Zc r with
  |true=>
   have e:z6 l (d+1) r=zQ r:=by unfold z6;rw[if_pos hs]
   rw[e]
   simp (maxSteps:=1000000) [go_sem]
   refine⟨⟨rfl,by simp[Tryz.f154]⟩,zc [] (yM r hs) (by simp[go_sem]) ⟨by simp[go_sem],by simp[go_sem]⟩ (by simp[go_sem]) ?_⟩
   rintro _ rs ⟨rfl,rfl⟩
   simp (maxSteps:=1000000) [go_sem]
   exact zg (.os [6] 1 (zr (zQ r))) rfl (by simp[go_sem,zd,leA,leT]) ⟨rfl,rfl⟩
  |false=>
   simp (maxSteps:=1000000) [go_sem]
   refine⟨⟨rfl,by simp[Tryz.f155]⟩,zc [] (Vt l r hl hr) (by simp[go_sem]) ⟨by simp[go_sem],by simp[go_sem]⟩ (by simp[go_sem]) ?_⟩
   rintro _ rs ⟨rfl,rfl⟩
   cases hp:Za l r with
   |none=>
    have e:z6 l (d+1) r=[r]:=by unfold z6;rw[hs,hp];rfl
    rw[e]
    simp (maxSteps:=1000000) [go_sem,yj]
    exact zg (.os [6] 1 (zr [r])) rfl (by simp[go_sem,zd,leA,leT,zr]) ⟨rfl,rfl⟩
   |some p=>
    obtain⟨pa,pb⟩:=p
    have hpo:=VF hl hp
    simp only at hpo
    have hra:zu pa:=⟨by omega,by omega⟩
    have hrb:zu pb:=⟨by omega,by omega⟩
    have e:z6 l (d+1) r=z6 l d pa++(if pb=0 then []else z6 l d pb):=by rw[z6,hs,hp];rfl
    have l1:=yI l d pa
    have l2:=yI l d pb
    rw[e]
    simp (maxSteps:=1000000) [go_sem,yj,hd0,wd']
    refine⟨⟨rfl,by simp[Tryz.f106]⟩,zc [] (ih (by omega) pa hra) (by simp[go_sem]) ⟨by simp[go_sem],by simp[go_sem]⟩ (by simp[go_sem]) ?_⟩
    rintro _ rs ⟨rfl,rfl⟩
    by_cases c:pb=0
    ·simp (maxSteps:=1000000) [go_sem,c]
     exact zg (.os [6] 1 (zr (z6 l d pa))) rfl (by simp[go_sem,zd,leA,leT]) ⟨rfl,by simp⟩
    ·simp (maxSteps:=1000000) [go_sem,c,wd']
     refine⟨⟨rfl,by simp[Tryz.f106]⟩,zc [] (ih (by omega) pb hrb) (by simp[go_sem]) ⟨by simp[go_sem],by simp[go_sem]⟩ (by simp[go_sem]) ?_⟩
     rintro _ rs ⟨rfl,rfl⟩
     simp (maxSteps:=1000000) [go_sem]
     exact⟨by simp[zr];omega,zg (.os [6] 1 (zr (z6 l d pa++z6 l d pb))) rfl (by simp[go_sem,zd,leA,leT,zr]) ⟨rfl,rfl⟩⟩
end Go.Proofs.YthbmelihnabkaaaGreat
end
