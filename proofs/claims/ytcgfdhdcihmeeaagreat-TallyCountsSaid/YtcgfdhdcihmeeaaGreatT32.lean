/- A part of the proof of this seat's statements, by an abstract machine: what each operation does to values, and what the law's functions compute. Conditions: as each law says. -/
import Derived.Test.YtcgfdhdcihmeeaaGreatT31
import Derived.Test.YtcgfdhdcihmeeaaGreatT18
import Derived.Test.YtcgfdhdcihmeeaaGreatT29
import Derived.Test.YtcgfdhdcihmeeaaGreatT17
import Derived.Test.YtcgfdhdcihmeeaaGreatT25
section
namespace Go.Proofs.YtcgfdhdcihmeeaaGreat
open Go.AM
set_option maxHeartbeats 4000000
set_option maxRecDepth 10000
def v7(rows:List Row)(p:Int)(pre:List Int)(x:Int):Bool:=
 if zx rows p=1∧zx rows x=2 then false
 else if QG (zx rows p) || QG (zx rows x)then true
 else if Z2 (zx rows p) (zx rows x)then false
 else if zx rows x=4∨zx rows x=5∨zx rows x=8∨zx rows p=7 then false
 else if Uy rows (p::pre) x then false
 else if Uq rows p pre x then false
 else !WQ rows (p::pre) x
theorem Y1 [Gi] {rows:List Row}(hw:ZX rows)(l:List Int)(n m:Nat)(hm:n=m+1)(h:n<l.length)(hl:l.length<2^31)(hr:∀x∈l,zY x):
  CR Tryz.prog 77 [] [.p (zU rows),.p (zA l),.p (.int .i64 n)] [] (is (.p (.bool (v7 rows l[m] (l.take m).reverse l[n])))):=by
 refine zR [3] mixed 9 [] Tryz.func77 rfl (by kernel_rfl) rfl (by simp) (by simp) ?_
 have cj:=Xr hw l n h hl hr
 have pc:=zcO hw l n m hm h hl hr
 have fl:=zde hw l n h hl hr
 have g:m<l.length:=by omega
 have tr:(l.take n).reverse=l[m]::(l.take m).reverse:=by subst hm;exact vV g
 rw[tr]at cj fl
 have em:=ZC h
 have em2:=ZC g
 have hx:=hr _ (List.getElem_mem h)
 have hp:=hr _ (List.getElem_mem g)
 generalize l[n]=x at*
 generalize l[m]=p at*
 have h':(n:Int)<l.length:=by omega
 have g':(m:Int)<l.length:=by omega
 have n0:¬((n:Int)=0):=by omega
 have n0':¬(n=0):=by omega
 have w1:IntKind.i64.wrap ((n:Int)-1)=(m:Int):=by rw[wrap64 (by omega) (by omega)];omega
 simp (maxSteps:=1000000) [go_sem,Tryz.f77,zA,zX,n0',w1,g',em2]
 refine Zs (.p (.int .i64 (zx rows p))) rfl rfl (fun _=>Zt 104 (jh hw hp) rfl ⟨rfl,by simp[Tryz.f104]⟩ ⟨by simp[go_sem],by simp[go_sem]⟩) ?_
 simp (maxSteps:=1000000) [go_sem,zX,h',em]
 refine Zs (.p (.int .i64 (zx rows x))) rfl rfl (fun _=>Zt 104 (jh hw hx) rfl ⟨rfl,by simp[Tryz.f104]⟩ ⟨by simp[go_sem],by simp[go_sem]⟩) ?_
 refine⟨by simp[go_sem],?_⟩
 have c1:=ze3 (zx rows p)
 have c2:=ze3 (zx rows x)
 have c3:=zft (zx rows p) (zx rows x)
 unfold v7
 generalize Uy rows (p::(l.take m).reverse) x=cc at cj⊢
 generalize Uq rows p (l.take m).reverse x=pp at pc⊢
 generalize WQ rows (p::(l.take m).reverse) x=ff at fl⊢
 generalize zx rows p=a at*
 generalize zx rows x=b at*
 generalize Z2 a b=qh at c3⊢
 generalize QG a=qa at c1⊢
 generalize QG b=qb at c2⊢
 rcases Classical.em (a=1)with t1|t1<;>rcases Classical.em (b=2)with t2|t2
 ·have a1:(a=1)=True:=eq_true t1
  have b2:(b=2)=True:=eq_true t2
  simp (maxSteps:=1000000) [go_sem,a1,b2]
  exact zh (.p (.bool false)) rfl (by simp[go_sem,zf,leA,leT]) ⟨rfl,rfl⟩
 ·have a1:(a=1)=True:=eq_true t1
  have b2:(b=2)=False:=eq_false t2
  simp (maxSteps:=1000000) [go_sem,a1,b2]
  refine⟨⟨rfl,by simp[Tryz.f108]⟩,zd [] c1 (by simp[go_sem]) ⟨by simp[go_sem],by simp[go_sem]⟩ (by simp[go_sem]) ?_⟩
  rintro _ rs ⟨rfl,rfl⟩
  cases qa
  ·simp (maxSteps:=1000000) [go_sem]
   refine⟨⟨rfl,by simp[Tryz.f108]⟩,zd [] c2 (by simp[go_sem]) ⟨by simp[go_sem],by simp[go_sem]⟩ (by simp[go_sem]) ?_⟩
   rintro _ rs ⟨rfl,rfl⟩
   cases qb
   ·simp (maxSteps:=1000000) [go_sem]
    refine⟨⟨rfl,by simp[Tryz.f109]⟩,zd [] c3 (by simp[go_sem]) ⟨by simp[go_sem],by simp[go_sem]⟩ (by simp[go_sem]) ?_⟩
    rintro _ rs ⟨rfl,rfl⟩
    cases qh
    ·skip
     rcases Classical.em (b=4)with t|t
     ·have b4:(b=4)=True:=eq_true t
      simp (maxSteps:=1000000) [go_sem,b4]
      exact zh (.p (.bool (false))) rfl (by simp[go_sem,zf,leA,leT]) ⟨rfl,by simp⟩
     ·have b4:(b=4)=False:=eq_false t
      rcases Classical.em (b=5)with t|t
      ·have b5:(b=5)=True:=eq_true t
       simp (maxSteps:=1000000) [go_sem,b4,b5]
       exact zh (.p (.bool (false))) rfl (by simp[go_sem,zf,leA,leT]) ⟨rfl,by simp⟩
      ·have b5:(b=5)=False:=eq_false t
       rcases Classical.em (b=8)with t|t
       ·have b8:(b=8)=True:=eq_true t
        simp (maxSteps:=1000000) [go_sem,b4,b5,b8]
        exact zh (.p (.bool (false))) rfl (by simp[go_sem,zf,leA,leT]) ⟨rfl,by simp⟩
       ·have b8:(b=8)=False:=eq_false t
        rcases Classical.em (a=7)with t|t
        ·have a7:(a=7)=True:=eq_true t
         simp (maxSteps:=1000000) [go_sem,b4,b5,b8,a7]
         exact zh (.p (.bool (false))) rfl (by simp[go_sem,zf,leA,leT]) ⟨rfl,by simp⟩
        ·have a7:(a=7)=False:=eq_false t
         simp (maxSteps:=1000000) [go_sem,b4,b5,b8,a7]
         refine⟨⟨rfl,by simp[Tryz.f110]⟩,zd [] cj (by simp[go_sem]) ⟨by simp[go_sem],by simp[go_sem,zA]⟩ (by simp[go_sem]) ?_⟩
         rintro _ rs ⟨rfl,rfl⟩
         cases cc
         ·simp (maxSteps:=1000000) [go_sem]
          refine⟨⟨rfl,by simp[Tryz.f111]⟩,zd [] pc (by simp[go_sem]) ⟨by simp[go_sem],by simp[go_sem,zA]⟩ (by simp[go_sem]) ?_⟩
          rintro _ rs ⟨rfl,rfl⟩
          cases pp
          ·simp (maxSteps:=1000000) [go_sem]
           refine⟨⟨rfl,by simp[Tryz.f112]⟩,zd [] fl (by simp[go_sem]) ⟨by simp[go_sem],by simp[go_sem,zA]⟩ (by simp[go_sem]) ?_⟩
           rintro _ rs ⟨rfl,rfl⟩
           simp (maxSteps:=1000000) [go_sem]
           exact zh (.p (.bool (!ff))) rfl (by simp[go_sem,zf,leA,leT]) ⟨rfl,by simp⟩
          ·simp (maxSteps:=1000000) [go_sem]
           exact zh (.p (.bool (false))) rfl (by simp[go_sem,zf,leA,leT]) ⟨rfl,by simp⟩
         ·simp (maxSteps:=1000000) [go_sem]
          exact zh (.p (.bool (false))) rfl (by simp[go_sem,zf,leA,leT]) ⟨rfl,by simp⟩
    ·simp (maxSteps:=1000000) [go_sem]
     exact zh (.p (.bool (false))) rfl (by simp[go_sem,zf,leA,leT]) ⟨rfl,by simp⟩
   ·simp (maxSteps:=1000000) [go_sem]
    exact zh (.p (.bool (true))) rfl (by simp[go_sem,zf,leA,leT]) ⟨rfl,by simp⟩
  ·simp (maxSteps:=1000000) [go_sem]
   exact zh (.p (.bool (true))) rfl (by simp[go_sem,zf,leA,leT]) ⟨rfl,by simp⟩
 ·have a1:(a=1)=False:=eq_false t1
  have b2:(b=2)=True:=eq_true t2
  simp (maxSteps:=1000000) [go_sem,a1,b2]
  refine⟨⟨rfl,by simp[Tryz.f108]⟩,zd [] c1 (by simp[go_sem]) ⟨by simp[go_sem],by simp[go_sem]⟩ (by simp[go_sem]) ?_⟩
  rintro _ rs ⟨rfl,rfl⟩
  cases qa
  ·simp (maxSteps:=1000000) [go_sem]
   refine⟨⟨rfl,by simp[Tryz.f108]⟩,zd [] c2 (by simp[go_sem]) ⟨by simp[go_sem],by simp[go_sem]⟩ (by simp[go_sem]) ?_⟩
   rintro _ rs ⟨rfl,rfl⟩
   cases qb
   ·simp (maxSteps:=1000000) [go_sem]
    refine⟨⟨rfl,by simp[Tryz.f109]⟩,zd [] c3 (by simp[go_sem]) ⟨by simp[go_sem],by simp[go_sem]⟩ (by simp[go_sem]) ?_⟩
    rintro _ rs ⟨rfl,rfl⟩
    cases qh
    ·skip
     rcases Classical.em (b=4)with t|t
     ·have b4:(b=4)=True:=eq_true t
      simp (maxSteps:=1000000) [go_sem,b4]
      exact zh (.p (.bool (false))) rfl (by simp[go_sem,zf,leA,leT]) ⟨rfl,by simp⟩
     ·have b4:(b=4)=False:=eq_false t
      rcases Classical.em (b=5)with t|t
      ·have b5:(b=5)=True:=eq_true t
       simp (maxSteps:=1000000) [go_sem,b4,b5]
       exact zh (.p (.bool (false))) rfl (by simp[go_sem,zf,leA,leT]) ⟨rfl,by simp⟩
      ·have b5:(b=5)=False:=eq_false t
       rcases Classical.em (b=8)with t|t
       ·have b8:(b=8)=True:=eq_true t
        simp (maxSteps:=1000000) [go_sem,b4,b5,b8]
        exact zh (.p (.bool (false))) rfl (by simp[go_sem,zf,leA,leT]) ⟨rfl,by simp⟩
       ·have b8:(b=8)=False:=eq_false t
        rcases Classical.em (a=7)with t|t
        ·have a7:(a=7)=True:=eq_true t
         simp (maxSteps:=1000000) [go_sem,b4,b5,b8,a7]
         exact zh (.p (.bool (false))) rfl (by simp[go_sem,zf,leA,leT]) ⟨rfl,by simp⟩
        ·have a7:(a=7)=False:=eq_false t
         simp (maxSteps:=1000000) [go_sem,b4,b5,b8,a7]
         refine⟨⟨rfl,by simp[Tryz.f110]⟩,zd [] cj (by simp[go_sem]) ⟨by simp[go_sem],by simp[go_sem,zA]⟩ (by simp[go_sem]) ?_⟩
         rintro _ rs ⟨rfl,rfl⟩
         cases cc
         ·simp (maxSteps:=1000000) [go_sem]
          refine⟨⟨rfl,by simp[Tryz.f111]⟩,zd [] pc (by simp[go_sem]) ⟨by simp[go_sem],by simp[go_sem,zA]⟩ (by simp[go_sem]) ?_⟩
          rintro _ rs ⟨rfl,rfl⟩
          cases pp
          ·simp (maxSteps:=1000000) [go_sem]
           refine⟨⟨rfl,by simp[Tryz.f112]⟩,zd [] fl (by simp[go_sem]) ⟨by simp[go_sem],by simp[go_sem,zA]⟩ (by simp[go_sem]) ?_⟩
           rintro _ rs ⟨rfl,rfl⟩
           simp (maxSteps:=1000000) [go_sem]
           exact zh (.p (.bool (!ff))) rfl (by simp[go_sem,zf,leA,leT]) ⟨rfl,by simp⟩
          ·simp (maxSteps:=1000000) [go_sem]
           exact zh (.p (.bool (false))) rfl (by simp[go_sem,zf,leA,leT]) ⟨rfl,by simp⟩
         ·simp (maxSteps:=1000000) [go_sem]
          exact zh (.p (.bool (false))) rfl (by simp[go_sem,zf,leA,leT]) ⟨rfl,by simp⟩
    ·simp (maxSteps:=1000000) [go_sem]
     exact zh (.p (.bool (false))) rfl (by simp[go_sem,zf,leA,leT]) ⟨rfl,by simp⟩
   ·simp (maxSteps:=1000000) [go_sem]
    exact zh (.p (.bool (true))) rfl (by simp[go_sem,zf,leA,leT]) ⟨rfl,by simp⟩
  ·simp (maxSteps:=1000000) [go_sem]
   exact zh (.p (.bool (true))) rfl (by simp[go_sem,zf,leA,leT]) ⟨rfl,by simp⟩
 ·have a1:(a=1)=False:=eq_false t1
  have b2:(b=2)=False:=eq_false t2
  simp (maxSteps:=1000000) [go_sem,a1,b2]
  refine⟨⟨rfl,by simp[Tryz.f108]⟩,zd [] c1 (by simp[go_sem]) ⟨by simp[go_sem],by simp[go_sem]⟩ (by simp[go_sem]) ?_⟩
  rintro _ rs ⟨rfl,rfl⟩
  cases qa
  ·simp (maxSteps:=1000000) [go_sem]
   refine⟨⟨rfl,by simp[Tryz.f108]⟩,zd [] c2 (by simp[go_sem]) ⟨by simp[go_sem],by simp[go_sem]⟩ (by simp[go_sem]) ?_⟩
   rintro _ rs ⟨rfl,rfl⟩
   cases qb
   ·simp (maxSteps:=1000000) [go_sem]
    refine⟨⟨rfl,by simp[Tryz.f109]⟩,zd [] c3 (by simp[go_sem]) ⟨by simp[go_sem],by simp[go_sem]⟩ (by simp[go_sem]) ?_⟩
    rintro _ rs ⟨rfl,rfl⟩
    cases qh
    ·skip
     rcases Classical.em (b=4)with t|t
     ·have b4:(b=4)=True:=eq_true t
      simp (maxSteps:=1000000) [go_sem,b4]
      exact zh (.p (.bool (false))) rfl (by simp[go_sem,zf,leA,leT]) ⟨rfl,by simp⟩
     ·have b4:(b=4)=False:=eq_false t
      rcases Classical.em (b=5)with t|t
      ·have b5:(b=5)=True:=eq_true t
       simp (maxSteps:=1000000) [go_sem,b4,b5]
       exact zh (.p (.bool (false))) rfl (by simp[go_sem,zf,leA,leT]) ⟨rfl,by simp⟩
      ·have b5:(b=5)=False:=eq_false t
       rcases Classical.em (b=8)with t|t
       ·have b8:(b=8)=True:=eq_true t
        simp (maxSteps:=1000000) [go_sem,b4,b5,b8]
        exact zh (.p (.bool (false))) rfl (by simp[go_sem,zf,leA,leT]) ⟨rfl,by simp⟩
       ·have b8:(b=8)=False:=eq_false t
        rcases Classical.em (a=7)with t|t
        ·have a7:(a=7)=True:=eq_true t
         simp (maxSteps:=1000000) [go_sem,b4,b5,b8,a7]
         exact zh (.p (.bool (false))) rfl (by simp[go_sem,zf,leA,leT]) ⟨rfl,by simp⟩
        ·have a7:(a=7)=False:=eq_false t
         simp (maxSteps:=1000000) [go_sem,b4,b5,b8,a7]
         refine⟨⟨rfl,by simp[Tryz.f110]⟩,zd [] cj (by simp[go_sem]) ⟨by simp[go_sem],by simp[go_sem,zA]⟩ (by simp[go_sem]) ?_⟩
         rintro _ rs ⟨rfl,rfl⟩
         cases cc
         ·simp (maxSteps:=1000000) [go_sem]
          refine⟨⟨rfl,by simp[Tryz.f111]⟩,zd [] pc (by simp[go_sem]) ⟨by simp[go_sem],by simp[go_sem,zA]⟩ (by simp[go_sem]) ?_⟩
          rintro _ rs ⟨rfl,rfl⟩
          cases pp
          ·simp (maxSteps:=1000000) [go_sem]
           refine⟨⟨rfl,by simp[Tryz.f112]⟩,zd [] fl (by simp[go_sem]) ⟨by simp[go_sem],by simp[go_sem,zA]⟩ (by simp[go_sem]) ?_⟩
           rintro _ rs ⟨rfl,rfl⟩
           simp (maxSteps:=1000000) [go_sem]
           exact zh (.p (.bool (!ff))) rfl (by simp[go_sem,zf,leA,leT]) ⟨rfl,by simp⟩
          ·simp (maxSteps:=1000000) [go_sem]
           exact zh (.p (.bool (false))) rfl (by simp[go_sem,zf,leA,leT]) ⟨rfl,by simp⟩
         ·simp (maxSteps:=1000000) [go_sem]
          exact zh (.p (.bool (false))) rfl (by simp[go_sem,zf,leA,leT]) ⟨rfl,by simp⟩
    ·simp (maxSteps:=1000000) [go_sem]
     exact zh (.p (.bool (false))) rfl (by simp[go_sem,zf,leA,leT]) ⟨rfl,by simp⟩
   ·simp (maxSteps:=1000000) [go_sem]
    exact zh (.p (.bool (true))) rfl (by simp[go_sem,zf,leA,leT]) ⟨rfl,by simp⟩
  ·simp (maxSteps:=1000000) [go_sem]
   exact zh (.p (.bool (true))) rfl (by simp[go_sem,zf,leA,leT]) ⟨rfl,by simp⟩
end Go.Proofs.YtcgfdhdcihmeeaaGreat
end
section
namespace Go.Proofs.YtcgfdhdcihmeeaaGreat
open Go.AM
set_option maxHeartbeats 4000000
set_option maxRecDepth 10000
def Qh(rows:List Row):Int→List Int→List Int→Nat
 |_,_,[]=>0
 |p,pre,x::xs=>if v7 rows p pre x then 0 else Qh rows x (p::pre) xs+1
theorem vN(rows:List Row):∀(l pre:List Int) (p:Int),Qh rows p pre l≤l.length
 | [],_,_=>by simp[Qh]
 |x::l,pre,p=>by
  unfold Qh
  split
  ·omega
  ·have:=vN rows l (p::pre) x
   simp only[List.length_cons];omega
theorem zid [Gi] {rows:List Row}(hw:ZX rows)(l:List Int)(a:Nat)(h:a<l.length)(hl:l.length<2^31)(hr:∀x∈l,zY x):
  CR Tryz.prog 103 [] [.p (zU rows),.p (zA l),.p (.int .i64 a)] [] (is (.p (.int .i64 ((a+1+Qh rows l[a] (l.take a).reverse (l.drop (a+1)):Nat):Int)))):=by
 refine zC mixed 8 [] Tryz.func103 rfl (by kernel_rfl) rfl (by simp) (by simp) ?_
 obtain⟨N,hN⟩:∃N,N=a+1+Qh rows l[a] (l.take a).reverse (l.drop (a+1)):=⟨_,rfl⟩
 rw[←hN]
 have w1:IntKind.i64.wrap ((a:Int)+1)=((a+1:Nat):Int):=zD (by omega)
 simp (maxSteps:=1000000) [go_sem,Tryz.f103,zA,w1]
 refine zE (fun k:Nat=>a+1+k≤l.length∧∀h:a+k<l.length,N=a+1+k+Qh rows l[a+k] (l.take (a+k)).reverse (l.drop (a+1+k))) (fun k=>[(7,.p (.int .i64 ((a+1+k:Nat):Int)))]) (fun _=>[]) (fun k=>l.length-k) 0 ⟨by omega,fun _=>hN⟩ (by simp[go_sem,LeS,leV,leR,leA]) (fun k hs=>?_)
 obtain⟨h1,h2⟩:=hs
 have h3:=h2 (by omega)
 obtain⟨i,hi⟩:∃i,i=a+1+k:=⟨_,rfl⟩
 have hi':a+k<l.length:=by omega
 rw[←hi]at h1 h3⊢
 by_cases hil:i<l.length
 ·have bg:=Y1 hw l i (a+k) (by omega) hil hl hr
  rw[List.drop_eq_getElem_cons hil,Qh]at h3
  have tr:=vV hi'
  rw[←tr]at h3
  have hil':(i:Int)<l.length:=by omega
  have w2:IntKind.i64.wrap ((i:Int)+1)=((a+1+(k+1):Nat):Int):=by rw[zD (by omega)];omega
  generalize v7 rows l[a+k] (l.take (a+k)).reverse l[i]=q at bg h3
  simp (maxSteps:=1000000) [go_sem,zX,hil']
  refine⟨⟨rfl,by simp[Tryz.f77]⟩,zd [] bg (by simp[go_sem]) ⟨by simp[go_sem],by simp[go_sem,zA]⟩ (by simp[go_sem]) ?_⟩
  rintro _ rs ⟨rfl,rfl⟩
  cases q with
  |true=>
   obtain rfl:N=i:=by simpa using h3
   simp (maxSteps:=1000000) [go_sem]
   exact zh (.p (.int .i64 (N:Nat))) rfl (by simp[go_sem,zf,leA,leT]) ⟨rfl,rfl⟩
  |false=>
   simp (maxSteps:=1000000) [go_sem,w2]
   have e1:a+(k+1)=i:=by omega
   have e2:a+1+(k+1)=i+1:=by omega
   have e3:a+k+1=i:=by omega
   exact zg (k+1) ⟨by omega,fun _=>by
    simp only[e1,e2]
    rw[e3]at h3
    simp only[Bool.false_eq_true,if_false]at h3
    omega⟩ (by simp[go_sem,LeS,leV,leR,leA]) (by omega)
 ·have hil':¬(i:Int)<l.length:=by omega
  have e:N=l.length:=by rw[h3,List.drop_eq_nil_of_le (by omega)];simp only[Qh];omega
  rw[e]
  simp (maxSteps:=1000000) [go_sem,zX,hil']
  exact zh (.p (.int .i64 (l.length:Nat))) rfl (by simp[go_sem,zf,leA,leT]) ⟨rfl,rfl⟩
def qC(rows:List Row):Nat→List Int→List Int→List (List Int)
 |0,_,_=>[]
 |_,_,[]=>[]
 |n+1,pre,x::xs=>(x::xs.take (Qh rows x pre xs))::qC rows n ((xs.take (Qh rows x pre xs)).reverse++x::pre) (xs.drop (Qh rows x pre xs))
def zI(rows:List Row)(l:List Int):List (List Int):=qC rows l.length [] l
theorem Wr(rows:List Row):∀(n m:Nat) (pre l:List Int),l.length≤n→l.length≤m→qC rows n pre l=qC rows m pre l
 |0,m,pre,l,h1,h2=>by
  obtain rfl:l=[]:=List.eq_nil_of_length_eq_zero (by omega)
  cases m<;>rfl
 |n+1,0,pre,l,h1,h2=>by
  obtain rfl:l=[]:=List.eq_nil_of_length_eq_zero (by omega)
  rfl
 |n+1,m+1,pre,[],h1,h2=>rfl
 |n+1,m+1,pre,r::l,h1,h2=>by
  simp only[List.length_cons]at h1 h2
  simp only[qC]
  rw[Wr rows n m _ _ (by rw[List.length_drop];omega) (by rw[List.length_drop];omega)]
theorem zc2(rows:List Row)(l:List Int)(a e:Nat)(h:a<l.length)(he:e=a+1+Qh rows l[a] (l.take a).reverse (l.drop (a+1))):
  qC rows (l.length-a) (l.take a).reverse (l.drop a)=(l.drop a).take (e-a)::qC rows (l.length-e) (l.take e).reverse (l.drop e):=by
 rw[List.drop_eq_getElem_cons h]
 obtain⟨n,hn⟩:∃n,l.length-a=n+1:=⟨l.length-a-1,by omega⟩
 have hk:=vN rows (l.drop (a+1)) (l.take a).reverse l[a]
 rw[List.length_drop]at hk
 rw[hn,qC]
 generalize Qh rows l[a] (l.take a).reverse (l.drop (a+1))=k at he hk
 have e1:e-a=k+1:=by omega
 have e2:(l.drop (a+1)).drop k=l.drop e:=by rw[List.drop_drop,he]
 have e3:((l.drop (a+1)).take k).reverse++l[a]::(l.take a).reverse=(l.take e).reverse:=by
  rw[←vV h,←List.reverse_append,he];exact congrArg List.reverse List.take_add.symm
 rw[e1,e2,e3,List.take_succ_cons]
 rw[Wr rows n (l.length-e) _ _ (by rw[List.length_drop];omega) (by rw[List.length_drop];omega)]
end Go.Proofs.YtcgfdhdcihmeeaaGreat
end
section
namespace Go.Proofs.YtcgfdhdcihmeeaaGreat
open Go.AM
set_option maxHeartbeats 4000000
set_option maxRecDepth 10000
end Go.Proofs.YtcgfdhdcihmeeaaGreat
end
section
namespace Go.Proofs.YtcgfdhdcihmeeaaGreat
open Go.AM
set_option maxHeartbeats 4000000
set_option maxRecDepth 10000
def ziT(a b:Int):Option Int:=
 if 4352≤a∧a≤4370∧4449≤b∧b≤4469 then some (44032+(a-4352)*588+(b-4449)*28)
 else if zf5 a=true∧(a-44032)%28=0∧4520≤b∧b≤4546 then some (a+(b-4519))else none
def Wg(l:List Row):Nat→Int→List Int
 |0,r=>if zf5 r then Vw r else [r]
 |d+1,r=>if zf5 r then Vw r else
  match zbU l r with
  |none=>[r]
  |some p=>Wg l d p.1++(if p.2=0 then []else Wg l d p.2)
theorem VF(l:List Row):∀d r,(Wg l d r).length≤3*2^d
 |0,r=>by
  unfold Wg
  split
  ·unfold Vw;split<;>simp
  ·simp
 |d+1,r=>by
  have h3:1≤2^d:=Nat.one_le_two_pow
  unfold Wg
  rw[Nat.pow_succ]
  split
  ·unfold Vw;split<;>simp<;>omega
  ·split
   ·simp;omega
   ·rename_i p _
    have h1:=VF l d p.1
    have h2:=VF l d p.2
    split
    ·simp;omega
    ·simp;omega
end Go.Proofs.YtcgfdhdcihmeeaaGreat
end
section
namespace Go.Proofs.YtcgfdhdcihmeeaaGreat
open Go.AM
set_option maxHeartbeats 4000000
set_option maxRecDepth 10000
def wZ(k:Int→Int)(x:Int):List Int→List Int
 | []=>[x]
 |y::l=>if k x≠0∧k x<k y then y::wZ k x l else x::y::l
def zg4(k:Int→Int)(O:List Int)(x:Int):List Int:=(wZ k x O.reverse).reverse
def zkz(k:Int→Int)(l:List Int):List Int:=l.foldl (zg4 k) []
theorem KG(k:Int→Int)(x:Int):∀l,(wZ k x l).length=l.length+1
 | []=>rfl
 |y::l=>by unfold wZ;split<;>simp[KG k x l]
theorem ziC(k:Int→Int)(O:List Int)(x:Int):(zg4 k O x).length=O.length+1:=by simp[zg4,KG]
theorem ziZ(k:Int→Int)(l:List Int):(zkz k l).length=l.length:=by
 suffices H:∀(l O:List Int),(l.foldl (zg4 k) O).length=O.length+l.length by simpa[zkz]using H l []
 intro l
 induction l with
 |nil=>intro O;rfl
 |cons x l ih=>intro O;rw[List.foldl_cons,ih,ziC,List.length_cons];omega
def kD(rows:List Row)(x:Int):Int:=aL rows 1 x
theorem Kq {A:List Int}(h:A≠ []):∃A' y,A=A'++[y]:=by
 rcases List.eq_nil_or_concat A with e|⟨l,z,e⟩
 ·exact absurd e h
 ·exact⟨l,z,by rw[e];simp⟩
def JI(rows:List Row)(l:List Int):List Int:=l.flatMap (Wg rows 8)
def zfJ(rows:List Row)(l:List Int):List Int:=zkz (kD rows) (JI rows l)
theorem zdo(rows:List Row)(l:List Int):(JI rows l).length≤768*l.length:=by
 induction l with
 |nil=>simp[JI]
 |cons x l ih=>
  have:=VF rows 8 x
  simp only[JI,List.flatMap_cons,List.length_append,List.length_cons]at*
  omega
theorem uI {rows:List Row}(hrw:ZX rows):∀d r,zY r→∀x∈Wg rows d r,zY x
 |0,r,hr,x,hx=>by
  unfold Wg at hx
  split at hx
  ·rename_i hs
   have hs':44032≤r∧r<55204:=by simpa[zf5]using hs
   unfold Vw at hx
   unfold zY
   split at hx<;>simp at hx<;>omega
  ·rw[List.mem_singleton.1 hx];exact hr
 |d+1,r,hr,x,hx=>by
  unfold Wg at hx
  split at hx
  ·rename_i hs
   have hs':44032≤r∧r<55204:=by simpa[zf5]using hs
   unfold Vw at hx
   unfold zY
   split at hx<;>simp at hx<;>omega
  ·split at hx
   ·rw[List.mem_singleton.1 hx];exact hr
   ·rename_i p hp
    have hb:=zhI hrw hp
    rcases List.mem_append.1 hx with hx|hx
    ·exact uI hrw d _ ⟨by omega,by omega⟩ x hx
    ·split at hx
     ·simp at hx
     ·exact uI hrw d _ ⟨by omega,by omega⟩ x hx
theorem zbt {rows:List Row}(hrw:ZX rows) {l:List Int}(hl:∀x∈l,zY x):∀x∈JI rows l,zY x:=fun x hx=>by
 obtain⟨r,hr,hx⟩:=List.mem_flatMap.1 hx
 exact uI hrw 8 r (hl r hr) x hx
end Go.Proofs.YtcgfdhdcihmeeaaGreat
end
section
namespace Go.Proofs.YtcgfdhdcihmeeaaGreat
open Go.AM
set_option maxHeartbeats 4000000
set_option maxRecDepth 10000
def wE(k:Int→Int)(o:List Int):Int×Int:=o.foldl (fun(p:Int×Int) y=>(p.1+1,if k y=0 then p.1 else p.2)) (0, -1)
def qO(k:Int→Int)(o:List Int):Int:=(wE k o).2
theorem Uc(k:Int→Int)(o:List Int)(y:Int):wE k (o++[y])=((wE k o).1+1,if k y=0 then(wE k o).1 else(wE k o).2):=by simp[wE,List.foldl_append]
theorem WU {P:List Int→Prop}(h0:P [])(h1:∀o y,P o→P (o++[y])):∀(n:Nat) (o:List Int),o.length=n→P o
 |0,o,h=>by rw[List.eq_nil_of_length_eq_zero h];exact h0
 |n+1,o,h=>by
  obtain⟨o',y,rfl⟩:=Kq (A:=o) (fun e=>by rw[e]at h;simp at h)
  exact h1 o' y (WU h0 h1 n o' (by simpa using h))
theorem zdE(k:Int→Int):∀o:List Int,(wE k o).1=o.length:=by
 exact fun o=>WU (P:=fun o=>(wE k o).1=o.length) rfl (fun o y ih=>by rw[Uc];simp[ih]) o.length o rfl
theorem jf(k:Int→Int)(o:List Int)(y:Int):qO k (o++[y])=if k y=0 then(o.length:Int)else qO k o:=by
 unfold qO;rw[Uc,zdE]
theorem xE(k:Int→Int):qO k []= -1:=rfl
theorem Xa(k:Int→Int):∀o:List Int, -1≤qO k o∧qO k o<o.length:=by
 exact fun o=>WU (P:=fun o=> -1≤qO k o∧qO k o<o.length) (by simp[xE]) (fun o y ih=>by rw[jf];simp only[List.length_append,List.length_singleton];split<;>omega) o.length o rfl
def zi5(k:Int→Int)(o:List Int)(a x:Int):Bool:=decide (a=o.length-1) || decide (k (o[o.length-1]?.getD 0)<k x)
def mkD(rows:List Row)(a b:Int):Option Int:=(ziT a b).or (zk9 rows a b)
def um(k:Int→Int)(mk:Int→Int→Option Int)(O:List Int)(x:Int):List Int:=
 if 0≤qO k O∧zi5 k O (qO k O) x=true then match mk (O[(qO k O).toNat]?.getD 0) x with
  |some r=>O.set (qO k O).toNat r
  |none=>O++[x]
 else O++[x]
def zay(k:Int→Int)(mk:Int→Int→Option Int)(l:List Int):List Int:=l.foldl (um k mk) []
theorem zd5 {rows:List Row}(hrw:ZX rows)(x y:Int):∀z,zk9 rows x y=some z→zY z:=by
 suffices H:∀(l:List Row) (a:Option Int),(∀w∈l,w∈rows)→(∀z,a=some z→zY z)→∀z,l.foldl (KE rows x y) a=some z→zY z by
  exact H rows none (fun _ h=>h) (fun z h=>by cases h)
 intro l
 induction l with
 |nil=>intro a _ ha z hz;exact ha z hz
 |cons w l ih=>
  intro a hw ha z hz
  refine ih _ (fun v hv=>hw v (by simp[hv])) (fun u hu=>?_) z hz
  unfold KE at hu
  split at hu
  ·rename_i hc
   injection hu with hu;subst hu
   have:=hrw.p w (hw w (by simp)) hc.1
   exact⟨by omega,by omega⟩
  ·exact ha u hu
theorem ziv {rows:List Row}(hrw:ZX rows) {x y z:Int}(h:mkD rows x y=some z):zY z:=by
 unfold mkD at h
 cases hj:ziT x y with
 |none=>rw[hj]at h;exact zd5 hrw x y z h
 |some q=>
  rw[hj]at h
  simp only[Option.some_or,Option.some.injEq]at h
  subst h
  unfold ziT at hj
  split at hj
  ·injection hj with hj;exact⟨by omega,by omega⟩
  ·split at hj
   ·rename_i hc
    have hs':44032≤x∧x<55204:=by simpa[zf5]using hc.1
    injection hj with hj;exact⟨by omega,by omega⟩
   ·cases hj
structure wI(o:List Int)(n:Nat):Prop where
 nn:o.length≤n
 ne:0<n→o≠ []
 r:∀x∈o,zY x
theorem wI.push {o:List Int} {n:Nat}(h:wI o n) {x:Int}(hx:zY x):wI (o++[x]) (n+1):=
 ⟨by simp;exact h.nn,by simp,fun y hy=>by rcases List.mem_append.1 hy with hy|hy;exact h.r y hy;rw[List.mem_singleton.1 hy];exact hx⟩
theorem wI.set {o:List Int} {n:Nat}(h:wI o n)(h0:o≠ []) {j:Nat} {x:Int}(hx:zY x):wI (o.set j x) (n+1):=
 ⟨by simp;have:=h.nn;omega,fun _ e=>h0 (by have:=congrArg List.length e;rw[List.length_set,List.length_nil]at this;exact List.eq_nil_of_length_eq_zero this),fun y hy=>by rcases List.mem_or_eq_of_mem_set hy with hy|rfl;exact h.r y hy;exact hx⟩
theorem ziI {rows:List Row}(hrw:ZX rows) {o:List Int} {n:Nat}(h:wI o n) {x:Int}(hx:zY x):wI (um (kD rows) (mkD rows) o x) (n+1):=by
 unfold um
 split
 ·rename_i hf
  split
  ·rename_i r hr
   refine h.set (fun e=>?_) (ziv hrw hr)
   rw[e,xE]at hf
   have:=hf.1
   simp at this
  ·exact h.push hx
 ·exact h.push hx
theorem zfM {rows:List Row}(hrw:ZX rows)(l:List Int)(hl:∀x∈l,zY x):wI (zay (kD rows) (mkD rows) l) l.length:=by
 suffices H:∀(l':List Int) (o:List Int) (n:Nat),(∀x∈l',zY x)→wI o n→wI (l'.foldl (um (kD rows) (mkD rows)) o) (n+l'.length) by
  have:=H l [] 0 hl ⟨by simp,by simp,by simp⟩
  simpa[zay]using this
 intro l'
 induction l' with
 |nil=>intro o n _ h;simpa using h
 |cons x l' ih=>
  intro o n hl h
  have:=ih _ _ (fun y hy=>hl y (by simp[hy])) (ziI hrw h (hl x (by simp)))
  simpa[Nat.add_assoc,Nat.add_comm 1]using this
def zfs(rows:List Row)(l:List Int):List Int:=zay (kD rows) (mkD rows) l
def zoj(rows:List Row)(l:List Int):List Int:=zfs rows (zfJ rows l)
theorem Je {k:Int→Int} {x z:Int}:∀l,z∈wZ k x l→z=x∨z∈l
 | [],h=>by simp[wZ]at h;exact .inl h
 |y::l,h=>by
  unfold wZ at h
  split at h
  ·rcases List.mem_cons.1 h with h|h
   ·exact .inr (by simp[h])
   ·rcases Je l h with h|h
    ·exact .inl h
    ·exact .inr (by simp[h])
  ·rcases List.mem_cons.1 h with h|h
   ·exact .inl h
   ·exact .inr h
theorem ziS {k:Int→Int} {z:Int}(l:List Int)(h:z∈zkz k l):z∈l:=by
 suffices H:∀(l O:List Int),z∈l.foldl (zg4 k) O→z∈O∨z∈l by
  rcases H l [] h with h|h
  ·simp at h
  ·exact h
 intro l
 induction l with
 |nil=>intro O h;exact .inl h
 |cons x l ih=>
  intro O h
  rcases ih _ h with h|h
  ·have h2:z∈wZ k x O.reverse:=by simpa[zg4]using h
   rcases Je _ h2 with h3|h3
   ·exact .inr (by simp[h3])
   ·exact .inl (by simpa using h3)
  ·exact .inr (by simp[h])
theorem zhA(rows:List Row)(l:List Int):(zfJ rows l).length≤768*l.length:=by unfold zfJ;rw[ziZ];exact zdo rows l
theorem zgo {rows:List Row}(hrw:ZX rows) {l:List Int}(hl:∀x∈l,zY x):∀x∈zfJ rows l,zY x:=fun x hx=>zbt hrw hl x (ziS _ hx)
end Go.Proofs.YtcgfdhdcihmeeaaGreat
end
section
namespace Go.Proofs.YtcgfdhdcihmeeaaGreat
open Go.AM
set_option maxHeartbeats 4000000
set_option maxRecDepth 10000
def ze6(need:Int):List (List Int)→Nat
 | []=>0
 |c::C=>if need≤0 then 0 else ze6 (need-c.length) C+1
def zal(nfc:List Int→List Int)(clus:List Int→List (List Int))(L:List (List Int))(a f e:Int)(s:List Int):List (List Int)×Int×Bool:=
 if f<0∨e<f∨(L.length:Int)<e then(L,a,false)
 else
  let rest:=(L.drop e.toNat).flatten
  let x:=nfc ((L.take f.toNat).flatten++(s++rest))
  if 65536<x.length then(L,a,false)
  else(clus x,(ze6 ((x.length:Int)-zlr x rest) (clus x):Nat),true)
end Go.Proofs.YtcgfdhdcihmeeaaGreat
end
section
namespace Go.Proofs.YtcgfdhdcihmeeaaGreat
open Go.AM
set_option maxRecDepth 10000
def wh(x:Int):Bool:=decide (aL za 7 x=1)
def ve(x:Int):Bool:=decide (aL za 5 x=1)
def uZ(c0:Int)(i:Nat)(x:Int):Bool:=wh x || (decide (x=65039)&&decide (0<i)&&ve c0)
def ZA(c0:Int):Nat→List Int→Bool
 |_,[]=>false
 |i,x::l=>uZ c0 i x || ZA c0 (i+1) l
def uy:List Int→Bool
 |a::b::_=>decide (zx za a=6)&&decide (zx za b=6)
 |_=>false
def UI(c:List Int):Int:=if ZA (c.headD 0) 0 c=true∨uy c=true then 2 else 1
theorem zi0(c:List Int):UI c=1∨UI c=2:=by unfold UI;split<;>simp
def zaE:Cl:=⟨[94],1⟩
def qe(r:Int):List Cl:=
 if 0≤r∧r<32 then [zaE,⟨[u8 (r.toNat+64)],1⟩]else if r=127 then [zaE,⟨[63],1⟩]else [⟨[239,191,189],1⟩]
def US:Int:=9676
def ZI(c:List Int):List Int:=
 (if zx za (c.headD 0)=4∨zx za (c.headD 0)=5∨zx za (c.headD 0)=8 then [US]else [])++c++
 (if zx za (c.getLastD 0)=7 then [US]else [])
def ofG(c:List Int):List Cl:=
 if zx za (c.headD 0)=1∨zx za (c.headD 0)=2∨zx za (c.headD 0)=3 then c.flatMap qe
 else [⟨kE (ZI c),UI (ZI c)⟩]
def uK(l:List Int):List Cl:=(zI za l).flatMap ofG
def atG(L:List (List Int))(k:Nat):Nat:=((L.take k).flatMap ofG).length
theorem zfT(r:Int):∀x∈qe r,x.w=1:=by
 unfold qe
 intro x hx
 split at hx
 ·simp[zaE]at hx;rcases hx with rfl|rfl<;>rfl
 ·split at hx
  ·simp[zaE]at hx;rcases hx with rfl|rfl<;>rfl
  ·simp at hx;rw[hx]
theorem zlI(c:List Int):∀x∈ofG c,k9 x:=by
 intro x hx
 unfold ofG at hx
 split at hx
 ·obtain⟨r,_,h⟩:=List.mem_flatMap.1 hx
  exact .inl (zfT r x h)
 ·simp at hx;rw[hx];exact zi0 _
theorem xN(r:Int):(qe r).length≤2:=by unfold qe;split<;>(try split)<;>simp
theorem Wy {α β:Type}(f:α→List β)(n:Nat):∀l:List α,(∀x∈l,(f x).length≤n)→(l.flatMap f).length≤n*l.length
 | [],_=>by simp
 |x::l,h=>by
  have h1:=h x (by simp)
  have h2:=Wy f n l fun y hy=>h y (by simp[hy])
  rw[List.flatMap_cons,List.length_append,List.length_cons,Nat.mul_add]
  omega
theorem zaz(c:List Int)(h:c≠ []):(ofG c).length≤2*c.length:=by
 have hc:0<c.length:=List.length_pos_iff.2 h
 unfold ofG
 split
 ·exact Wy qe 2 c fun x _=>xN x
 ·simp;omega
end Go.Proofs.YtcgfdhdcihmeeaaGreat
end
section
namespace Go.Proofs.YtcgfdhdcihmeeaaGreat
open Go.AM
set_option maxHeartbeats 4000000
set_option maxRecDepth 10000
structure zda(nfc:List Int→List Int)(clus:List Int→List (List Int)):Prop where
 len:∀l:List Int,l.length<2^20→(nfc l).length<2^31
 rune:∀l:List Int,l.length<2^20→(∀x∈l,zY x)→∀x∈nfc l,zY x
 flat:∀l,(clus l).flatten=l
 num:∀l,(clus l).length≤l.length
structure zov(L:List (List Int)):Prop where
 num:L.length≤QX L
 len:QX L≤65536
 rune:∀x∈L.flatten,zY x
theorem zda.sum {nfc clus}(h:zda nfc clus)(x:List Int):QX (clus x)=x.length:=by rw[←VQ,h.flat]
end Go.Proofs.YtcgfdhdcihmeeaaGreat
end
section
namespace Go.Proofs.YtcgfdhdcihmeeaaGreat
open Go.AM
set_option maxHeartbeats 4000000
set_option maxRecDepth 10000
end Go.Proofs.YtcgfdhdcihmeeaaGreat
end
section
namespace Go.Proofs.YtcgfdhdcihmeeaaGreat
open Go.AM
set_option maxHeartbeats 4000000
set_option maxRecDepth 100000
theorem Yq(k i:Int)(h:0≤i∧i≤1114111):∀l:List Row,(l.find? (jV k i)).map jB=atL (zH l k) i
 | []=>rfl
 |r::l=>by
  have ih:=Yq k i h l
  have e:zH (r::l) k=if r.k=k then jB r::zH l k else zH l k:=by
   by_cases hk:r.k=k<;>simp[zH,hk]
  rw[e,List.find?_cons]
  by_cases hk:r.k=k
  ·rw[if_pos hk]
   unfold atL at ih⊢
   rw[List.find?_cons]
   by_cases hq:r.f≤i∧i≤r.t
   ·have h1:jV k i r=true:=by simp[jV,hk,hq.1,hq.2]
    have h2:decide ((jB r).f≤i∧i≤(jB r).t)=true:=decide_eq_true (show max r.f 0≤i∧i≤min r.t 1114111 from⟨by omega,by omega⟩)
    rw[h1,h2];rfl
   ·have h1:jV k i r=false:=by
     unfold jV
     by_cases q1:r.f≤i
     ·have:¬i≤r.t:=fun q2=>hq ⟨q1,q2⟩
      simp[this]
     ·simp[q1]
    have h2:decide ((jB r).f≤i∧i≤(jB r).t)=false:=decide_eq_false (show ¬(max r.f 0≤i∧i≤min r.t 1114111)from fun q=>hq ⟨by omega,by omega⟩)
    rw[h1,h2];exact ih
  ·rw[if_neg hk]
   have h1:jV k i r=false:=by simp[jV,hk]
   rw[h1];exact ih
def spA(l:List Span)(i:Int):Int:=match atL l i with|some s=>s.a|none=>0
theorem UX(l:List Row)(k i:Int)(h:0≤i∧i≤1114111):aL l k i=spA (zH l k) i:=by
 have e:=Yq k i h l
 unfold aL spA rowAt
 rw[if_neg (by omega),←e]
 cases l.find? (jV k i)<;>rfl
theorem zag(i:Int):∀l:List Span,qG 0 i (l.map Qy)=spA l i
 | []=>rfl
 |s::l=>by
  have ih:=zag i l
  simp only[List.map_cons,qG]
  unfold spA atL at ih⊢
  rw[List.find?_cons]
  by_cases h:s.f≤i∧i≤s.t
  ·have h1:decide (s.f≤i∧i≤s.t)=true:=by simpa using h
   rw[if_pos (by exact h),h1];rfl
  ·have h1:decide (s.f≤i∧i≤s.t)=false:=by simpa using h
   rw[if_neg (by exact h),h1];exact ih
theorem kj4:qd za 4=zH za 4:=by decide+kernel
theorem kj5:qd za 5=zH za 5:=by decide+kernel
theorem kj6:qd za 6=zH za 6:=by decide+kernel
theorem X0(l:List Row)(k i:Int)(h:¬(0≤i∧i≤1114111)):aL l k i=0:=by
 unfold aL rowAt
 rw[if_pos (by omega)]
theorem zj9(r:Int):T0.brk (rn r)=aL za 4 r:=by
 by_cases h:0≤r∧r≤1114111
 ·rw[UX _ _ _ h,←kj4,←zag,YO (by omega)];exact congrArg (fun x=>qG 0 x ((qd za 4).map Qy)) (Int.toNat_of_nonneg h.1)
 ·rw[Vv (by omega),X0 _ _ _ h];exact xS.b
theorem zkx(r:Int):T0.cnj (rn r)=aL za 6 r:=by
 by_cases h:0≤r∧r≤1114111
 ·rw[UX _ _ _ h,←kj6,←zag,YO (by omega)];exact congrArg (fun x=>qG 0 x ((qd za 6).map Qy)) (Int.toNat_of_nonneg h.1)
 ·rw[Vv (by omega),X0 _ _ _ h];exact xS.j
theorem ze1(r:Int):(T0.flg (rn r)).p=decide (aL za 5 r=1):=by
 by_cases h:0≤r∧r≤1114111
 ·have e:(T0.flg (rn r)).p=qJ (qd za 5) r:=by
   rw[YO (by omega)];exact congrArg (qJ (qd za 5)) (Int.toNat_of_nonneg h.1)
  rw[e,UX _ _ _ h,kj5]
  unfold qJ spA
  cases atL (zH za 5) r with
  |none=>rfl
  |some s=>simp only;rfl
 ·rw[Vv (by omega),X0 _ _ _ h,xS.f];rfl
end Go.Proofs.YtcgfdhdcihmeeaaGreat
end
section
namespace Go.Proofs.YtcgfdhdcihmeeaaGreat
open Go.AM
set_option maxHeartbeats 4000000
set_option maxRecDepth 100000
theorem zlN {l:List Row} {k r:Int}(h:aL l k r≠0):∃w∈l,w.k=k∧w.f≤r∧r≤w.t∧aL l k r=w.a:=by
 unfold aL at h⊢
 cases e:rowAt l k r with
 |none=>rw[e]at h;exact absurd rfl h
 |some w=>
  unfold rowAt at e
  split at e
  ·simp at e
  ·have h1:=List.mem_of_find?_eq_some e
   have h2:=List.find?_some e
   simp only[jV,Bool.and_eq_true,decide_eq_true_eq]at h2
   exact⟨w,h1,h2.1.1,h2.1.2,h2.2,rfl⟩
end Go.Proofs.YtcgfdhdcihmeeaaGreat
end
section
namespace Go.Proofs.YtcgfdhdcihmeeaaGreat
open Go.AM
set_option maxHeartbeats 4000000
set_option maxRecDepth 100000
end Go.Proofs.YtcgfdhdcihmeeaaGreat
end
section
namespace Go.Proofs.YtcgfdhdcihmeeaaGreat
open Go.AM
set_option maxHeartbeats 400000
attribute [local irreducible] za
set_option maxRecDepth 100000
theorem zdj(k:Int→Int)(c:Int)(hc:k c=0):∀O:List Int,0≤qO k O→qO k (O.set (qO k O).toNat c)=qO k O:=by
 refine fun O=>WU (P:=fun O=>0≤qO k O→qO k (O.set (qO k O).toNat c)=qO k O) (fun h=>by rw[xE]at h;omega) (fun o y ih h=>?_) O.length O rfl
 rw[jf]at h⊢
 by_cases hy:k y=0
 ·rw[if_pos hy,Int.toNat_natCast]
  have e:(o++[y]).set o.length c=o++[c]:=by
   rw[List.set_append_right _ _ (Nat.le_refl _)];simp
  rw[e,jf,if_pos hc]
 ·rw[if_neg hy]at h⊢
  have hlt:=(Xa k o).2
  have e:(o++[y]).set (qO k o).toNat c=o.set (qO k o).toNat c++[y]:=List.set_append_left _ _ (by omega)
  rw[e,jf,if_neg hy,ih h]
theorem zdr(k:Int→Int)(O:List Int)(h0:O≠ [])(h:qO k O<O.length-1):k (O[O.length-1]?.getD 0)≠0:=by
 obtain⟨o,y,rfl⟩:=Kq h0
 rw[jf]at h
 have e:(o++[y])[(o++[y]).length-1]?.getD 0=y:=by simp
 rw[e]
 intro hy
 rw[if_pos hy,List.length_append,List.length_singleton]at h
 omega
structure zfY(k:Int→Int)(z:Cst)(O:List Int):Prop where
 o:z.o=O
 s:z.s=qO k O
 l:O≠ []→qO k O<O.length-1→z.l=k (O[O.length-1]?.getD 0)
theorem zfY.push {k:Int→Int} {z:Cst} {O:List Int}(h:zfY k z O)(x:Int):zfY k (wQ k z x) (O++[x]):=by
 obtain⟨h1,h2,h3⟩:=h
 refine⟨by simp[wQ,h1],?_,fun _ _=>by simp[wQ]⟩
 rw[jf];simp[wQ,h1,h2]
theorem zfY.step {k:Int→Int} {mk:Int→Int→Option Int}(hm:∀a b c,mk a b=some c→k c=0) {z:Cst} {O:List Int}(h:zfY k z O)(x:Int):zfY k (zeQ k mk z x) (um k mk O x):=by
 have hp:=h.push x
 obtain⟨h1,h2,h3⟩:=h
 subst h1
 have hlt:=Xa k z.o
 have hfree:Ym k z x↔0≤qO k z.o∧zi5 k z.o (qO k z.o) x=true:=by
  unfold Ym zi5
  rw[h2]
  simp only[Bool.or_eq_true,decide_eq_true_eq]
  by_cases h0:0≤qO k z.o
  ·have hne:z.o≠ []:=fun e=>by rw[e,xE]at h0;omega
   by_cases he:qO k z.o=z.o.length-1
   ·simp[he]
   ·have hl:=h3 hne (by omega)
    have hk:=zdr k z.o hne (by omega)
    rw[←hl]at hk⊢
    simp[h0,he,hk]
  ·simp[h0]
 unfold zeQ um
 by_cases hf:Ym k z x
 ·have hf2:=hfree.1 hf
  rw[if_pos hf,if_pos hf2,h2]
  cases e:mk (z.o[(qO k z.o).toNat]?.getD 0) x with
  |none=>simp only;exact hp
  |some c=>
   have hc:=hm _ _ _ e
   have es:=zdj k c hc z.o hf2.1
   refine⟨rfl,es.symm,fun h4 h5=>?_⟩
   simp only at h4 h5⊢
   rw[es,List.length_set]at h5
   have hne:z.o≠ []:=fun e=>by rw[e]at h4;simp at h4
   rw[h3 hne h5,List.length_set,List.getElem?_set_ne (by omega)]
 ·rw[if_neg hf,if_neg (fun g=>hf (hfree.2 g))]
  exact hp
end Go.Proofs.YtcgfdhdcihmeeaaGreat
end
section
namespace Go.Proofs.YtcgfdhdcihmeeaaGreat
open Go.AM
set_option maxHeartbeats 1000000
set_option maxRecDepth 100000
def Kw(k:Int):List Row:=za.filter fun w=>decide (w.k=k)
def zke(w v:Row):Bool:=decide (w.t<v.f) || decide (v.t<w.f)
def zoi:Bool:=(Kw 5).all fun w=>(Kw 4).all fun v=>zke w v || (!decide (v.a=1)&&!decide (v.a=2)&&!decide (v.a=3)&&!decide (v.a=5))
def znR:Bool:=(Kw 6).all fun w=>(Kw 4).all fun v=>zke w v || (!decide (v.a=1)&&!decide (v.a=2)&&!decide (v.a=3))
def zn4:Bool:=(Kw 6).all fun w=>decide (w.a=2) || (decide (w.a=1)&&decide (w.f=w.t)&&decide (zx za w.f=4))
theorem zji:zoi=true:=by decide+kernel
theorem zi4:znR=true:=by decide+kernel
theorem zby:zn4=true:=by decide+kernel
theorem Jq(x:Int):xX T0 x=zx za x:=by unfold xX zx;rw[zj9]
theorem zi3(x:Int):UR T0 x=ZR za x:=by unfold UR ZR;rw[Jq,zkx]
attribute [local irreducible] za
theorem row_in {k x:Int}(h:aL za k x≠0):∃w∈Kw k,w.f≤x∧x≤w.t∧aL za k x=w.a:=by
 obtain⟨w,h1,h2,h3,h4,h5⟩:=zlN h
 exact⟨w,List.mem_filter.2 ⟨h1,by simp[h2]⟩,h3,h4,h5⟩
theorem zfh {w v:Row} {x:Int}(h1:w.f≤x)(h2:x≤w.t)(h3:v.f≤x)(h4:x≤v.t):zke w v=false:=by
 unfold zke
 simp only[Bool.or_eq_false_iff,decide_eq_false_iff_not]
 omega
theorem zfQ(x:Int):zx za x=12∨zx za x=13∨zx za x=aL za 4 x:=by
 unfold zx
 split
 ·split
  ·exact .inl rfl
  ·exact .inr (.inl rfl)
 ·exact .inr (.inr rfl)
theorem zjd {x b:Int}(hb:zx za x=b)(h0:b≠0)(h12:b≠12)(h13:b≠13):∃v∈Kw 4,v.f≤x∧x≤v.t∧v.a=b:=by
 rcases zfQ x with e|e|e
 ·exact absurd (hb.symm.trans e) h12
 ·exact absurd (hb.symm.trans e) h13
 ·have e2:aL za 4 x=b:=e.symm.trans hb
  obtain⟨v,h1,h2,h3,h4⟩:=row_in (k:=4) (x:=x) (by rw[e2];exact h0)
  exact⟨v,h1,h2,h3,by rw[←h4,e2]⟩
theorem f1 {x:Int}(h:aL za 5 x=1):zx za x≠1∧zx za x≠2∧zx za x≠3∧zx za x≠5:=by
 obtain⟨w,h1,h2,h3,_⟩:=row_in (k:=5) (x:=x) (by rw[h];decide)
 have key:∀b:Int,b≠0→b≠12→b≠13→(b=1∨b=2∨b=3∨b=5)→zx za x≠b:=by
  intro b b0 b1 b2 hb e
  obtain⟨v,g1,g2,g3,g4⟩:=zjd e b0 b1 b2
  have f:=List.all_eq_true.1 (List.all_eq_true.1 zji w h1) v g1
  rw[zfh h2 h3 g2 g3]at f
  simp only[Bool.false_or,Bool.and_eq_true,Bool.not_eq_true',decide_eq_false_iff_not]at f
  omega
 exact⟨key 1 (by decide) (by decide) (by decide) (by decide),key 2 (by decide) (by decide) (by decide) (by decide),key 3 (by decide) (by decide) (by decide) (by decide),key 5 (by decide) (by decide) (by decide) (by decide)⟩
theorem f4(x:Int):ZR za x=0∨ZR za x=1∨ZR za x=2∨ZR za x=3:=by
 unfold ZR
 split
 ·rename_i h
  obtain⟨w,h1,_,_,h4⟩:=row_in h
  have f:=List.all_eq_true.1 zby w h1
  simp only[Bool.or_eq_true,Bool.and_eq_true,decide_eq_true_eq]at f
  omega
 ·split<;>simp
theorem f3 {x:Int}(h:ZR za x=1∨ZR za x=3):zx za x=4∨zx za x=5:=by
 unfold ZR at h
 split at h
 ·rename_i h0
  obtain⟨w,h1,h2,h3,h4⟩:=row_in h0
  have f:=List.all_eq_true.1 zby w h1
  simp only[Bool.or_eq_true,Bool.and_eq_true,decide_eq_true_eq]at f
  have:x=w.f:=by omega
  rw[this]
  exact .inl (by omega)
 ·split at h
  ·rename_i g;exact g.1
  ·omega
theorem f2 {x:Int}(h:ZR za x≠0):zx za x≠1∧zx za x≠2∧zx za x≠3:=by
 by_cases h0:aL za 6 x=0
 ·have e:ZR za x=if(zx za x=4∨zx za x=5)∧x≠8204 then 3 else 0:=by unfold ZR;rw[if_neg (fun q=>q h0)]
  rw[e]at h
  split at h
  ·rename_i g;have:=g.1;omega
  ·exact absurd rfl h
 ·obtain⟨w,h1,h2,h3,_⟩:=row_in h0
  have key:∀b:Int,b≠0→b≠12→b≠13→(b=1∨b=2∨b=3)→zx za x≠b:=by
   intro b b0 b1 b2 hb e
   obtain⟨v,g1,g2,g3,g4⟩:=zjd e b0 b1 b2
   have f:=List.all_eq_true.1 (List.all_eq_true.1 zi4 w h1) v g1
   rw[zfh h2 h3 g2 g3]at f
   simp only[Bool.false_or,Bool.and_eq_true,Bool.not_eq_true',decide_eq_false_iff_not]at f
   omega
  exact⟨key 1 (by decide) (by decide) (by decide) (by decide),key 2 (by decide) (by decide) (by decide) (by decide),key 3 (by decide) (by decide) (by decide) (by decide)⟩
end Go.Proofs.YtcgfdhdcihmeeaaGreat
end
