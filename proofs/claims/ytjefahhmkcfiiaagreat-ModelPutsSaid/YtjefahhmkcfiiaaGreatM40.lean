/- A part of the proof of this seat's statements, by an abstract machine: what each operation does to values, and what the law's functions compute. Conditions: as each law says. -/
import Derived.Test.YtjefahhmkcfiiaaGreatM39
section
namespace Go.Proofs.YtjefahhmkcfiiaaGreat
open Go.AM
set_option maxHeartbeats 4000000
set_option maxRecDepth 10000
def begD(rows:List Row)(p:Int)(pre:List Int)(x:Int):Bool:=
 if brkD rows p=1∧brkD rows x=2 then false
 else if hardB (brkD rows p) || hardB (brkD rows x)then true
 else if hanB (brkD rows p) (brkD rows x)then false
 else if brkD rows x=4∨brkD rows x=5∨brkD rows x=8∨brkD rows p=7 then false
 else if conjD rows (p::pre) x then false
 else if pictD rows p pre x then false
 else !flagD rows (p::pre) x
theorem begins_cr [Gi] {rows:List Row}(hw:RowsOK rows)(l:List Int)(n m:Nat)(hm:n=m+1)(h:n<l.length)(hl:l.length<2^31)(hr:∀x∈l,Rune x):
  CR Tryz.prog 90 [] [.p (rowsP rows),.p (runesV l),.p (.int .i64 n)] [] (is (.p (.bool (begD rows l[m] (l.take m).reverse l[n])))):=by
 refine CR_of_wpD [3] mixed 9 [] Tryz.func90 rfl (by kernel_rfl) rfl (by simp) (by simp) ?_
 have cj:=conjoined_cr hw l n h hl hr
 have pc:=pictured_cr hw l n m hm h hl hr
 have fl:=flagged_cr hw l n h hl hr
 have g:m<l.length:=by omega
 have tr:(l.take n).reverse=l[m]::(l.take m).reverse:=by subst hm;exact takeRev g
 rw[tr]at cj fl
 have em:=i32s_at h
 have em2:=i32s_at g
 have hx:=hr _ (List.getElem_mem h)
 have hp:=hr _ (List.getElem_mem g)
 generalize l[n]=x at*
 generalize l[m]=p at*
 have h':(n:Int)<l.length:=by omega
 have g':(m:Int)<l.length:=by omega
 have n0:¬((n:Int)=0):=by omega
 have n0':¬(n=0):=by omega
 have w1:IntKind.i64.wrap ((n:Int)-1)=(m:Int):=by rw[wrap64 (by omega) (by omega)];omega
 simp (maxSteps:=1000000) [go_sem,Tryz.f90,runesV,i32s_len,n0,n0',w1,g,g',em2]
 refine HCallK_of (.p (.int .i64 (brkD rows p))) rfl rfl (fun _=>pcallA_of 143 (brkD_cr hw hp) rfl ⟨rfl,by simp[Tryz.f143]⟩ ⟨by simp[go_sem],by simp[go_sem]⟩) ?_
 simp (maxSteps:=1000000) [go_sem,i32s_len,h,h',em]
 refine HCallK_of (.p (.int .i64 (brkD rows x))) rfl rfl (fun _=>pcallA_of 143 (brkD_cr hw hx) rfl ⟨rfl,by simp[Tryz.f143]⟩ ⟨by simp[go_sem],by simp[go_sem]⟩) ?_
 refine⟨by simp[go_sem],?_⟩
 have c1:=hard_cr (brkD rows p)
 have c2:=hard_cr (brkD rows x)
 have c3:=hangul_cr (brkD rows p) (brkD rows x)
 unfold begD
 generalize conjD rows (p::(l.take m).reverse) x=cc at cj⊢
 generalize pictD rows p (l.take m).reverse x=pp at pc⊢
 generalize flagD rows (p::(l.take m).reverse) x=ff at fl⊢
 generalize brkD rows p=a at*
 generalize brkD rows x=b at*
 generalize hanB a b=qh at c3⊢
 generalize hardB a=qa at c1⊢
 generalize hardB b=qb at c2⊢
 rcases Classical.em (a=1)with t1|t1<;>rcases Classical.em (b=2)with t2|t2
 ·have a1:(a=1)=True:=eq_true t1
  have b2:(b=2)=True:=eq_true t2
  simp (maxSteps:=1000000) [go_sem,a1,b2]
  exact ret_is (.p (.bool false)) rfl (by simp[go_sem,resOf,leA,leT,leP]) ⟨rfl,rfl⟩
 ·have a1:(a=1)=True:=eq_true t1
  have b2:(b=2)=False:=eq_false t2
  simp (maxSteps:=1000000) [go_sem,a1,b2]
  refine⟨⟨rfl,by simp[Tryz.f144]⟩,CallK_of [] c1 (by simp[go_sem,notHead]) ⟨by simp[go_sem],by simp[go_sem,runesV]⟩ (by simp[go_sem]) ?_⟩
  rintro _ rs ⟨rfl,rfl⟩
  cases qa
  ·simp (maxSteps:=1000000) [go_sem]
   refine⟨⟨rfl,by simp[Tryz.f144]⟩,CallK_of [] c2 (by simp[go_sem,notHead]) ⟨by simp[go_sem],by simp[go_sem,runesV]⟩ (by simp[go_sem]) ?_⟩
   rintro _ rs ⟨rfl,rfl⟩
   cases qb
   ·simp (maxSteps:=1000000) [go_sem]
    refine⟨⟨rfl,by simp[Tryz.f145]⟩,CallK_of [] c3 (by simp[go_sem,notHead]) ⟨by simp[go_sem],by simp[go_sem,runesV]⟩ (by simp[go_sem]) ?_⟩
    rintro _ rs ⟨rfl,rfl⟩
    cases qh
    ·skip
     rcases Classical.em (b=4)with t|t
     ·have b4:(b=4)=True:=eq_true t
      simp (maxSteps:=1000000) [go_sem,a1,b2,b4]
      exact ret_is (.p (.bool (false))) rfl (by simp[go_sem,resOf,leA,leT,leP]) ⟨rfl,by simp[a1,b2,b4]⟩
     ·have b4:(b=4)=False:=eq_false t
      rcases Classical.em (b=5)with t|t
      ·have b5:(b=5)=True:=eq_true t
       simp (maxSteps:=1000000) [go_sem,a1,b2,b4,b5]
       exact ret_is (.p (.bool (false))) rfl (by simp[go_sem,resOf,leA,leT,leP]) ⟨rfl,by simp[a1,b2,b4,b5]⟩
      ·have b5:(b=5)=False:=eq_false t
       rcases Classical.em (b=8)with t|t
       ·have b8:(b=8)=True:=eq_true t
        simp (maxSteps:=1000000) [go_sem,a1,b2,b4,b5,b8]
        exact ret_is (.p (.bool (false))) rfl (by simp[go_sem,resOf,leA,leT,leP]) ⟨rfl,by simp[a1,b2,b4,b5,b8]⟩
       ·have b8:(b=8)=False:=eq_false t
        rcases Classical.em (a=7)with t|t
        ·have a7:(a=7)=True:=eq_true t
         simp (maxSteps:=1000000) [go_sem,a1,b2,b4,b5,b8,a7]
         exact ret_is (.p (.bool (false))) rfl (by simp[go_sem,resOf,leA,leT,leP]) ⟨rfl,by simp[a1,b2,b4,b5,b8,a7]⟩
        ·have a7:(a=7)=False:=eq_false t
         simp (maxSteps:=1000000) [go_sem,a1,b2,b4,b5,b8,a7]
         refine⟨⟨rfl,by simp[Tryz.f146]⟩,CallK_of [] cj (by simp[go_sem,notHead]) ⟨by simp[go_sem],by simp[go_sem,runesV]⟩ (by simp[go_sem]) ?_⟩
         rintro _ rs ⟨rfl,rfl⟩
         cases cc
         ·simp (maxSteps:=1000000) [go_sem]
          refine⟨⟨rfl,by simp[Tryz.f147]⟩,CallK_of [] pc (by simp[go_sem,notHead]) ⟨by simp[go_sem],by simp[go_sem,runesV]⟩ (by simp[go_sem]) ?_⟩
          rintro _ rs ⟨rfl,rfl⟩
          cases pp
          ·simp (maxSteps:=1000000) [go_sem]
           refine⟨⟨rfl,by simp[Tryz.f148]⟩,CallK_of [] fl (by simp[go_sem,notHead]) ⟨by simp[go_sem],by simp[go_sem,runesV]⟩ (by simp[go_sem]) ?_⟩
           rintro _ rs ⟨rfl,rfl⟩
           simp (maxSteps:=1000000) [go_sem]
           exact ret_is (.p (.bool (!ff))) rfl (by simp[go_sem,resOf,leA,leT,leP]) ⟨rfl,by simp[a1,b2,b4,b5,b8,a7]⟩
          ·simp (maxSteps:=1000000) [go_sem]
           exact ret_is (.p (.bool (false))) rfl (by simp[go_sem,resOf,leA,leT,leP]) ⟨rfl,by simp[a1,b2,b4,b5,b8,a7]⟩
         ·simp (maxSteps:=1000000) [go_sem]
          exact ret_is (.p (.bool (false))) rfl (by simp[go_sem,resOf,leA,leT,leP]) ⟨rfl,by simp[a1,b2,b4,b5,b8,a7]⟩
    ·simp (maxSteps:=1000000) [go_sem]
     exact ret_is (.p (.bool (false))) rfl (by simp[go_sem,resOf,leA,leT,leP]) ⟨rfl,by simp[a1,b2]⟩
   ·simp (maxSteps:=1000000) [go_sem]
    exact ret_is (.p (.bool (true))) rfl (by simp[go_sem,resOf,leA,leT,leP]) ⟨rfl,by simp[a1,b2]⟩
  ·simp (maxSteps:=1000000) [go_sem]
   exact ret_is (.p (.bool (true))) rfl (by simp[go_sem,resOf,leA,leT,leP]) ⟨rfl,by simp[a1,b2]⟩
 ·have a1:(a=1)=False:=eq_false t1
  have b2:(b=2)=True:=eq_true t2
  simp (maxSteps:=1000000) [go_sem,a1,b2]
  refine⟨⟨rfl,by simp[Tryz.f144]⟩,CallK_of [] c1 (by simp[go_sem,notHead]) ⟨by simp[go_sem],by simp[go_sem,runesV]⟩ (by simp[go_sem]) ?_⟩
  rintro _ rs ⟨rfl,rfl⟩
  cases qa
  ·simp (maxSteps:=1000000) [go_sem]
   refine⟨⟨rfl,by simp[Tryz.f144]⟩,CallK_of [] c2 (by simp[go_sem,notHead]) ⟨by simp[go_sem],by simp[go_sem,runesV]⟩ (by simp[go_sem]) ?_⟩
   rintro _ rs ⟨rfl,rfl⟩
   cases qb
   ·simp (maxSteps:=1000000) [go_sem]
    refine⟨⟨rfl,by simp[Tryz.f145]⟩,CallK_of [] c3 (by simp[go_sem,notHead]) ⟨by simp[go_sem],by simp[go_sem,runesV]⟩ (by simp[go_sem]) ?_⟩
    rintro _ rs ⟨rfl,rfl⟩
    cases qh
    ·skip
     rcases Classical.em (b=4)with t|t
     ·have b4:(b=4)=True:=eq_true t
      simp (maxSteps:=1000000) [go_sem,a1,b2,b4]
      exact ret_is (.p (.bool (false))) rfl (by simp[go_sem,resOf,leA,leT,leP]) ⟨rfl,by simp[a1,b2,b4]⟩
     ·have b4:(b=4)=False:=eq_false t
      rcases Classical.em (b=5)with t|t
      ·have b5:(b=5)=True:=eq_true t
       simp (maxSteps:=1000000) [go_sem,a1,b2,b4,b5]
       exact ret_is (.p (.bool (false))) rfl (by simp[go_sem,resOf,leA,leT,leP]) ⟨rfl,by simp[a1,b2,b4,b5]⟩
      ·have b5:(b=5)=False:=eq_false t
       rcases Classical.em (b=8)with t|t
       ·have b8:(b=8)=True:=eq_true t
        simp (maxSteps:=1000000) [go_sem,a1,b2,b4,b5,b8]
        exact ret_is (.p (.bool (false))) rfl (by simp[go_sem,resOf,leA,leT,leP]) ⟨rfl,by simp[a1,b2,b4,b5,b8]⟩
       ·have b8:(b=8)=False:=eq_false t
        rcases Classical.em (a=7)with t|t
        ·have a7:(a=7)=True:=eq_true t
         simp (maxSteps:=1000000) [go_sem,a1,b2,b4,b5,b8,a7]
         exact ret_is (.p (.bool (false))) rfl (by simp[go_sem,resOf,leA,leT,leP]) ⟨rfl,by simp[a1,b2,b4,b5,b8,a7]⟩
        ·have a7:(a=7)=False:=eq_false t
         simp (maxSteps:=1000000) [go_sem,a1,b2,b4,b5,b8,a7]
         refine⟨⟨rfl,by simp[Tryz.f146]⟩,CallK_of [] cj (by simp[go_sem,notHead]) ⟨by simp[go_sem],by simp[go_sem,runesV]⟩ (by simp[go_sem]) ?_⟩
         rintro _ rs ⟨rfl,rfl⟩
         cases cc
         ·simp (maxSteps:=1000000) [go_sem]
          refine⟨⟨rfl,by simp[Tryz.f147]⟩,CallK_of [] pc (by simp[go_sem,notHead]) ⟨by simp[go_sem],by simp[go_sem,runesV]⟩ (by simp[go_sem]) ?_⟩
          rintro _ rs ⟨rfl,rfl⟩
          cases pp
          ·simp (maxSteps:=1000000) [go_sem]
           refine⟨⟨rfl,by simp[Tryz.f148]⟩,CallK_of [] fl (by simp[go_sem,notHead]) ⟨by simp[go_sem],by simp[go_sem,runesV]⟩ (by simp[go_sem]) ?_⟩
           rintro _ rs ⟨rfl,rfl⟩
           simp (maxSteps:=1000000) [go_sem]
           exact ret_is (.p (.bool (!ff))) rfl (by simp[go_sem,resOf,leA,leT,leP]) ⟨rfl,by simp[a1,b2,b4,b5,b8,a7]⟩
          ·simp (maxSteps:=1000000) [go_sem]
           exact ret_is (.p (.bool (false))) rfl (by simp[go_sem,resOf,leA,leT,leP]) ⟨rfl,by simp[a1,b2,b4,b5,b8,a7]⟩
         ·simp (maxSteps:=1000000) [go_sem]
          exact ret_is (.p (.bool (false))) rfl (by simp[go_sem,resOf,leA,leT,leP]) ⟨rfl,by simp[a1,b2,b4,b5,b8,a7]⟩
    ·simp (maxSteps:=1000000) [go_sem]
     exact ret_is (.p (.bool (false))) rfl (by simp[go_sem,resOf,leA,leT,leP]) ⟨rfl,by simp[a1,b2]⟩
   ·simp (maxSteps:=1000000) [go_sem]
    exact ret_is (.p (.bool (true))) rfl (by simp[go_sem,resOf,leA,leT,leP]) ⟨rfl,by simp[a1,b2]⟩
  ·simp (maxSteps:=1000000) [go_sem]
   exact ret_is (.p (.bool (true))) rfl (by simp[go_sem,resOf,leA,leT,leP]) ⟨rfl,by simp[a1,b2]⟩
 ·have a1:(a=1)=False:=eq_false t1
  have b2:(b=2)=False:=eq_false t2
  simp (maxSteps:=1000000) [go_sem,a1,b2]
  refine⟨⟨rfl,by simp[Tryz.f144]⟩,CallK_of [] c1 (by simp[go_sem,notHead]) ⟨by simp[go_sem],by simp[go_sem,runesV]⟩ (by simp[go_sem]) ?_⟩
  rintro _ rs ⟨rfl,rfl⟩
  cases qa
  ·simp (maxSteps:=1000000) [go_sem]
   refine⟨⟨rfl,by simp[Tryz.f144]⟩,CallK_of [] c2 (by simp[go_sem,notHead]) ⟨by simp[go_sem],by simp[go_sem,runesV]⟩ (by simp[go_sem]) ?_⟩
   rintro _ rs ⟨rfl,rfl⟩
   cases qb
   ·simp (maxSteps:=1000000) [go_sem]
    refine⟨⟨rfl,by simp[Tryz.f145]⟩,CallK_of [] c3 (by simp[go_sem,notHead]) ⟨by simp[go_sem],by simp[go_sem,runesV]⟩ (by simp[go_sem]) ?_⟩
    rintro _ rs ⟨rfl,rfl⟩
    cases qh
    ·skip
     rcases Classical.em (b=4)with t|t
     ·have b4:(b=4)=True:=eq_true t
      simp (maxSteps:=1000000) [go_sem,a1,b2,b4]
      exact ret_is (.p (.bool (false))) rfl (by simp[go_sem,resOf,leA,leT,leP]) ⟨rfl,by simp[a1,b2,b4]⟩
     ·have b4:(b=4)=False:=eq_false t
      rcases Classical.em (b=5)with t|t
      ·have b5:(b=5)=True:=eq_true t
       simp (maxSteps:=1000000) [go_sem,a1,b2,b4,b5]
       exact ret_is (.p (.bool (false))) rfl (by simp[go_sem,resOf,leA,leT,leP]) ⟨rfl,by simp[a1,b2,b4,b5]⟩
      ·have b5:(b=5)=False:=eq_false t
       rcases Classical.em (b=8)with t|t
       ·have b8:(b=8)=True:=eq_true t
        simp (maxSteps:=1000000) [go_sem,a1,b2,b4,b5,b8]
        exact ret_is (.p (.bool (false))) rfl (by simp[go_sem,resOf,leA,leT,leP]) ⟨rfl,by simp[a1,b2,b4,b5,b8]⟩
       ·have b8:(b=8)=False:=eq_false t
        rcases Classical.em (a=7)with t|t
        ·have a7:(a=7)=True:=eq_true t
         simp (maxSteps:=1000000) [go_sem,a1,b2,b4,b5,b8,a7]
         exact ret_is (.p (.bool (false))) rfl (by simp[go_sem,resOf,leA,leT,leP]) ⟨rfl,by simp[a1,b2,b4,b5,b8,a7]⟩
        ·have a7:(a=7)=False:=eq_false t
         simp (maxSteps:=1000000) [go_sem,a1,b2,b4,b5,b8,a7]
         refine⟨⟨rfl,by simp[Tryz.f146]⟩,CallK_of [] cj (by simp[go_sem,notHead]) ⟨by simp[go_sem],by simp[go_sem,runesV]⟩ (by simp[go_sem]) ?_⟩
         rintro _ rs ⟨rfl,rfl⟩
         cases cc
         ·simp (maxSteps:=1000000) [go_sem]
          refine⟨⟨rfl,by simp[Tryz.f147]⟩,CallK_of [] pc (by simp[go_sem,notHead]) ⟨by simp[go_sem],by simp[go_sem,runesV]⟩ (by simp[go_sem]) ?_⟩
          rintro _ rs ⟨rfl,rfl⟩
          cases pp
          ·simp (maxSteps:=1000000) [go_sem]
           refine⟨⟨rfl,by simp[Tryz.f148]⟩,CallK_of [] fl (by simp[go_sem,notHead]) ⟨by simp[go_sem],by simp[go_sem,runesV]⟩ (by simp[go_sem]) ?_⟩
           rintro _ rs ⟨rfl,rfl⟩
           simp (maxSteps:=1000000) [go_sem]
           exact ret_is (.p (.bool (!ff))) rfl (by simp[go_sem,resOf,leA,leT,leP]) ⟨rfl,by simp[a1,b2,b4,b5,b8,a7]⟩
          ·simp (maxSteps:=1000000) [go_sem]
           exact ret_is (.p (.bool (false))) rfl (by simp[go_sem,resOf,leA,leT,leP]) ⟨rfl,by simp[a1,b2,b4,b5,b8,a7]⟩
         ·simp (maxSteps:=1000000) [go_sem]
          exact ret_is (.p (.bool (false))) rfl (by simp[go_sem,resOf,leA,leT,leP]) ⟨rfl,by simp[a1,b2,b4,b5,b8,a7]⟩
    ·simp (maxSteps:=1000000) [go_sem]
     exact ret_is (.p (.bool (false))) rfl (by simp[go_sem,resOf,leA,leT,leP]) ⟨rfl,by simp[a1,b2]⟩
   ·simp (maxSteps:=1000000) [go_sem]
    exact ret_is (.p (.bool (true))) rfl (by simp[go_sem,resOf,leA,leT,leP]) ⟨rfl,by simp[a1,b2]⟩
  ·simp (maxSteps:=1000000) [go_sem]
   exact ret_is (.p (.bool (true))) rfl (by simp[go_sem,resOf,leA,leT,leP]) ⟨rfl,by simp[a1,b2]⟩
end Go.Proofs.YtjefahhmkcfiiaaGreat
end
section
namespace Go.Proofs.YtjefahhmkcfiiaaGreat
open Go.AM
set_option maxHeartbeats 4000000
set_option maxRecDepth 10000
def runD(rows:List Row):Int→List Int→List Int→Nat
 |_,_,[]=>0
 |p,pre,x::xs=>if begD rows p pre x then 0 else runD rows x (p::pre) xs+1
theorem runD_le(rows:List Row):∀(l pre:List Int) (p:Int),runD rows p pre l≤l.length
 | [],_,_=>by simp[runD]
 |x::l,pre,p=>by
  unfold runD
  split
  ·omega
  ·have:=runD_le rows l (p::pre) x
   simp only[List.length_cons];omega
theorem nextD_cr [Gi] {rows:List Row}(hw:RowsOK rows)(l:List Int)(a:Nat)(h:a<l.length)(hl:l.length<2^31)(hr:∀x∈l,Rune x):
  CR Tryz.prog 129 [] [.p (rowsP rows),.p (runesV l),.p (.int .i64 a)] [] (is (.p (.int .i64 ((a+1+runD rows l[a] (l.take a).reverse (l.drop (a+1)):Nat):Int)))):=by
 refine CR_of_wp mixed 8 [] Tryz.func129 rfl (by kernel_rfl) rfl (by simp) (by simp) ?_
 obtain⟨N,hN⟩:∃N,N=a+1+runD rows l[a] (l.take a).reverse (l.drop (a+1)):=⟨_,rfl⟩
 rw[←hN]
 have w1:IntKind.i64.wrap ((a:Int)+1)=((a+1:Nat):Int):=wrapN_one (by omega)
 simp (maxSteps:=1000000) [go_sem,Tryz.f129,runesV,i32s_len,w1]
 refine wpA_loopU (fun k:Nat=>a+1+k≤l.length∧∀h:a+k<l.length,N=a+1+k+runD rows l[a+k] (l.take (a+k)).reverse (l.drop (a+1+k))) (fun k=>[(7,.p (.int .i64 ((a+1+k:Nat):Int)))]) (fun _=>[]) (fun k=>l.length-k) 0 ⟨by omega,fun _=>hN⟩ (by simp[go_sem,LeS,leV,leR,leA,leL,leT,leP]) (fun k hs=>?_)
 obtain⟨h1,h2⟩:=hs
 have h3:=h2 (by omega)
 obtain⟨i,hi⟩:∃i,i=a+1+k:=⟨_,rfl⟩
 have hi':a+k<l.length:=by omega
 rw[←hi]at h1 h3⊢
 by_cases hil:i<l.length
 ·have bg:=begins_cr hw l i (a+k) (by omega) hil hl hr
  rw[List.drop_eq_getElem_cons hil,runD]at h3
  have tr:=takeRev hi'
  rw[←tr]at h3
  have hil':(i:Int)<l.length:=by omega
  have w2:IntKind.i64.wrap ((i:Int)+1)=((a+1+(k+1):Nat):Int):=by rw[wrapN_one (by omega)];omega
  generalize begD rows l[a+k] (l.take (a+k)).reverse l[i]=q at bg h3
  simp (maxSteps:=1000000) [go_sem,i32s_len,hil,hil']
  refine⟨⟨rfl,by simp[Tryz.f90]⟩,CallK_of [] bg (by simp[go_sem,notHead]) ⟨by simp[go_sem],by simp[go_sem,runesV]⟩ (by simp[go_sem]) ?_⟩
  rintro _ rs ⟨rfl,rfl⟩
  cases q with
  |true=>
   obtain rfl:N=i:=by simpa using h3
   simp (maxSteps:=1000000) [go_sem]
   exact ret_is (.p (.int .i64 (N:Nat))) rfl (by simp[go_sem,resOf,leA,leT,leP]) ⟨rfl,rfl⟩
  |false=>
   simp (maxSteps:=1000000) [go_sem,w2]
   have e1:a+(k+1)=i:=by omega
   have e2:a+1+(k+1)=i+1:=by omega
   have e3:a+k+1=i:=by omega
   exact LoopK_next (k+1) ⟨by omega,fun _=>by
    simp only[e1,e2]
    rw[e3]at h3
    simp only[Bool.false_eq_true,if_false]at h3
    omega⟩ (by simp[go_sem,LeS,leV,leR,leA,leL,leT,leP]) (by omega)
 ·have hil':¬(i:Int)<l.length:=by omega
  have e:N=l.length:=by rw[h3,List.drop_eq_nil_of_le (by omega)];simp only[runD];omega
  rw[e]
  simp (maxSteps:=1000000) [go_sem,i32s_len,hil,hil']
  exact ret_is (.p (.int .i64 (l.length:Nat))) rfl (by simp[go_sem,resOf,leA,leT,leP]) ⟨rfl,rfl⟩
def clusDGo(rows:List Row):Nat→List Int→List Int→List (List Int)
 |0,_,_=>[]
 |_,_,[]=>[]
 |n+1,pre,x::xs=>(x::xs.take (runD rows x pre xs))::clusDGo rows n ((xs.take (runD rows x pre xs)).reverse++x::pre) (xs.drop (runD rows x pre xs))
def clusD(rows:List Row)(l:List Int):List (List Int):=clusDGo rows l.length [] l
theorem clusDGo_fuel(rows:List Row):∀(n m:Nat) (pre l:List Int),l.length≤n→l.length≤m→clusDGo rows n pre l=clusDGo rows m pre l
 |0,m,pre,l,h1,h2=>by
  obtain rfl:l=[]:=List.eq_nil_of_length_eq_zero (by omega)
  cases m<;>rfl
 |n+1,0,pre,l,h1,h2=>by
  obtain rfl:l=[]:=List.eq_nil_of_length_eq_zero (by omega)
  rfl
 |n+1,m+1,pre,[],h1,h2=>rfl
 |n+1,m+1,pre,r::l,h1,h2=>by
  simp only[List.length_cons]at h1 h2
  simp only[clusDGo]
  rw[clusDGo_fuel rows n m _ _ (by rw[List.length_drop];omega) (by rw[List.length_drop];omega)]
theorem clusD_step(rows:List Row)(l:List Int)(a e:Nat)(h:a<l.length)(he:e=a+1+runD rows l[a] (l.take a).reverse (l.drop (a+1))):
  clusDGo rows (l.length-a) (l.take a).reverse (l.drop a)=(l.drop a).take (e-a)::clusDGo rows (l.length-e) (l.take e).reverse (l.drop e):=by
 rw[List.drop_eq_getElem_cons h]
 obtain⟨n,hn⟩:∃n,l.length-a=n+1:=⟨l.length-a-1,by omega⟩
 have hk:=runD_le rows (l.drop (a+1)) (l.take a).reverse l[a]
 rw[List.length_drop]at hk
 rw[hn,clusDGo]
 generalize runD rows l[a] (l.take a).reverse (l.drop (a+1))=k at he hk
 have e1:e-a=k+1:=by omega
 have e2:(l.drop (a+1)).drop k=l.drop e:=by rw[List.drop_drop,he]
 have e3:((l.drop (a+1)).take k).reverse++l[a]::(l.take a).reverse=(l.take e).reverse:=by
  rw[←takeRev h,←List.reverse_append,he];exact congrArg List.reverse List.take_add.symm
 rw[e1,e2,e3,List.take_succ_cons]
 rw[clusDGo_fuel rows n (l.length-e) _ _ (by rw[List.length_drop];omega) (by rw[List.length_drop];omega)]
theorem clustersD_cr [Gi] {rows:List Row}(hw:RowsOK rows)(l:List Int)(hl:l.length<2^31)(hr:∀x∈l,Rune x):
  CR Tryz.prog 73 [] [.p (rowsP rows),.p (runesV l)] [] (is (.p (textsV (clusD rows l)))):=by
 refine CR_of_wp mixed 8 [] Tryz.func73 rfl (by kernel_rfl) rfl (by simp) (by simp) ?_
 simp (maxSteps:=1000000) [go_sem,Tryz.f73,runesV]
 refine wpA_loopU (fun r:List (List Int)×Nat=>r.2≤l.length∧r.1.length≤r.2∧clusD rows l=r.1++clusDGo rows (l.length-r.2) (l.take r.2).reverse (l.drop r.2)) (fun r=>[(6,.p (.int .i64 (r.2:Nat))),(5,.os [5] 1 (textsP r.1)),(7,.junk)]) (fun _=>[]) (fun r=>l.length-r.2) ([],0) ⟨by simp,by simp,rfl⟩ (by simp[go_sem,LeS,leV,leR,leA,leL,textsP]) (fun r hr2=>?_)
 obtain⟨D,a⟩:=r
 obtain⟨p1,p3,p2⟩:=hr2
 simp only at p1 p2 p3
 by_cases hal:a<l.length
 ·have hnx:=nextD_cr hw l a hal hl hr
  obtain⟨e,he⟩:∃e,e=a+1+runD rows l[a] (l.take a).reverse (l.drop (a+1)):=⟨_,rfl⟩
  have hrun:=runD_le rows (l.drop (a+1)) (l.take a).reverse l[a]
  rw[List.length_drop]at hrun
  have hcl:=clusD_step rows l a e hal he
  rw[←he]at hnx
  have hel:e≤l.length:=by omega
  have hae:a<e:=by omega
  have g1:(a:Int)<l.length:=by omega
  have hcc:cut (i32s l) a e=i32s ((l.drop a).take (e-a)):=by simp[cut,i32s]
  obtain⟨C,hC⟩:∃C,C=(l.drop a).take (e-a):=⟨_,rfl⟩
  rw[←hC]at hcl hcc
  clear he hrun
  simp (maxSteps:=1000000) [go_sem,i32s_len,g1]
  refine⟨⟨rfl,by simp[Tryz.f129]⟩,CallK_of [] hnx (by simp[go_sem,notHead]) ⟨by simp[go_sem],by simp[go_sem,runesV]⟩ (by simp[go_sem]) ?_⟩
  rintro _ rs ⟨rfl,rfl⟩
  simp (maxSteps:=1000000) [go_sem,i32s_len,hcc]
  refine⟨⟨by omega,by omega⟩,rfl,by simp[textsP];omega,LoopK_next (D++[C],e) ⟨by show e≤l.length;omega,by simp;omega,by rw[p2,hcl];simp⟩ (by simp[go_sem,LeS,leV,leR,leA,leL,textsP,runesV]) (by show l.length-e<l.length-a;omega)⟩
 ·have g1:¬(a:Int)<l.length:=by omega
  have e:clusD rows l=D:=by rw[p2,List.drop_eq_nil_of_le (by omega)];cases l.length-a<;>simp[clusDGo]
  rw[e]
  simp (maxSteps:=1000000) [go_sem,i32s_len,g1]
  exact ret_is (.p (textsV D)) rfl (by simp[go_sem,resOf,leA,leT,leP,textsV]) ⟨rfl,rfl⟩
end Go.Proofs.YtjefahhmkcfiiaaGreat
end
section
namespace Go.Proofs.YtjefahhmkcfiiaaGreat
open Go.AM
set_option maxHeartbeats 4000000
set_option maxRecDepth 10000
theorem same_cr [Gi](a:List Int)(ha:a.length<2^31):CR Tryz.prog 23 [] [.p (runesV a),.p (runesV a)] [] (is (.p (.bool true))):=by
 refine CR_of_wp mixed 6 [] Tryz.func23 rfl (by kernel_rfl) rfl (by simp) (by simp) ?_
 simp (maxSteps:=1000000) [go_sem,Tryz.f23,runesV,i32s_len]
 refine wpA_loopU (fun k:Nat=>k≤a.length) (fun k=>[(5,.p (.int .i64 (k:Nat)))]) (fun _=>[]) (fun k=>a.length-k) 0 (by omega) (by simp[go_sem,LeS,leV,leR,leA,leL]) (fun k hk=>?_)
 by_cases h:k<a.length
 ·have em:=i32s_at h
  have h':(k:Int)<a.length:=by omega
  have w1:IntKind.i64.wrap ((k:Int)+1)=((k+1:Nat):Int):=wrapN_one (by omega)
  generalize a[k]=x at em
  simp (maxSteps:=1000000) [go_sem,i32s_len,h,h',em,w1]
  exact LoopK_next (k+1) (by omega) (by simp[go_sem,LeS,leV,leR,leA,leL]) (by omega)
 ·have h':¬(k:Int)<a.length:=by omega
  simp (maxSteps:=1000000) [go_sem,i32s_len,h']
  exact ret_is (.p (.bool true)) rfl (by simp[go_sem,resOf,leA]) ⟨rfl,rfl⟩
theorem sameTexts_cr [Gi](L:List (List Int))(hL:L.length<2^31)(hl:∀x∈L,x.length<2^31):CR Tryz.prog 22 [] [.p (textsV L),.p (textsV L)] [] (is (.p (.bool true))):=by
 refine CR_of_wpD [6] mixed 6 [] Tryz.func22 rfl (by kernel_rfl) rfl (by simp) (by simp) ?_
 simp (maxSteps:=1000000) [go_sem,Tryz.f22,textsV,textsP_len]
 refine wpA_loopU (fun k:Nat=>k≤L.length) (fun k=>[(5,.p (.int .i64 (k:Nat)))]) (fun _=>[]) (fun k=>L.length-k) 0 (by omega) (by simp[go_sem,LeS,leV,leR,leA,leL]) (fun k hk=>?_)
 by_cases h:k<L.length
 ·have em:elemAt (textsP L) k=runesV L[k]:=by rw[textsP,elemAt_map runesV L k h]
  have h':(k:Int)<L.length:=by omega
  have hx:=hl _ (List.getElem_mem h)
  have w1:IntKind.i64.wrap ((k:Int)+1)=((k+1:Nat):Int):=wrapN_one (by omega)
  generalize L[k]=x at em hx
  simp (maxSteps:=1000000) [go_sem,textsP_len,h,h',em,runesV]
  refine HCallK_of (.p (.bool true)) rfl rfl (fun _=>pcallA_of 23 (same_cr x hx) rfl ⟨rfl,by simp[Tryz.f23]⟩ ⟨by simp[go_sem],by simp[go_sem,runesV]⟩) ?_
  simp (maxSteps:=1000000) [go_sem,w1]
  exact LoopK_next (k+1) (by omega) (by simp[go_sem,LeS,leV,leR,leA,leL]) (by omega)
 ·have h':¬(k:Int)<L.length:=by omega
  simp (maxSteps:=1000000) [go_sem,textsP_len,h']
  exact ret_is (.p (.bool true)) rfl (by simp[go_sem,resOf,leA]) ⟨rfl,rfl⟩
theorem joinedL_cr [Gi](L:List (List Int))(hL:L.length<2^31)(hn:sumL L<2^31):CR Tryz.prog 25 [] [.p (textsV L)] [] (is (.p (runesV L.flatten))):=by
 refine CR_of_wp mixed 5 [] Tryz.func25 rfl (by kernel_rfl) rfl (by simp) (by simp) ?_
 simp (maxSteps:=1000000) [go_sem,Tryz.f25,textsV]
 refine wpA_loopU (fun i:Nat=>i≤L.length) (fun i=>[(3,.os [3] 1 (i32s (L.take i).flatten)),(4,.p (.int .i64 (i:Nat)))]) (fun _=>[]) (fun i=>L.length-i) 0 (by omega) (by simp[go_sem,LeS,leV,leR,leA,leL,i32s]) (fun i hi=>?_)
 have hsi:=sumL_take L i
 by_cases hil:i<L.length
 ·have em:elemAt (textsP L) i=runesV L[i]:=by rw[textsP,elemAt_map runesV L i hil]
  have e1:=sumL_step hil
  have e2:=flat_step hil
  have hs2:=sumL_take L (i+1)
  have g1:(i:Int)<L.length:=by omega
  have w1:IntKind.i64.wrap ((i:Int)+1)=((i+1:Nat):Int):=wrapN_one (by omega)
  have hfl:=sumL_flat (L.take i)
  generalize L[i]=x at em e1 e2
  simp (maxSteps:=1000000) [go_sem,textsP_len,g1,hil,em,runesV,i32s_len,w1,hfl]
  refine⟨by omega,LoopK_next (i+1) (by omega) (by simp[go_sem,LeS,leV,leR,leA,leL,e2,i32s_app]) (by omega)⟩
 ·have g1:¬(i:Int)<L.length:=by omega
  obtain rfl:i=L.length:=by omega
  rw[List.take_length]
  simp (maxSteps:=1000000) [go_sem,textsP_len,g1]
  exact ret_is (.p (runesV L.flatten)) rfl (by simp[go_sem,resOf,leA,leT,leP,runesV]) ⟨rfl,rfl⟩
theorem joined3_cr [Gi](a b c:List Int)(hn:a.length+b.length+c.length<2^31):CR Tryz.prog 43 [] [.p (runesV a),.p (runesV b),.p (runesV c)] [] (is (.p (runesV (a++(b++c))))):=by
 refine CR_of_wp mixed 8 [] Tryz.func43 rfl (by kernel_rfl) rfl (by simp) (by simp) ?_
 simp (maxSteps:=1000000) [go_sem,Tryz.f43,runesV,i32s_len]
 refine⟨by omega,by omega,by omega,?_⟩
 exact ret_is (.p (runesV (a++(b++c)))) rfl (by simp[go_sem,resOf,leA,leT,leP,runesV,i32s_app]) ⟨rfl,rfl⟩
theorem alikeD_cr [Gi](a b:List Int)(ha:a.length<2^31)(hb:b.length<2^31):CR Tryz.prog 76 [] [.p (runesV a),.p (runesV b)] [] (is (.p (.int .i64 (alikeL a b:Nat)))):=by
 refine CR_of_wp mixed 6 [] Tryz.func76 rfl (by kernel_rfl) rfl (by simp) (by simp) ?_
 simp (maxSteps:=1000000) [go_sem,Tryz.f76,runesV]
 refine wpA_loopU (fun i:Nat=>i≤a.length∧i≤b.length∧alikeL a b=i+alikeR (a.reverse.drop i) (b.reverse.drop i)) (fun i=>[(5,.p (.int .i64 (i:Nat)))]) (fun _=>[]) (fun i=>a.length-i) 0 ⟨by omega,by omega,by simp[alikeL]⟩ (by simp[go_sem,LeS,leV,leR,leA,leL]) (fun i hi=>?_)
 obtain⟨h1,h2,h3⟩:=hi
 by_cases c1:i<a.length
 ·by_cases c2:i<b.length
  ·have ea:a.reverse.drop i=a.reverse[i]'(by simpa using c1)::a.reverse.drop (i+1):=List.drop_eq_getElem_cons (by simpa using c1)
   have eb:b.reverse.drop i=b.reverse[i]'(by simpa using c2)::b.reverse.drop (i+1):=List.drop_eq_getElem_cons (by simpa using c2)
   rw[List.getElem_reverse]at ea eb
   have l1:a.length-1-i<a.length:=by omega
   have l2:b.length-1-i<b.length:=by omega
   have m1:=i32s_at l1
   have m2:=i32s_at l2
   generalize a[a.length-1-i]=x at ea m1
   generalize b[b.length-1-i]=y at eb m2
   rw[ea,eb,alikeR]at h3
   obtain⟨ka,hka⟩:∃ka,ka=a.length-1-i:=⟨_,rfl⟩
   obtain⟨kb,hkb⟩:∃kb,kb=b.length-1-i:=⟨_,rfl⟩
   rw[←hka]at m1 l1
   rw[←hkb]at m2 l2
   have w1:IntKind.i64.wrap ((a.length:Int)-1)=((a.length-1:Nat):Int):=wrapN_pred (by omega) (by omega)
   have w2:IntKind.i64.wrap (((a.length-1:Nat):Int)-i)=(ka:Int):=wrapN_sub (by omega) (by omega)
   have w3:IntKind.i64.wrap ((b.length:Int)-1)=((b.length-1:Nat):Int):=wrapN_pred (by omega) (by omega)
   have w4:IntKind.i64.wrap (((b.length-1:Nat):Int)-i)=(kb:Int):=wrapN_sub (by omega) (by omega)
   have w5:IntKind.i64.wrap ((i:Int)+1)=((i+1:Nat):Int):=wrapN_one (by omega)
   have c1':(i:Int)<a.length:=by omega
   have c2':(i:Int)<b.length:=by omega
   have l1':(ka:Int)<a.length:=by omega
   have l2':(kb:Int)<b.length:=by omega
   by_cases c3:x=y
   ·simp (maxSteps:=1000000) [go_sem,i32s_len,c1,c2,c1',c2',w1,w2,w3,w4,w5,m1,m2,l1,l2,l1',l2',c3]
    exact LoopK_next (i+1) ⟨by omega,by omega,by rw[h3,if_pos c3];omega⟩ (by simp[go_sem,LeS,leV,leR,leA,leL]) (by omega)
   ·have e:alikeL a b=i:=by rw[h3,if_neg c3];omega
    rw[e]
    simp (maxSteps:=1000000) [go_sem,i32s_len,c1,c2,c1',c2',w1,w2,w3,w4,w5,m1,m2,l1,l2,l1',l2',c3]
    exact ret_is (.p (.int .i64 (i:Nat))) rfl (by simp[go_sem,resOf,leA,leT,leP]) ⟨rfl,rfl⟩
  ·have e:alikeL a b=b.length:=by
    have z:b.reverse.drop i=[]:=List.drop_eq_nil_of_le (by simp;omega)
    rw[h3,z];cases a.reverse.drop i<;>simp[alikeR]<;>omega
   rw[e]
   have c1':(i:Int)<a.length:=by omega
   have c2':¬(i:Int)<b.length:=by omega
   have c3':¬(a.length:Int)<b.length:=by omega
   simp (maxSteps:=1000000) [go_sem,i32s_len,c1,c2,c1',c2',c3']
   exact ret_is (.p (.int .i64 (b.length:Nat))) rfl (by simp[go_sem,resOf,leA,leT,leP]) ⟨rfl,rfl⟩
 ·have e:alikeL a b=a.length:=by
   have z:a.reverse.drop i=[]:=List.drop_eq_nil_of_le (by simp;omega)
   rw[h3,z];simp[alikeR];omega
  rw[e]
  have c1':¬(i:Int)<a.length:=by omega
  by_cases c3:(a.length:Int)<b.length
  ·simp (maxSteps:=1000000) [go_sem,i32s_len,c1,c1',c3]
   exact ret_is (.p (.int .i64 (a.length:Nat))) rfl (by simp[go_sem,resOf,leA,leT,leP]) ⟨rfl,rfl⟩
  ·have e2:a.length=b.length:=by omega
   rw[e2]
   have c4:¬(i:Int)<b.length:=by omega
   clear e2
   simp (maxSteps:=1000000) [go_sem,i32s_len,c1,c1',c3,c4]
   exact ret_is (.p (.int .i64 (b.length:Nat))) rfl (by simp[go_sem,resOf,leA,leT,leP]) ⟨rfl,rfl⟩
end Go.Proofs.YtjefahhmkcfiiaaGreat
end
