/- A part of the proof of this seat's statements, by an abstract machine: what each operation does to values, and what the law's functions compute. Conditions: as each law says. -/
import Derived.Test.YtjefahhmkcfiiaaGreatT18
import Derived.Test.YtjefahhmkcfiiaaGreatT31
section
namespace Go.Proofs.YtjefahhmkcfiiaaGreat
open Go.AM
set_option maxHeartbeats 4000000
set_option maxRecDepth 10000
theorem vZ {l:List Int} {j:Nat}(h:j<l.length):(l.take (j+1)).reverse=l[j]::(l.take j).reverse:=by
 rw[←List.take_append_getElem h];simp
theorem Qx {l:List Int} {j:Nat}(h:j<l.length):elemAt (zu l) j=.int .i32 l[j]:=by rw[zu,zr (fun r=>PV.int .i32 r) l j h]
def QP(rows:List Row)(seen:Bool):List Int→Bool
 | []=>false
 |y::ys=>if ZT rows y=2 then seen else if ZT rows y=0 then false else QP rows (seen || decide (ZT rows y=1)) ys
def W6(rows:List Row)(pre:List Int)(x:Int):Bool:=if ZT rows x=2 then QP rows false pre else false
theorem zcm [Gi] {rows:List Row}(hw:qS rows)(l:List Int)(n:Nat)(h:n<l.length)(hl:l.length<2^31)(hr:∀x∈l,zB x):
  CR Tryz.prog 146 [] [.p (zK rows),.p (zg l),.p (.int .i64 n)] [] (is (.p (.bool (W6 rows (l.take n).reverse l[n])))):=by
 refine zm mixed 10 [] Tryz.func146 rfl (by kernel_rfl) rfl (by simp) (by simp) ?_
 have em:=Qx h
 have hx:=hr _ (List.getElem_mem h)
 generalize l[n]=x at em hx
 have h':(n:Int)<l.length:=by omega
 simp (maxSteps:=1000000) [go_sem,Tryz.f146,zg,zp,h',em]
 refine⟨⟨rfl,by simp[Tryz.f185]⟩,zb [] (zht hw hx) (by simp[go_sem]) ⟨by simp[go_sem],by simp[go_sem]⟩ (by simp[go_sem]) ?_⟩
 rintro _ rs ⟨rfl,rfl⟩
 by_cases c:ZT rows x=2
 ·have w1:IntKind.i64.wrap ((n:Int)-1)=(n:Int)-1:=wrap64 (by omega) (by omega)
  simp (maxSteps:=1000000) [go_sem,c,w1,W6]
  refine zj (fun s:Bool×Nat=>s.2≤n∧QP rows false (l.take n).reverse=QP rows s.1 (l.take s.2).reverse) (fun s=>[(7,.p (.bool s.1)),(8,.p (.int .i64 ((s.2:Int)-1))),(9,.zW)]) (fun _=>[]) (fun s=>s.2) (false,n) ⟨by simp,rfl⟩ (by simp[go_sem,LeS,leV,leR,leA]) (fun s hs=>?_)
  obtain⟨seen,k⟩:=s
  obtain⟨h1,h2⟩:=hs
  simp only at h1 h2
  cases k with
  |zero=>
   rw[h2]
   simp (maxSteps:=1000000) [go_sem,QP]
   exact zh (.p (.bool false)) rfl (by simp[go_sem,zd,leA,leT]) ⟨rfl,rfl⟩
  |succ j=>
   have hj:j<l.length:=by omega
   have hj':(j:Int)<l.length:=by omega
   rw[vZ hj,QP]at h2
   have em:=Qx hj
   have hy:=hr _ (List.getElem_mem hj)
   generalize l[j]=y at em hy h2
   have w2:IntKind.i64.wrap ((j:Int)-1)=(j:Int)-1:=wrap64 (by omega) (by omega)
   simp (maxSteps:=1000000) [go_sem,zp,hj',em]
   refine⟨⟨rfl,by simp[Tryz.f185]⟩,zb [] (zht hw hy) (by simp[go_sem]) ⟨by simp[go_sem],by simp[go_sem]⟩ (by simp[go_sem]) ?_⟩
   rintro _ rs ⟨rfl,rfl⟩
   generalize ZT rows y=v at h2
   by_cases v2:v=2
   ·rw[h2,if_pos v2]
    simp (maxSteps:=1000000) [go_sem,v2]
    exact zh (.p (.bool seen)) rfl (by simp[go_sem,zd,leA,leT]) ⟨rfl,rfl⟩
   rw[if_neg v2]at h2
   by_cases v0:v=0
   ·rw[h2,if_pos v0]
    simp (maxSteps:=1000000) [go_sem,v0]
    exact zh (.p (.bool false)) rfl (by simp[go_sem,zd,leA,leT]) ⟨rfl,rfl⟩
   rw[if_neg v0]at h2
   by_cases v1:v=1
   ·simp (maxSteps:=1000000) [go_sem,v1,w2]
    exact zf (true,j) ⟨by show j≤n;omega,by rw[h2,v1];simp⟩ (by simp[go_sem,LeS,leV,leR,leA]) (by show j<j+1;omega)
   ·simp (maxSteps:=1000000) [go_sem,v0,v1,v2,w2]
    exact zf (seen,j) ⟨by show j≤n;omega,by rw[h2];simp[v1]⟩ (by simp[go_sem,LeS,leV,leR,leA]) (by show j<j+1;omega)
 ·have e:W6 rows (l.take n).reverse x=false:=by unfold W6;rw[if_neg c]
  rw[e]
  simp (maxSteps:=1000000) [go_sem,c]
  exact zh (.p (.bool false)) rfl (by simp[go_sem,zd,leA,leT]) ⟨rfl,rfl⟩
def kU(rows:List Row):List Int→Bool
 | []=>false
 |y::ys=>if aL rows 5 y=1 then true else if zP rows y=4 then kU rows ys else false
def W5(rows:List Row)(p:Int)(pre:List Int)(x:Int):Bool:=if aL rows 5 x=1 then(if zP rows p=5 then kU rows pre else false)else false
theorem zeX [Gi] {rows:List Row}(hw:qS rows)(l:List Int)(n m:Nat)(hm:n=m+1)(h:n<l.length)(hl:l.length<2^31)(hr:∀x∈l,zB x):
  CR Tryz.prog 147 [] [.p (zK rows),.p (zg l),.p (.int .i64 n)] [] (is (.p (.bool (W5 rows l[m] (l.take m).reverse l[n])))):=by
 refine zm mixed 8 [] Tryz.func147 rfl (by kernel_rfl) rfl (by simp) (by simp) ?_
 have em:=Qx h
 have hx:=hr _ (List.getElem_mem h)
 generalize l[n]=x at em hx
 have g:m<l.length:=by omega
 have em2:=Qx g
 have hp:=hr _ (List.getElem_mem g)
 generalize l[m]=p at em2 hp
 have h':(n:Int)<l.length:=by omega
 have g':(m:Int)<l.length:=by omega
 have w1:IntKind.i64.wrap ((n:Int)-1)=(m:Int):=by rw[wrap64 (by omega) (by omega)];omega
 have w2:IntKind.i64.wrap ((n:Int)-2)=(m:Int)-1:=by rw[wrap64 (by omega) (by omega)];omega
 simp (maxSteps:=1000000) [go_sem,Tryz.f147,zg,zp,h',em]
 refine⟨⟨rfl,by simp[Tryz.f80]⟩,zb [] (vL rows 5 x hw.n hx) (by simp[go_sem]) ⟨by simp[go_sem],by simp[go_sem]⟩ (by simp[go_sem]) ?_⟩
 rintro _ rs ⟨rfl,rfl⟩
 by_cases c:aL rows 5 x=1
 ·simp (maxSteps:=1000000) [go_sem,c,w1,zp,g',em2,W5]
  refine⟨⟨rfl,by simp[Tryz.f143]⟩,zb [] (vT hw hp) (by simp[go_sem]) ⟨by simp[go_sem],by simp[go_sem]⟩ (by simp[go_sem]) ?_⟩
  rintro _ rs ⟨rfl,rfl⟩
  by_cases c5:zP rows p=5
  ·simp (maxSteps:=1000000) [go_sem,c5,w2]
   refine zj (fun k:Nat=>k≤m∧kU rows (l.take m).reverse=kU rows (l.take k).reverse) (fun k=>[(7,.p (.int .i64 ((k:Int)-1)))]) (fun _=>[]) (fun k=>k) m ⟨by omega,rfl⟩ (by simp[go_sem,LeS,leV,leR,leA]) (fun k hs=>?_)
   obtain⟨h1,h2⟩:=hs
   cases k with
   |zero=>
    rw[h2]
    simp (maxSteps:=1000000) [go_sem,kU]
    exact zh (.p (.bool false)) rfl (by simp[go_sem,zd,leA,leT]) ⟨rfl,rfl⟩
   |succ j=>
    have hj:j<l.length:=by omega
    have hj':(j:Int)<l.length:=by omega
    rw[vZ hj,kU]at h2
    have em:=Qx hj
    have hy:=hr _ (List.getElem_mem hj)
    generalize l[j]=y at em hy h2
    have w2:IntKind.i64.wrap ((j:Int)-1)=(j:Int)-1:=wrap64 (by omega) (by omega)
    simp (maxSteps:=1000000) [go_sem,zp,hj',em]
    refine⟨⟨rfl,by simp[Tryz.f80]⟩,zb [] (vL rows 5 y hw.n hy) (by simp[go_sem]) ⟨by simp[go_sem],by simp[go_sem]⟩ (by simp[go_sem]) ?_⟩
    rintro _ rs ⟨rfl,rfl⟩
    by_cases v1:aL rows 5 y=1
    ·rw[h2,if_pos v1]
     simp (maxSteps:=1000000) [go_sem,v1]
     exact zh (.p (.bool true)) rfl (by simp[go_sem,zd,leA,leT]) ⟨rfl,rfl⟩
    rw[if_neg v1]at h2
    simp (maxSteps:=1000000) [go_sem,zp,hj',em,v1]
    refine⟨⟨rfl,by simp[Tryz.f143]⟩,zb [] (vT hw hy) (by simp[go_sem]) ⟨by simp[go_sem],by simp[go_sem]⟩ (by simp[go_sem]) ?_⟩
    rintro _ rs ⟨rfl,rfl⟩
    by_cases v4:zP rows y=4
    ·rw[if_pos v4]at h2
     simp (maxSteps:=1000000) [go_sem,v4,w2]
     exact zf j ⟨by show j≤m;omega,h2⟩ (by simp[go_sem,LeS,leV,leR,leA]) (by show j<j+1;omega)
    ·rw[h2,if_neg v4]
     simp (maxSteps:=1000000) [go_sem,v4]
     exact zh (.p (.bool false)) rfl (by simp[go_sem,zd,leA,leT]) ⟨rfl,rfl⟩
  ·simp (maxSteps:=1000000) [go_sem,c5]
   exact zh (.p (.bool false)) rfl (by simp[go_sem,zd,leA,leT]) ⟨rfl,rfl⟩
 ·have e:W5 rows p (l.take m).reverse x=false:=by unfold W5;rw[if_neg c]
  rw[e]
  simp (maxSteps:=1000000) [go_sem,c,w1,zp,g',em2]
  exact zh (.p (.bool false)) rfl (by simp[go_sem,zd,leA,leT]) ⟨rfl,rfl⟩
def QU(rows:List Row):List Int→Nat
 | []=>0
 |y::ys=>if zP rows y=6 then QU rows ys+1 else 0
theorem zjR(rows:List Row)(l:List Int):QU rows l≤l.length:=by
 induction l with
 |nil=>simp[QU]
 |cons y ys ih=>unfold QU;split<;>simp<;>omega
def uz(rows:List Row)(pre:List Int)(x:Int):Bool:=if zP rows x=6 then decide (QU rows pre%2=1)else false
theorem zg9 [Gi] {rows:List Row}(hw:qS rows)(l:List Int)(n:Nat)(h:n<l.length)(hl:l.length<2^31)(hr:∀x∈l,zB x):
  CR Tryz.prog 148 [] [.p (zK rows),.p (zg l),.p (.int .i64 n)] [] (is (.p (.bool (uz rows (l.take n).reverse l[n])))):=by
 refine zm mixed 9 [] Tryz.func148 rfl (by kernel_rfl) rfl (by simp) (by simp) ?_
 have em:=Qx h
 have hx:=hr _ (List.getElem_mem h)
 generalize l[n]=x at em hx
 have h':(n:Int)<l.length:=by omega
 simp (maxSteps:=1000000) [go_sem,Tryz.f148,zg,zp,h',em]
 refine⟨⟨rfl,by simp[Tryz.f143]⟩,zb [] (vT hw hx) (by simp[go_sem]) ⟨by simp[go_sem],by simp[go_sem]⟩ (by simp[go_sem]) ?_⟩
 rintro _ rs ⟨rfl,rfl⟩
 by_cases c:zP rows x=6
 ·have w1:IntKind.i64.wrap ((n:Int)-1)=(n:Int)-1:=wrap64 (by omega) (by omega)
  have hfl:=zjR rows (l.take n).reverse
  rw[List.length_reverse,List.length_take]at hfl
  have ht:((QU rows (l.take n).reverse:Nat):Int).tmod 2=((QU rows (l.take n).reverse%2:Nat):Int):=by rw[Int.tmod_eq_emod_of_nonneg (by omega)];omega
  simp (maxSteps:=1000000) [go_sem,c,w1,uz]
  generalize hF:QU rows (l.take n).reverse=F at hfl ht
  refine zj (fun s:Nat×Nat=>s.2≤n∧F=s.1+QU rows (l.take s.2).reverse) (fun s=>[(7,.p (.int .i64 (s.1:Nat))),(8,.p (.int .i64 ((s.2:Int)-1)))]) (fun _=>[]) (fun s=>s.2) (0,n) ⟨by simp,by simp[hF]⟩ (by simp[go_sem,LeS,leV,leR,leA]) (fun s hs=>?_)
  obtain⟨q,k⟩:=s
  obtain⟨h1,h2⟩:=hs
  simp only at h1 h2
  cases k with
  |zero=>
   obtain⟨kk,vv,e0⟩:=zw l 0
   simp only[List.take_zero,List.reverse_nil,QU,Nat.add_zero]at h2
   subst h2
   simp (maxSteps:=1000000) [go_sem,e0,ht]
   exact zh (.p (.bool (decide (F%2=1)))) rfl (by simp[go_sem,zd,leA,leT];omega) ⟨rfl,rfl⟩
  |succ j=>
   have hj:j<l.length:=by omega
   have hj':(j:Int)<l.length:=by omega
   rw[vZ hj,QU]at h2
   have em:=Qx hj
   have hy:=hr _ (List.getElem_mem hj)
   generalize l[j]=y at em hy h2
   have w2:IntKind.i64.wrap ((j:Int)-1)=(j:Int)-1:=wrap64 (by omega) (by omega)
   simp (maxSteps:=1000000) [go_sem,zp,hj',em]
   refine⟨⟨rfl,by simp[Tryz.f143]⟩,zb [] (vT hw hy) (by simp[go_sem]) ⟨by simp[go_sem],by simp[go_sem]⟩ (by simp[go_sem]) ?_⟩
   rintro _ rs ⟨rfl,rfl⟩
   by_cases v6:zP rows y=6
   ·rw[if_pos v6]at h2
    have w3:IntKind.i64.wrap ((q:Int)+1)=((q+1:Nat):Int):=zI (by omega)
    simp (maxSteps:=1000000) [go_sem,v6,w2,w3]
    exact zf (q+1,j) ⟨by show j≤n;omega,by show F=q+1+QU rows (l.take j).reverse;omega⟩ (by simp[go_sem,LeS,leV,leR,leA]) (by show j<j+1;omega)
   ·rw[if_neg v6,Nat.add_zero]at h2
    subst h2
    simp (maxSteps:=1000000) [go_sem,v6,ht]
    exact zh (.p (.bool (decide (F%2=1)))) rfl (by simp[go_sem,zd,leA,leT];omega) ⟨rfl,rfl⟩
 ·have e:uz rows (l.take n).reverse x=false:=by unfold uz;rw[if_neg c]
  rw[e]
  simp (maxSteps:=1000000) [go_sem,c]
  exact zh (.p (.bool false)) rfl (by simp[go_sem,zd,leA,leT]) ⟨rfl,rfl⟩
end Go.Proofs.YtjefahhmkcfiiaaGreat
end
section
namespace Go.Proofs.YtjefahhmkcfiiaaGreat
open Go.AM
set_option maxHeartbeats 4000000
set_option maxRecDepth 10000
def xJ(rows:List Row)(p:Int)(pre:List Int)(x:Int):Bool:=
 if zP rows p=1∧zP rows x=2 then false
 else if ja (zP rows p) || ja (zP rows x)then true
 else if QN (zP rows p) (zP rows x)then false
 else if zP rows x=4∨zP rows x=5∨zP rows x=8∨zP rows p=7 then false
 else if W6 rows (p::pre) x then false
 else if W5 rows p pre x then false
 else !uz rows (p::pre) x
theorem KN [Gi] {rows:List Row}(hw:qS rows)(l:List Int)(n m:Nat)(hm:n=m+1)(h:n<l.length)(hl:l.length<2^31)(hr:∀x∈l,zB x):
  CR Tryz.prog 90 [] [.p (zK rows),.p (zg l),.p (.int .i64 n)] [] (is (.p (.bool (xJ rows l[m] (l.take m).reverse l[n])))):=by
 refine zS [3] mixed 9 [] Tryz.func90 rfl (by kernel_rfl) rfl (by simp) (by simp) ?_
 have cj:=zcm hw l n h hl hr
 have pc:=zeX hw l n m hm h hl hr
 have fl:=zg9 hw l n h hl hr
 have g:m<l.length:=by omega
 have tr:(l.take n).reverse=l[m]::(l.take m).reverse:=by subst hm;exact vZ g
 rw[tr]at cj fl
 have em:=Qx h
 have em2:=Qx g
 have hx:=hr _ (List.getElem_mem h)
 have hp:=hr _ (List.getElem_mem g)
 generalize l[n]=x at*
 generalize l[m]=p at*
 have h':(n:Int)<l.length:=by omega
 have g':(m:Int)<l.length:=by omega
 have n0:¬((n:Int)=0):=by omega
 have n0':¬(n=0):=by omega
 have w1:IntKind.i64.wrap ((n:Int)-1)=(m:Int):=by rw[wrap64 (by omega) (by omega)];omega
 simp (maxSteps:=1000000) [go_sem,Tryz.f90,zg,zp,n0',w1,g',em2]
 refine zN (.p (.int .i64 (zP rows p))) rfl rfl (fun _=>zM 143 (vT hw hp) rfl ⟨rfl,by simp[Tryz.f143]⟩ ⟨by simp[go_sem],by simp[go_sem]⟩) ?_
 simp (maxSteps:=1000000) [go_sem,zp,h',em]
 refine zN (.p (.int .i64 (zP rows x))) rfl rfl (fun _=>zM 143 (vT hw hx) rfl ⟨rfl,by simp[Tryz.f143]⟩ ⟨by simp[go_sem],by simp[go_sem]⟩) ?_
 refine⟨by simp[go_sem],?_⟩
 have c1:=zhL (zP rows p)
 have c2:=zhL (zP rows x)
 have c3:=zjv (zP rows p) (zP rows x)
 unfold xJ
 generalize W6 rows (p::(l.take m).reverse) x=cc at cj⊢
 generalize W5 rows p (l.take m).reverse x=pp at pc⊢
 generalize uz rows (p::(l.take m).reverse) x=ff at fl⊢
 generalize zP rows p=a at*
 generalize zP rows x=b at*
 generalize QN a b=qh at c3⊢
 generalize ja a=qa at c1⊢
 generalize ja b=qb at c2⊢
 rcases Classical.em (a=1)with t1|t1<;>rcases Classical.em (b=2)with t2|t2
 ·have a1:(a=1)=True:=eq_true t1
  have b2:(b=2)=True:=eq_true t2
  simp (maxSteps:=1000000) [go_sem,a1,b2]
  exact zh (.p (.bool false)) rfl (by simp[go_sem,zd,leA,leT]) ⟨rfl,rfl⟩
 ·have a1:(a=1)=True:=eq_true t1
  have b2:(b=2)=False:=eq_false t2
  simp (maxSteps:=1000000) [go_sem,a1,b2]
  refine⟨⟨rfl,by simp[Tryz.f144]⟩,zb [] c1 (by simp[go_sem]) ⟨by simp[go_sem],by simp[go_sem]⟩ (by simp[go_sem]) ?_⟩
  rintro _ rs ⟨rfl,rfl⟩
  cases qa
  ·simp (maxSteps:=1000000) [go_sem]
   refine⟨⟨rfl,by simp[Tryz.f144]⟩,zb [] c2 (by simp[go_sem]) ⟨by simp[go_sem],by simp[go_sem]⟩ (by simp[go_sem]) ?_⟩
   rintro _ rs ⟨rfl,rfl⟩
   cases qb
   ·simp (maxSteps:=1000000) [go_sem]
    refine⟨⟨rfl,by simp[Tryz.f145]⟩,zb [] c3 (by simp[go_sem]) ⟨by simp[go_sem],by simp[go_sem]⟩ (by simp[go_sem]) ?_⟩
    rintro _ rs ⟨rfl,rfl⟩
    cases qh
    ·skip
     rcases Classical.em (b=4)with t|t
     ·have b4:(b=4)=True:=eq_true t
      simp (maxSteps:=1000000) [go_sem,b4]
      exact zh (.p (.bool (false))) rfl (by simp[go_sem,zd,leA,leT]) ⟨rfl,by simp⟩
     ·have b4:(b=4)=False:=eq_false t
      rcases Classical.em (b=5)with t|t
      ·have b5:(b=5)=True:=eq_true t
       simp (maxSteps:=1000000) [go_sem,b4,b5]
       exact zh (.p (.bool (false))) rfl (by simp[go_sem,zd,leA,leT]) ⟨rfl,by simp⟩
      ·have b5:(b=5)=False:=eq_false t
       rcases Classical.em (b=8)with t|t
       ·have b8:(b=8)=True:=eq_true t
        simp (maxSteps:=1000000) [go_sem,b4,b5,b8]
        exact zh (.p (.bool (false))) rfl (by simp[go_sem,zd,leA,leT]) ⟨rfl,by simp⟩
       ·have b8:(b=8)=False:=eq_false t
        rcases Classical.em (a=7)with t|t
        ·have a7:(a=7)=True:=eq_true t
         simp (maxSteps:=1000000) [go_sem,b4,b5,b8,a7]
         exact zh (.p (.bool (false))) rfl (by simp[go_sem,zd,leA,leT]) ⟨rfl,by simp⟩
        ·have a7:(a=7)=False:=eq_false t
         simp (maxSteps:=1000000) [go_sem,b4,b5,b8,a7]
         refine⟨⟨rfl,by simp[Tryz.f146]⟩,zb [] cj (by simp[go_sem]) ⟨by simp[go_sem],by simp[go_sem,zg]⟩ (by simp[go_sem]) ?_⟩
         rintro _ rs ⟨rfl,rfl⟩
         cases cc
         ·simp (maxSteps:=1000000) [go_sem]
          refine⟨⟨rfl,by simp[Tryz.f147]⟩,zb [] pc (by simp[go_sem]) ⟨by simp[go_sem],by simp[go_sem,zg]⟩ (by simp[go_sem]) ?_⟩
          rintro _ rs ⟨rfl,rfl⟩
          cases pp
          ·simp (maxSteps:=1000000) [go_sem]
           refine⟨⟨rfl,by simp[Tryz.f148]⟩,zb [] fl (by simp[go_sem]) ⟨by simp[go_sem],by simp[go_sem,zg]⟩ (by simp[go_sem]) ?_⟩
           rintro _ rs ⟨rfl,rfl⟩
           simp (maxSteps:=1000000) [go_sem]
           exact zh (.p (.bool (!ff))) rfl (by simp[go_sem,zd,leA,leT]) ⟨rfl,by simp⟩
          ·simp (maxSteps:=1000000) [go_sem]
           exact zh (.p (.bool (false))) rfl (by simp[go_sem,zd,leA,leT]) ⟨rfl,by simp⟩
         ·simp (maxSteps:=1000000) [go_sem]
          exact zh (.p (.bool (false))) rfl (by simp[go_sem,zd,leA,leT]) ⟨rfl,by simp⟩
    ·simp (maxSteps:=1000000) [go_sem]
     exact zh (.p (.bool (false))) rfl (by simp[go_sem,zd,leA,leT]) ⟨rfl,by simp⟩
   ·simp (maxSteps:=1000000) [go_sem]
    exact zh (.p (.bool (true))) rfl (by simp[go_sem,zd,leA,leT]) ⟨rfl,by simp⟩
  ·simp (maxSteps:=1000000) [go_sem]
   exact zh (.p (.bool (true))) rfl (by simp[go_sem,zd,leA,leT]) ⟨rfl,by simp⟩
 ·have a1:(a=1)=False:=eq_false t1
  have b2:(b=2)=True:=eq_true t2
  simp (maxSteps:=1000000) [go_sem,a1,b2]
  refine⟨⟨rfl,by simp[Tryz.f144]⟩,zb [] c1 (by simp[go_sem]) ⟨by simp[go_sem],by simp[go_sem]⟩ (by simp[go_sem]) ?_⟩
  rintro _ rs ⟨rfl,rfl⟩
  cases qa
  ·simp (maxSteps:=1000000) [go_sem]
   refine⟨⟨rfl,by simp[Tryz.f144]⟩,zb [] c2 (by simp[go_sem]) ⟨by simp[go_sem],by simp[go_sem]⟩ (by simp[go_sem]) ?_⟩
   rintro _ rs ⟨rfl,rfl⟩
   cases qb
   ·simp (maxSteps:=1000000) [go_sem]
    refine⟨⟨rfl,by simp[Tryz.f145]⟩,zb [] c3 (by simp[go_sem]) ⟨by simp[go_sem],by simp[go_sem]⟩ (by simp[go_sem]) ?_⟩
    rintro _ rs ⟨rfl,rfl⟩
    cases qh
    ·skip
     rcases Classical.em (b=4)with t|t
     ·have b4:(b=4)=True:=eq_true t
      simp (maxSteps:=1000000) [go_sem,b4]
      exact zh (.p (.bool (false))) rfl (by simp[go_sem,zd,leA,leT]) ⟨rfl,by simp⟩
     ·have b4:(b=4)=False:=eq_false t
      rcases Classical.em (b=5)with t|t
      ·have b5:(b=5)=True:=eq_true t
       simp (maxSteps:=1000000) [go_sem,b4,b5]
       exact zh (.p (.bool (false))) rfl (by simp[go_sem,zd,leA,leT]) ⟨rfl,by simp⟩
      ·have b5:(b=5)=False:=eq_false t
       rcases Classical.em (b=8)with t|t
       ·have b8:(b=8)=True:=eq_true t
        simp (maxSteps:=1000000) [go_sem,b4,b5,b8]
        exact zh (.p (.bool (false))) rfl (by simp[go_sem,zd,leA,leT]) ⟨rfl,by simp⟩
       ·have b8:(b=8)=False:=eq_false t
        rcases Classical.em (a=7)with t|t
        ·have a7:(a=7)=True:=eq_true t
         simp (maxSteps:=1000000) [go_sem,b4,b5,b8,a7]
         exact zh (.p (.bool (false))) rfl (by simp[go_sem,zd,leA,leT]) ⟨rfl,by simp⟩
        ·have a7:(a=7)=False:=eq_false t
         simp (maxSteps:=1000000) [go_sem,b4,b5,b8,a7]
         refine⟨⟨rfl,by simp[Tryz.f146]⟩,zb [] cj (by simp[go_sem]) ⟨by simp[go_sem],by simp[go_sem,zg]⟩ (by simp[go_sem]) ?_⟩
         rintro _ rs ⟨rfl,rfl⟩
         cases cc
         ·simp (maxSteps:=1000000) [go_sem]
          refine⟨⟨rfl,by simp[Tryz.f147]⟩,zb [] pc (by simp[go_sem]) ⟨by simp[go_sem],by simp[go_sem,zg]⟩ (by simp[go_sem]) ?_⟩
          rintro _ rs ⟨rfl,rfl⟩
          cases pp
          ·simp (maxSteps:=1000000) [go_sem]
           refine⟨⟨rfl,by simp[Tryz.f148]⟩,zb [] fl (by simp[go_sem]) ⟨by simp[go_sem],by simp[go_sem,zg]⟩ (by simp[go_sem]) ?_⟩
           rintro _ rs ⟨rfl,rfl⟩
           simp (maxSteps:=1000000) [go_sem]
           exact zh (.p (.bool (!ff))) rfl (by simp[go_sem,zd,leA,leT]) ⟨rfl,by simp⟩
          ·simp (maxSteps:=1000000) [go_sem]
           exact zh (.p (.bool (false))) rfl (by simp[go_sem,zd,leA,leT]) ⟨rfl,by simp⟩
         ·simp (maxSteps:=1000000) [go_sem]
          exact zh (.p (.bool (false))) rfl (by simp[go_sem,zd,leA,leT]) ⟨rfl,by simp⟩
    ·simp (maxSteps:=1000000) [go_sem]
     exact zh (.p (.bool (false))) rfl (by simp[go_sem,zd,leA,leT]) ⟨rfl,by simp⟩
   ·simp (maxSteps:=1000000) [go_sem]
    exact zh (.p (.bool (true))) rfl (by simp[go_sem,zd,leA,leT]) ⟨rfl,by simp⟩
  ·simp (maxSteps:=1000000) [go_sem]
   exact zh (.p (.bool (true))) rfl (by simp[go_sem,zd,leA,leT]) ⟨rfl,by simp⟩
 ·have a1:(a=1)=False:=eq_false t1
  have b2:(b=2)=False:=eq_false t2
  simp (maxSteps:=1000000) [go_sem,a1,b2]
  refine⟨⟨rfl,by simp[Tryz.f144]⟩,zb [] c1 (by simp[go_sem]) ⟨by simp[go_sem],by simp[go_sem]⟩ (by simp[go_sem]) ?_⟩
  rintro _ rs ⟨rfl,rfl⟩
  cases qa
  ·simp (maxSteps:=1000000) [go_sem]
   refine⟨⟨rfl,by simp[Tryz.f144]⟩,zb [] c2 (by simp[go_sem]) ⟨by simp[go_sem],by simp[go_sem]⟩ (by simp[go_sem]) ?_⟩
   rintro _ rs ⟨rfl,rfl⟩
   cases qb
   ·simp (maxSteps:=1000000) [go_sem]
    refine⟨⟨rfl,by simp[Tryz.f145]⟩,zb [] c3 (by simp[go_sem]) ⟨by simp[go_sem],by simp[go_sem]⟩ (by simp[go_sem]) ?_⟩
    rintro _ rs ⟨rfl,rfl⟩
    cases qh
    ·skip
     rcases Classical.em (b=4)with t|t
     ·have b4:(b=4)=True:=eq_true t
      simp (maxSteps:=1000000) [go_sem,b4]
      exact zh (.p (.bool (false))) rfl (by simp[go_sem,zd,leA,leT]) ⟨rfl,by simp⟩
     ·have b4:(b=4)=False:=eq_false t
      rcases Classical.em (b=5)with t|t
      ·have b5:(b=5)=True:=eq_true t
       simp (maxSteps:=1000000) [go_sem,b4,b5]
       exact zh (.p (.bool (false))) rfl (by simp[go_sem,zd,leA,leT]) ⟨rfl,by simp⟩
      ·have b5:(b=5)=False:=eq_false t
       rcases Classical.em (b=8)with t|t
       ·have b8:(b=8)=True:=eq_true t
        simp (maxSteps:=1000000) [go_sem,b4,b5,b8]
        exact zh (.p (.bool (false))) rfl (by simp[go_sem,zd,leA,leT]) ⟨rfl,by simp⟩
       ·have b8:(b=8)=False:=eq_false t
        rcases Classical.em (a=7)with t|t
        ·have a7:(a=7)=True:=eq_true t
         simp (maxSteps:=1000000) [go_sem,b4,b5,b8,a7]
         exact zh (.p (.bool (false))) rfl (by simp[go_sem,zd,leA,leT]) ⟨rfl,by simp⟩
        ·have a7:(a=7)=False:=eq_false t
         simp (maxSteps:=1000000) [go_sem,b4,b5,b8,a7]
         refine⟨⟨rfl,by simp[Tryz.f146]⟩,zb [] cj (by simp[go_sem]) ⟨by simp[go_sem],by simp[go_sem,zg]⟩ (by simp[go_sem]) ?_⟩
         rintro _ rs ⟨rfl,rfl⟩
         cases cc
         ·simp (maxSteps:=1000000) [go_sem]
          refine⟨⟨rfl,by simp[Tryz.f147]⟩,zb [] pc (by simp[go_sem]) ⟨by simp[go_sem],by simp[go_sem,zg]⟩ (by simp[go_sem]) ?_⟩
          rintro _ rs ⟨rfl,rfl⟩
          cases pp
          ·simp (maxSteps:=1000000) [go_sem]
           refine⟨⟨rfl,by simp[Tryz.f148]⟩,zb [] fl (by simp[go_sem]) ⟨by simp[go_sem],by simp[go_sem,zg]⟩ (by simp[go_sem]) ?_⟩
           rintro _ rs ⟨rfl,rfl⟩
           simp (maxSteps:=1000000) [go_sem]
           exact zh (.p (.bool (!ff))) rfl (by simp[go_sem,zd,leA,leT]) ⟨rfl,by simp⟩
          ·simp (maxSteps:=1000000) [go_sem]
           exact zh (.p (.bool (false))) rfl (by simp[go_sem,zd,leA,leT]) ⟨rfl,by simp⟩
         ·simp (maxSteps:=1000000) [go_sem]
          exact zh (.p (.bool (false))) rfl (by simp[go_sem,zd,leA,leT]) ⟨rfl,by simp⟩
    ·simp (maxSteps:=1000000) [go_sem]
     exact zh (.p (.bool (false))) rfl (by simp[go_sem,zd,leA,leT]) ⟨rfl,by simp⟩
   ·simp (maxSteps:=1000000) [go_sem]
    exact zh (.p (.bool (true))) rfl (by simp[go_sem,zd,leA,leT]) ⟨rfl,by simp⟩
  ·simp (maxSteps:=1000000) [go_sem]
   exact zh (.p (.bool (true))) rfl (by simp[go_sem,zd,leA,leT]) ⟨rfl,by simp⟩
end Go.Proofs.YtjefahhmkcfiiaaGreat
end
section
namespace Go.Proofs.YtjefahhmkcfiiaaGreat
open Go.AM
set_option maxHeartbeats 4000000
set_option maxRecDepth 10000
def Q5(rows:List Row):Int→List Int→List Int→Nat
 |_,_,[]=>0
 |p,pre,x::xs=>if xJ rows p pre x then 0 else Q5 rows x (p::pre) xs+1
theorem WE(rows:List Row):∀(l pre:List Int) (p:Int),Q5 rows p pre l≤l.length
 | [],_,_=>by simp[Q5]
 |x::l,pre,p=>by
  unfold Q5
  split
  ·omega
  ·have:=WE rows l (p::pre) x
   simp only[List.length_cons];omega
theorem zlP [Gi] {rows:List Row}(hw:qS rows)(l:List Int)(a:Nat)(h:a<l.length)(hl:l.length<2^31)(hr:∀x∈l,zB x):
  CR Tryz.prog 129 [] [.p (zK rows),.p (zg l),.p (.int .i64 a)] [] (is (.p (.int .i64 ((a+1+Q5 rows l[a] (l.take a).reverse (l.drop (a+1)):Nat):Int)))):=by
 refine zm mixed 8 [] Tryz.func129 rfl (by kernel_rfl) rfl (by simp) (by simp) ?_
 obtain⟨N,hN⟩:∃N,N=a+1+Q5 rows l[a] (l.take a).reverse (l.drop (a+1)):=⟨_,rfl⟩
 rw[←hN]
 have w1:IntKind.i64.wrap ((a:Int)+1)=((a+1:Nat):Int):=zI (by omega)
 simp (maxSteps:=1000000) [go_sem,Tryz.f129,zg,w1]
 refine zj (fun k:Nat=>a+1+k≤l.length∧∀h:a+k<l.length,N=a+1+k+Q5 rows l[a+k] (l.take (a+k)).reverse (l.drop (a+1+k))) (fun k=>[(7,.p (.int .i64 ((a+1+k:Nat):Int)))]) (fun _=>[]) (fun k=>l.length-k) 0 ⟨by omega,fun _=>hN⟩ (by simp[go_sem,LeS,leV,leR,leA]) (fun k hs=>?_)
 obtain⟨h1,h2⟩:=hs
 have h3:=h2 (by omega)
 obtain⟨i,hi⟩:∃i,i=a+1+k:=⟨_,rfl⟩
 have hi':a+k<l.length:=by omega
 rw[←hi]at h1 h3⊢
 by_cases hil:i<l.length
 ·have bg:=KN hw l i (a+k) (by omega) hil hl hr
  rw[List.drop_eq_getElem_cons hil,Q5]at h3
  have tr:=vZ hi'
  rw[←tr]at h3
  have hil':(i:Int)<l.length:=by omega
  have w2:IntKind.i64.wrap ((i:Int)+1)=((a+1+(k+1):Nat):Int):=by rw[zI (by omega)];omega
  generalize xJ rows l[a+k] (l.take (a+k)).reverse l[i]=q at bg h3
  simp (maxSteps:=1000000) [go_sem,zp,hil']
  refine⟨⟨rfl,by simp[Tryz.f90]⟩,zb [] bg (by simp[go_sem]) ⟨by simp[go_sem],by simp[go_sem,zg]⟩ (by simp[go_sem]) ?_⟩
  rintro _ rs ⟨rfl,rfl⟩
  cases q with
  |true=>
   obtain rfl:N=i:=by simpa using h3
   simp (maxSteps:=1000000) [go_sem]
   exact zh (.p (.int .i64 (N:Nat))) rfl (by simp[go_sem,zd,leA,leT]) ⟨rfl,rfl⟩
  |false=>
   simp (maxSteps:=1000000) [go_sem,w2]
   have e1:a+(k+1)=i:=by omega
   have e2:a+1+(k+1)=i+1:=by omega
   have e3:a+k+1=i:=by omega
   exact zf (k+1) ⟨by omega,fun _=>by
    simp only[e1,e2]
    rw[e3]at h3
    simp only[Bool.false_eq_true,if_false]at h3
    omega⟩ (by simp[go_sem,LeS,leV,leR,leA]) (by omega)
 ·have hil':¬(i:Int)<l.length:=by omega
  have e:N=l.length:=by rw[h3,List.drop_eq_nil_of_le (by omega)];simp only[Q5];omega
  rw[e]
  simp (maxSteps:=1000000) [go_sem,zp,hil']
  exact zh (.p (.int .i64 (l.length:Nat))) rfl (by simp[go_sem,zd,leA,leT]) ⟨rfl,rfl⟩
def q8(rows:List Row):Nat→List Int→List Int→List (List Int)
 |0,_,_=>[]
 |_,_,[]=>[]
 |n+1,pre,x::xs=>(x::xs.take (Q5 rows x pre xs))::q8 rows n ((xs.take (Q5 rows x pre xs)).reverse++x::pre) (xs.drop (Q5 rows x pre xs))
def zL(rows:List Row)(l:List Int):List (List Int):=q8 rows l.length [] l
theorem Ud(rows:List Row):∀(n m:Nat) (pre l:List Int),l.length≤n→l.length≤m→q8 rows n pre l=q8 rows m pre l
 |0,m,pre,l,h1,h2=>by
  obtain rfl:l=[]:=List.eq_nil_of_length_eq_zero (by omega)
  cases m<;>rfl
 |n+1,0,pre,l,h1,h2=>by
  obtain rfl:l=[]:=List.eq_nil_of_length_eq_zero (by omega)
  rfl
 |n+1,m+1,pre,[],h1,h2=>rfl
 |n+1,m+1,pre,r::l,h1,h2=>by
  simp only[List.length_cons]at h1 h2
  simp only[q8]
  rw[Ud rows n m _ _ (by rw[List.length_drop];omega) (by rw[List.length_drop];omega)]
theorem zfO(rows:List Row)(l:List Int)(a e:Nat)(h:a<l.length)(he:e=a+1+Q5 rows l[a] (l.take a).reverse (l.drop (a+1))):
  q8 rows (l.length-a) (l.take a).reverse (l.drop a)=(l.drop a).take (e-a)::q8 rows (l.length-e) (l.take e).reverse (l.drop e):=by
 rw[List.drop_eq_getElem_cons h]
 obtain⟨n,hn⟩:∃n,l.length-a=n+1:=⟨l.length-a-1,by omega⟩
 have hk:=WE rows (l.drop (a+1)) (l.take a).reverse l[a]
 rw[List.length_drop]at hk
 rw[hn,q8]
 generalize Q5 rows l[a] (l.take a).reverse (l.drop (a+1))=k at he hk
 have e1:e-a=k+1:=by omega
 have e2:(l.drop (a+1)).drop k=l.drop e:=by rw[List.drop_drop,he]
 have e3:((l.drop (a+1)).take k).reverse++l[a]::(l.take a).reverse=(l.take e).reverse:=by
  rw[←vZ h,←List.reverse_append,he];exact congrArg List.reverse List.take_add.symm
 rw[e1,e2,e3,List.take_succ_cons]
 rw[Ud rows n (l.length-e) _ _ (by rw[List.length_drop];omega) (by rw[List.length_drop];omega)]
theorem Uw [Gi] {rows:List Row}(hw:qS rows)(l:List Int)(hl:l.length<2^31)(hr:∀x∈l,zB x):
  CR Tryz.prog 73 [] [.p (zK rows),.p (zg l)] [] (is (.p (zk (zL rows l)))):=by
 refine zm mixed 8 [] Tryz.func73 rfl (by kernel_rfl) rfl (by simp) (by simp) ?_
 simp (maxSteps:=1000000) [go_sem,Tryz.f73,zg]
 refine zj (fun r:List (List Int)×Nat=>r.2≤l.length∧r.1.length≤r.2∧zL rows l=r.1++q8 rows (l.length-r.2) (l.take r.2).reverse (l.drop r.2)) (fun r=>[(6,.p (.int .i64 (r.2:Nat))),(5,.os [5] 1 (qD r.1)),(7,.zW)]) (fun _=>[]) (fun r=>l.length-r.2) ([],0) ⟨by simp,by simp,rfl⟩ (by simp[go_sem,LeS,leV,leR,leA,qD]) (fun r hr2=>?_)
 obtain⟨D,a⟩:=r
 obtain⟨p1,p3,p2⟩:=hr2
 simp only at p1 p2 p3
 by_cases hal:a<l.length
 ·have hnx:=zlP hw l a hal hl hr
  obtain⟨e,he⟩:∃e,e=a+1+Q5 rows l[a] (l.take a).reverse (l.drop (a+1)):=⟨_,rfl⟩
  have hrun:=WE rows (l.drop (a+1)) (l.take a).reverse l[a]
  rw[List.length_drop]at hrun
  have hcl:=zfO rows l a e hal he
  rw[←he]at hnx
  have hel:e≤l.length:=by omega
  have hae:a<e:=by omega
  have g1:(a:Int)<l.length:=by omega
  have hcc:cut (zu l) a e=zu ((l.drop a).take (e-a)):=by simp[cut,zu]
  obtain⟨C,hC⟩:∃C,C=(l.drop a).take (e-a):=⟨_,rfl⟩
  rw[←hC]at hcl hcc
  clear he hrun
  simp (maxSteps:=1000000) [go_sem,zp,g1]
  refine⟨⟨rfl,by simp[Tryz.f129]⟩,zb [] hnx (by simp[go_sem]) ⟨by simp[go_sem],by simp[go_sem,zg]⟩ (by simp[go_sem]) ?_⟩
  rintro _ rs ⟨rfl,rfl⟩
  simp (maxSteps:=1000000) [go_sem,zp,hcc]
  refine⟨⟨by omega,by omega⟩,rfl,by simp[qD];omega,zf (D++[C],e) ⟨by show e≤l.length;omega,by simp;omega,by rw[p2,hcl];simp⟩ (by simp[go_sem,LeS,leV,leR,leA,qD,zg]) (by show l.length-e<l.length-a;omega)⟩
 ·have g1:¬(a:Int)<l.length:=by omega
  have e:zL rows l=D:=by rw[p2,List.drop_eq_nil_of_le (by omega)];cases l.length-a<;>simp[q8]
  rw[e]
  simp (maxSteps:=1000000) [go_sem,zp,g1]
  exact zh (.p (zk D)) rfl (by simp[go_sem,zd,leA,leT,zk]) ⟨rfl,rfl⟩
end Go.Proofs.YtjefahhmkcfiiaaGreat
end
section
namespace Go.Proofs.YtjefahhmkcfiiaaGreat
open Go.AM
set_option maxHeartbeats 4000000
set_option maxRecDepth 10000
theorem jv [Gi](a:List Int)(ha:a.length<2^31):CR Tryz.prog 23 [] [.p (zg a),.p (zg a)] [] (is (.p (.bool true))):=by
 refine zm mixed 6 [] Tryz.func23 rfl (by kernel_rfl) rfl (by simp) (by simp) ?_
 simp (maxSteps:=1000000) [go_sem,Tryz.f23,zg,zp]
 refine zj (fun k:Nat=>k≤a.length) (fun k=>[(5,.p (.int .i64 (k:Nat)))]) (fun _=>[]) (fun k=>a.length-k) 0 (by omega) (by simp[go_sem,LeS,leV,leR,leA]) (fun k hk=>?_)
 by_cases h:k<a.length
 ·have em:=Qx h
  have h':(k:Int)<a.length:=by omega
  have w1:IntKind.i64.wrap ((k:Int)+1)=((k+1:Nat):Int):=zI (by omega)
  generalize a[k]=x at em
  simp (maxSteps:=1000000) [go_sem,zp,h',em,w1]
  exact zf (k+1) (by omega) (by simp[go_sem,LeS,leV,leR,leA]) (by omega)
 ·have h':¬(k:Int)<a.length:=by omega
  simp (maxSteps:=1000000) [go_sem,zp,h']
  exact zh (.p (.bool true)) rfl (by simp[go_sem,zd,leA]) ⟨rfl,rfl⟩
theorem jz [Gi](L:List (List Int))(hL:L.length<2^31)(hl:∀x∈L,x.length<2^31):CR Tryz.prog 22 [] [.p (zk L),.p (zk L)] [] (is (.p (.bool true))):=by
 refine zS [6] mixed 6 [] Tryz.func22 rfl (by kernel_rfl) rfl (by simp) (by simp) ?_
 simp (maxSteps:=1000000) [go_sem,Tryz.f22,zk,zX]
 refine zj (fun k:Nat=>k≤L.length) (fun k=>[(5,.p (.int .i64 (k:Nat)))]) (fun _=>[]) (fun k=>L.length-k) 0 (by omega) (by simp[go_sem,LeS,leV,leR,leA]) (fun k hk=>?_)
 by_cases h:k<L.length
 ·have em:elemAt (qD L) k=zg L[k]:=by rw[qD,zr zg L k h]
  have h':(k:Int)<L.length:=by omega
  have hx:=hl _ (List.getElem_mem h)
  have w1:IntKind.i64.wrap ((k:Int)+1)=((k+1:Nat):Int):=zI (by omega)
  generalize L[k]=x at em hx
  simp (maxSteps:=1000000) [go_sem,zX,h',em,zg]
  refine zN (.p (.bool true)) rfl rfl (fun _=>zM 23 (jv x hx) rfl ⟨rfl,by simp[Tryz.f23]⟩ ⟨by simp[go_sem],by simp[go_sem,zg]⟩) ?_
  simp (maxSteps:=1000000) [go_sem,w1]
  exact zf (k+1) (by omega) (by simp[go_sem,LeS,leV,leR,leA]) (by omega)
 ·have h':¬(k:Int)<L.length:=by omega
  simp (maxSteps:=1000000) [go_sem,zX,h']
  exact zh (.p (.bool true)) rfl (by simp[go_sem,zd,leA]) ⟨rfl,rfl⟩
theorem ZC [Gi](L:List (List Int))(hL:L.length<2^31)(hn:qd L<2^31):CR Tryz.prog 25 [] [.p (zk L)] [] (is (.p (zg L.flatten))):=by
 refine zm mixed 5 [] Tryz.func25 rfl (by kernel_rfl) rfl (by simp) (by simp) ?_
 simp (maxSteps:=1000000) [go_sem,Tryz.f25,zk]
 refine zj (fun i:Nat=>i≤L.length) (fun i=>[(3,.os [3] 1 (zu (L.take i).flatten)),(4,.p (.int .i64 (i:Nat)))]) (fun _=>[]) (fun i=>L.length-i) 0 (by omega) (by simp[go_sem,LeS,leV,leR,leA,zu]) (fun i hi=>?_)
 have hsi:=ZB L i
 by_cases hil:i<L.length
 ·have em:elemAt (qD L) i=zg L[i]:=by rw[qD,zr zg L i hil]
  have e1:=xh hil
  have e2:=zbs hil
  have hs2:=ZB L (i+1)
  have g1:(i:Int)<L.length:=by omega
  have w1:IntKind.i64.wrap ((i:Int)+1)=((i+1:Nat):Int):=zI (by omega)
  have hfl:=z8 (L.take i)
  generalize L[i]=x at em e1 e2
  simp (maxSteps:=1000000) [go_sem,zX,g1,em,zg,zp,w1,hfl]
  refine⟨by omega,zf (i+1) (by omega) (by simp[go_sem,LeS,leV,leR,leA,e2,uS]) (by omega)⟩
 ·have g1:¬(i:Int)<L.length:=by omega
  obtain rfl:i=L.length:=by omega
  rw[List.take_length]
  simp (maxSteps:=1000000) [go_sem,zX,g1]
  exact zh (.p (zg L.flatten)) rfl (by simp[go_sem,zd,leA,leT,zg]) ⟨rfl,rfl⟩
theorem VQ [Gi](a b c:List Int)(hn:a.length+b.length+c.length<2^31):CR Tryz.prog 43 [] [.p (zg a),.p (zg b),.p (zg c)] [] (is (.p (zg (a++(b++c))))):=by
 refine zm mixed 8 [] Tryz.func43 rfl (by kernel_rfl) rfl (by simp) (by simp) ?_
 simp (maxSteps:=1000000) [go_sem,Tryz.f43,zg,zp]
 refine⟨by omega,by omega,by omega,?_⟩
 exact zh (.p (zg (a++(b++c)))) rfl (by simp[go_sem,zd,leA,leT,zg,uS]) ⟨rfl,rfl⟩
theorem zjG [Gi](a b:List Int)(ha:a.length<2^31)(hb:b.length<2^31):CR Tryz.prog 76 [] [.p (zg a),.p (zg b)] [] (is (.p (.int .i64 (ZP a b:Nat)))):=by
 refine zm mixed 6 [] Tryz.func76 rfl (by kernel_rfl) rfl (by simp) (by simp) ?_
 simp (maxSteps:=1000000) [go_sem,Tryz.f76,zg]
 refine zj (fun i:Nat=>i≤a.length∧i≤b.length∧ZP a b=i+qN (a.reverse.drop i) (b.reverse.drop i)) (fun i=>[(5,.p (.int .i64 (i:Nat)))]) (fun _=>[]) (fun i=>a.length-i) 0 ⟨by omega,by omega,by simp[ZP]⟩ (by simp[go_sem,LeS,leV,leR,leA]) (fun i hi=>?_)
 obtain⟨h1,h2,h3⟩:=hi
 by_cases c1:i<a.length
 ·by_cases c2:i<b.length
  ·have ea:a.reverse.drop i=a.reverse[i]'(by simpa using c1)::a.reverse.drop (i+1):=List.drop_eq_getElem_cons (by simpa using c1)
   have eb:b.reverse.drop i=b.reverse[i]'(by simpa using c2)::b.reverse.drop (i+1):=List.drop_eq_getElem_cons (by simpa using c2)
   rw[List.getElem_reverse]at ea eb
   have l1:a.length-1-i<a.length:=by omega
   have l2:b.length-1-i<b.length:=by omega
   have m1:=Qx l1
   have m2:=Qx l2
   generalize a[a.length-1-i]=x at ea m1
   generalize b[b.length-1-i]=y at eb m2
   rw[ea,eb,qN]at h3
   obtain⟨ka,hka⟩:∃ka,ka=a.length-1-i:=⟨_,rfl⟩
   obtain⟨kb,hkb⟩:∃kb,kb=b.length-1-i:=⟨_,rfl⟩
   rw[←hka]at m1 l1
   rw[←hkb]at m2 l2
   have w1:IntKind.i64.wrap ((a.length:Int)-1)=((a.length-1:Nat):Int):=zq (by omega) (by omega)
   have w2:IntKind.i64.wrap (((a.length-1:Nat):Int)-i)=(ka:Int):=QD (by omega) (by omega)
   have w3:IntKind.i64.wrap ((b.length:Int)-1)=((b.length-1:Nat):Int):=zq (by omega) (by omega)
   have w4:IntKind.i64.wrap (((b.length-1:Nat):Int)-i)=(kb:Int):=QD (by omega) (by omega)
   have w5:IntKind.i64.wrap ((i:Int)+1)=((i+1:Nat):Int):=zI (by omega)
   have c1':(i:Int)<a.length:=by omega
   have c2':(i:Int)<b.length:=by omega
   have l1':(ka:Int)<a.length:=by omega
   have l2':(kb:Int)<b.length:=by omega
   by_cases c3:x=y
   ·simp (maxSteps:=1000000) [go_sem,zp,c1',c2',w1,w2,w3,w4,w5,m1,m2,l1',l2',c3]
    exact zf (i+1) ⟨by omega,by omega,by rw[h3,if_pos c3];omega⟩ (by simp[go_sem,LeS,leV,leR,leA]) (by omega)
   ·have e:ZP a b=i:=by rw[h3,if_neg c3];omega
    rw[e]
    simp (maxSteps:=1000000) [go_sem,zp,c1',c2',w1,w2,w3,w4,m1,m2,l1',l2',c3]
    exact zh (.p (.int .i64 (i:Nat))) rfl (by simp[go_sem,zd,leA,leT]) ⟨rfl,rfl⟩
  ·have e:ZP a b=b.length:=by
    have z:b.reverse.drop i=[]:=List.drop_eq_nil_of_le (by simp;omega)
    rw[h3,z];cases a.reverse.drop i<;>simp[qN]<;>omega
   rw[e]
   have c1':(i:Int)<a.length:=by omega
   have c2':¬(i:Int)<b.length:=by omega
   have c3':¬(a.length:Int)<b.length:=by omega
   simp (maxSteps:=1000000) [go_sem,zp,c1',c2',c3']
   exact zh (.p (.int .i64 (b.length:Nat))) rfl (by simp[go_sem,zd,leA,leT]) ⟨rfl,rfl⟩
 ·have e:ZP a b=a.length:=by
   have z:a.reverse.drop i=[]:=List.drop_eq_nil_of_le (by simp;omega)
   rw[h3,z];simp[qN];omega
  rw[e]
  have c1':¬(i:Int)<a.length:=by omega
  by_cases c3:(a.length:Int)<b.length
  ·simp (maxSteps:=1000000) [go_sem,zp,c1',c3]
   exact zh (.p (.int .i64 (a.length:Nat))) rfl (by simp[go_sem,zd,leA,leT]) ⟨rfl,rfl⟩
  ·have e2:a.length=b.length:=by omega
   rw[e2]
   have c4:¬(i:Int)<b.length:=by omega
   clear e2
   simp (maxSteps:=1000000) [go_sem,zp,c1',c3,c4]
   exact zh (.p (.int .i64 (b.length:Nat))) rfl (by simp[go_sem,zd,leA,leT]) ⟨rfl,rfl⟩
end Go.Proofs.YtjefahhmkcfiiaaGreat
end
