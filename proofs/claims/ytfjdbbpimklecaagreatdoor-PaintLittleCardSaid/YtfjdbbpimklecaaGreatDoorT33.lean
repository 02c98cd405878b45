/- A part of this seat's proofs, by an abstract machine. Conditions: each law's. -/
import Derived.Test.YtfjdbbpimklecaaGreatDoorT17
import Derived.Laws.IdiomCopy
import Derived.Test.YtfjdbbpimklecaaGreatDoorT29
import Derived.Test.YtfjdbbpimklecaaGreatDoorT19
import Derived.Test.YtfjdbbpimklecaaGreatDoorT30
import Derived.Test.YtfjdbbpimklecaaGreatDoorT18
import Derived.Test.YtfjdbbpimklecaaGreatDoorT26
set_option maxHeartbeats 4000000
set_option maxRecDepth 100000
namespace Go.AM
section
structure Chg(g:Gh)(w w':World)(B:Nat):Prop where
 old:∀d,d<w.heap.size→d≠B→w'.heap[d]?=w.heap[d]?
 fr0:g.fr B=0
 mine:w.heap.size≤B∨g.K B≠ .prot
 lt:B<w'.heap.size
 mono:w.heap.size≤w'.heap.size
 out:w'.os=w.os∧w'.tape=w.tape∧w'.output=w.output
end
end Go.AM
namespace Go.Proofs.YtfjdbbpimklecaaGreatDoor
section
open Go.AM
def jm(L:List (List Int)):Nat:=(L.map List.length).sum
theorem V7(L:List (List Int)):L.flatten.length=jm L:=by simp[jm,List.length_flatten]
theorem zhs {L:List (List Int)} {i:Nat}(h:i<L.length):jm (L.take (i+1))=jm (L.take i)+L[i].length:=by
 rw[List.take_succ_eq_append_getElem h]
 simp only[jm,List.map_append,List.sum_append,List.map_cons,List.map_nil,List.sum_cons,List.sum_nil,Nat.add_zero]
theorem zib(L:List (List Int))(i:Nat):jm (L.take i)≤jm L:=by
 have h:L.flatten.length=(L.take i).flatten.length+(L.drop i).flatten.length:=by
  rw[←List.length_append,←List.flatten_append,List.take_append_drop]
 rw[V7,V7]at h
 omega
def zpB(L:List (List Int))(a:Int):PV:=.agg [xE L,.int .i64 a]
theorem zeQ(L:List (List Int)):(q9 L).length=L.length:=by simp[q9]
theorem zgY(b:List Int)(m:Nat):∃k v,elemAt (zP b) m=.int k v:=by
 by_cases h:m<b.length
 ·exact⟨_,_,by rw[zP,zp (fun r=>PV.int .i32 r) b _ h]⟩
 ·refine⟨default,default,?_⟩
  simp[elemAt,zP,List.getD,List.getElem?_eq_none (by simpa using h)];rfl
def zjT:List Int→List Int→Nat
 |x::a,y::b=>if x=y then zjT a b+1 else 0
 |_,_=>0
def zoS(a b:List Int):Nat:=zjT a.reverse b.reverse
theorem uJ {l:List Int} {j:Nat}(h:j<l.length):(l.take (j+1)).reverse=l[j]::(l.take j).reverse:=by
 rw[←List.take_append_getElem h];simp
theorem ZY {l:List Int} {j:Nat}(h:j<l.length):elemAt (zP l) j=.int .i32 l[j]:=by rw[zP,zp (fun r=>PV.int .i32 r) l j h]
def Qm(rows:List Row)(seen:Bool):List Int→Bool
 | []=>false
 |y::ys=>if Qa rows y=2 then seen else if Qa rows y=0 then false else Qm rows (seen || decide (Qa rows y=1)) ys
def U6(rows:List Row)(pre:List Int)(x:Int):Bool:=if Qa rows x=2 then Qm rows false pre else false
theorem zbp [Gi] {rows:List Row}(hw:QK rows)(l:List Int)(n:Nat)(h:n<l.length)(hl:l.length<2^31)(hr:∀x∈l,qg x):
  CR Tryz.prog 179 [] [.p (z6 rows),.p (zE l),.p (.int .i64 n)] [] (is (.p (.bool (U6 rows (l.take n).reverse l[n])))):=by
 refine zx mixed 10 [] Tryz.func179 rfl (by kernel_rfl) rfl (by simp) (by simp) ?_
 have em:=ZY h
 have hx:=hr _ (List.getElem_mem h)
 generalize l[n]=x at em hx
 have h':(n:Int)<l.length:=by omega
 simp (maxSteps:=1000000) [go_sem,Tryz.f179,zE,qf,h',em]
 refine⟨⟨rfl,by simp[Tryz.f215]⟩,zd [] (zgr hw hx) (by simp[go_sem]) ⟨by simp[go_sem],by simp[go_sem]⟩ (by simp[go_sem]) ?_⟩
 rintro _ rs ⟨rfl,rfl⟩
 by_cases c:Qa rows x=2
 ·have w1:IntKind.i64.wrap ((n:Int)-1)=(n:Int)-1:=wrap64 (by omega) (by omega)
  simp (maxSteps:=1000000) [go_sem,c,w1,U6]
  refine zH (fun s:Bool×Nat=>s.2≤n∧Qm rows false (l.take n).reverse=Qm rows s.1 (l.take s.2).reverse) (fun s=>[(7,.p (.bool s.1)),(8,.p (.int .i64 ((s.2:Int)-1))),(9,.zY)]) (fun _=>[]) (fun s=>s.2) (false,n) ⟨by simp,rfl⟩ (by simp[go_sem,LeS,leV,leR,leA]) (fun s hs=>?_)
  obtain⟨seen,k⟩:=s
  obtain⟨h1,h2⟩:=hs
  simp only at h1 h2
  cases k with
  |zero=>
   rw[h2]
   simp (maxSteps:=1000000) [go_sem,Qm]
   exact zg (.p (.bool false)) rfl (by simp[go_sem,zf,leA,leT]) ⟨rfl,rfl⟩
  |succ j=>
   have hj:j<l.length:=by omega
   have hj':(j:Int)<l.length:=by omega
   rw[uJ hj,Qm]at h2
   have em:=ZY hj
   have hy:=hr _ (List.getElem_mem hj)
   generalize l[j]=y at em hy h2
   have w2:IntKind.i64.wrap ((j:Int)-1)=(j:Int)-1:=wrap64 (by omega) (by omega)
   simp (maxSteps:=1000000) [go_sem,qf,hj',em]
   refine⟨⟨rfl,by simp[Tryz.f215]⟩,zd [] (zgr hw hy) (by simp[go_sem]) ⟨by simp[go_sem],by simp[go_sem]⟩ (by simp[go_sem]) ?_⟩
   rintro _ rs ⟨rfl,rfl⟩
   generalize Qa rows y=v at h2
   by_cases v2:v=2
   ·rw[h2,if_pos v2]
    simp (maxSteps:=1000000) [go_sem,v2]
    exact zg (.p (.bool seen)) rfl (by simp[go_sem,zf,leA,leT]) ⟨rfl,rfl⟩
   rw[if_neg v2]at h2
   by_cases v0:v=0
   ·rw[h2,if_pos v0]
    simp (maxSteps:=1000000) [go_sem,v0]
    exact zg (.p (.bool false)) rfl (by simp[go_sem,zf,leA,leT]) ⟨rfl,rfl⟩
   rw[if_neg v0]at h2
   by_cases v1:v=1
   ·simp (maxSteps:=1000000) [go_sem,v1,w2]
    exact zi (true,j) ⟨by show j≤n;omega,by rw[h2,v1];simp⟩ (by simp[go_sem,LeS,leV,leR,leA]) (by show j<j+1;omega)
   ·simp (maxSteps:=1000000) [go_sem,v0,v1,v2,w2]
    exact zi (seen,j) ⟨by show j≤n;omega,by rw[h2];simp[v1]⟩ (by simp[go_sem,LeS,leV,leR,leA]) (by show j<j+1;omega)
 ·have e:U6 rows (l.take n).reverse x=false:=by unfold U6;rw[if_neg c]
  rw[e]
  simp (maxSteps:=1000000) [go_sem,c]
  exact zg (.p (.bool false)) rfl (by simp[go_sem,zf,leA,leT]) ⟨rfl,rfl⟩
def j7(rows:List Row):List Int→Bool
 | []=>false
 |y::ys=>if aL rows 5 y=1 then true else if zD rows y=4 then j7 rows ys else false
def Ks(rows:List Row)(p:Int)(pre:List Int)(x:Int):Bool:=if aL rows 5 x=1 then(if zD rows p=5 then j7 rows pre else false)else false
theorem zdv [Gi] {rows:List Row}(hw:QK rows)(l:List Int)(n m:Nat)(hm:n=m+1)(h:n<l.length)(hl:l.length<2^31)(hr:∀x∈l,qg x):
  CR Tryz.prog 180 [] [.p (z6 rows),.p (zE l),.p (.int .i64 n)] [] (is (.p (.bool (Ks rows l[m] (l.take m).reverse l[n])))):=by
 refine zx mixed 8 [] Tryz.func180 rfl (by kernel_rfl) rfl (by simp) (by simp) ?_
 have em:=ZY h
 have hx:=hr _ (List.getElem_mem h)
 generalize l[n]=x at em hx
 have g:m<l.length:=by omega
 have em2:=ZY g
 have hp:=hr _ (List.getElem_mem g)
 generalize l[m]=p at em2 hp
 have h':(n:Int)<l.length:=by omega
 have g':(m:Int)<l.length:=by omega
 have w1:IntKind.i64.wrap ((n:Int)-1)=(m:Int):=by rw[wrap64 (by omega) (by omega)];omega
 have w2:IntKind.i64.wrap ((n:Int)-2)=(m:Int)-1:=by rw[wrap64 (by omega) (by omega)];omega
 simp (maxSteps:=1000000) [go_sem,Tryz.f180,zE,qf,h',em]
 refine⟨⟨rfl,by simp[Tryz.f194]⟩,zd [] (Wr rows 5 x hw.n hx) (by simp[go_sem]) ⟨by simp[go_sem],by simp[go_sem]⟩ (by simp[go_sem]) ?_⟩
 rintro _ rs ⟨rfl,rfl⟩
 by_cases c:aL rows 5 x=1
 ·simp (maxSteps:=1000000) [go_sem,c,w1,qf,g',em2,Ks]
  refine⟨⟨rfl,by simp[Tryz.f175]⟩,zd [] (jT hw hp) (by simp[go_sem]) ⟨by simp[go_sem],by simp[go_sem]⟩ (by simp[go_sem]) ?_⟩
  rintro _ rs ⟨rfl,rfl⟩
  by_cases c5:zD rows p=5
  ·simp (maxSteps:=1000000) [go_sem,c5,w2]
   refine zH (fun k:Nat=>k≤m∧j7 rows (l.take m).reverse=j7 rows (l.take k).reverse) (fun k=>[(7,.p (.int .i64 ((k:Int)-1)))]) (fun _=>[]) (fun k=>k) m ⟨by omega,rfl⟩ (by simp[go_sem,LeS,leV,leR,leA]) (fun k hs=>?_)
   obtain⟨h1,h2⟩:=hs
   cases k with
   |zero=>
    rw[h2]
    simp (maxSteps:=1000000) [go_sem,j7]
    exact zg (.p (.bool false)) rfl (by simp[go_sem,zf,leA,leT]) ⟨rfl,rfl⟩
   |succ j=>
    have hj:j<l.length:=by omega
    have hj':(j:Int)<l.length:=by omega
    rw[uJ hj,j7]at h2
    have em:=ZY hj
    have hy:=hr _ (List.getElem_mem hj)
    generalize l[j]=y at em hy h2
    have w2:IntKind.i64.wrap ((j:Int)-1)=(j:Int)-1:=wrap64 (by omega) (by omega)
    simp (maxSteps:=1000000) [go_sem,qf,hj',em]
    refine⟨⟨rfl,by simp[Tryz.f194]⟩,zd [] (Wr rows 5 y hw.n hy) (by simp[go_sem]) ⟨by simp[go_sem],by simp[go_sem]⟩ (by simp[go_sem]) ?_⟩
    rintro _ rs ⟨rfl,rfl⟩
    by_cases v1:aL rows 5 y=1
    ·rw[h2,if_pos v1]
     simp (maxSteps:=1000000) [go_sem,v1]
     exact zg (.p (.bool true)) rfl (by simp[go_sem,zf,leA,leT]) ⟨rfl,rfl⟩
    rw[if_neg v1]at h2
    simp (maxSteps:=1000000) [go_sem,qf,hj',em,v1]
    refine⟨⟨rfl,by simp[Tryz.f175]⟩,zd [] (jT hw hy) (by simp[go_sem]) ⟨by simp[go_sem],by simp[go_sem]⟩ (by simp[go_sem]) ?_⟩
    rintro _ rs ⟨rfl,rfl⟩
    by_cases v4:zD rows y=4
    ·rw[if_pos v4]at h2
     simp (maxSteps:=1000000) [go_sem,v4,w2]
     exact zi j ⟨by show j≤m;omega,h2⟩ (by simp[go_sem,LeS,leV,leR,leA]) (by show j<j+1;omega)
    ·rw[h2,if_neg v4]
     simp (maxSteps:=1000000) [go_sem,v4]
     exact zg (.p (.bool false)) rfl (by simp[go_sem,zf,leA,leT]) ⟨rfl,rfl⟩
  ·simp (maxSteps:=1000000) [go_sem,c5]
   exact zg (.p (.bool false)) rfl (by simp[go_sem,zf,leA,leT]) ⟨rfl,rfl⟩
 ·have e:Ks rows p (l.take m).reverse x=false:=by unfold Ks;rw[if_neg c]
  rw[e]
  simp (maxSteps:=1000000) [go_sem,c,w1,qf,g',em2]
  exact zg (.p (.bool false)) rfl (by simp[go_sem,zf,leA,leT]) ⟨rfl,rfl⟩
def Qq(rows:List Row):List Int→Nat
 | []=>0
 |y::ys=>if zD rows y=6 then Qq rows ys+1 else 0
theorem zhO(rows:List Row)(l:List Int):Qq rows l≤l.length:=by
 induction l with
 |nil=>simp[Qq]
 |cons y ys ih=>unfold Qq;split<;>simp<;>omega
def Vp(rows:List Row)(pre:List Int)(x:Int):Bool:=if zD rows x=6 then decide (Qq rows pre%2=1)else false
theorem ze2 [Gi] {rows:List Row}(hw:QK rows)(l:List Int)(n:Nat)(h:n<l.length)(hl:l.length<2^31)(hr:∀x∈l,qg x):
  CR Tryz.prog 181 [] [.p (z6 rows),.p (zE l),.p (.int .i64 n)] [] (is (.p (.bool (Vp rows (l.take n).reverse l[n])))):=by
 refine zx mixed 9 [] Tryz.func181 rfl (by kernel_rfl) rfl (by simp) (by simp) ?_
 have em:=ZY h
 have hx:=hr _ (List.getElem_mem h)
 generalize l[n]=x at em hx
 have h':(n:Int)<l.length:=by omega
 simp (maxSteps:=1000000) [go_sem,Tryz.f181,zE,qf,h',em]
 refine⟨⟨rfl,by simp[Tryz.f175]⟩,zd [] (jT hw hx) (by simp[go_sem]) ⟨by simp[go_sem],by simp[go_sem]⟩ (by simp[go_sem]) ?_⟩
 rintro _ rs ⟨rfl,rfl⟩
 by_cases c:zD rows x=6
 ·have w1:IntKind.i64.wrap ((n:Int)-1)=(n:Int)-1:=wrap64 (by omega) (by omega)
  have hfl:=zhO rows (l.take n).reverse
  rw[List.length_reverse,List.length_take]at hfl
  have ht:((Qq rows (l.take n).reverse:Nat):Int).tmod 2=((Qq rows (l.take n).reverse%2:Nat):Int):=by rw[Int.tmod_eq_emod_of_nonneg (by omega)];omega
  simp (maxSteps:=1000000) [go_sem,c,w1,Vp]
  generalize hF:Qq rows (l.take n).reverse=F at hfl ht
  refine zH (fun s:Nat×Nat=>s.2≤n∧F=s.1+Qq rows (l.take s.2).reverse) (fun s=>[(7,.p (.int .i64 (s.1:Nat))),(8,.p (.int .i64 ((s.2:Int)-1)))]) (fun _=>[]) (fun s=>s.2) (0,n) ⟨by simp,by simp[hF]⟩ (by simp[go_sem,LeS,leV,leR,leA]) (fun s hs=>?_)
  obtain⟨q,k⟩:=s
  obtain⟨h1,h2⟩:=hs
  simp only at h1 h2
  cases k with
  |zero=>
   obtain⟨kk,vv,e0⟩:=zgY l 0
   simp only[List.take_zero,List.reverse_nil,Qq,Nat.add_zero]at h2
   subst h2
   simp (maxSteps:=1000000) [go_sem,e0,ht]
   exact zg (.p (.bool (decide (F%2=1)))) rfl (by simp[go_sem,zf,leA,leT];omega) ⟨rfl,rfl⟩
  |succ j=>
   have hj:j<l.length:=by omega
   have hj':(j:Int)<l.length:=by omega
   rw[uJ hj,Qq]at h2
   have em:=ZY hj
   have hy:=hr _ (List.getElem_mem hj)
   generalize l[j]=y at em hy h2
   have w2:IntKind.i64.wrap ((j:Int)-1)=(j:Int)-1:=wrap64 (by omega) (by omega)
   simp (maxSteps:=1000000) [go_sem,qf,hj',em]
   refine⟨⟨rfl,by simp[Tryz.f175]⟩,zd [] (jT hw hy) (by simp[go_sem]) ⟨by simp[go_sem],by simp[go_sem]⟩ (by simp[go_sem]) ?_⟩
   rintro _ rs ⟨rfl,rfl⟩
   by_cases v6:zD rows y=6
   ·rw[if_pos v6]at h2
    have w3:IntKind.i64.wrap ((q:Int)+1)=((q+1:Nat):Int):=zG (by omega)
    simp (maxSteps:=1000000) [go_sem,v6,w2,w3]
    exact zi (q+1,j) ⟨by show j≤n;omega,by show F=q+1+Qq rows (l.take j).reverse;omega⟩ (by simp[go_sem,LeS,leV,leR,leA]) (by show j<j+1;omega)
   ·rw[if_neg v6,Nat.add_zero]at h2
    subst h2
    simp (maxSteps:=1000000) [go_sem,v6,ht]
    exact zg (.p (.bool (decide (F%2=1)))) rfl (by simp[go_sem,zf,leA,leT];omega) ⟨rfl,rfl⟩
 ·have e:Vp rows (l.take n).reverse x=false:=by unfold Vp;rw[if_neg c]
  rw[e]
  simp (maxSteps:=1000000) [go_sem,c]
  exact zg (.p (.bool false)) rfl (by simp[go_sem,zf,leA,leT]) ⟨rfl,rfl⟩
def uW(rows:List Row)(p:Int)(pre:List Int)(x:Int):Bool:=
 if zD rows p=1∧zD rows x=2 then false
 else if QZ (zD rows p) || QZ (zD rows x)then true
 else if Qi (zD rows p) (zD rows x)then false
 else if zD rows x=4∨zD rows x=5∨zD rows x=8∨zD rows p=7 then false
 else if U6 rows (p::pre) x then false
 else if Ks rows p pre x then false
 else !Vp rows (p::pre) x
theorem XM [Gi] {rows:List Row}(hw:QK rows)(l:List Int)(n m:Nat)(hm:n=m+1)(h:n<l.length)(hl:l.length<2^31)(hr:∀x∈l,qg x):
  CR Tryz.prog 128 [] [.p (z6 rows),.p (zE l),.p (.int .i64 n)] [] (is (.p (.bool (uW rows l[m] (l.take m).reverse l[n])))):=by
 refine zK [3] mixed 9 [] Tryz.func128 rfl (by kernel_rfl) rfl (by simp) (by simp) ?_
 have cj:=zbp hw l n h hl hr
 have pc:=zdv hw l n m hm h hl hr
 have fl:=ze2 hw l n h hl hr
 have g:m<l.length:=by omega
 have tr:(l.take n).reverse=l[m]::(l.take m).reverse:=by subst hm;exact uJ g
 rw[tr]at cj fl
 have em:=ZY h
 have em2:=ZY g
 have hx:=hr _ (List.getElem_mem h)
 have hp:=hr _ (List.getElem_mem g)
 generalize l[n]=x at*
 generalize l[m]=p at*
 have h':(n:Int)<l.length:=by omega
 have g':(m:Int)<l.length:=by omega
 have n0:¬((n:Int)=0):=by omega
 have n0':¬(n=0):=by omega
 have w1:IntKind.i64.wrap ((n:Int)-1)=(m:Int):=by rw[wrap64 (by omega) (by omega)];omega
 simp (maxSteps:=1000000) [go_sem,Tryz.f128,zE,qf,n0',w1,g',em2]
 refine qm (.p (.int .i64 (zD rows p))) rfl rfl (fun _=>qk 175 (jT hw hp) rfl ⟨rfl,by simp[Tryz.f175]⟩ ⟨by simp[go_sem],by simp[go_sem]⟩) ?_
 simp (maxSteps:=1000000) [go_sem,qf,h',em]
 refine qm (.p (.int .i64 (zD rows x))) rfl rfl (fun _=>qk 175 (jT hw hx) rfl ⟨rfl,by simp[Tryz.f175]⟩ ⟨by simp[go_sem],by simp[go_sem]⟩) ?_
 refine⟨by simp[go_sem],?_⟩
 have c1:=zgv (zD rows p)
 have c2:=zgv (zD rows x)
 have c3:=ziu (zD rows p) (zD rows x)
 unfold uW
 generalize U6 rows (p::(l.take m).reverse) x=cc at cj⊢
 generalize Ks rows p (l.take m).reverse x=pp at pc⊢
 generalize Vp rows (p::(l.take m).reverse) x=ff at fl⊢
 generalize zD rows p=a at*
 generalize zD rows x=b at*
 generalize Qi a b=qh at c3⊢
 generalize QZ a=qa at c1⊢
 generalize QZ b=qb at c2⊢
 rcases Classical.em (a=1)with t1|t1<;>rcases Classical.em (b=2)with t2|t2
 ·have a1:(a=1)=True:=eq_true t1
  have b2:(b=2)=True:=eq_true t2
  simp (maxSteps:=1000000) [go_sem,a1,b2]
  exact zg (.p (.bool false)) rfl (by simp[go_sem,zf,leA,leT]) ⟨rfl,rfl⟩
 ·have a1:(a=1)=True:=eq_true t1
  have b2:(b=2)=False:=eq_false t2
  simp (maxSteps:=1000000) [go_sem,a1,b2]
  refine⟨⟨rfl,by simp[Tryz.f177]⟩,zd [] c1 (by simp[go_sem]) ⟨by simp[go_sem],by simp[go_sem]⟩ (by simp[go_sem]) ?_⟩
  rintro _ rs ⟨rfl,rfl⟩
  cases qa
  ·simp (maxSteps:=1000000) [go_sem]
   refine⟨⟨rfl,by simp[Tryz.f177]⟩,zd [] c2 (by simp[go_sem]) ⟨by simp[go_sem],by simp[go_sem]⟩ (by simp[go_sem]) ?_⟩
   rintro _ rs ⟨rfl,rfl⟩
   cases qb
   ·simp (maxSteps:=1000000) [go_sem]
    refine⟨⟨rfl,by simp[Tryz.f178]⟩,zd [] c3 (by simp[go_sem]) ⟨by simp[go_sem],by simp[go_sem]⟩ (by simp[go_sem]) ?_⟩
    rintro _ rs ⟨rfl,rfl⟩
    cases qh
    ·skip
     rcases Classical.em (b=4)with t|t
     ·have b4:(b=4)=True:=eq_true t
      simp (maxSteps:=1000000) [go_sem,b4]
      exact zg (.p (.bool (false))) rfl (by simp[go_sem,zf,leA,leT]) ⟨rfl,by simp⟩
     ·have b4:(b=4)=False:=eq_false t
      rcases Classical.em (b=5)with t|t
      ·have b5:(b=5)=True:=eq_true t
       simp (maxSteps:=1000000) [go_sem,b4,b5]
       exact zg (.p (.bool (false))) rfl (by simp[go_sem,zf,leA,leT]) ⟨rfl,by simp⟩
      ·have b5:(b=5)=False:=eq_false t
       rcases Classical.em (b=8)with t|t
       ·have b8:(b=8)=True:=eq_true t
        simp (maxSteps:=1000000) [go_sem,b4,b5,b8]
        exact zg (.p (.bool (false))) rfl (by simp[go_sem,zf,leA,leT]) ⟨rfl,by simp⟩
       ·have b8:(b=8)=False:=eq_false t
        rcases Classical.em (a=7)with t|t
        ·have a7:(a=7)=True:=eq_true t
         simp (maxSteps:=1000000) [go_sem,b4,b5,b8,a7]
         exact zg (.p (.bool (false))) rfl (by simp[go_sem,zf,leA,leT]) ⟨rfl,by simp⟩
        ·have a7:(a=7)=False:=eq_false t
         simp (maxSteps:=1000000) [go_sem,b4,b5,b8,a7]
         refine⟨⟨rfl,by simp[Tryz.f179]⟩,zd [] cj (by simp[go_sem]) ⟨by simp[go_sem],by simp[go_sem,zE]⟩ (by simp[go_sem]) ?_⟩
         rintro _ rs ⟨rfl,rfl⟩
         cases cc
         ·simp (maxSteps:=1000000) [go_sem]
          refine⟨⟨rfl,by simp[Tryz.f180]⟩,zd [] pc (by simp[go_sem]) ⟨by simp[go_sem],by simp[go_sem,zE]⟩ (by simp[go_sem]) ?_⟩
          rintro _ rs ⟨rfl,rfl⟩
          cases pp
          ·simp (maxSteps:=1000000) [go_sem]
           refine⟨⟨rfl,by simp[Tryz.f181]⟩,zd [] fl (by simp[go_sem]) ⟨by simp[go_sem],by simp[go_sem,zE]⟩ (by simp[go_sem]) ?_⟩
           rintro _ rs ⟨rfl,rfl⟩
           simp (maxSteps:=1000000) [go_sem]
           exact zg (.p (.bool (!ff))) rfl (by simp[go_sem,zf,leA,leT]) ⟨rfl,by simp⟩
          ·simp (maxSteps:=1000000) [go_sem]
           exact zg (.p (.bool (false))) rfl (by simp[go_sem,zf,leA,leT]) ⟨rfl,by simp⟩
         ·simp (maxSteps:=1000000) [go_sem]
          exact zg (.p (.bool (false))) rfl (by simp[go_sem,zf,leA,leT]) ⟨rfl,by simp⟩
    ·simp (maxSteps:=1000000) [go_sem]
     exact zg (.p (.bool (false))) rfl (by simp[go_sem,zf,leA,leT]) ⟨rfl,by simp⟩
   ·simp (maxSteps:=1000000) [go_sem]
    exact zg (.p (.bool (true))) rfl (by simp[go_sem,zf,leA,leT]) ⟨rfl,by simp⟩
  ·simp (maxSteps:=1000000) [go_sem]
   exact zg (.p (.bool (true))) rfl (by simp[go_sem,zf,leA,leT]) ⟨rfl,by simp⟩
 ·have a1:(a=1)=False:=eq_false t1
  have b2:(b=2)=True:=eq_true t2
  simp (maxSteps:=1000000) [go_sem,a1,b2]
  refine⟨⟨rfl,by simp[Tryz.f177]⟩,zd [] c1 (by simp[go_sem]) ⟨by simp[go_sem],by simp[go_sem]⟩ (by simp[go_sem]) ?_⟩
  rintro _ rs ⟨rfl,rfl⟩
  cases qa
  ·simp (maxSteps:=1000000) [go_sem]
   refine⟨⟨rfl,by simp[Tryz.f177]⟩,zd [] c2 (by simp[go_sem]) ⟨by simp[go_sem],by simp[go_sem]⟩ (by simp[go_sem]) ?_⟩
   rintro _ rs ⟨rfl,rfl⟩
   cases qb
   ·simp (maxSteps:=1000000) [go_sem]
    refine⟨⟨rfl,by simp[Tryz.f178]⟩,zd [] c3 (by simp[go_sem]) ⟨by simp[go_sem],by simp[go_sem]⟩ (by simp[go_sem]) ?_⟩
    rintro _ rs ⟨rfl,rfl⟩
    cases qh
    ·skip
     rcases Classical.em (b=4)with t|t
     ·have b4:(b=4)=True:=eq_true t
      simp (maxSteps:=1000000) [go_sem,b4]
      exact zg (.p (.bool (false))) rfl (by simp[go_sem,zf,leA,leT]) ⟨rfl,by simp⟩
     ·have b4:(b=4)=False:=eq_false t
      rcases Classical.em (b=5)with t|t
      ·have b5:(b=5)=True:=eq_true t
       simp (maxSteps:=1000000) [go_sem,b4,b5]
       exact zg (.p (.bool (false))) rfl (by simp[go_sem,zf,leA,leT]) ⟨rfl,by simp⟩
      ·have b5:(b=5)=False:=eq_false t
       rcases Classical.em (b=8)with t|t
       ·have b8:(b=8)=True:=eq_true t
        simp (maxSteps:=1000000) [go_sem,b4,b5,b8]
        exact zg (.p (.bool (false))) rfl (by simp[go_sem,zf,leA,leT]) ⟨rfl,by simp⟩
       ·have b8:(b=8)=False:=eq_false t
        rcases Classical.em (a=7)with t|t
        ·have a7:(a=7)=True:=eq_true t
         simp (maxSteps:=1000000) [go_sem,b4,b5,b8,a7]
         exact zg (.p (.bool (false))) rfl (by simp[go_sem,zf,leA,leT]) ⟨rfl,by simp⟩
        ·have a7:(a=7)=False:=eq_false t
         simp (maxSteps:=1000000) [go_sem,b4,b5,b8,a7]
         refine⟨⟨rfl,by simp[Tryz.f179]⟩,zd [] cj (by simp[go_sem]) ⟨by simp[go_sem],by simp[go_sem,zE]⟩ (by simp[go_sem]) ?_⟩
         rintro _ rs ⟨rfl,rfl⟩
         cases cc
         ·simp (maxSteps:=1000000) [go_sem]
          refine⟨⟨rfl,by simp[Tryz.f180]⟩,zd [] pc (by simp[go_sem]) ⟨by simp[go_sem],by simp[go_sem,zE]⟩ (by simp[go_sem]) ?_⟩
          rintro _ rs ⟨rfl,rfl⟩
          cases pp
          ·simp (maxSteps:=1000000) [go_sem]
           refine⟨⟨rfl,by simp[Tryz.f181]⟩,zd [] fl (by simp[go_sem]) ⟨by simp[go_sem],by simp[go_sem,zE]⟩ (by simp[go_sem]) ?_⟩
           rintro _ rs ⟨rfl,rfl⟩
           simp (maxSteps:=1000000) [go_sem]
           exact zg (.p (.bool (!ff))) rfl (by simp[go_sem,zf,leA,leT]) ⟨rfl,by simp⟩
          ·simp (maxSteps:=1000000) [go_sem]
           exact zg (.p (.bool (false))) rfl (by simp[go_sem,zf,leA,leT]) ⟨rfl,by simp⟩
         ·simp (maxSteps:=1000000) [go_sem]
          exact zg (.p (.bool (false))) rfl (by simp[go_sem,zf,leA,leT]) ⟨rfl,by simp⟩
    ·simp (maxSteps:=1000000) [go_sem]
     exact zg (.p (.bool (false))) rfl (by simp[go_sem,zf,leA,leT]) ⟨rfl,by simp⟩
   ·simp (maxSteps:=1000000) [go_sem]
    exact zg (.p (.bool (true))) rfl (by simp[go_sem,zf,leA,leT]) ⟨rfl,by simp⟩
  ·simp (maxSteps:=1000000) [go_sem]
   exact zg (.p (.bool (true))) rfl (by simp[go_sem,zf,leA,leT]) ⟨rfl,by simp⟩
 ·have a1:(a=1)=False:=eq_false t1
  have b2:(b=2)=False:=eq_false t2
  simp (maxSteps:=1000000) [go_sem,a1,b2]
  refine⟨⟨rfl,by simp[Tryz.f177]⟩,zd [] c1 (by simp[go_sem]) ⟨by simp[go_sem],by simp[go_sem]⟩ (by simp[go_sem]) ?_⟩
  rintro _ rs ⟨rfl,rfl⟩
  cases qa
  ·simp (maxSteps:=1000000) [go_sem]
   refine⟨⟨rfl,by simp[Tryz.f177]⟩,zd [] c2 (by simp[go_sem]) ⟨by simp[go_sem],by simp[go_sem]⟩ (by simp[go_sem]) ?_⟩
   rintro _ rs ⟨rfl,rfl⟩
   cases qb
   ·simp (maxSteps:=1000000) [go_sem]
    refine⟨⟨rfl,by simp[Tryz.f178]⟩,zd [] c3 (by simp[go_sem]) ⟨by simp[go_sem],by simp[go_sem]⟩ (by simp[go_sem]) ?_⟩
    rintro _ rs ⟨rfl,rfl⟩
    cases qh
    ·skip
     rcases Classical.em (b=4)with t|t
     ·have b4:(b=4)=True:=eq_true t
      simp (maxSteps:=1000000) [go_sem,b4]
      exact zg (.p (.bool (false))) rfl (by simp[go_sem,zf,leA,leT]) ⟨rfl,by simp⟩
     ·have b4:(b=4)=False:=eq_false t
      rcases Classical.em (b=5)with t|t
      ·have b5:(b=5)=True:=eq_true t
       simp (maxSteps:=1000000) [go_sem,b4,b5]
       exact zg (.p (.bool (false))) rfl (by simp[go_sem,zf,leA,leT]) ⟨rfl,by simp⟩
      ·have b5:(b=5)=False:=eq_false t
       rcases Classical.em (b=8)with t|t
       ·have b8:(b=8)=True:=eq_true t
        simp (maxSteps:=1000000) [go_sem,b4,b5,b8]
        exact zg (.p (.bool (false))) rfl (by simp[go_sem,zf,leA,leT]) ⟨rfl,by simp⟩
       ·have b8:(b=8)=False:=eq_false t
        rcases Classical.em (a=7)with t|t
        ·have a7:(a=7)=True:=eq_true t
         simp (maxSteps:=1000000) [go_sem,b4,b5,b8,a7]
         exact zg (.p (.bool (false))) rfl (by simp[go_sem,zf,leA,leT]) ⟨rfl,by simp⟩
        ·have a7:(a=7)=False:=eq_false t
         simp (maxSteps:=1000000) [go_sem,b4,b5,b8,a7]
         refine⟨⟨rfl,by simp[Tryz.f179]⟩,zd [] cj (by simp[go_sem]) ⟨by simp[go_sem],by simp[go_sem,zE]⟩ (by simp[go_sem]) ?_⟩
         rintro _ rs ⟨rfl,rfl⟩
         cases cc
         ·simp (maxSteps:=1000000) [go_sem]
          refine⟨⟨rfl,by simp[Tryz.f180]⟩,zd [] pc (by simp[go_sem]) ⟨by simp[go_sem],by simp[go_sem,zE]⟩ (by simp[go_sem]) ?_⟩
          rintro _ rs ⟨rfl,rfl⟩
          cases pp
          ·simp (maxSteps:=1000000) [go_sem]
           refine⟨⟨rfl,by simp[Tryz.f181]⟩,zd [] fl (by simp[go_sem]) ⟨by simp[go_sem],by simp[go_sem,zE]⟩ (by simp[go_sem]) ?_⟩
           rintro _ rs ⟨rfl,rfl⟩
           simp (maxSteps:=1000000) [go_sem]
           exact zg (.p (.bool (!ff))) rfl (by simp[go_sem,zf,leA,leT]) ⟨rfl,by simp⟩
          ·simp (maxSteps:=1000000) [go_sem]
           exact zg (.p (.bool (false))) rfl (by simp[go_sem,zf,leA,leT]) ⟨rfl,by simp⟩
         ·simp (maxSteps:=1000000) [go_sem]
          exact zg (.p (.bool (false))) rfl (by simp[go_sem,zf,leA,leT]) ⟨rfl,by simp⟩
    ·simp (maxSteps:=1000000) [go_sem]
     exact zg (.p (.bool (false))) rfl (by simp[go_sem,zf,leA,leT]) ⟨rfl,by simp⟩
   ·simp (maxSteps:=1000000) [go_sem]
    exact zg (.p (.bool (true))) rfl (by simp[go_sem,zf,leA,leT]) ⟨rfl,by simp⟩
  ·simp (maxSteps:=1000000) [go_sem]
   exact zg (.p (.bool (true))) rfl (by simp[go_sem,zf,leA,leT]) ⟨rfl,by simp⟩
def Qv(rows:List Row):Int→List Int→List Int→Nat
 |_,_,[]=>0
 |p,pre,x::xs=>if uW rows p pre x then 0 else Qv rows x (p::pre) xs+1
theorem ux(rows:List Row):∀(l pre:List Int) (p:Int),Qv rows p pre l≤l.length
 | [],_,_=>by simp[Qv]
 |x::l,pre,p=>by
  unfold Qv
  split
  ·omega
  ·have:=ux rows l (p::pre) x
   simp only[List.length_cons];omega
theorem zjy [Gi] {rows:List Row}(hw:QK rows)(l:List Int)(a:Nat)(h:a<l.length)(hl:l.length<2^31)(hr:∀x∈l,qg x):
  CR Tryz.prog 174 [] [.p (z6 rows),.p (zE l),.p (.int .i64 a)] [] (is (.p (.int .i64 ((a+1+Qv rows l[a] (l.take a).reverse (l.drop (a+1)):Nat):Int)))):=by
 refine zx mixed 8 [] Tryz.func174 rfl (by kernel_rfl) rfl (by simp) (by simp) ?_
 obtain⟨N,hN⟩:∃N,N=a+1+Qv rows l[a] (l.take a).reverse (l.drop (a+1)):=⟨_,rfl⟩
 rw[←hN]
 have w1:IntKind.i64.wrap ((a:Int)+1)=((a+1:Nat):Int):=zG (by omega)
 simp (maxSteps:=1000000) [go_sem,Tryz.f174,zE,w1]
 refine zH (fun k:Nat=>a+1+k≤l.length∧∀h:a+k<l.length,N=a+1+k+Qv rows l[a+k] (l.take (a+k)).reverse (l.drop (a+1+k))) (fun k=>[(7,.p (.int .i64 ((a+1+k:Nat):Int)))]) (fun _=>[]) (fun k=>l.length-k) 0 ⟨by omega,fun _=>hN⟩ (by simp[go_sem,LeS,leV,leR,leA]) (fun k hs=>?_)
 obtain⟨h1,h2⟩:=hs
 have h3:=h2 (by omega)
 obtain⟨i,hi⟩:∃i,i=a+1+k:=⟨_,rfl⟩
 have hi':a+k<l.length:=by omega
 rw[←hi]at h1 h3⊢
 by_cases hil:i<l.length
 ·have bg:=XM hw l i (a+k) (by omega) hil hl hr
  rw[List.drop_eq_getElem_cons hil,Qv]at h3
  have tr:=uJ hi'
  rw[←tr]at h3
  have hil':(i:Int)<l.length:=by omega
  have w2:IntKind.i64.wrap ((i:Int)+1)=((a+1+(k+1):Nat):Int):=by rw[zG (by omega)];omega
  generalize uW rows l[a+k] (l.take (a+k)).reverse l[i]=q at bg h3
  simp (maxSteps:=1000000) [go_sem,qf,hil']
  refine⟨⟨rfl,by simp[Tryz.f128]⟩,zd [] bg (by simp[go_sem]) ⟨by simp[go_sem],by simp[go_sem,zE]⟩ (by simp[go_sem]) ?_⟩
  rintro _ rs ⟨rfl,rfl⟩
  cases q with
  |true=>
   obtain rfl:N=i:=by simpa using h3
   simp (maxSteps:=1000000) [go_sem]
   exact zg (.p (.int .i64 (N:Nat))) rfl (by simp[go_sem,zf,leA,leT]) ⟨rfl,rfl⟩
  |false=>
   simp (maxSteps:=1000000) [go_sem,w2]
   have e1:a+(k+1)=i:=by omega
   have e2:a+1+(k+1)=i+1:=by omega
   have e3:a+k+1=i:=by omega
   exact zi (k+1) ⟨by omega,fun _=>by
    simp only[e1,e2]
    rw[e3]at h3
    simp only[Bool.false_eq_true,if_false]at h3
    omega⟩ (by simp[go_sem,LeS,leV,leR,leA]) (by omega)
 ·have hil':¬(i:Int)<l.length:=by omega
  have e:N=l.length:=by rw[h3,List.drop_eq_nil_of_le (by omega)];simp only[Qv];omega
  rw[e]
  simp (maxSteps:=1000000) [go_sem,qf,hil']
  exact zg (.p (.int .i64 (l.length:Nat))) rfl (by simp[go_sem,zf,leA,leT]) ⟨rfl,rfl⟩
def qQ(rows:List Row):Nat→List Int→List Int→List (List Int)
 |0,_,_=>[]
 |_,_,[]=>[]
 |n+1,pre,x::xs=>(x::xs.take (Qv rows x pre xs))::qQ rows n ((xs.take (Qv rows x pre xs)).reverse++x::pre) (xs.drop (Qv rows x pre xs))
def zM(rows:List Row)(l:List Int):List (List Int):=qQ rows l.length [] l
theorem Ve(rows:List Row):∀(n m:Nat) (pre l:List Int),l.length≤n→l.length≤m→qQ rows n pre l=qQ rows m pre l
 |0,m,pre,l,h1,h2=>by
  obtain rfl:l=[]:=List.eq_nil_of_length_eq_zero (by omega)
  cases m<;>rfl
 |n+1,0,pre,l,h1,h2=>by
  obtain rfl:l=[]:=List.eq_nil_of_length_eq_zero (by omega)
  rfl
 |n+1,m+1,pre,[],h1,h2=>rfl
 |n+1,m+1,pre,r::l,h1,h2=>by
  simp only[List.length_cons]at h1 h2
  simp only[qQ]
  rw[Ve rows n m _ _ (by rw[List.length_drop];omega) (by rw[List.length_drop];omega)]
theorem zfR(rows:List Row)(l:List Int)(a e:Nat)(h:a<l.length)(he:e=a+1+Qv rows l[a] (l.take a).reverse (l.drop (a+1))):
  qQ rows (l.length-a) (l.take a).reverse (l.drop a)=(l.drop a).take (e-a)::qQ rows (l.length-e) (l.take e).reverse (l.drop e):=by
 rw[List.drop_eq_getElem_cons h]
 obtain⟨n,hn⟩:∃n,l.length-a=n+1:=⟨l.length-a-1,by omega⟩
 have hk:=ux rows (l.drop (a+1)) (l.take a).reverse l[a]
 rw[List.length_drop]at hk
 rw[hn,qQ]
 generalize Qv rows l[a] (l.take a).reverse (l.drop (a+1))=k at he hk
 have e1:e-a=k+1:=by omega
 have e2:(l.drop (a+1)).drop k=l.drop e:=by rw[List.drop_drop,he]
 have e3:((l.drop (a+1)).take k).reverse++l[a]::(l.take a).reverse=(l.take e).reverse:=by
  rw[←uJ h,←List.reverse_append,he];exact congrArg List.reverse List.take_add.symm
 rw[e1,e2,e3,List.take_succ_cons]
 rw[Ve rows n (l.length-e) _ _ (by rw[List.length_drop];omega) (by rw[List.length_drop];omega)]
def zgK(need:Int):List (List Int)→Nat
 | []=>0
 |c::C=>if need≤0 then 0 else zgK (need-c.length) C+1
def zaE(nfc:List Int→List Int)(clus:List Int→List (List Int))(L:List (List Int))(a f e:Int)(s:List Int):List (List Int)×Int×Bool:=
 if f<0∨e<f∨(L.length:Int)<e then(L,a,false)
 else
  let rest:=(L.drop e.toNat).flatten
  let x:=nfc ((L.take f.toNat).flatten++(s++rest))
  if 65536<x.length then(L,a,false)
  else(clus x,(zgK ((x.length:Int)-zoS x rest) (clus x):Nat),true)
def vg(x:Int):Bool:=decide (aL za 7 x=1)
def uh(x:Int):Bool:=decide (aL za 5 x=1)
def Wy(c0:Int)(i:Nat)(x:Int):Bool:=vg x || (decide (x=65039)&&decide (0<i)&&uh c0)
def ZT(c0:Int):Nat→List Int→Bool
 |_,[]=>false
 |i,x::l=>Wy c0 i x || ZT c0 (i+1) l
def WK:List Int→Bool
 |a::b::_=>decide (zD za a=6)&&decide (zD za b=6)
 |_=>false
def KJ(c:List Int):Int:=if ZT (c.headD 0) 0 c=true∨WK c=true then 2 else 1
theorem ziO(c:List Int):KJ c=1∨KJ c=2:=by unfold KJ;split<;>simp
def zbA:Cl:=⟨[94],1⟩
def qy(r:Int):List Cl:=
 if 0≤r∧r<32 then [zbA,⟨[u8 (r.toNat+64)],1⟩]else if r=127 then [zbA,⟨[63],1⟩]else [⟨[239,191,189],1⟩]
def KB:Int:=9676
def Z6(c:List Int):List Int:=
 (if zD za (c.headD 0)=4∨zD za (c.headD 0)=5∨zD za (c.headD 0)=8 then [KB]else [])++c++
 (if zD za (c.getLastD 0)=7 then [KB]else [])
def ofG(c:List Int):List Cl:=
 if zD za (c.headD 0)=1∨zD za (c.headD 0)=2∨zD za (c.headD 0)=3 then c.flatMap qy
 else [⟨yg (Z6 c),KJ (Z6 c)⟩]
def WW(l:List Int):List Cl:=(zM za l).flatMap ofG
def atG(L:List (List Int))(k:Nat):Nat:=((L.take k).flatMap ofG).length
theorem zg1(r:Int):∀x∈qy r,x.w=1:=by
 unfold qy
 intro x hx
 split at hx
 ·simp[zbA]at hx;rcases hx with rfl|rfl<;>rfl
 ·split at hx
  ·simp[zbA]at hx;rcases hx with rfl|rfl<;>rfl
  ·simp at hx;rw[hx]
theorem znV(c:List Int):∀x∈ofG c,yB x:=by
 intro x hx
 unfold ofG at hx
 split at hx
 ·obtain⟨r,_,h⟩:=List.mem_flatMap.1 hx
  exact .inl (zg1 r x h)
 ·simp at hx;rw[hx];exact ziO _
theorem vd(r:Int):(qy r).length≤2:=by unfold qy;split<;>(try split)<;>simp
theorem Vz {α β:Type}(f:α→List β)(n:Nat):∀l:List α,(∀x∈l,(f x).length≤n)→(l.flatMap f).length≤n*l.length
 | [],_=>by simp
 |x::l,h=>by
  have h1:=h x (by simp)
  have h2:=Vz f n l fun y hy=>h y (by simp[hy])
  rw[List.flatMap_cons,List.length_append,List.length_cons,Nat.mul_add]
  omega
theorem zbx(c:List Int)(h:c≠ []):(ofG c).length≤2*c.length:=by
 have hc:0<c.length:=List.length_pos_iff.2 h
 unfold ofG
 split
 ·exact Vz qy 2 c fun x _=>vd x
 ·simp;omega
structure zeF(nfc:List Int→List Int)(clus:List Int→List (List Int)):Prop where
 len:∀l:List Int,l.length<2^20→(nfc l).length<2^31
 rune:∀l:List Int,l.length<2^20→(∀x∈l,qg x)→∀x∈nfc l,qg x
 flat:∀l,(clus l).flatten=l
 num:∀l,(clus l).length≤l.length
structure zra(L:List (List Int)):Prop where
 num:L.length≤jm L
 len:jm L≤65536
 rune:∀x∈L.flatten,qg x
theorem zeF.sum {nfc clus}(h:zeF nfc clus)(x:List Int):jm (clus x)=x.length:=by rw[←V7,h.flat]
theorem zaf(k i:Int)(h:0≤i∧i≤1114111):∀l:List Row,(l.find? (kL k i)).map jY=atL (zL l k) i
 | []=>rfl
 |r::l=>by
  have ih:=zaf k i h l
  have e:zL (r::l) k=if r.k=k then jY r::zL l k else zL l k:=by
   by_cases hk:r.k=k<;>simp[zL,hk]
  rw[e,List.find?_cons]
  by_cases hk:r.k=k
  ·rw[if_pos hk]
   unfold atL at ih⊢
   rw[List.find?_cons]
   by_cases hq:r.f≤i∧i≤r.t
   ·have h1:kL k i r=true:=by simp[kL,hk,hq.1,hq.2]
    have h2:decide ((jY r).f≤i∧i≤(jY r).t)=true:=decide_eq_true (show max r.f 0≤i∧i≤min r.t 1114111 from⟨by omega,by omega⟩)
    rw[h1,h2];rfl
   ·have h1:kL k i r=false:=by
     unfold kL
     by_cases q1:r.f≤i
     ·have:¬i≤r.t:=fun q2=>hq ⟨q1,q2⟩
      simp[this]
     ·simp[q1]
    have h2:decide ((jY r).f≤i∧i≤(jY r).t)=false:=decide_eq_false (show ¬(max r.f 0≤i∧i≤min r.t 1114111)from fun q=>hq ⟨by omega,by omega⟩)
    rw[h1,h2];exact ih
  ·rw[if_neg hk]
   have h1:kL k i r=false:=by simp[kL,hk]
   rw[h1];exact ih
def spA(l:List Span)(i:Int):Int:=match atL l i with|some s=>s.a|none=>0
theorem KT(l:List Row)(k i:Int)(h:0≤i∧i≤1114111):aL l k i=spA (zL l k) i:=by
 have e:=zaf k i h l
 unfold aL spA rowAt
 rw[if_neg (by omega),←e]
 cases l.find? (kL k i)<;>rfl
theorem zbS(i:Int):∀l:List Span,qY 0 i (l.map QP)=spA l i
 | []=>rfl
 |s::l=>by
  have ih:=zbS i l
  simp only[List.map_cons,qY]
  unfold spA atL at ih⊢
  rw[List.find?_cons]
  by_cases h:s.f≤i∧i≤s.t
  ·have h1:decide (s.f≤i∧i≤s.t)=true:=by simpa using h
   rw[if_pos (by exact h),h1];rfl
  ·have h1:decide (s.f≤i∧i≤s.t)=false:=by simpa using h
   rw[if_neg (by exact h),h1];exact ih
theorem kj4:qv za 4=zL za 4:=by decide+kernel
theorem kj5:qv za 5=zL za 5:=by decide+kernel
theorem kj6:qv za 6=zL za 6:=by decide+kernel
theorem zbB(l:List Row)(k i:Int)(h:¬(0≤i∧i≤1114111)):aL l k i=0:=by
 unfold aL rowAt
 rw[if_pos (by omega)]
theorem zlx(r:Int):T0.brk (rn r)=aL za 4 r:=by
 by_cases h:0≤r∧r≤1114111
 ·rw[KT _ _ _ h,←kj4,←zbS,XH (by omega)];exact congrArg (fun x=>qY 0 x ((qv za 4).map QP)) (Int.toNat_of_nonneg h.1)
 ·rw[Um (by omega),zbB _ _ _ h];exact wM.b
theorem zmJ(r:Int):T0.cnj (rn r)=aL za 6 r:=by
 by_cases h:0≤r∧r≤1114111
 ·rw[KT _ _ _ h,←kj6,←zbS,XH (by omega)];exact congrArg (fun x=>qY 0 x ((qv za 6).map QP)) (Int.toNat_of_nonneg h.1)
 ·rw[Um (by omega),zbB _ _ _ h];exact wM.j
theorem zgu(r:Int):(T0.flg (rn r)).p=decide (aL za 5 r=1):=by
 by_cases h:0≤r∧r≤1114111
 ·have e:(T0.flg (rn r)).p=Za (qv za 5) r:=by
   rw[XH (by omega)];exact congrArg (Za (qv za 5)) (Int.toNat_of_nonneg h.1)
  rw[e,KT _ _ _ h,kj5]
  unfold Za spA
  cases atL (zL za 5) r with
  |none=>rfl
  |some s=>simp only;rfl
 ·rw[Um (by omega),zbB _ _ _ h,wM.f];rfl
theorem znY {l:List Row} {k r:Int}(h:aL l k r≠0):∃w∈l,w.k=k∧w.f≤r∧r≤w.t∧aL l k r=w.a:=by
 unfold aL at h⊢
 cases e:rowAt l k r with
 |none=>rw[e]at h;exact absurd rfl h
 |some w=>
  unfold rowAt at e
  split at e
  ·simp at e
  ·have h1:=List.mem_of_find?_eq_some e
   have h2:=List.find?_some e
   simp only[kL,Bool.and_eq_true,decide_eq_true_eq]at h2
   exact⟨w,h1,h2.1.1,h2.1.2,h2.2,rfl⟩
end
section
open Go.AM
attribute [local irreducible] za
structure zrk(k:Int→Int)(z:Cst)(O:List Int):Prop where
 o:z.o=O
 s:z.s=Wo k O
 l:O≠ []→Wo k O<O.length-1→z.l=k (O[O.length-1]?.getD 0)
end
end Go.Proofs.YtfjdbbpimklecaaGreatDoor
