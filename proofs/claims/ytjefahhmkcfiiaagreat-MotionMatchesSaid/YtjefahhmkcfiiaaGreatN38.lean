/- A part of the proof of this seat's statements, by an abstract machine: what each operation does to values, and what the law's functions compute. Conditions: as each law says. -/
import Derived.Test.YtjefahhmkcfiiaaGreatN37
import Derived.Test.YtjefahhmkcfiiaaGreatN21
section
namespace Go.Proofs.YtjefahhmkcfiiaaGreat
open Go.AM
set_option maxHeartbeats 4000000
set_option maxRecDepth 10000
def zF(L:List (List Int))(a:Int):PV:=.agg [zr L,.int .i64 a]
theorem zo(L:List (List Int)):(zW L).length=L.length:=by simp[zW]
def j9(L:List (List Int))(n:Int):Nat:=(max (min n (L.length:Int)) 0).toNat
theorem uQ(L:List (List Int))(n:Int):j9 L n≤L.length:=by unfold j9;omega
theorem zcK(L:List (List Int))(n:Int):((j9 L n:Nat):Int)=max (min n (L.length:Int)) 0:=by unfold j9;omega
theorem UD [Gi](L:List (List Int))(a n:Int):CR Tryz.prog 77 [] [.p (zF L a),.p (.int .i64 n)] [] (is (.p (.int .i64 (j9 L n:Nat)))):=by
 refine zm mixed 5 [] Tryz.func77 rfl (by kernel_rfl) rfl (by simp) (by simp) ?_
 simp (maxSteps:=1000000) [go_sem,Tryz.f77,zF,zr,zo]
 rw[zcK]
 generalize max (min n (L.length:Int)) 0=v
 exact zg (.p (.int .i64 v)) rfl (by simp[go_sem,zf,leA,leT]) ⟨rfl,rfl⟩
def J0(L:List (List Int))(a:Int):Nat:=qi (L.take (j9 L a))
theorem Je [Gi](L:List (List Int))(a:Int)(hL:L.length<2^31)(hn:qi L<2^31):CR Tryz.prog 26 [] [.p (zF L a)] [] (is (.p (.int .i64 (J0 L a:Nat)))):=by
 refine zM [1] mixed 3 [] Tryz.func26 rfl (by kernel_rfl) rfl (by simp) (by simp) ?_
 have h1:=uQ L a
 have h2:=QF L (j9 L a)
 have hfl:=Zm (L.take (j9 L a))
 simp (maxSteps:=1000000) [go_sem,Tryz.f26,zF,zr]
 refine z7 (.p (.int .i64 (j9 L a:Nat))) rfl rfl (fun _=>z6 77 (UD L a a) rfl ⟨rfl,by simp[Tryz.f77]⟩ ⟨by simp[go_sem],by simp[go_sem,zF,zr]⟩) ?_
 have hcut:cut (zW L) 0 (j9 L a:Nat)=zW (L.take (j9 L a)):=by simp[cut,zW]
 unfold J0
 generalize j9 L a=k at h1 h2 hfl hcut
 simp (maxSteps:=1000000) [go_sem,zo,hcut]
 refine⟨h1,z7 (.p (zh (L.take k).flatten)) rfl rfl (fun _=>z6 74 (um (L.take k) (by rw[List.length_take];omega) (by omega)) rfl ⟨rfl,by simp[Tryz.f74]⟩ ⟨by simp[go_sem],by simp[go_sem,zr]⟩) ?_⟩
 simp (maxSteps:=1000000) [go_sem,zh,zp,hfl]
 exact zg (.p (.int .i64 (qi (L.take k):Nat))) rfl (by simp[go_sem,zf,leA,leT]) ⟨rfl,rfl⟩
theorem qJ(b:List Int)(m:Nat):∃k v,elemAt (zB b) m=.int k v:=by
 by_cases h:m<b.length
 ·exact⟨_,_,by rw[zB,zq (fun r=>PV.int .i32 r) b _ h]⟩
 ·refine⟨default,default,?_⟩
  simp[elemAt,zB,List.getD,List.getElem?_eq_none (by simpa using h)];rfl
def yM:List Int→List Int→Nat
 |x::a,y::b=>if x=y then yM a b+1 else 0
 |_,_=>0
def yR(a b:List Int):Nat:=yM a.reverse b.reverse
theorem zjB [Gi](a b:List Int)(ha:a.length<2^31)(hb:b.length<2^31):CR Tryz.prog 75 [] [.p (zh a),.p (zh b)] [] (is (.p (.int .i64 (yR a b:Nat)))):=by
 refine zm mixed 6 [] Tryz.func75 rfl (by kernel_rfl) rfl (by simp) (by simp) ?_
 simp (maxSteps:=1000000) [go_sem,Tryz.f75,zh]
 refine zi (fun i:Nat=>i≤a.length∧i≤b.length∧yR a b=i+yM (a.reverse.drop i) (b.reverse.drop i)) (fun i=>[(5,.p (.int .i64 (i:Nat)))]) (fun _=>[]) (fun i=>a.length-i) 0 ⟨by omega,by omega,by simp[yR]⟩ (by simp[go_sem,LeS,leV,leR,leA]) (fun i hi=>?_)
 obtain⟨h1,h2,h3⟩:=hi
 by_cases c1:i<a.length
 ·by_cases c2:i<b.length
  ·have ea:a.reverse.drop i=a.reverse[i]'(by simpa using c1)::a.reverse.drop (i+1):=List.drop_eq_getElem_cons (by simpa using c1)
   have eb:b.reverse.drop i=b.reverse[i]'(by simpa using c2)::b.reverse.drop (i+1):=List.drop_eq_getElem_cons (by simpa using c2)
   rw[List.getElem_reverse]at ea eb
   have l1:a.length-1-i<a.length:=by omega
   have l2:b.length-1-i<b.length:=by omega
   have m1:elemAt (zB a) (a.length-1-i)=.int .i32 a[a.length-1-i]:=by rw[zB,zq (fun r=>PV.int .i32 r) a _ l1]
   have m2:elemAt (zB b) (b.length-1-i)=.int .i32 b[b.length-1-i]:=by rw[zB,zq (fun r=>PV.int .i32 r) b _ l2]
   generalize a[a.length-1-i]=x at ea m1
   generalize b[b.length-1-i]=y at eb m2
   rw[ea,eb,yM]at h3
   obtain⟨ka,hka⟩:∃ka,ka=a.length-1-i:=⟨_,rfl⟩
   obtain⟨kb,hkb⟩:∃kb,kb=b.length-1-i:=⟨_,rfl⟩
   rw[←hka]at m1 l1
   rw[←hkb]at m2 l2
   have w1:IntKind.i64.wrap ((a.length:Int)-1)=((a.length-1:Nat):Int):=qC (by omega) (by omega)
   have w2:IntKind.i64.wrap (((a.length-1:Nat):Int)-i)=(ka:Int):=Q6 (by omega) (by omega)
   have w3:IntKind.i64.wrap ((b.length:Int)-1)=((b.length-1:Nat):Int):=qC (by omega) (by omega)
   have w4:IntKind.i64.wrap (((b.length-1:Nat):Int)-i)=(kb:Int):=Q6 (by omega) (by omega)
   have w5:IntKind.i64.wrap ((i:Int)+1)=((i+1:Nat):Int):=zP (by omega)
   have c1':(i:Int)<a.length:=by omega
   have c2':(i:Int)<b.length:=by omega
   have l1':(ka:Int)<a.length:=by omega
   have l2':(kb:Int)<b.length:=by omega
   by_cases c3:x=y
   ·simp (maxSteps:=1000000) [go_sem,zp,c1',c2',w1,w2,w3,w4,w5,m1,m2,l1',l2',c3]
    exact zc (i+1) ⟨by omega,by omega,by rw[h3,if_pos c3];omega⟩ (by simp[go_sem,LeS,leV,leR,leA]) (by omega)
   ·have e:yR a b=i:=by rw[h3,if_neg c3];omega
    rw[e]
    simp (maxSteps:=1000000) [go_sem,zp,c1',c2',w1,w2,w3,w4,m1,m2,l1',l2',c3]
    exact zg (.p (.int .i64 (i:Nat))) rfl (by simp[go_sem,zf,leA,leT]) ⟨rfl,rfl⟩
  ·have e:yR a b=i:=by
    have z:b.reverse.drop i=[]:=List.drop_eq_nil_of_le (by simp;omega)
    rw[h3,z];cases a.reverse.drop i<;>simp[yM]
   rw[e]
   have c1':(i:Int)<a.length:=by omega
   have c2':¬(i:Int)<b.length:=by omega
   obtain⟨k1,v1,e1⟩:=qJ a (IntKind.i64.wrap (IntKind.i64.wrap ((a.length:Int)-1)-i)).toNat
   obtain⟨k2,v2,e2⟩:=qJ b (IntKind.i64.wrap (IntKind.i64.wrap ((b.length:Int)-1)-i)).toNat
   by_cases ck:k1=k2<;>simp (maxSteps:=1000000) [go_sem,zp,c1',c2',e1,e2,ck]<;>exact zg (.p (.int .i64 (i:Nat))) rfl (by simp[go_sem,zf,leA,leT]) ⟨rfl,rfl⟩
 ·have e:yR a b=i:=by
   have z:a.reverse.drop i=[]:=List.drop_eq_nil_of_le (by simp;omega)
   rw[h3,z];simp[yM]
  rw[e]
  have c1':¬(i:Int)<a.length:=by omega
  obtain⟨k1,v1,e1⟩:=qJ a (IntKind.i64.wrap (IntKind.i64.wrap ((a.length:Int)-1)-i)).toNat
  obtain⟨k2,v2,e2⟩:=qJ b (IntKind.i64.wrap (IntKind.i64.wrap ((b.length:Int)-1)-i)).toNat
  by_cases ck:k1=k2<;>simp (maxSteps:=1000000) [go_sem,zp,c1',e1,e2,ck]<;>exact zg (.p (.int .i64 (i:Nat))) rfl (by simp[go_sem,zf,leA,leT]) ⟨rfl,rfl⟩
end Go.Proofs.YtjefahhmkcfiiaaGreat
end
section
namespace Go.Proofs.YtjefahhmkcfiiaaGreat
open Go.AM
set_option maxHeartbeats 4000000
set_option maxRecDepth 10000
theorem wX {l:List Int} {j:Nat}(h:j<l.length):(l.take (j+1)).reverse=l[j]::(l.take j).reverse:=by
 rw[←List.take_append_getElem h];simp
theorem ZF {l:List Int} {j:Nat}(h:j<l.length):elemAt (zB l) j=.int .i32 l[j]:=by rw[zB,zq (fun r=>PV.int .i32 r) l j h]
def Qk(rows:List Row)(seen:Bool):List Int→Bool
 | []=>false
 |y::ys=>if ZC rows y=2 then seen else if ZC rows y=0 then false else Qk rows (seen || decide (ZC rows y=1)) ys
def u9(rows:List Row)(pre:List Int)(x:Int):Bool:=if ZC rows x=2 then Qk rows false pre else false
theorem zaw [Gi] {rows:List Row}(hw:qP rows)(l:List Int)(n:Nat)(h:n<l.length)(hl:l.length<2^31)(hr:∀x∈l,zL x):
  CR Tryz.prog 146 [] [.p (zC rows),.p (zh l),.p (.int .i64 n)] [] (is (.p (.bool (u9 rows (l.take n).reverse l[n])))):=by
 refine zm mixed 10 [] Tryz.func146 rfl (by kernel_rfl) rfl (by simp) (by simp) ?_
 have em:=ZF h
 have hx:=hr _ (List.getElem_mem h)
 generalize l[n]=x at em hx
 have h':(n:Int)<l.length:=by omega
 simp (maxSteps:=1000000) [go_sem,Tryz.f146,zh,zp,h',em]
 refine⟨⟨rfl,by simp[Tryz.f185]⟩,zb [] (zga hw hx) (by simp[go_sem]) ⟨by simp[go_sem],by simp[go_sem]⟩ (by simp[go_sem]) ?_⟩
 rintro _ rs ⟨rfl,rfl⟩
 by_cases c:ZC rows x=2
 ·have w1:IntKind.i64.wrap ((n:Int)-1)=(n:Int)-1:=wrap64 (by omega) (by omega)
  simp (maxSteps:=1000000) [go_sem,c,w1,u9]
  refine zi (fun s:Bool×Nat=>s.2≤n∧Qk rows false (l.take n).reverse=Qk rows s.1 (l.take s.2).reverse) (fun s=>[(7,.p (.bool s.1)),(8,.p (.int .i64 ((s.2:Int)-1))),(9,.zZ)]) (fun _=>[]) (fun s=>s.2) (false,n) ⟨by simp,rfl⟩ (by simp[go_sem,LeS,leV,leR,leA]) (fun s hs=>?_)
  obtain⟨seen,k⟩:=s
  obtain⟨h1,h2⟩:=hs
  simp only at h1 h2
  cases k with
  |zero=>
   rw[h2]
   simp (maxSteps:=1000000) [go_sem,Qk]
   exact zg (.p (.bool false)) rfl (by simp[go_sem,zf,leA,leT]) ⟨rfl,rfl⟩
  |succ j=>
   have hj:j<l.length:=by omega
   have hj':(j:Int)<l.length:=by omega
   rw[wX hj,Qk]at h2
   have em:=ZF hj
   have hy:=hr _ (List.getElem_mem hj)
   generalize l[j]=y at em hy h2
   have w2:IntKind.i64.wrap ((j:Int)-1)=(j:Int)-1:=wrap64 (by omega) (by omega)
   simp (maxSteps:=1000000) [go_sem,zp,hj',em]
   refine⟨⟨rfl,by simp[Tryz.f185]⟩,zb [] (zga hw hy) (by simp[go_sem]) ⟨by simp[go_sem],by simp[go_sem]⟩ (by simp[go_sem]) ?_⟩
   rintro _ rs ⟨rfl,rfl⟩
   generalize ZC rows y=v at h2
   by_cases v2:v=2
   ·rw[h2,if_pos v2]
    simp (maxSteps:=1000000) [go_sem,v2]
    exact zg (.p (.bool seen)) rfl (by simp[go_sem,zf,leA,leT]) ⟨rfl,rfl⟩
   rw[if_neg v2]at h2
   by_cases v0:v=0
   ·rw[h2,if_pos v0]
    simp (maxSteps:=1000000) [go_sem,v0]
    exact zg (.p (.bool false)) rfl (by simp[go_sem,zf,leA,leT]) ⟨rfl,rfl⟩
   rw[if_neg v0]at h2
   by_cases v1:v=1
   ·simp (maxSteps:=1000000) [go_sem,v1,w2]
    exact zc (true,j) ⟨by show j≤n;omega,by rw[h2,v1];simp⟩ (by simp[go_sem,LeS,leV,leR,leA]) (by show j<j+1;omega)
   ·simp (maxSteps:=1000000) [go_sem,v0,v1,v2,w2]
    exact zc (seen,j) ⟨by show j≤n;omega,by rw[h2];simp[v1]⟩ (by simp[go_sem,LeS,leV,leR,leA]) (by show j<j+1;omega)
 ·have e:u9 rows (l.take n).reverse x=false:=by unfold u9;rw[if_neg c]
  rw[e]
  simp (maxSteps:=1000000) [go_sem,c]
  exact zg (.p (.bool false)) rfl (by simp[go_sem,zf,leA,leT]) ⟨rfl,rfl⟩
def kA(rows:List Row):List Int→Bool
 | []=>false
 |y::ys=>if aL rows 5 y=1 then true else if zJ rows y=4 then kA rows ys else false
def Wh(rows:List Row)(p:Int)(pre:List Int)(x:Int):Bool:=if aL rows 5 x=1 then(if zJ rows p=5 then kA rows pre else false)else false
theorem zc0 [Gi] {rows:List Row}(hw:qP rows)(l:List Int)(n m:Nat)(hm:n=m+1)(h:n<l.length)(hl:l.length<2^31)(hr:∀x∈l,zL x):
  CR Tryz.prog 147 [] [.p (zC rows),.p (zh l),.p (.int .i64 n)] [] (is (.p (.bool (Wh rows l[m] (l.take m).reverse l[n])))):=by
 refine zm mixed 8 [] Tryz.func147 rfl (by kernel_rfl) rfl (by simp) (by simp) ?_
 have em:=ZF h
 have hx:=hr _ (List.getElem_mem h)
 generalize l[n]=x at em hx
 have g:m<l.length:=by omega
 have em2:=ZF g
 have hp:=hr _ (List.getElem_mem g)
 generalize l[m]=p at em2 hp
 have h':(n:Int)<l.length:=by omega
 have g':(m:Int)<l.length:=by omega
 have w1:IntKind.i64.wrap ((n:Int)-1)=(m:Int):=by rw[wrap64 (by omega) (by omega)];omega
 have w2:IntKind.i64.wrap ((n:Int)-2)=(m:Int)-1:=by rw[wrap64 (by omega) (by omega)];omega
 simp (maxSteps:=1000000) [go_sem,Tryz.f147,zh,zp,h',em]
 refine⟨⟨rfl,by simp[Tryz.f80]⟩,zb [] (jf rows 5 x hw.n hx) (by simp[go_sem]) ⟨by simp[go_sem],by simp[go_sem]⟩ (by simp[go_sem]) ?_⟩
 rintro _ rs ⟨rfl,rfl⟩
 by_cases c:aL rows 5 x=1
 ·simp (maxSteps:=1000000) [go_sem,c,w1,zp,g',em2,Wh]
  refine⟨⟨rfl,by simp[Tryz.f143]⟩,zb [] (wQ hw hp) (by simp[go_sem]) ⟨by simp[go_sem],by simp[go_sem]⟩ (by simp[go_sem]) ?_⟩
  rintro _ rs ⟨rfl,rfl⟩
  by_cases c5:zJ rows p=5
  ·simp (maxSteps:=1000000) [go_sem,c5,w2]
   refine zi (fun k:Nat=>k≤m∧kA rows (l.take m).reverse=kA rows (l.take k).reverse) (fun k=>[(7,.p (.int .i64 ((k:Int)-1)))]) (fun _=>[]) (fun k=>k) m ⟨by omega,rfl⟩ (by simp[go_sem,LeS,leV,leR,leA]) (fun k hs=>?_)
   obtain⟨h1,h2⟩:=hs
   cases k with
   |zero=>
    rw[h2]
    simp (maxSteps:=1000000) [go_sem,kA]
    exact zg (.p (.bool false)) rfl (by simp[go_sem,zf,leA,leT]) ⟨rfl,rfl⟩
   |succ j=>
    have hj:j<l.length:=by omega
    have hj':(j:Int)<l.length:=by omega
    rw[wX hj,kA]at h2
    have em:=ZF hj
    have hy:=hr _ (List.getElem_mem hj)
    generalize l[j]=y at em hy h2
    have w2:IntKind.i64.wrap ((j:Int)-1)=(j:Int)-1:=wrap64 (by omega) (by omega)
    simp (maxSteps:=1000000) [go_sem,zp,hj',em]
    refine⟨⟨rfl,by simp[Tryz.f80]⟩,zb [] (jf rows 5 y hw.n hy) (by simp[go_sem]) ⟨by simp[go_sem],by simp[go_sem]⟩ (by simp[go_sem]) ?_⟩
    rintro _ rs ⟨rfl,rfl⟩
    by_cases v1:aL rows 5 y=1
    ·rw[h2,if_pos v1]
     simp (maxSteps:=1000000) [go_sem,v1]
     exact zg (.p (.bool true)) rfl (by simp[go_sem,zf,leA,leT]) ⟨rfl,rfl⟩
    rw[if_neg v1]at h2
    simp (maxSteps:=1000000) [go_sem,zp,hj',em,v1]
    refine⟨⟨rfl,by simp[Tryz.f143]⟩,zb [] (wQ hw hy) (by simp[go_sem]) ⟨by simp[go_sem],by simp[go_sem]⟩ (by simp[go_sem]) ?_⟩
    rintro _ rs ⟨rfl,rfl⟩
    by_cases v4:zJ rows y=4
    ·rw[if_pos v4]at h2
     simp (maxSteps:=1000000) [go_sem,v4,w2]
     exact zc j ⟨by show j≤m;omega,h2⟩ (by simp[go_sem,LeS,leV,leR,leA]) (by show j<j+1;omega)
    ·rw[h2,if_neg v4]
     simp (maxSteps:=1000000) [go_sem,v4]
     exact zg (.p (.bool false)) rfl (by simp[go_sem,zf,leA,leT]) ⟨rfl,rfl⟩
  ·simp (maxSteps:=1000000) [go_sem,c5]
   exact zg (.p (.bool false)) rfl (by simp[go_sem,zf,leA,leT]) ⟨rfl,rfl⟩
 ·have e:Wh rows p (l.take m).reverse x=false:=by unfold Wh;rw[if_neg c]
  rw[e]
  simp (maxSteps:=1000000) [go_sem,c,w1,zp,g',em2]
  exact zg (.p (.bool false)) rfl (by simp[go_sem,zf,leA,leT]) ⟨rfl,rfl⟩
def Qu(rows:List Row):List Int→Nat
 | []=>0
 |y::ys=>if zJ rows y=6 then Qu rows ys+1 else 0
theorem zgz(rows:List Row)(l:List Int):Qu rows l≤l.length:=by
 induction l with
 |nil=>simp[Qu]
 |cons y ys ih=>unfold Qu;split<;>simp<;>omega
def vt(rows:List Row)(pre:List Int)(x:Int):Bool:=if zJ rows x=6 then decide (Qu rows pre%2=1)else false
theorem zei [Gi] {rows:List Row}(hw:qP rows)(l:List Int)(n:Nat)(h:n<l.length)(hl:l.length<2^31)(hr:∀x∈l,zL x):
  CR Tryz.prog 148 [] [.p (zC rows),.p (zh l),.p (.int .i64 n)] [] (is (.p (.bool (vt rows (l.take n).reverse l[n])))):=by
 refine zm mixed 9 [] Tryz.func148 rfl (by kernel_rfl) rfl (by simp) (by simp) ?_
 have em:=ZF h
 have hx:=hr _ (List.getElem_mem h)
 generalize l[n]=x at em hx
 have h':(n:Int)<l.length:=by omega
 simp (maxSteps:=1000000) [go_sem,Tryz.f148,zh,zp,h',em]
 refine⟨⟨rfl,by simp[Tryz.f143]⟩,zb [] (wQ hw hx) (by simp[go_sem]) ⟨by simp[go_sem],by simp[go_sem]⟩ (by simp[go_sem]) ?_⟩
 rintro _ rs ⟨rfl,rfl⟩
 by_cases c:zJ rows x=6
 ·have w1:IntKind.i64.wrap ((n:Int)-1)=(n:Int)-1:=wrap64 (by omega) (by omega)
  have hfl:=zgz rows (l.take n).reverse
  rw[List.length_reverse,List.length_take]at hfl
  have ht:((Qu rows (l.take n).reverse:Nat):Int).tmod 2=((Qu rows (l.take n).reverse%2:Nat):Int):=by rw[Int.tmod_eq_emod_of_nonneg (by omega)];omega
  simp (maxSteps:=1000000) [go_sem,c,w1,vt]
  generalize hF:Qu rows (l.take n).reverse=F at hfl ht
  refine zi (fun s:Nat×Nat=>s.2≤n∧F=s.1+Qu rows (l.take s.2).reverse) (fun s=>[(7,.p (.int .i64 (s.1:Nat))),(8,.p (.int .i64 ((s.2:Int)-1)))]) (fun _=>[]) (fun s=>s.2) (0,n) ⟨by simp,by simp[hF]⟩ (by simp[go_sem,LeS,leV,leR,leA]) (fun s hs=>?_)
  obtain⟨q,k⟩:=s
  obtain⟨h1,h2⟩:=hs
  simp only at h1 h2
  cases k with
  |zero=>
   obtain⟨kk,vv,e0⟩:=qJ l 0
   simp only[List.take_zero,List.reverse_nil,Qu,Nat.add_zero]at h2
   subst h2
   simp (maxSteps:=1000000) [go_sem,e0,ht]
   exact zg (.p (.bool (decide (F%2=1)))) rfl (by simp[go_sem,zf,leA,leT];omega) ⟨rfl,rfl⟩
  |succ j=>
   have hj:j<l.length:=by omega
   have hj':(j:Int)<l.length:=by omega
   rw[wX hj,Qu]at h2
   have em:=ZF hj
   have hy:=hr _ (List.getElem_mem hj)
   generalize l[j]=y at em hy h2
   have w2:IntKind.i64.wrap ((j:Int)-1)=(j:Int)-1:=wrap64 (by omega) (by omega)
   simp (maxSteps:=1000000) [go_sem,zp,hj',em]
   refine⟨⟨rfl,by simp[Tryz.f143]⟩,zb [] (wQ hw hy) (by simp[go_sem]) ⟨by simp[go_sem],by simp[go_sem]⟩ (by simp[go_sem]) ?_⟩
   rintro _ rs ⟨rfl,rfl⟩
   by_cases v6:zJ rows y=6
   ·rw[if_pos v6]at h2
    have w3:IntKind.i64.wrap ((q:Int)+1)=((q+1:Nat):Int):=zP (by omega)
    simp (maxSteps:=1000000) [go_sem,v6,w2,w3]
    exact zc (q+1,j) ⟨by show j≤n;omega,by show F=q+1+Qu rows (l.take j).reverse;omega⟩ (by simp[go_sem,LeS,leV,leR,leA]) (by show j<j+1;omega)
   ·rw[if_neg v6,Nat.add_zero]at h2
    subst h2
    simp (maxSteps:=1000000) [go_sem,v6,ht]
    exact zg (.p (.bool (decide (F%2=1)))) rfl (by simp[go_sem,zf,leA,leT];omega) ⟨rfl,rfl⟩
 ·have e:vt rows (l.take n).reverse x=false:=by unfold vt;rw[if_neg c]
  rw[e]
  simp (maxSteps:=1000000) [go_sem,c]
  exact zg (.p (.bool false)) rfl (by simp[go_sem,zf,leA,leT]) ⟨rfl,rfl⟩
end Go.Proofs.YtjefahhmkcfiiaaGreat
end
section
namespace Go.Proofs.YtjefahhmkcfiiaaGreat
open Go.AM
set_option maxHeartbeats 4000000
set_option maxRecDepth 10000
def yV(rows:List Row)(p:Int)(pre:List Int)(x:Int):Bool:=
 if zJ rows p=1∧zJ rows x=2 then false
 else if QQ (zJ rows p) || QQ (zJ rows x)then true
 else if Qr (zJ rows p) (zJ rows x)then false
 else if zJ rows x=4∨zJ rows x=5∨zJ rows x=8∨zJ rows p=7 then false
 else if u9 rows (p::pre) x then false
 else if Wh rows p pre x then false
 else !vt rows (p::pre) x
theorem UA [Gi] {rows:List Row}(hw:qP rows)(l:List Int)(n m:Nat)(hm:n=m+1)(h:n<l.length)(hl:l.length<2^31)(hr:∀x∈l,zL x):
  CR Tryz.prog 90 [] [.p (zC rows),.p (zh l),.p (.int .i64 n)] [] (is (.p (.bool (yV rows l[m] (l.take m).reverse l[n])))):=by
 refine zM [3] mixed 9 [] Tryz.func90 rfl (by kernel_rfl) rfl (by simp) (by simp) ?_
 have cj:=zaw hw l n h hl hr
 have pc:=zc0 hw l n m hm h hl hr
 have fl:=zei hw l n h hl hr
 have g:m<l.length:=by omega
 have tr:(l.take n).reverse=l[m]::(l.take m).reverse:=by subst hm;exact wX g
 rw[tr]at cj fl
 have em:=ZF h
 have em2:=ZF g
 have hx:=hr _ (List.getElem_mem h)
 have hp:=hr _ (List.getElem_mem g)
 generalize l[n]=x at*
 generalize l[m]=p at*
 have h':(n:Int)<l.length:=by omega
 have g':(m:Int)<l.length:=by omega
 have n0:¬((n:Int)=0):=by omega
 have n0':¬(n=0):=by omega
 have w1:IntKind.i64.wrap ((n:Int)-1)=(m:Int):=by rw[wrap64 (by omega) (by omega)];omega
 simp (maxSteps:=1000000) [go_sem,Tryz.f90,zh,zp,n0',w1,g',em2]
 refine z7 (.p (.int .i64 (zJ rows p))) rfl rfl (fun _=>z6 143 (wQ hw hp) rfl ⟨rfl,by simp[Tryz.f143]⟩ ⟨by simp[go_sem],by simp[go_sem]⟩) ?_
 simp (maxSteps:=1000000) [go_sem,zp,h',em]
 refine z7 (.p (.int .i64 (zJ rows x))) rfl rfl (fun _=>z6 143 (wQ hw hx) rfl ⟨rfl,by simp[Tryz.f143]⟩ ⟨by simp[go_sem],by simp[go_sem]⟩) ?_
 refine⟨by simp[go_sem],?_⟩
 have c1:=zfr (zJ rows p)
 have c2:=zfr (zJ rows x)
 have c3:=zg1 (zJ rows p) (zJ rows x)
 unfold yV
 generalize u9 rows (p::(l.take m).reverse) x=cc at cj⊢
 generalize Wh rows p (l.take m).reverse x=pp at pc⊢
 generalize vt rows (p::(l.take m).reverse) x=ff at fl⊢
 generalize zJ rows p=a at*
 generalize zJ rows x=b at*
 generalize Qr a b=qh at c3⊢
 generalize QQ a=qa at c1⊢
 generalize QQ b=qb at c2⊢
 rcases Classical.em (a=1)with t1|t1<;>rcases Classical.em (b=2)with t2|t2
 ·have a1:(a=1)=True:=eq_true t1
  have b2:(b=2)=True:=eq_true t2
  simp (maxSteps:=1000000) [go_sem,a1,b2]
  exact zg (.p (.bool false)) rfl (by simp[go_sem,zf,leA,leT]) ⟨rfl,rfl⟩
 ·have a1:(a=1)=True:=eq_true t1
  have b2:(b=2)=False:=eq_false t2
  simp (maxSteps:=1000000) [go_sem,a1,b2]
  refine⟨⟨rfl,by simp[Tryz.f144]⟩,zb [] c1 (by simp[go_sem]) ⟨by simp[go_sem],by simp[go_sem]⟩ (by simp[go_sem]) ?_⟩
  rintro _ rs ⟨rfl,rfl⟩
  cases qa
  ·simp (maxSteps:=1000000) [go_sem]
   refine⟨⟨rfl,by simp[Tryz.f144]⟩,zb [] c2 (by simp[go_sem]) ⟨by simp[go_sem],by simp[go_sem]⟩ (by simp[go_sem]) ?_⟩
   rintro _ rs ⟨rfl,rfl⟩
   cases qb
   ·simp (maxSteps:=1000000) [go_sem]
    refine⟨⟨rfl,by simp[Tryz.f145]⟩,zb [] c3 (by simp[go_sem]) ⟨by simp[go_sem],by simp[go_sem]⟩ (by simp[go_sem]) ?_⟩
    rintro _ rs ⟨rfl,rfl⟩
    cases qh
    ·skip
     rcases Classical.em (b=4)with t|t
     ·have b4:(b=4)=True:=eq_true t
      simp (maxSteps:=1000000) [go_sem,b4]
      exact zg (.p (.bool (false))) rfl (by simp[go_sem,zf,leA,leT]) ⟨rfl,by simp⟩
     ·have b4:(b=4)=False:=eq_false t
      rcases Classical.em (b=5)with t|t
      ·have b5:(b=5)=True:=eq_true t
       simp (maxSteps:=1000000) [go_sem,b4,b5]
       exact zg (.p (.bool (false))) rfl (by simp[go_sem,zf,leA,leT]) ⟨rfl,by simp⟩
      ·have b5:(b=5)=False:=eq_false t
       rcases Classical.em (b=8)with t|t
       ·have b8:(b=8)=True:=eq_true t
        simp (maxSteps:=1000000) [go_sem,b4,b5,b8]
        exact zg (.p (.bool (false))) rfl (by simp[go_sem,zf,leA,leT]) ⟨rfl,by simp⟩
       ·have b8:(b=8)=False:=eq_false t
        rcases Classical.em (a=7)with t|t
        ·have a7:(a=7)=True:=eq_true t
         simp (maxSteps:=1000000) [go_sem,b4,b5,b8,a7]
         exact zg (.p (.bool (false))) rfl (by simp[go_sem,zf,leA,leT]) ⟨rfl,by simp⟩
        ·have a7:(a=7)=False:=eq_false t
         simp (maxSteps:=1000000) [go_sem,b4,b5,b8,a7]
         refine⟨⟨rfl,by simp[Tryz.f146]⟩,zb [] cj (by simp[go_sem]) ⟨by simp[go_sem],by simp[go_sem,zh]⟩ (by simp[go_sem]) ?_⟩
         rintro _ rs ⟨rfl,rfl⟩
         cases cc
         ·simp (maxSteps:=1000000) [go_sem]
          refine⟨⟨rfl,by simp[Tryz.f147]⟩,zb [] pc (by simp[go_sem]) ⟨by simp[go_sem],by simp[go_sem,zh]⟩ (by simp[go_sem]) ?_⟩
          rintro _ rs ⟨rfl,rfl⟩
          cases pp
          ·simp (maxSteps:=1000000) [go_sem]
           refine⟨⟨rfl,by simp[Tryz.f148]⟩,zb [] fl (by simp[go_sem]) ⟨by simp[go_sem],by simp[go_sem,zh]⟩ (by simp[go_sem]) ?_⟩
           rintro _ rs ⟨rfl,rfl⟩
           simp (maxSteps:=1000000) [go_sem]
           exact zg (.p (.bool (!ff))) rfl (by simp[go_sem,zf,leA,leT]) ⟨rfl,by simp⟩
          ·simp (maxSteps:=1000000) [go_sem]
           exact zg (.p (.bool (false))) rfl (by simp[go_sem,zf,leA,leT]) ⟨rfl,by simp⟩
         ·simp (maxSteps:=1000000) [go_sem]
          exact zg (.p (.bool (false))) rfl (by simp[go_sem,zf,leA,leT]) ⟨rfl,by simp⟩
    ·simp (maxSteps:=1000000) [go_sem]
     exact zg (.p (.bool (false))) rfl (by simp[go_sem,zf,leA,leT]) ⟨rfl,by simp⟩
   ·simp (maxSteps:=1000000) [go_sem]
    exact zg (.p (.bool (true))) rfl (by simp[go_sem,zf,leA,leT]) ⟨rfl,by simp⟩
  ·simp (maxSteps:=1000000) [go_sem]
   exact zg (.p (.bool (true))) rfl (by simp[go_sem,zf,leA,leT]) ⟨rfl,by simp⟩
 ·have a1:(a=1)=False:=eq_false t1
  have b2:(b=2)=True:=eq_true t2
  simp (maxSteps:=1000000) [go_sem,a1,b2]
  refine⟨⟨rfl,by simp[Tryz.f144]⟩,zb [] c1 (by simp[go_sem]) ⟨by simp[go_sem],by simp[go_sem]⟩ (by simp[go_sem]) ?_⟩
  rintro _ rs ⟨rfl,rfl⟩
  cases qa
  ·simp (maxSteps:=1000000) [go_sem]
   refine⟨⟨rfl,by simp[Tryz.f144]⟩,zb [] c2 (by simp[go_sem]) ⟨by simp[go_sem],by simp[go_sem]⟩ (by simp[go_sem]) ?_⟩
   rintro _ rs ⟨rfl,rfl⟩
   cases qb
   ·simp (maxSteps:=1000000) [go_sem]
    refine⟨⟨rfl,by simp[Tryz.f145]⟩,zb [] c3 (by simp[go_sem]) ⟨by simp[go_sem],by simp[go_sem]⟩ (by simp[go_sem]) ?_⟩
    rintro _ rs ⟨rfl,rfl⟩
    cases qh
    ·skip
     rcases Classical.em (b=4)with t|t
     ·have b4:(b=4)=True:=eq_true t
      simp (maxSteps:=1000000) [go_sem,b4]
      exact zg (.p (.bool (false))) rfl (by simp[go_sem,zf,leA,leT]) ⟨rfl,by simp⟩
     ·have b4:(b=4)=False:=eq_false t
      rcases Classical.em (b=5)with t|t
      ·have b5:(b=5)=True:=eq_true t
       simp (maxSteps:=1000000) [go_sem,b4,b5]
       exact zg (.p (.bool (false))) rfl (by simp[go_sem,zf,leA,leT]) ⟨rfl,by simp⟩
      ·have b5:(b=5)=False:=eq_false t
       rcases Classical.em (b=8)with t|t
       ·have b8:(b=8)=True:=eq_true t
        simp (maxSteps:=1000000) [go_sem,b4,b5,b8]
        exact zg (.p (.bool (false))) rfl (by simp[go_sem,zf,leA,leT]) ⟨rfl,by simp⟩
       ·have b8:(b=8)=False:=eq_false t
        rcases Classical.em (a=7)with t|t
        ·have a7:(a=7)=True:=eq_true t
         simp (maxSteps:=1000000) [go_sem,b4,b5,b8,a7]
         exact zg (.p (.bool (false))) rfl (by simp[go_sem,zf,leA,leT]) ⟨rfl,by simp⟩
        ·have a7:(a=7)=False:=eq_false t
         simp (maxSteps:=1000000) [go_sem,b4,b5,b8,a7]
         refine⟨⟨rfl,by simp[Tryz.f146]⟩,zb [] cj (by simp[go_sem]) ⟨by simp[go_sem],by simp[go_sem,zh]⟩ (by simp[go_sem]) ?_⟩
         rintro _ rs ⟨rfl,rfl⟩
         cases cc
         ·simp (maxSteps:=1000000) [go_sem]
          refine⟨⟨rfl,by simp[Tryz.f147]⟩,zb [] pc (by simp[go_sem]) ⟨by simp[go_sem],by simp[go_sem,zh]⟩ (by simp[go_sem]) ?_⟩
          rintro _ rs ⟨rfl,rfl⟩
          cases pp
          ·simp (maxSteps:=1000000) [go_sem]
           refine⟨⟨rfl,by simp[Tryz.f148]⟩,zb [] fl (by simp[go_sem]) ⟨by simp[go_sem],by simp[go_sem,zh]⟩ (by simp[go_sem]) ?_⟩
           rintro _ rs ⟨rfl,rfl⟩
           simp (maxSteps:=1000000) [go_sem]
           exact zg (.p (.bool (!ff))) rfl (by simp[go_sem,zf,leA,leT]) ⟨rfl,by simp⟩
          ·simp (maxSteps:=1000000) [go_sem]
           exact zg (.p (.bool (false))) rfl (by simp[go_sem,zf,leA,leT]) ⟨rfl,by simp⟩
         ·simp (maxSteps:=1000000) [go_sem]
          exact zg (.p (.bool (false))) rfl (by simp[go_sem,zf,leA,leT]) ⟨rfl,by simp⟩
    ·simp (maxSteps:=1000000) [go_sem]
     exact zg (.p (.bool (false))) rfl (by simp[go_sem,zf,leA,leT]) ⟨rfl,by simp⟩
   ·simp (maxSteps:=1000000) [go_sem]
    exact zg (.p (.bool (true))) rfl (by simp[go_sem,zf,leA,leT]) ⟨rfl,by simp⟩
  ·simp (maxSteps:=1000000) [go_sem]
   exact zg (.p (.bool (true))) rfl (by simp[go_sem,zf,leA,leT]) ⟨rfl,by simp⟩
 ·have a1:(a=1)=False:=eq_false t1
  have b2:(b=2)=False:=eq_false t2
  simp (maxSteps:=1000000) [go_sem,a1,b2]
  refine⟨⟨rfl,by simp[Tryz.f144]⟩,zb [] c1 (by simp[go_sem]) ⟨by simp[go_sem],by simp[go_sem]⟩ (by simp[go_sem]) ?_⟩
  rintro _ rs ⟨rfl,rfl⟩
  cases qa
  ·simp (maxSteps:=1000000) [go_sem]
   refine⟨⟨rfl,by simp[Tryz.f144]⟩,zb [] c2 (by simp[go_sem]) ⟨by simp[go_sem],by simp[go_sem]⟩ (by simp[go_sem]) ?_⟩
   rintro _ rs ⟨rfl,rfl⟩
   cases qb
   ·simp (maxSteps:=1000000) [go_sem]
    refine⟨⟨rfl,by simp[Tryz.f145]⟩,zb [] c3 (by simp[go_sem]) ⟨by simp[go_sem],by simp[go_sem]⟩ (by simp[go_sem]) ?_⟩
    rintro _ rs ⟨rfl,rfl⟩
    cases qh
    ·skip
     rcases Classical.em (b=4)with t|t
     ·have b4:(b=4)=True:=eq_true t
      simp (maxSteps:=1000000) [go_sem,b4]
      exact zg (.p (.bool (false))) rfl (by simp[go_sem,zf,leA,leT]) ⟨rfl,by simp⟩
     ·have b4:(b=4)=False:=eq_false t
      rcases Classical.em (b=5)with t|t
      ·have b5:(b=5)=True:=eq_true t
       simp (maxSteps:=1000000) [go_sem,b4,b5]
       exact zg (.p (.bool (false))) rfl (by simp[go_sem,zf,leA,leT]) ⟨rfl,by simp⟩
      ·have b5:(b=5)=False:=eq_false t
       rcases Classical.em (b=8)with t|t
       ·have b8:(b=8)=True:=eq_true t
        simp (maxSteps:=1000000) [go_sem,b4,b5,b8]
        exact zg (.p (.bool (false))) rfl (by simp[go_sem,zf,leA,leT]) ⟨rfl,by simp⟩
       ·have b8:(b=8)=False:=eq_false t
        rcases Classical.em (a=7)with t|t
        ·have a7:(a=7)=True:=eq_true t
         simp (maxSteps:=1000000) [go_sem,b4,b5,b8,a7]
         exact zg (.p (.bool (false))) rfl (by simp[go_sem,zf,leA,leT]) ⟨rfl,by simp⟩
        ·have a7:(a=7)=False:=eq_false t
         simp (maxSteps:=1000000) [go_sem,b4,b5,b8,a7]
         refine⟨⟨rfl,by simp[Tryz.f146]⟩,zb [] cj (by simp[go_sem]) ⟨by simp[go_sem],by simp[go_sem,zh]⟩ (by simp[go_sem]) ?_⟩
         rintro _ rs ⟨rfl,rfl⟩
         cases cc
         ·simp (maxSteps:=1000000) [go_sem]
          refine⟨⟨rfl,by simp[Tryz.f147]⟩,zb [] pc (by simp[go_sem]) ⟨by simp[go_sem],by simp[go_sem,zh]⟩ (by simp[go_sem]) ?_⟩
          rintro _ rs ⟨rfl,rfl⟩
          cases pp
          ·simp (maxSteps:=1000000) [go_sem]
           refine⟨⟨rfl,by simp[Tryz.f148]⟩,zb [] fl (by simp[go_sem]) ⟨by simp[go_sem],by simp[go_sem,zh]⟩ (by simp[go_sem]) ?_⟩
           rintro _ rs ⟨rfl,rfl⟩
           simp (maxSteps:=1000000) [go_sem]
           exact zg (.p (.bool (!ff))) rfl (by simp[go_sem,zf,leA,leT]) ⟨rfl,by simp⟩
          ·simp (maxSteps:=1000000) [go_sem]
           exact zg (.p (.bool (false))) rfl (by simp[go_sem,zf,leA,leT]) ⟨rfl,by simp⟩
         ·simp (maxSteps:=1000000) [go_sem]
          exact zg (.p (.bool (false))) rfl (by simp[go_sem,zf,leA,leT]) ⟨rfl,by simp⟩
    ·simp (maxSteps:=1000000) [go_sem]
     exact zg (.p (.bool (false))) rfl (by simp[go_sem,zf,leA,leT]) ⟨rfl,by simp⟩
   ·simp (maxSteps:=1000000) [go_sem]
    exact zg (.p (.bool (true))) rfl (by simp[go_sem,zf,leA,leT]) ⟨rfl,by simp⟩
  ·simp (maxSteps:=1000000) [go_sem]
   exact zg (.p (.bool (true))) rfl (by simp[go_sem,zf,leA,leT]) ⟨rfl,by simp⟩
end Go.Proofs.YtjefahhmkcfiiaaGreat
end
