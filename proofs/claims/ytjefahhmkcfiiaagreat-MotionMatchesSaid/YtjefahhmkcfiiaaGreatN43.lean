/- A part of the proof of this seat's statements, by an abstract machine: what each operation does to values, and what the law's functions compute. Conditions: as each law says. -/
import Derived.Test.YtjefahhmkcfiiaaGreatN39
import Derived.Test.YtjefahhmkcfiiaaGreatN42
section
namespace Go.Proofs.YtjefahhmkcfiiaaGreat
open Go.AM
set_option maxHeartbeats 4000000
set_option maxRecDepth 10000
theorem zir [Gi](L:List (List Int))(a:Int):CR Tryz.prog 78 [] [.p (zF L a)] [] (is (.p (.int .i64 (j9 L a:Nat)))):=by
 refine zm mixed 3 [] Tryz.func78 rfl (by kernel_rfl) rfl (by simp) (by simp) ?_
 rw[zcK]
 by_cases c1:a<0
 ·have e:max (min a (L.length:Int)) 0=0:=by omega
  rw[e]
  simp (maxSteps:=1000000) [go_sem,Tryz.f78,zF,zr,c1]
  exact zg (.p (.int .i64 0)) rfl (by simp[go_sem,zf,leA,leT]) ⟨rfl,rfl⟩
 ·by_cases c2:(L.length:Int)<a
  ·have e:max (min a (L.length:Int)) 0=L.length:=by omega
   rw[e]
   simp (maxSteps:=1000000) [go_sem,Tryz.f78,zF,zr,zo,c1,c2]
   exact zg (.p (.int .i64 L.length)) rfl (by simp[go_sem,zf,leA,leT]) ⟨rfl,rfl⟩
  ·have e:max (min a (L.length:Int)) 0=a:=by omega
   rw[e]
   simp (maxSteps:=1000000) [go_sem,Tryz.f78,zF,zr,zo,c1,c2]
   exact zg (.p (.int .i64 a)) rfl (by simp[go_sem,zf,leA,leT]) ⟨rfl,rfl⟩
def goL(L:List (List Int))(a n:Int):Int:=max (min ((j9 L a:Int)+n) L.length) 0
theorem zli [Gi](L:List (List Int))(a n:Int)(hL:L.length<2^31):CR Tryz.prog 28 [] [.p (zF L a),.p (.int .i64 n)] [] (is (.p (zF L (goL L a n)))):=by
 refine zm mixed 6 [] Tryz.func28 rfl (by kernel_rfl) rfl (by simp) (by simp) ?_
 have h1:=uQ L a
 have hat:=UD L a a
 unfold goL
 generalize j9 L a=k at h1 hat
 have w1:IntKind.i64.wrap (-(k:Int))= -(k:Int):=wrap64 (by omega) (by omega)
 have w2:IntKind.i64.wrap ((L.length:Int)-k)=(L.length:Int)-k:=wrap64 (by omega) (by omega)
 have w3:IntKind.i64.wrap ((k:Int)+min (max n (-(k:Int))) ((L.length:Int)-k))=max (min ((k:Int)+n) L.length) 0:=by rw[wrap64 (by omega) (by omega)];omega
 simp (maxSteps:=1000000) [go_sem,Tryz.f28,zF,zr]
 refine⟨rfl,⟨rfl,by simp[Tryz.f77]⟩,zb [] hat (by simp[go_sem]) ⟨by simp[go_sem],by simp[go_sem,zF,zr]⟩ (by simp[go_sem]) ?_⟩
 rintro _ rs ⟨rfl,rfl⟩
 simp (maxSteps:=1000000) [go_sem,zo,w1,w2,w3]
 exact zg (.p (zF L (max (min ((k:Int)+n) L.length) 0))) rfl (by simp[go_sem,zf,leA,leT,zF,zr]) ⟨rfl,rfl⟩
theorem zmE [Gi](L:List (List Int))(a n:Int)(hL:L.length<2^31)(hn: -1000≤n∧n≤1000):CR Tryz.prog 29 [] [.p (zF L a),.p (.int .i64 n)] [] (is (.p (.int .i64 (goL L a n)))):=by
 refine zm mixed 6 [] Tryz.func29 rfl (by kernel_rfl) rfl (by simp) (by simp) ?_
 have h1:=uQ L a
 have hat:=zir L a
 unfold goL
 generalize j9 L a=k at h1 hat
 obtain⟨G,hG⟩:∃G,G=max (min ((k:Int)+n) L.length) 0:=⟨_,rfl⟩
 rw[←hG]
 simp (maxSteps:=1000000) [go_sem,Tryz.f29,zF,zr]
 refine⟨⟨rfl,by simp[Tryz.f78]⟩,zb [] hat (by simp[go_sem]) ⟨by simp[go_sem],by simp[go_sem,zF,zr]⟩ (by simp[go_sem]) ?_⟩
 rintro _ rs ⟨rfl,rfl⟩
 simp (maxSteps:=1000000) [go_sem]
 refine zi (fun r:Nat×Int=>r.1≤L.length∧ -1000≤r.2∧r.2≤1000∧G=max (min ((r.1:Int)+r.2) L.length) 0) (fun r=>[(1,.p (.int .i64 r.2)),(5,.p (.int .i64 (r.1:Nat)))]) (fun _=>[]) (fun r=>L.length-r.1) (k,n) ⟨h1,hn.1,hn.2,hG⟩ (by simp[go_sem,LeS,leV,leR,leA,leL]) (fun r hr=>?_)
 obtain⟨p,m⟩:=r
 obtain⟨p1,p2,p3,p4⟩:=hr
 simp only at p1 p2 p3 p4
 by_cases c:0<m∧p<L.length
 ·have c1:0<m:=c.1
  have c2:(p:Int)<L.length:=by omega
  have w1:IntKind.i64.wrap ((p:Int)+1)=((p+1:Nat):Int):=zP (by omega)
  have w2:IntKind.i64.wrap (m-1)=m-1:=wrap64 (by omega) (by omega)
  simp (maxSteps:=1000000) [go_sem,zo,c1,c2,w1,w2]
  exact zc (p+1,m-1) ⟨by show p+1≤L.length;omega,by show -1000≤m-1;omega,by show m-1≤1000;omega,by show G=max (min (((p+1:Nat):Int)+(m-1)) L.length) 0;omega⟩ (by simp[go_sem,LeS,leV,leR,leA,leL]) (by show L.length- (p+1)<L.length-p;omega)
 ·have hx:m≤0∨p=L.length:=by omega
  have two:m≤0∨(0<m∧¬(p:Int)<L.length):=by omega
  rcases two with c1|⟨c1,c2⟩
  ·have c1':¬0<m:=by omega
   simp (maxSteps:=1000000) [go_sem,zo,c1']
   clear c1'
   refine zi (fun r:Nat×Int=>r.1≤L.length∧ -1000≤r.2∧r.2≤1000∧(r.2≤0∨r.1=L.length)∧G=max (min ((r.1:Int)+r.2) L.length) 0) (fun r=>[(1,.p (.int .i64 r.2)),(5,.p (.int .i64 (r.1:Nat)))]) (fun _=>[]) (fun r=>r.1) (p,m) ⟨p1,p2,p3,hx,p4⟩ (by simp[go_sem,LeS,leV,leR,leA,leL]) (fun r hr=>?_)
   clear p1 p2 p3 p4 hx c c1
   obtain⟨p,m⟩:=r
   obtain⟨p1,p2,p3,hx,p4⟩:=hr
   simp only at p1 p2 p3 hx p4
   by_cases d1:m<0
   ·by_cases d2:0<p
    ·have d2':(0:Int)<p:=by omega
     have w1:IntKind.i64.wrap ((p:Int)-1)=((p-1:Nat):Int):=qC (by omega) (by omega)
     have w2:IntKind.i64.wrap (m+1)=m+1:=wrap64 (by omega) (by omega)
     simp (maxSteps:=1000000) [go_sem,d1,d2,w1,w2]
     exact zc (p-1,m+1) ⟨by show p-1≤L.length;omega,by show -1000≤m+1;omega,by show m+1≤1000;omega,.inl (by show m+1≤0;omega),by show G=max (min (((p-1:Nat):Int)+(m+1)) L.length) 0;omega⟩ (by simp[go_sem,LeS,leV,leR,leA,leL]) (by show p-1<p;omega)
    ·have d2':¬(0:Int)<p:=by omega
     have e:G=p:=by omega
     rw[e]
     simp (maxSteps:=1000000) [go_sem,d1,d2]
     exact zg (.p (.int .i64 (p:Nat))) rfl (by simp[go_sem,zf,leA,leT]) ⟨rfl,rfl⟩
   ·have e:G=p:=by omega
    rw[e]
    simp (maxSteps:=1000000) [go_sem,d1]
    exact zg (.p (.int .i64 (p:Nat))) rfl (by simp[go_sem,zf,leA,leT]) ⟨rfl,rfl⟩
  ·simp (maxSteps:=1000000) [go_sem,zo,c1,c2]
   clear c2
   refine zi (fun r:Nat×Int=>r.1≤L.length∧ -1000≤r.2∧r.2≤1000∧(r.2≤0∨r.1=L.length)∧G=max (min ((r.1:Int)+r.2) L.length) 0) (fun r=>[(1,.p (.int .i64 r.2)),(5,.p (.int .i64 (r.1:Nat)))]) (fun _=>[]) (fun r=>r.1) (p,m) ⟨p1,p2,p3,hx,p4⟩ (by simp[go_sem,LeS,leV,leR,leA,leL]) (fun r hr=>?_)
   clear p1 p2 p3 p4 hx c c1
   obtain⟨p,m⟩:=r
   obtain⟨p1,p2,p3,hx,p4⟩:=hr
   simp only at p1 p2 p3 hx p4
   by_cases d1:m<0
   ·by_cases d2:0<p
    ·have d2':(0:Int)<p:=by omega
     have w1:IntKind.i64.wrap ((p:Int)-1)=((p-1:Nat):Int):=qC (by omega) (by omega)
     have w2:IntKind.i64.wrap (m+1)=m+1:=wrap64 (by omega) (by omega)
     simp (maxSteps:=1000000) [go_sem,d1,d2,w1,w2]
     exact zc (p-1,m+1) ⟨by show p-1≤L.length;omega,by show -1000≤m+1;omega,by show m+1≤1000;omega,.inl (by show m+1≤0;omega),by show G=max (min (((p-1:Nat):Int)+(m+1)) L.length) 0;omega⟩ (by simp[go_sem,LeS,leV,leR,leA,leL]) (by show p-1<p;omega)
    ·have d2':¬(0:Int)<p:=by omega
     have e:G=p:=by omega
     rw[e]
     simp (maxSteps:=1000000) [go_sem,d1,d2]
     exact zg (.p (.int .i64 (p:Nat))) rfl (by simp[go_sem,zf,leA,leT]) ⟨rfl,rfl⟩
   ·have e:G=p:=by omega
    rw[e]
    simp (maxSteps:=1000000) [go_sem,d1]
    exact zg (.p (.int .i64 (p:Nat))) rfl (by simp[go_sem,zf,leA,leT]) ⟨rfl,rfl⟩
end Go.Proofs.YtjefahhmkcfiiaaGreat
end
section
namespace Go.Proofs.YtjefahhmkcfiiaaGreat
open Go.AM
set_option maxHeartbeats 4000000
set_option maxRecDepth 100000
def zn5:Bool:=(yd 8).all fun w=>decide (w.a=1)
theorem zhZ:zn5=true:=by decide+kernel
theorem atJ(i:Int):∀(l init:List Span) (o:Span),qY (o::l)→(atL (ud init o l) i).map (·.a)=(atL (init++o::l) i).map (·.a)
 | [],_,_,_=>rfl
 |s::l,init,o,h=>by
  obtain⟨h1,h2,h3,h4,h5⟩:=h
  unfold ud
  by_cases c:o.t+1=s.f∧o.a=s.a∧o.b=s.b
  ·rw[if_pos c,atJ i l init {o with t:=s.t} ⟨show o.f≤s.t by omega,h4,h5⟩]
   unfold atL
   rw[List.find?_append,List.find?_append]
   cases init.find? (fun s=>decide (s.f≤i∧i≤s.t))with
   |some x=>rfl
   |none=>
    simp only[Option.none_or,List.find?_cons]
    by_cases q1:o.f≤i∧i≤o.t
    ·have e1:decide (o.f≤i∧i≤s.t)=true:=decide_eq_true ⟨q1.1,by omega⟩
     have e2:decide (o.f≤i∧i≤o.t)=true:=decide_eq_true q1
     rw[e1,e2];rfl
    ·have e2:decide (o.f≤i∧i≤o.t)=false:=decide_eq_false q1
     rw[e2]
     by_cases q2:s.f≤i∧i≤s.t
     ·have e1:decide (o.f≤i∧i≤s.t)=true:=decide_eq_true ⟨by omega,q2.2⟩
      have e3:decide (s.f≤i∧i≤s.t)=true:=decide_eq_true q2
      rw[e1,e3]
      exact congrArg some c.2.1
     ·have e1:decide (o.f≤i∧i≤s.t)=false:=decide_eq_false (by omega)
      have e3:decide (s.f≤i∧i≤s.t)=false:=decide_eq_false q2
      rw[e1,e3]
  ·rw[if_neg c,atJ i l (init++[o]) s ⟨h3,h4,h5⟩]
   simp
theorem zci(l:List Span)(c:Int):qZ l c=decide ((atL l c).map (·.a)=some 1):=by
 unfold qZ
 cases atL l c with
 |none=>rfl
 |some s=>simp only[Option.map_some,Option.some.injEq];rfl
theorem zn2(c:Int)(l:List Span)(h:qY l):qZ (Z2 l) c=qZ l c:=by
 cases l with
 |nil=>rfl
 |cons s l=>
  rw[zci,zci]
  exact congrArg (fun x=>decide (x=some 1)) (atJ c l [] s h)
theorem zge(r:Int):(T0.flg (rn r)).l=decide (aL za 8 r=1):=by
 by_cases h:0≤r∧r≤1114111
 ·have e:(T0.flg (rn r)).l=qZ (qj za 8) r:=by
   rw[VN (by omega)];exact congrArg (qZ (qj za 8)) (Int.toNat_of_nonneg h.1)
  rw[e,VK _ _ _ h]
  unfold qj
  rw[zn2 _ _ (j5 zn6).rise]
  unfold qZ spA
  cases atL (zO za 8) r with
  |none=>rfl
  |some s=>simp only;rfl
 ·rw[wI (by omega),Yl _ _ _ h,je.f];rfl
attribute [local irreducible] za
theorem zgJ(r:Int):aL za 8 r=0∨aL za 8 r=1:=by
 by_cases h:aL za 8 r=0
 ·exact .inl h
 ·obtain⟨w,h1,_,_,h4⟩:=row_in h
  have f:=List.all_eq_true.1 zhZ w h1
  simp only[decide_eq_true_eq]at f
  exact .inr (by omega)
def qT(L:List (List Int))(i:Nat):Bool:=decide (aL za 8 (((L[i]?).getD [])[0]?.getD 0)=1)
structure Ye(L:List (List Int)):Prop where
 n:L.length<2^31
 r:∀c∈L,∃x c',c=x::c'∧zL x
theorem kH [Gi] {c b j f p:PV}(h:Qp T0 c b j f p)(ck cx sk sx:List PV)(L:List (List Int))(hL:Ye L)(a:Int)(i:Nat)(hi:i<L.length):
  CR Tryz.prog 79 [] [.p (zF L a),.p (zE c b j f p ck cx sk sx),.p (.int .i64 i)] [] (is (.p (.bool (qT L i)))):=by
 refine zm mixed 7 [] Tryz.func79 rfl (by kernel_rfl) rfl (by simp) (by simp) ?_
 have em:elemAt (zW L) i=zh L[i]:=by rw[zW,zq zh L i hi]
 obtain⟨x,c',e,hx⟩:=hL.r L[i] (List.getElem_mem hi)
 have eb:qT L i=(T0.flg (rn x)).l:=by
  unfold qT
  rw[List.getElem?_eq_getElem hi,zge]
  simp[e]
 rw[e]at em
 rw[eb]
 have em2:elemAt (zB (x::c')) 0=.int .i32 x:=rfl
 have hi':(i:Int)<L.length:=by omega
 simp (maxSteps:=1000000) [go_sem,Tryz.f79,zF,zr,zo,hi',em,zh,zp,em2]
 refine⟨⟨rfl,by simp[Tryz.f131]⟩,zb [] (Yg h ck cx sk sx je hx) (by simp[go_sem]) ⟨by simp[go_sem],by simp[go_sem,zE]⟩ (by simp[go_sem]) ?_⟩
 rintro _ rs ⟨rfl,rfl⟩
 simp (maxSteps:=1000000) [go_sem]
 exact zg (.p (.bool (T0.flg (rn x)).l)) rfl (by simp[go_sem,zf,leA,leT]) ⟨rfl,rfl⟩
def bkW(L:List (List Int))(q:Bool):Nat→Nat
 |0=>0
 |p+1=>if qT L p=q then bkW L q p else p+1
def fwW(L:List (List Int))(q:Bool):Nat→Nat→Nat
 |0,p=>p
 |n+1,p=>if qT L p=q then fwW L q n (p+1)else p
def yp(L:List (List Int))(a:Int)(back:Bool):Nat:=
 if back then bkW L true (bkW L false (j9 L a))
 else fwW L true (L.length-fwW L false (L.length-j9 L a) (j9 L a)) (fwW L false (L.length-j9 L a) (j9 L a))
end Go.Proofs.YtjefahhmkcfiiaaGreat
end
section
namespace Go.Proofs.YtjefahhmkcfiiaaGreat
open Go.AM
set_option maxHeartbeats 4000000
set_option maxRecDepth 10000
attribute [local irreducible] za
theorem xR(L:List (List Int))(q:Bool)(p:Nat):bkW L q (p+1)=if qT L p=q then bkW L q p else p+1:=rfl
theorem kU(L:List (List Int))(q:Bool)(n p:Nat):fwW L q (n+1) p=if qT L p=q then fwW L q n (p+1)else p:=rfl
theorem k9(L:List (List Int))(q:Bool)(p:Nat):fwW L q 0 p=p:=rfl
theorem zf3 [Gi] {c b j f p:PV}(h:Qp T0 c b j f p)(ck cx sk sx:List PV)(L:List (List Int))(hL:Ye L)(a:Int)(back:Bool):
  CR Tryz.prog 30 [] [.p (zF L a),.p (zE c b j f p ck cx sk sx),.p (.bool back)] [] (is (.p (zF L (yp L a back:Nat)))):=by
 refine zm mixed 7 [] Tryz.func30 rfl (by kernel_rfl) rfl (by simp) (by simp) ?_
 have hk:=uQ L a
 have hat:=UD L a a
 have hn:=hL.n
 unfold yp
 generalize j9 L a=k at hk hat
 simp (maxSteps:=1000000) [go_sem,Tryz.f30,zF,zr,zE]
 refine⟨rfl,⟨rfl,by simp[Tryz.f77]⟩,zb [] hat (by simp[go_sem]) ⟨by simp[go_sem],by simp[go_sem,zF,zr]⟩ (by simp[go_sem]) ?_⟩
 rintro _ rs ⟨rfl,rfl⟩
 cases back with
 |true=>
  simp (maxSteps:=1000000) [go_sem]
  refine zi (fun p:Nat=>p≤L.length∧bkW L false k=bkW L false p) (fun _=>[]) (fun p=>[([3],ky L (p:Nat))]) (fun p=>p) k ⟨by omega,rfl⟩ (by simp[go_sem,LeS,leV,leR,leA,leL,ky,zr]) (fun p hp=>?_)
  obtain⟨p1,p2⟩:=hp
  rcases p with _|j'
  ·have e:bkW L false k=0:=p2
   rw[e]
   simp (maxSteps:=1000000) [go_sem,ky,zr]
   clear p2
   refine zi (fun p:Nat=>p≤L.length∧bkW L true 0=bkW L true p) (fun _=>[]) (fun p=>[([3],ky L (p:Nat))]) (fun p=>p) 0 ⟨by omega,rfl⟩ (by simp[go_sem,LeS,leV,leR,leA,leL,ky,zr]) (fun p hp=>?_)
   obtain⟨p1,p2⟩:=hp
   rcases p with _|j'
   ·have e:bkW L true 0=0:=p2
    rw[e]
    simp (maxSteps:=1000000) [go_sem,ky,zr]
    exact zg (.p (zF L ((0:Nat):Int))) rfl (by simp[go_sem,zf,leA,leT,zF,zr]) ⟨rfl,rfl⟩
   ·have w1:IntKind.i64.wrap ((j':Nat):Int)=(j':Int):=wrap64 (by omega) (by omega)
    have w2:IntKind.i64.wrap (((j'+1:Nat):Int)-1)=((j':Nat):Int):=qC (by omega) (by omega)
    have g0:(0:Int)< ((j':Int)+1):=by omega
    have hlet:=kH h ck cx sk sx L hL ((j'+1:Nat):Int) j' (by omega)
    rw[xR L true j']at p2
    simp (maxSteps:=1000000) [go_sem,ky,zr,w1,g0]
    refine⟨⟨rfl,by simp[Tryz.f79]⟩,zb [] hlet (by simp[go_sem]) ⟨by simp[go_sem],by simp[go_sem,zF,zr,zE]⟩ (by simp[go_sem]) ?_⟩
    rintro _ rs ⟨rfl,rfl⟩
    by_cases hq:qT L j'=true
    ·rw[if_pos hq]at p2
     simp (maxSteps:=1000000) [go_sem,hq,w1]
     exact zc j' ⟨by omega,p2⟩ (by simp[go_sem,LeS,leV,leR,leA,leL]) (by omega)
    ·have hq':qT L j'=false:=by cases hb:qT L j'<;>simp_all
     rw[if_neg hq]at p2
     rw[p2]
     simp (maxSteps:=1000000) [go_sem,hq']
     exact zg (.p (zF L (((j'+1):Nat):Int))) rfl (by simp[go_sem,zf,leA,leT,zF,zr]) ⟨rfl,rfl⟩
  ·have w1:IntKind.i64.wrap ((j':Nat):Int)=(j':Int):=wrap64 (by omega) (by omega)
   have w2:IntKind.i64.wrap (((j'+1:Nat):Int)-1)=((j':Nat):Int):=qC (by omega) (by omega)
   have g0:(0:Int)< ((j':Int)+1):=by omega
   have hlet:=kH h ck cx sk sx L hL ((j'+1:Nat):Int) j' (by omega)
   rw[xR L false j']at p2
   simp (maxSteps:=1000000) [go_sem,ky,zr,w1,g0]
   refine⟨⟨rfl,by simp[Tryz.f79]⟩,zb [] hlet (by simp[go_sem]) ⟨by simp[go_sem],by simp[go_sem,zF,zr,zE]⟩ (by simp[go_sem]) ?_⟩
   rintro _ rs ⟨rfl,rfl⟩
   by_cases hq:qT L j'=false
   ·rw[if_pos hq]at p2
    simp (maxSteps:=1000000) [go_sem,hq,w1]
    exact zc j' ⟨by omega,p2⟩ (by simp[go_sem,LeS,leV,leR,leA,leL]) (by omega)
   ·have hq':qT L j'=true:=by cases hb:qT L j'<;>simp_all
    rw[if_neg hq]at p2
    rw[p2]
    simp (maxSteps:=1000000) [go_sem,hq']
    clear p2
    refine zi (fun p:Nat=>p≤L.length∧bkW L true (j'+1)=bkW L true p) (fun _=>[]) (fun p=>[([3],ky L (p:Nat))]) (fun p=>p) (j'+1) ⟨by omega,rfl⟩ (by simp[go_sem,LeS,leV,leR,leA,leL,ky,zr]) (fun p hp=>?_)
    obtain⟨p1,p2⟩:=hp
    rcases p with _|j'
    ·have e:bkW L true (j'+1)=0:=p2
     rw[e]
     simp (maxSteps:=1000000) [go_sem,ky,zr]
     exact zg (.p (zF L ((0:Nat):Int))) rfl (by simp[go_sem,zf,leA,leT,zF,zr]) ⟨rfl,rfl⟩
    ·have w1:IntKind.i64.wrap ((j':Nat):Int)=(j':Int):=wrap64 (by omega) (by omega)
     have w2:IntKind.i64.wrap (((j'+1:Nat):Int)-1)=((j':Nat):Int):=qC (by omega) (by omega)
     have g0:(0:Int)< ((j':Int)+1):=by omega
     have hlet:=kH h ck cx sk sx L hL ((j'+1:Nat):Int) j' (by omega)
     rw[xR L true j']at p2
     simp (maxSteps:=1000000) [go_sem,ky,zr,w1,g0]
     refine⟨⟨rfl,by simp[Tryz.f79]⟩,zb [] hlet (by simp[go_sem]) ⟨by simp[go_sem],by simp[go_sem,zF,zr,zE]⟩ (by simp[go_sem]) ?_⟩
     rintro _ rs ⟨rfl,rfl⟩
     by_cases hq:qT L j'=true
     ·rw[if_pos hq]at p2
      simp (maxSteps:=1000000) [go_sem,hq,w1]
      exact zc j' ⟨by omega,p2⟩ (by simp[go_sem,LeS,leV,leR,leA,leL]) (by omega)
     ·have hq':qT L j'=false:=by cases hb:qT L j'<;>simp_all
      rw[if_neg hq]at p2
      rw[p2]
      simp (maxSteps:=1000000) [go_sem,hq']
      exact zg (.p (zF L (((j'+1):Nat):Int))) rfl (by simp[go_sem,zf,leA,leT,zF,zr]) ⟨rfl,rfl⟩
 |false=>
  simp (maxSteps:=1000000) [go_sem]
  refine zi (fun p:Nat=>p≤L.length∧fwW L false (L.length-k) k=fwW L false (L.length-p) p) (fun _=>[]) (fun p=>[([3],ky L (p:Nat))]) (fun p=>L.length-p) k ⟨by omega,rfl⟩ (by simp[go_sem,LeS,leV,leR,leA,leL,ky,zr]) (fun p hp=>?_)
  obtain⟨p1,p2⟩:=hp
  by_cases hp:p<L.length
  ·have hp':(p:Int)<L.length:=by omega
   have w2:IntKind.i64.wrap ((p:Int)+1)=((p+1:Nat):Int):=zP (by omega)
   have hlet:=kH h ck cx sk sx L hL (p:Int) p hp
   have en:L.length-p=(L.length- (p+1))+1:=by omega
   rw[en,kU L false]at p2
   simp (maxSteps:=1000000) [go_sem,ky,zr,zo,hp']
   refine⟨⟨rfl,by simp[Tryz.f79]⟩,zb [] hlet (by simp[go_sem]) ⟨by simp[go_sem],by simp[go_sem,zF,zr,zE]⟩ (by simp[go_sem]) ?_⟩
   rintro _ rs ⟨rfl,rfl⟩
   by_cases hq:qT L p=false
   ·rw[if_pos hq]at p2
    simp (maxSteps:=1000000) [go_sem,hq,w2]
    exact zc (p+1) ⟨by omega,p2⟩ (by simp[go_sem,LeS,leV,leR,leA,leL]) (by omega)
   ·have hq':qT L p=true:=by cases hb:qT L p<;>simp_all
    rw[if_neg hq]at p2
    rw[p2]
    simp (maxSteps:=1000000) [go_sem,hq']
    obtain⟨v0,hv0⟩:∃v0,v0=p:=⟨_,rfl⟩
    subst hv0
    clear p2
    refine zi (fun p:Nat=>p≤L.length∧fwW L true (L.length-v0) v0=fwW L true (L.length-p) p) (fun _=>[]) (fun p=>[([3],ky L (p:Nat))]) (fun p=>L.length-p) v0 ⟨by omega,rfl⟩ (by simp[go_sem,LeS,leV,leR,leA,leL,ky,zr]) (fun p hp=>?_)
    obtain⟨p1,p2⟩:=hp
    by_cases hp:p<L.length
    ·have hp':(p:Int)<L.length:=by omega
     have w2:IntKind.i64.wrap ((p:Int)+1)=((p+1:Nat):Int):=zP (by omega)
     have hlet:=kH h ck cx sk sx L hL (p:Int) p hp
     have en:L.length-p=(L.length- (p+1))+1:=by omega
     rw[en,kU L true]at p2
     simp (maxSteps:=1000000) [go_sem,ky,zr,zo,hp']
     refine⟨⟨rfl,by simp[Tryz.f79]⟩,zb [] hlet (by simp[go_sem]) ⟨by simp[go_sem],by simp[go_sem,zF,zr,zE]⟩ (by simp[go_sem]) ?_⟩
     rintro _ rs ⟨rfl,rfl⟩
     by_cases hq:qT L p=true
     ·rw[if_pos hq]at p2
      simp (maxSteps:=1000000) [go_sem,hq,w2]
      exact zc (p+1) ⟨by omega,p2⟩ (by simp[go_sem,LeS,leV,leR,leA,leL]) (by omega)
     ·have hq':qT L p=false:=by cases hb:qT L p<;>simp_all
      rw[if_neg hq]at p2
      rw[p2]
      simp (maxSteps:=1000000) [go_sem,hq']
      exact zg (.p (zF L ((p:Nat):Int))) rfl (by simp[go_sem,zf,leA,leT,zF,zr]) ⟨rfl,rfl⟩
    ·have hp':¬(p:Int)<L.length:=by omega
     have en:L.length-p=0:=by omega
     rw[en,k9 L true p]at p2
     rw[p2]
     simp (maxSteps:=1000000) [go_sem,ky,zr,zo,hp']
     exact zg (.p (zF L ((p:Nat):Int))) rfl (by simp[go_sem,zf,leA,leT,zF,zr]) ⟨rfl,rfl⟩
  ·have hp':¬(p:Int)<L.length:=by omega
   have en:L.length-p=0:=by omega
   rw[en,k9 L false p]at p2
   rw[p2]
   simp (maxSteps:=1000000) [go_sem,ky,zr,zo,hp']
   obtain⟨v0,hv0⟩:∃v0,v0=p:=⟨_,rfl⟩
   subst hv0
   clear p2
   refine zi (fun p:Nat=>p≤L.length∧fwW L true (L.length-v0) v0=fwW L true (L.length-p) p) (fun _=>[]) (fun p=>[([3],ky L (p:Nat))]) (fun p=>L.length-p) v0 ⟨by omega,rfl⟩ (by simp[go_sem,LeS,leV,leR,leA,leL,ky,zr]) (fun p hp=>?_)
   obtain⟨p1,p2⟩:=hp
   by_cases hp:p<L.length
   ·have hp':(p:Int)<L.length:=by omega
    have w2:IntKind.i64.wrap ((p:Int)+1)=((p+1:Nat):Int):=zP (by omega)
    have hlet:=kH h ck cx sk sx L hL (p:Int) p hp
    have en:L.length-p=(L.length- (p+1))+1:=by omega
    rw[en,kU L true]at p2
    simp (maxSteps:=1000000) [go_sem,ky,zr,zo,hp']
    refine⟨⟨rfl,by simp[Tryz.f79]⟩,zb [] hlet (by simp[go_sem]) ⟨by simp[go_sem],by simp[go_sem,zF,zr,zE]⟩ (by simp[go_sem]) ?_⟩
    rintro _ rs ⟨rfl,rfl⟩
    by_cases hq:qT L p=true
    ·rw[if_pos hq]at p2
     simp (maxSteps:=1000000) [go_sem,hq,w2]
     exact zc (p+1) ⟨by omega,p2⟩ (by simp[go_sem,LeS,leV,leR,leA,leL]) (by omega)
    ·have hq':qT L p=false:=by cases hb:qT L p<;>simp_all
     rw[if_neg hq]at p2
     rw[p2]
     simp (maxSteps:=1000000) [go_sem,hq']
     exact zg (.p (zF L ((p:Nat):Int))) rfl (by simp[go_sem,zf,leA,leT,zF,zr]) ⟨rfl,rfl⟩
   ·have hp':¬(p:Int)<L.length:=by omega
    have en:L.length-p=0:=by omega
    rw[en,k9 L true p]at p2
    rw[p2]
    simp (maxSteps:=1000000) [go_sem,ky,zr,zo,hp']
    exact zg (.p (zF L ((p:Nat):Int))) rfl (by simp[go_sem,zf,leA,leT,zF,zr]) ⟨rfl,rfl⟩
end Go.Proofs.YtjefahhmkcfiiaaGreat
end
section
namespace Go.Proofs.YtjefahhmkcfiiaaGreat
open Go.AM
set_option maxHeartbeats 4000000
set_option maxRecDepth 10000
attribute [local irreducible] za
theorem zf5(rows:List Row):∀(n:Nat) (pre l:List Int),∀c∈qQ rows n pre l,∃x c',c=x::c'
 |0,_,_,c,h=>by simp[qQ]at h
 |_+1,_,[],c,h=>by simp[qQ]at h
 |n+1,pre,x::l,c,h=>by
  rw[qQ]at h
  rcases List.mem_cons.1 h with rfl|h
  ·exact⟨_,_,rfl⟩
  ·exact zf5 rows n _ _ c h
theorem wh(l:List Int)(hn:l.length<2^31)(hr:∀x∈l,zL x):Ye (qR za l)where
 n:=by have:=ju.num l;omega
 r c hc:=by
  obtain⟨x,c',rfl⟩:=zf5 za _ _ _ c hc
  refine⟨x,c',rfl,hr x ?_⟩
  have:x∈(qR za l).flatten:=List.mem_flatten.2 ⟨_,hc,by simp⟩
  rw[ju.flat]at this
  exact this
def zax(L:List (List Int))(back q:Bool)(p:Nat):Nat:=if back then bkW L q p else fwW L q (L.length-p) p
theorem zgA(L:List (List Int))(a:Int)(back:Bool):yp L a back=zax L back true (zax L back false (j9 L a)):=by
 cases back<;>rfl
theorem Uz {L:List (List Int)}(hL:Ye L) {i:Nat}(hi:i<L.length):∃x c',L[i]=x::c'∧zL x∧(aL za 8 x=0∧qT L i=false∨aL za 8 x=1∧qT L i=true):=by
 obtain⟨x,c',e,hx⟩:=hL.r L[i] (List.getElem_mem hi)
 refine⟨x,c',e,hx,?_⟩
 have eb:qT L i=decide (aL za 8 x=1):=by
  unfold qT
  rw[List.getElem?_eq_getElem hi]
  simp[e]
 rcases zgJ x with q|q
 ·exact .inl ⟨q,by rw[eb,q];decide⟩
 ·exact .inr ⟨q,by rw[eb,q];decide⟩
end Go.Proofs.YtjefahhmkcfiiaaGreat
end
