/- A part of the proof of this seat's statements, by an abstract machine: what each operation does to values, and what the law's functions compute. Conditions: as each law says. -/
import Derived.Test.YthbmelihnabkaaaGreatT27
section
namespace Go.Proofs.YthbmelihnabkaaaGreat
open Go.AM
set_option maxHeartbeats 4000000
set_option maxRecDepth 10000
theorem zla [Gi] {t:zQ} {c b j f p:PV}(h:Q8 t c b j f p)(hz:Qd t)(ck cx sk sx:List PV)(P A S:List Int)(x:Int)(o n a m e:Nat)(hP:P.length=o+a)(hA:a+A.length=m)(hA2:2≤A.length)(hme:e=m+1)(hen:e≤n)
  (hS:o+n≤(P++(A++([x]++S))).length) (hn:(P++(A++([x]++S))).length<2^40) (hr:∀y∈A, -2147483648≤y∧y<2147483648) (hx: -2147483648≤x∧x<2147483648) (hs:qk (zG t) A):
  CR Tryz.prog 216 [[0],[1]] [.la [0] 1 o n,.p (.int .i64 a),.p (.int .i64 m),.p (.int .i64 e),jr] [([0],zp (P++(A++([x]++S)))),([1],[.p (zF c b j f p ck cx sk sx)])]
   (fun r rs=>∃L',Qq (zG t) (A++[x]) L'∧r=.tup []∧rs=[([0],zp (P++(L'++S))),([1],[.p (zF c b j f p ck cx sk sx)])]):=by
 refine zP [200011,200023] mixed 25 [] Tryz.func216 rfl (by kernel_rfl) rfl (by simp) (by simp) ?_
 have hl:(P++(A++([x]++S))).length=P.length+A.length+1+S.length:=by simp;omega
 rw[hl]at hS hn
 have w1:IntKind.i64.wrap ((m:Int)-a)=(A.length:Int):=by rw[wrap64 (by omega) (by omega)];omega
 have w1':¬((A.length:Int)=1):=by omega
 have w2:IntKind.i64.wrap ((e:Int)-m)=1:=by rw[wrap64 (by omega) (by omega)];omega
 simp (maxSteps:=1000000) [go_sem,Tryz.f216,jr,w1,w1',w2]
 refine zl (fun r:Nat×Nat=>r.1≤r.2∧r.2≤A.length∧(∀y∈A.take r.1,zG t y≤zG t x)∧∀y∈A.drop r.2,zG t x<zG t y) (fun r=>[(14,.p (.int .i64 ((a+r.1:Nat):Int))),(15,.p (.int .i64 ((a+r.2:Nat):Int)))]) (fun _=>[]) (fun r=>r.2-r.1) (0,A.length)
  ⟨by simp,by simp,by simp,by simp⟩ (by simp[go_sem,LeS,leV,leR,leA,leL,zj];omega) (fun r hr'=>?_)
 obtain⟨i,k⟩:=r
 obtain⟨q1,q2,q3,q4⟩:=hr'
 simp only at q1 q2 q3 q4
 simp (maxSteps:=1000000) [go_sem]
 refine zr (fun h1=>?_) (fun h1=>?_)
 ·obtain⟨s,hs'⟩:∃s,s=(a+i)+(a+k):=⟨_,rfl⟩
  obtain⟨g,hg⟩:∃g,g=s/2:=⟨_,rfl⟩
  have v1:IntKind.i64.wrap ((a:Int)+i+(a+k))=(s:Int):=by rw[wrap64 (by omega) (by omega)];omega
  have v2:IntKind.u64.wrap (s:Int)=(s:Int):=Vn (by omega) (by omega)
  have v3:(s:Int).fdiv 2=(g:Int):=by rw[Int.fdiv_eq_ediv_of_nonneg _ (by omega)];omega
  have v4:IntKind.i64.wrap (g:Int)=(g:Int):=wrap64 (by omega) (by omega)
  have v5:IntKind.i64.wrap ((g:Int)+1)=((g+1:Nat):Int):=by rw[wrap64 (by omega) (by omega)];rfl
  have v6:IntKind.u64.wrap (g:Int)=(g:Int):=Vn (by omega) (by omega)
  have gx:=Zt (Yq (R:=S) (A:=A) (B:=[x]) (c:=m) hP hA (Nat.le_refl _) (by simp))
  have gq:=Zt (za7 (R:=[x]++S) (A:=A) (c:=g) hP (by omega) (by omega))
  obtain⟨y,hy⟩:∃y,y=A[g-a]'(by omega):=⟨_,rfl⟩
  have hyr: -2147483648≤y∧y<2147483648:=hr y (by rw[hy];exact List.getElem_mem _)
  rw[←hy]at gq
  have gx':(zp (P++(A++(x::S))))[o+m]?=some (.p (.int .i32 x)):=by simpa using gx
  have gq':(zp (P++(A++(x::S))))[o+g]?=some (.p (.int .i32 y)):=by simpa using gq
  have hgn:g<n:=by omega
  have han:m<n:=by omega
  simp (maxSteps:=1000000) [go_sem,v1,v2,v3,v4,gx',gq',hgn,han]
  refine⟨⟨rfl,by simp[Tryz.f190]⟩,WL [([0],[1])] (W6 h hz ck cx sk sx x y hx hyr) (by simp[go_sem,zw]) ⟨by simp[go_sem],by simp[go_sem]⟩ (by simp[go_sem]) ?_⟩
  rintro _ _ ⟨rfl,rfl⟩
  simp (maxSteps:=1000000) [go_sem]
  refine xJ (fun hc=>?_) (fun hc=>?_)
  ·have hge:zG t y≤zG t x:=by
    have:=mt xP.2 hc
    show t.cls (rn y)≤t.cls (rn x);omega
   have e5:(a:Int)+((g+1-a:Nat):Int)=(g:Int)+1:=by omega
   simp (maxSteps:=1000000) [go_sem,v5]
   refine zf (g+1-a,k) ⟨by show g+1-a≤k;omega,q2,fun z hz'=>?_,q4⟩ (by simp[go_sem,LeS,leV,leR,leA,leL,zj,e5]) (by show k- (g+1-a)<k-i;omega)
   have e6:g+1-a=g-a+1:=by omega
   simp only[e6]at hz'
   have:=zdf hs (show g-a<A.length by omega) z hz'
   rw[←hy]at this
   omega
  ·have hlt:zG t x<zG t y:=xP.1 hc
   have e5:(a:Int)+((g-a:Nat):Int)=(g:Int):=by omega
   simp (maxSteps:=1000000) [go_sem]
   refine zf (i,g-a) ⟨by show i≤g-a;omega,by show g-a≤A.length;omega,q3,fun z hz'=>?_⟩ (by simp[go_sem,LeS,leV,leR,leA,leL,zj,e5]) (by show g-a-i<k-i;omega)
   have:=zdz hs (show g-a<A.length by omega) z hz'
   rw[←hy]at this
   omega
 ·obtain rfl:i=k:=by omega
  obtain⟨A1,hA1⟩:∃l,l=A.take i:=⟨_,rfl⟩
  obtain⟨A2,hA2'⟩:∃l,l=A.drop i:=⟨_,rfl⟩
  have hAA:A=A1++A2:=by rw[hA1,hA2',List.take_append_drop]
  have hl1:A1.length=i:=by rw[hA1];simp;omega
  rw[←hA1]at q3
  rw[←hA2']at q4
  clear hA1 hA2'
  subst hAA
  have hl2:(A1++A2).length=A1.length+A2.length:=by simp
  rw[hl2]at hA hS hn q2
  simp (maxSteps:=1000000) [go_sem]
  refine zl (fun d:Nat=>d≤A2.length) (fun d=>[(17,.p (.int .i64 ((a+A1.length+d:Nat):Int)))]) (fun d=>[([0],zp (P++(A1++(A2.take d++(x::(A2.drop d++S))))))]) (fun d=>d) A2.length (by omega) (by simp[go_sem,LeS,leV,leR,leA,leL,zj];omega) (fun d hd=>?_)
  simp (maxSteps:=1000000) [go_sem]
  refine zr (fun h2=>?_) (fun h2=>?_)
  ·obtain⟨d,rfl⟩:∃d',d=d'+1:=⟨d-1,by omega⟩
   have hdl:d<A2.length:=by omega
   obtain⟨y,hy⟩:∃y,A2[d]=y:=⟨_,rfl⟩
   have hdr:A2.drop d=y::A2.drop (d+1):=by rw[←hy];exact List.drop_eq_getElem_cons hdl
   have htk:A2.take (d+1)=A2.take d++[y]:=by rw[List.take_add_one,List.getElem?_eq_getElem hdl,hy];rfl
   have htl:(A2.take d).length=d:=by simp;omega
   rw[htk]
   obtain⟨k,hk⟩:∃k,k=a+A1.length+d:=⟨_,rfl⟩
   have ek:(a:Int)+(A1.length:Int)+((d:Int)+1)=(k:Int)+1:=by omega
   simp only[Int.natCast_add,Int.natCast_one,ek]
   have v1:IntKind.i64.wrap ((k:Int)+1-1)=(k:Int):=by rw[wrap64 (by omega) (by omega)];omega
   have v2:IntKind.i64.wrap (k:Int)=(k:Int):=wrap64 (by omega) (by omega)
   obtain⟨X,hX⟩:∃X,X=P++(A1++A2.take d):=⟨_,rfl⟩
   have hXl:X.length=o+k:=by rw[hX];simp;omega
   obtain⟨Y,hY⟩:∃Y,Y=A2.drop (d+1)++S:=⟨_,rfl⟩
   have eM:P++(A1++(A2.take d++[y]++(x::(A2.drop (d+1)++S))))=X++y::x::Y:=by rw[hX,hY];simp
   have hfin:=WY X Y y x
   rw[hXl]at hfin
   have eF:X++x::y::Y=P++(A1++(A2.take d++(x::(A2.drop d++S)))):=by rw[hX,hY,hdr];simp
   rw[eM]
   have hMl:(X++y::x::Y).length=P.length+(A1.length+A2.length)+1+S.length:=by rw[←eM];simp;omega
   have g0:(zp (X++y::x::Y))[o+k]?=some (.p (.int .i32 y)):=Zt (by rw[List.getElem?_append_right (by omega),hXl];simp)
   have g1:(zp (X++y::x::Y))[o+(k+1)]?=some (.p (.int .i32 x)):=Zt (Y3 X Y y x (by omega))
   have px:=Zj (M:=X++y::x::Y) (i:=o+(k+1)) y (by omega)
   have py:=Zj (M:=(X++y::x::Y).set (o+(k+1)) y) (i:=o+k) x (by rw[List.length_set];omega)
   rw[show o+k+1=o+(k+1) by omega]at hfin
   rw[hfin,eF]at py
   generalize X++y::x::Y=M at px py g0 g1 hMl
   have hk1:k<n:=by omega
   have hk2:k+1<n:=by omega
   have hk3:(k:Int)+1<n:=by omega
   have hk4:(0:Int)≤(k:Int)+1:=by omega
   have hk5:((k:Int)+1).toNat=k+1:=by omega
   simp (maxSteps:=1000000) [go_sem]
   refine Zc zgu (by kernel_rfl) ?_
   simp (maxSteps:=1000000) [go_sem,zgu,v2,hk1,hk3,hk4,hk5,g0,g1,px,py,hMl]
   refine⟨by omega,by omega,zf d (by omega) (by simp[go_sem,LeS,leV,leR,leA,leL,zj,hk]) (by omega)⟩
  ·obtain rfl:d=0:=by omega
   simp (maxSteps:=1000000) [go_sem]
   exact zi [[0],[1]] (.tup []) ⟨rfl,by simp⟩ (by simp[go_sem,zd,leT]) ⟨A1++(x::A2),by rw[←List.append_assoc];exact merge_right hs q3 q4,rfl,by simp[go_sem]⟩
end Go.Proofs.YthbmelihnabkaaaGreat
end
