/- A part of the proof of this seat's statements, by an abstract machine: what each operation does to values, and what the law's functions compute. Conditions: as each law says. -/
import Derived.Test.YtjefahhmkcfiiaaGreatM31
import Derived.Test.YtjefahhmkcfiiaaGreatM21
section
namespace Go.Proofs.YtjefahhmkcfiiaaGreat
open Go.AM
set_option maxHeartbeats 4000000
set_option maxRecDepth 10000
theorem symR_cr [Gi] {t:Tells4} {c b j f p:PV}(h:TabV t c b j f p)(hz:ZeroT t)(ck cx sk sx:List PV)(P A S:List Int)(x:Int)(o n a m e:Nat)(hP:P.length=o+a)(hA:a+A.length=m)(hA2:2≤A.length)(hme:e=m+1)(hen:e≤n)
  (hS:o+n≤(P++(A++([x]++S))).length) (hn:(P++(A++([x]++S))).length<2^40) (hr:∀y∈A, -2147483648≤y∧y<2147483648) (hx: -2147483648≤x∧x<2147483648) (hs:SortK (keyT t) A):
  CR Tryz.prog 236 [[0],[1]] [.la [0] 1 o n,.p (.int .i64 a),.p (.int .i64 m),.p (.int .i64 e),cmpA] [([0],cellsR (P++(A++([x]++S)))),([1],[.p (tabP c b j f p ck cx sk sx)])]
   (fun r rs=>∃L',Stab (keyT t) (A++[x]) L'∧r=.tup []∧rs=[([0],cellsR (P++(L'++S))),([1],[.p (tabP c b j f p ck cx sk sx)])]):=by
 refine CR_of_wpD [200011,200023] mixed 25 [] Tryz.func236 rfl (by kernel_rfl) rfl (by simp) (by simp) ?_
 have hl:(P++(A++([x]++S))).length=P.length+A.length+1+S.length:=by simp;omega
 rw[hl]at hS hn
 have w1:IntKind.i64.wrap ((m:Int)-a)=(A.length:Int):=by rw[wrap64 (by omega) (by omega)];omega
 have w1':¬((A.length:Int)=1):=by omega
 have w2:IntKind.i64.wrap ((e:Int)-m)=1:=by rw[wrap64 (by omega) (by omega)];omega
 simp (maxSteps:=1000000) [go_sem,Tryz.f236,cmpA,w1,w1',w2]
 refine wpA_loopU (fun r:Nat×Nat=>r.1≤r.2∧r.2≤A.length∧(∀y∈A.take r.1,keyT t y≤keyT t x)∧∀y∈A.drop r.2,keyT t x<keyT t y) (fun r=>[(14,.p (.int .i64 ((a+r.1:Nat):Int))),(15,.p (.int .i64 ((a+r.2:Nat):Int)))]) (fun _=>[]) (fun r=>r.2-r.1) (0,A.length)
  ⟨by simp,by simp,by simp,by simp⟩ (by simp[go_sem,LeS,leV,leR,leA,leL,leL_refl,cmpA];omega) (fun r hr'=>?_)
 obtain⟨i,k⟩:=r
 obtain⟨q1,q2,q3,q4⟩:=hr'
 simp only at q1 q2 q3 q4
 simp (maxSteps:=1000000) [go_sem]
 refine condK_if (fun h1=>?_) (fun h1=>?_)
 ·obtain⟨s,hs'⟩:∃s,s=(a+i)+(a+k):=⟨_,rfl⟩
  obtain⟨g,hg⟩:∃g,g=s/2:=⟨_,rfl⟩
  have v1:IntKind.i64.wrap ((a:Int)+i+(a+k))=(s:Int):=by rw[wrap64 (by omega) (by omega)];omega
  have v2:IntKind.u64.wrap (s:Int)=(s:Int):=wrapu64 (by omega) (by omega)
  have v3:(s:Int).fdiv 2=(g:Int):=by rw[Int.fdiv_eq_ediv_of_nonneg _ (by omega)];omega
  have v4:IntKind.i64.wrap (g:Int)=(g:Int):=wrap64 (by omega) (by omega)
  have v5:IntKind.i64.wrap ((g:Int)+1)=((g+1:Nat):Int):=by rw[wrap64 (by omega) (by omega)];rfl
  have v6:IntKind.u64.wrap (g:Int)=(g:Int):=wrapu64 (by omega) (by omega)
  have gx:=cells_at (at_right (R:=S) (A:=A) (B:=[x]) (c:=m) hP hA (Nat.le_refl _) (by simp))
  have gq:=cells_at (at_left (R:=[x]++S) (A:=A) (c:=g) hP (by omega) (by omega))
  obtain⟨y,hy⟩:∃y,y=A[g-a]'(by omega):=⟨_,rfl⟩
  have hyr: -2147483648≤y∧y<2147483648:=hr y (by rw[hy];exact List.getElem_mem _)
  rw[←hy]at gq
  have gx':(cellsR (P++(A++(x::S))))[o+m]?=some (.p (.int .i32 x)):=by simpa using gx
  have gq':(cellsR (P++(A++(x::S))))[o+g]?=some (.p (.int .i32 y)):=by simpa using gq
  have hgn:g<n:=by omega
  have han:m<n:=by omega
  simp (maxSteps:=1000000) [go_sem,v1,v2,v3,v4,v6,gx',gq',hgn,han]
  refine⟨⟨rfl,by simp[Tryz.f211]⟩,CallC_of [([0],[1])] (order_cr h hz ck cx sk sx x y hx hyr) (by simp[go_sem,notHead]) ⟨by simp[go_sem],by simp[go_sem]⟩ (by simp[go_sem]) ?_⟩
  rintro _ _ ⟨rfl,rfl⟩
  simp (maxSteps:=1000000) [go_sem]
  refine condK_ifn (fun hc=>?_) (fun hc=>?_)
  ·have hge:keyT t y≤keyT t x:=by
    have:=mt cmpI_neg.2 hc
    show t.cls (rn y)≤t.cls (rn x);omega
   have e5:(a:Int)+((g+1-a:Nat):Int)=(g:Int)+1:=by omega
   simp (maxSteps:=1000000) [go_sem,v5]
   refine LoopK_next (g+1-a,k) ⟨by show g+1-a≤k;omega,q2,fun z hz'=>?_,q4⟩ (by simp[go_sem,LeS,leV,leR,leA,leL,leL_refl,cmpA,e5]) (by show k- (g+1-a)<k-i;omega)
   have e6:g+1-a=g-a+1:=by omega
   simp only[e6]at hz'
   have:=take_le' hs (show g-a<A.length by omega) z hz'
   rw[←hy]at this
   omega
  ·have hlt:keyT t x<keyT t y:=cmpI_neg.1 hc
   have e5:(a:Int)+((g-a:Nat):Int)=(g:Int):=by omega
   simp (maxSteps:=1000000) [go_sem]
   refine LoopK_next (i,g-a) ⟨by show i≤g-a;omega,by show g-a≤A.length;omega,q3,fun z hz'=>?_⟩ (by simp[go_sem,LeS,leV,leR,leA,leL,leL_refl,cmpA,e5]) (by show g-a-i<k-i;omega)
   have:=drop_ge' hs (show g-a<A.length by omega) z hz'
   rw[←hy]at this
   omega
 ·obtain rfl:i=k:=by omega
  obtain⟨A1,hA1⟩:∃l,l=A.take i:=⟨_,rfl⟩
  obtain⟨A2,hA2'⟩:∃l,l=A.drop i:=⟨_,rfl⟩
  have hAA:A=A1++A2:=by rw[hA1,hA2',List.take_append_drop]
  have hl1:A1.length=i:=by rw[hA1];simp;omega
  rw[←hA1]at q3
  rw[←hA2']at q4
  clear hA1 hA2'
  subst hAA
  have hl2:(A1++A2).length=A1.length+A2.length:=by simp
  rw[hl2]at hA hS hn q2
  simp (maxSteps:=1000000) [go_sem]
  refine wpA_loopU (fun d:Nat=>d≤A2.length) (fun d=>[(17,.p (.int .i64 ((a+A1.length+d:Nat):Int)))]) (fun d=>[([0],cellsR (P++(A1++(A2.take d++(x::(A2.drop d++S))))))]) (fun d=>d) A2.length (by omega) (by simp[go_sem,LeS,leV,leR,leA,leL,leL_refl,cmpA];omega) (fun d hd=>?_)
  simp (maxSteps:=1000000) [go_sem]
  refine condK_if (fun h2=>?_) (fun h2=>?_)
  ·obtain⟨d,rfl⟩:∃d',d=d'+1:=⟨d-1,by omega⟩
   have hdl:d<A2.length:=by omega
   obtain⟨y,hy⟩:∃y,A2[d]=y:=⟨_,rfl⟩
   have hdr:A2.drop d=y::A2.drop (d+1):=by rw[←hy];exact List.drop_eq_getElem_cons hdl
   have htk:A2.take (d+1)=A2.take d++[y]:=by rw[List.take_add_one,List.getElem?_eq_getElem hdl,hy];rfl
   have htl:(A2.take d).length=d:=by simp;omega
   rw[htk]
   obtain⟨k,hk⟩:∃k,k=a+A1.length+d:=⟨_,rfl⟩
   have ek:(a:Int)+(A1.length:Int)+((d:Int)+1)=(k:Int)+1:=by omega
   simp only[Int.natCast_add,Int.natCast_one,ek]
   have v1:IntKind.i64.wrap ((k:Int)+1-1)=(k:Int):=by rw[wrap64 (by omega) (by omega)];omega
   have v2:IntKind.i64.wrap (k:Int)=(k:Int):=wrap64 (by omega) (by omega)
   obtain⟨X,hX⟩:∃X,X=P++(A1++A2.take d):=⟨_,rfl⟩
   have hXl:X.length=o+k:=by rw[hX];simp;omega
   obtain⟨Y,hY⟩:∃Y,Y=A2.drop (d+1)++S:=⟨_,rfl⟩
   have eM:P++(A1++(A2.take d++[y]++(x::(A2.drop (d+1)++S))))=X++y::x::Y:=by rw[hX,hY];simp
   have hfin:=swap_adj X Y y x
   rw[hXl]at hfin
   have eF:X++x::y::Y=P++(A1++(A2.take d++(x::(A2.drop d++S)))):=by rw[hX,hY,hdr];simp
   rw[eM]
   have hMl:(X++y::x::Y).length=P.length+(A1.length+A2.length)+1+S.length:=by rw[←eM];simp;omega
   have g0:(cellsR (X++y::x::Y))[o+k]?=some (.p (.int .i32 y)):=cells_at (by rw[List.getElem?_append_right (by omega),hXl];simp)
   have g1:(cellsR (X++y::x::Y))[o+(k+1)]?=some (.p (.int .i32 x)):=cells_at (at_second X Y y x (by omega))
   have px:=put_cellsR (M:=X++y::x::Y) (i:=o+(k+1)) y (by omega)
   have py:=put_cellsR (M:=(X++y::x::Y).set (o+(k+1)) y) (i:=o+k) x (by rw[List.length_set];omega)
   rw[show o+k+1=o+(k+1) by omega]at hfin
   rw[hfin,eF]at py
   generalize X++y::x::Y=M at px py g0 g1 hMl
   have hk1:k<n:=by omega
   have hk2:k+1<n:=by omega
   have hk3:(k:Int)+1<n:=by omega
   have hk4:(0:Int)≤(k:Int)+1:=by omega
   have hk5:((k:Int)+1).toNat=k+1:=by omega
   simp (maxSteps:=1000000) [go_sem]
   refine TreeK_of insT (by kernel_rfl) ?_
   simp (maxSteps:=1000000) [go_sem,insT,v1,v2,hk1,hk2,hk3,hk4,hk5,g0,g1,px,py,hMl]
   refine⟨by omega,by omega,LoopK_next d (by omega) (by simp[go_sem,LeS,leV,leR,leA,leL,leL_refl,cmpA,hk]) (by omega)⟩
  ·obtain rfl:d=0:=by omega
   simp (maxSteps:=1000000) [go_sem]
   exact ret_keep [[0],[1]] (.tup []) ⟨rfl,by simp⟩ (by simp[go_sem,resOf,leA,leT]) ⟨A1++(x::A2),by rw[←List.append_assoc];exact merge_right hs q3 q4,rfl,by simp[go_sem]⟩
end Go.Proofs.YtjefahhmkcfiiaaGreat
end
section
namespace Go.Proofs.YtjefahhmkcfiiaaGreat
open Go.AM
set_option maxHeartbeats 4000000
set_option maxRecDepth 10000
def SymOK [Gi](t:Tells4)(tab:PV)(N:Nat):Prop:=∀(P A B S:List Int) (o n a m e:Nat),P.length=o+a→a+A.length=m→m+B.length=e→0<A.length→0<B.length→e≤n→e-a≤N→
  o+n≤(P++(A++(B++S))).length→(P++(A++(B++S))).length<2^40→(∀y∈A, -2147483648≤y∧y<2147483648)→(∀y∈B, -2147483648≤y∧y<2147483648)→SortK (keyT t) A→SortK (keyT t) B→
  CR Tryz.prog 236 [[0],[1]] [.la [0] 1 o n,.p (.int .i64 a),.p (.int .i64 m),.p (.int .i64 e),cmpA] [([0],cellsR (P++(A++(B++S)))),([1],[.p tab])]
   (fun r rs=>∃L',Stab (keyT t) (A++B) L'∧r=.tup []∧rs=[([0],cellsR (P++(L'++S))),([1],[.p tab])])
structure SymJ(a m e mid z s0 r0:Nat):Prop where
 lo:a≤s0
 hi:z≤s0+e
 le:s0≤r0
 lm:r0≤m
 lmid:r0≤mid
 first:∀i,s0≤i→a<i→mid+m<i+e→s0<i
 last:∀i,i≤r0→i<m→i<mid→i<r0
theorem symJ_of {a m e mid z s0 r0:Nat}(h1:a<m)(h2:m<e)(h3:mid=(a+e)/2)(h4:z=mid+m)(hj:(mid<m∧s0=z-e∧r0=mid)∨(m≤mid∧s0=a∧r0=m)):SymJ a m e mid z s0 r0:=by
 rcases hj with ⟨j1,j2,j3⟩|⟨j1,j2,j3⟩
 ·exact⟨by omega,by omega,by omega,by omega,by omega,fun i _ _ _=>by omega,fun i _ _ _=>by omega⟩
 ·exact⟨by omega,by omega,by omega,by omega,by omega,fun i _ _ _=>by omega,fun i _ _ _=>by omega⟩
structure SymG(a m e mid z s0 r0 i k g g2:Nat):Prop where
 ig:i≤g
 gk:g<k
 ag:a≤g
 gm:g<m
 gmid:g<mid
 mg:m≤g2
 ge:g2<e
 eq:z-1=g2+g
 e1:mid-1-g=g2-m
 e2:mid- (g+1)=g2-m
theorem symG_of {a m e mid z s0 r0 i k:Nat}(hJ:SymJ a m e mid z s0 r0)(h1:s0≤i)(h2:i<k)(h3:k≤r0)(h4:z=mid+m):SymG a m e mid z s0 r0 i k ((i+k)/2) (z-1- (i+k)/2):=by
 obtain⟨a1,a2,a3,a4,a5,_,_⟩:=hJ
 exact⟨by omega,by omega,by omega,by omega,by omega,by omega,by omega,by omega,by omega,by omega⟩
theorem symC_of {a m e mid z s0 r0 i:Nat} {A B:List Int}(hJ:SymJ a m e mid z s0 r0)(h1:s0≤i)(h3:i≤r0)(h4:z=mid+m)(hA:a+A.length=m)(hB:m+B.length=e):
  i-a≤A.length∧mid-i≤B.length∧(0<i-a→mid-i<B.length→s0<i)∧(i-a<A.length→0<mid-i→i<r0)∧(0<i-a→i-1-a=i-a-1)∧(0<mid-i→mid-1-i=mid-i-1):=by
 obtain⟨a1,a2,a3,a4,a5,a6,a7⟩:=hJ
 exact⟨by omega,by omega,fun h5 h6=>a6 i h1 (by omega) (by omega),fun h5 h6=>a7 i h3 (by omega) (by omega),fun h=>by omega,fun h=>by omega⟩
theorem sym_cr [Gi] {t:Tells4} {c b j f p:PV}(h:TabV t c b j f p)(hz:ZeroT t)(ck cx sk sx:List PV):∀N,SymOK t (tabP c b j f p ck cx sk sx) N:=by
 intro N
 induction N with
 |zero=>intro P A B S o n a m e h1 h2 h3 h4 h5 h6 h7;omega
 |succ N ih=>
  intro P A B S o n a m e hP hA hB hA0 hB0 hen hN hS hn hrA hrB hsA hsB
  by_cases hA1:A.length=1
  ·obtain⟨x,rfl⟩:=List.length_eq_one_iff.1 hA1
   exact symL_cr h hz ck cx sk sx P B S x o n a m e hP (by simp at hA;omega) (by omega) (by omega) hen hS hn hrB (hrA x (by simp)) hsB
  by_cases hB1:B.length=1
  ·obtain⟨x,rfl⟩:=List.length_eq_one_iff.1 hB1
   exact symR_cr h hz ck cx sk sx P A S x o n a m e hP hA (by omega) (by simp at hB;omega) hen hS hn hrA (hrB x (by simp)) hsA
  refine CR_of_wpD [200011,200023] mixed 25 [] Tryz.func236 rfl (by kernel_rfl) rfl (by simp) (by simp) ?_
  have hl:(P++(A++(B++S))).length=P.length+A.length+B.length+S.length:=by simp;omega
  have hS0:=hS
  have hn0:=hn
  rw[hl]at hS hn
  have hb:o+n<2^41:=by omega
  have w1:IntKind.i64.wrap ((m:Int)-a)=(A.length:Int):=wrapN_sub (by omega) (by omega)
  have w1':¬((A.length:Int)=1):=by omega
  have w2:IntKind.i64.wrap ((e:Int)-m)=(B.length:Int):=wrapN_sub (by omega) (by omega)
  have w2':¬((B.length:Int)=1):=by omega
  obtain⟨mid,hmid⟩:∃g,g=(a+e)/2:=⟨_,rfl⟩
  obtain⟨z,hzz⟩:∃z,z=mid+m:=⟨_,rfl⟩
  have am:a<mid:=by omega
  have me:mid<e:=by omega
  have v1:IntKind.i64.wrap ((a:Int)+e)=((a+e:Nat):Int):=wrapN_add (by omega) rfl
  have v2:IntKind.u64.wrap ((a+e:Nat):Int)=((a+e:Nat):Int):=wrapuN (by omega)
  have v3:((a+e:Nat):Int).fdiv 2=(mid:Int):=half_fdiv hmid
  have v4:IntKind.i64.wrap (mid:Int)=(mid:Int):=wrapN (by omega)
  have v5:IntKind.u64.wrap (mid:Int)=(mid:Int):=wrapuN (by omega)
  have v6:IntKind.i64.wrap ((mid:Int)+m)=(z:Int):=wrapN_add (by omega) hzz
  have v8:IntKind.i64.wrap ((z:Int)-1)=((z-1:Nat):Int):=wrapN_pred (by omega) (by omega)
  have v7:mid<m→IntKind.i64.wrap ((z:Int)-e)=((z-e:Nat):Int):=fun _=>wrapN_sub (by omega) (by omega)
  have hJ:∀s0 r0,_→SymJ a m e mid z s0 r0:=fun s0 r0=>symJ_of (by omega) (by omega) hmid hzz
  clear hmid hS hn
  obtain⟨s,hs⟩:∃s,s=a+e:=⟨_,rfl⟩
  rw[←hs]at v1 v2 v3
  clear hs
  simp (maxSteps:=1000000) [go_sem,Tryz.f236,cmpA,w1,w1',w2,w2',v1,v2,v3,v4,v5,v6]
  refine condK_joinU (fun r:Nat×Nat=>(mid<m∧r.1=z-e∧r.2=mid)∨(m≤mid∧r.1=a∧r.2=m)) (fun r=>[(20,.p (.int .i64 (r.1:Nat))),(21,.p (.int .i64 (r.2:Nat)))]) (fun _=>[]) (condK_if (fun hu=>?_) (fun hu=>?_)) ?_
  ·have hu':mid<m:=by omega
   simp (maxSteps:=1000000) [go_sem,v7 hu']
   exact JoinU_in (z-e,mid) (.inl ⟨hu',rfl,rfl⟩) (by simp[go_sem])
  ·have hu':m≤mid:=by omega
   simp (maxSteps:=1000000) [go_sem]
   exact JoinU_in (a,m) (.inr ⟨hu',rfl,rfl⟩) (by simp[go_sem])
  rintro⟨s0,r0⟩ ts hj
  have hJ:=hJ s0 r0 hj
  clear hj
  have hmz:((mid:Nat):Int)+((m:Nat):Int)=(z:Int):=by omega
  simp (maxSteps:=1000000) [go_sem,v6,v8,hmz]
  refine wpA_loopU (fun r:Nat×Nat=>s0≤r.1∧r.1≤r.2∧r.2≤r0∧(s0<r.1→keyT t (A[r.1-1-a]?.getD 0)≤keyT t (B[mid-r.1]?.getD 0))∧(r.2<r0→keyT t (B[mid-1-r.2]?.getD 0)<keyT t (A[r.2-a]?.getD 0)))
   (fun r=>[(20,.p (.int .i64 (r.1:Nat))),(21,.p (.int .i64 (r.2:Nat)))]) (fun _=>[]) (fun r=>r.2-r.1) (s0,r0) ⟨Nat.le_refl _,hJ.le,Nat.le_refl _,fun h=>absurd h (Nat.lt_irrefl _),fun h=>absurd h (Nat.lt_irrefl _)⟩ (by simp[go_sem,LeS,leV,leR,leA,leL,leL_refl,cmpA]) (fun r hr'=>?_)
  obtain⟨i,k⟩:=r
  obtain⟨q1,q2,q3,q4,q5⟩:=hr'
  simp only at q1 q2 q3 q4 q5
  simp (maxSteps:=1000000) [go_sem]
  refine condK_if (fun h1=>?_) (fun h1=>?_)
  ·have hik:i<k:=by omega
   have hG:=symG_of hJ q1 hik q3 hzz
   have hr0:=hJ.lmid
   obtain⟨g,hg⟩:∃g,g=(i+k)/2:=⟨_,rfl⟩
   rw[←hg]at hG
   obtain⟨g2,hg2⟩:∃g2,g2=z-1-g:=⟨_,rfl⟩
   rw[←hg2]at hG
   have u3:((i+k:Nat):Int).fdiv 2=(g:Int):=half_fdiv hg
   clear hg hg2
   obtain⟨g1,g2',g3,g4,g5,g6,g7,g8,g9,g10⟩:=hG
   have u1:IntKind.i64.wrap ((i:Int)+k)=((i+k:Nat):Int):=wrapN_add (by omega) rfl
   have u2:IntKind.u64.wrap ((i+k:Nat):Int)=((i+k:Nat):Int):=wrapuN (by omega)
   have u4:IntKind.i64.wrap (g:Int)=(g:Int):=wrapN (by omega)
   have u5:IntKind.i64.wrap ((g:Int)+1)=((g+1:Nat):Int):=wrapN_one (by omega)
   have u6:IntKind.u64.wrap (g:Int)=(g:Int):=wrapuN (by omega)
   have u7:IntKind.i64.wrap (((z-1:Nat):Int)-g)=(g2:Int):=wrapN_sub (by omega) g8
   obtain⟨sm,hsm⟩:∃sm,sm=i+k:=⟨_,rfl⟩
   rw[←hsm]at u1 u2 u3
   clear hsm
   have hga:g-a<A.length:=by omega
   have hgb:g2-m<B.length:=by omega
   have gx:=cells_at (at_left (R:=B++S) (A:=A) (c:=g) hP g3 hga)
   have gy:=cells_at (at_right (R:=S) (A:=A) (B:=B) (c:=g2) hP hA g6 hgb)
   obtain⟨x,hx⟩:∃x,x=A[g-a]'hga:=⟨_,rfl⟩
   obtain⟨y,hy⟩:∃y,y=B[g2-m]'hgb:=⟨_,rfl⟩
   have hxr: -2147483648≤x∧x<2147483648:=hrA x (by rw[hx];exact List.getElem_mem _)
   have hyr: -2147483648≤y∧y<2147483648:=hrB y (by rw[hy];exact List.getElem_mem _)
   rw[←hx]at gx
   rw[←hy]at gy
   have hx':A[g-a]?.getD 0=x:=by rw[List.getElem?_eq_getElem hga,hx];rfl
   have hy':B[g2-m]?.getD 0=y:=by rw[List.getElem?_eq_getElem hgb,hy];rfl
   have hgn:g<n:=by omega
   have hg2n:g2<n:=by omega
   simp (maxSteps:=1000000) [go_sem,u1,u2,u3,u4,u6,u7,gx,gy,hgn,hg2n]
   refine⟨⟨rfl,by simp[Tryz.f211]⟩,CallC_of [([0],[1])] (order_cr h hz ck cx sk sx y x hyr hxr) (by simp[go_sem,notHead]) ⟨by simp[go_sem],by simp[go_sem]⟩ (by simp[go_sem]) ?_⟩
   rintro _ _ ⟨rfl,rfl⟩
   simp (maxSteps:=1000000) [go_sem]
   refine condK_ifn (fun hc=>?_) (fun hc=>?_)
   ·have hge:keyT t x≤keyT t y:=Int.not_lt.1 (mt cmpI_neg.2 hc)
    simp (maxSteps:=1000000) [go_sem,u5]
    refine LoopK_next (g+1,k) ⟨Nat.le_trans q1 (Nat.le_succ_of_le g1),g2',q3,fun _=>?_,q5⟩ (by simp[go_sem,LeS,leV,leR,leA,leL,leL_refl,cmpA]) (Nat.sub_lt_sub_left (Nat.lt_of_le_of_lt g1 g2') (Nat.lt_succ_of_le g1))
    show keyT t (A[g+1-1-a]?.getD 0)≤keyT t (B[mid- (g+1)]?.getD 0)
    rw[Nat.add_sub_cancel,g10,hx',hy']
    exact hge
   ·have hlt:keyT t y<keyT t x:=cmpI_neg.1 hc
    simp (maxSteps:=1000000) [go_sem]
    refine LoopK_next (i,g) ⟨q1,g1,Nat.le_trans (Nat.le_of_lt g2') q3,q4,fun _=>?_⟩ (by simp[go_sem,LeS,leV,leR,leA,leL,leL_refl,cmpA]) (by show g-i<k-i;omega)
    show keyT t (B[mid-1-g]?.getD 0)<keyT t (A[g-a]?.getD 0)
    rw[g9,hx',hy']
    exact hlt
  ·obtain rfl:i=k:=by omega
   obtain⟨c1,c2,c3,c4,c5,c6⟩:=symC_of hJ q1 q3 hzz hA hB
   have hcut:=sym_cut hsA hsB (s:=i-a) (e:=mid-i) c1 c2 (fun h1 h2=>by
    have h3:=q4 (c3 h1 h2)
    rw[c5 h1,List.getElem?_eq_getElem (by omega),List.getElem?_eq_getElem h2]at h3
    exact h3) (fun h1 h2=>by
    have h3:=q5 (c4 h1 h2)
    rw[c6 h2,List.getElem?_eq_getElem (by omega),List.getElem?_eq_getElem h1]at h3
    exact h3)
   obtain⟨A1,hA1'⟩:∃l,l=A.take (i-a):=⟨_,rfl⟩
   obtain⟨A2,hA2'⟩:∃l,l=A.drop (i-a):=⟨_,rfl⟩
   obtain⟨B1,hB1'⟩:∃l,l=B.take (mid-i):=⟨_,rfl⟩
   obtain⟨B2,hB2'⟩:∃l,l=B.drop (mid-i):=⟨_,rfl⟩
   have eA:A=A1++A2:=by rw[hA1',hA2',List.take_append_drop]
   have eB:B=B1++B2:=by rw[hB1',hB2',List.take_append_drop]
   obtain⟨en,hen'⟩:∃en,en=z-i:=⟨_,rfl⟩
   have b1:=Nat.le_trans hJ.lo q1
   have b2:=Nat.le_trans q3 hJ.lm
   have b3:=Nat.le_trans q3 hJ.lmid
   have lA1:a+A1.length=i:=by rw[hA1',List.length_take];omega
   have lA2:i+A2.length=m:=by rw[hA2',List.length_drop];omega
   have lB1:m+B1.length=en:=by rw[hB1',List.length_take];omega
   have lB2:en+B2.length=e:=by rw[hB2',List.length_drop];omega
   rw[←hA1',←hA2',←hB1',←hB2']at hcut
   clear hA1' hA2' hB1' hB2' q4 q5 c1 c2 c3 c4 c5 c6
   subst eA
   subst eB
   have eAB:i+B1.length=mid:=by omega
   have eBA:mid+A2.length=en:=by omega
   have u8:IntKind.i64.wrap ((z:Int)-i)=(en:Int):=wrapN_sub (by omega) (by omega)
   have sA1:SortK (keyT t) A1:=hsA.left
   have sA2:SortK (keyT t) A2:=hsA.right
   have sB1:SortK (keyT t) B1:=hsB.left
   have sB2:SortK (keyT t) B2:=hsB.right
   have rA1:∀y∈A1, -2147483648≤y∧y<2147483648:=fun y hy=>hrA y (by simp[hy])
   have rA2:∀y∈A2, -2147483648≤y∧y<2147483648:=fun y hy=>hrA y (by simp[hy])
   have rB1:∀y∈B1, -2147483648≤y∧y<2147483648:=fun y hy=>hrB y (by simp[hy])
   have rB2:∀y∈B2, -2147483648≤y∧y<2147483648:=fun y hy=>hrB y (by simp[hy])
   have hst:∀r1 r2,Stab (keyT t) (A1++B1) r1→Stab (keyT t) (A2++B2) r2→Stab (keyT t) (A1++A2++(B1++B2)) (r1++r2):=fun r1 r2 k1 k2=>sym_step hsA hsB hcut.1 hcut.2 k1 k2
   clear hcut hsA hsB hrA hrB
   have hT:(P++(A1++A2++(B1++B2++S))).length=P.length+(A1.length+A2.length)+(B1.length+B2.length)+S.length:=by simp;omega
   rw[hT]at hS0 hn0
   have iz:(z:Int)-i=(en:Int):=by omega
   simp (maxSteps:=1000000) [go_sem,u8]
   refine condK_joinU (fun _:Unit=>True) (fun _=>[]) (fun _=>[([0],cellsR (P++(A1++(B1++(A2++(B2++S))))))]) (condK_split (fun hu=>?_) (fun hu=>?_)) ?_
   ·have hu':i<m∧m<en:=by simpa using hu
    simp (maxSteps:=1000000) [go_sem]
    have hrot:=rotate_cr (P++A1) A2 B1 (B2++S) (tabP c b j f p ck cx sk sx) o n i m en (by simp;omega) (by omega) (by omega) hu'.1 hu'.2 (by omega) (by simp;omega) (by simp;omega)
    simp only[List.append_assoc]at hrot
    refine⟨⟨rfl,by simp[Tryz.f238]⟩,CallK_of [([0],[0]),([1],[1])] hrot (by simp[go_sem,notHead]) ⟨by simp[go_sem],by simp[go_sem,cmpA]⟩ (by simp[go_sem]) ?_⟩
    rintro _ _ ⟨rfl,rfl⟩
    simp (maxSteps:=1000000) [go_sem]
    exact JoinU_in () trivial (by simp[go_sem])
   ·have he:A2++(B1++(B2++S))=B1++(A2++(B2++S)):=by
     have:A2.length=0∨B1.length=0:=by
      have:¬(i<m∧m<en):=by simpa using hu
      omega
     rcases this with e|e
     ·rw[List.eq_nil_of_length_eq_zero e];rfl
     ·rw[List.eq_nil_of_length_eq_zero e];rfl
    simp (maxSteps:=1000000) [go_sem]
    exact JoinU_in () trivial (by simp[go_sem,he])
   rintro _ ts _
   simp (maxSteps:=1000000) [go_sem]
   refine condK_joinU (fun r:List Int=>Stab (keyT t) (A1++B1) r) (fun _=>[]) (fun r=>[([0],cellsR (P++(r++(A2++(B2++S)))))]) (condK_split (fun hu=>?_) (fun hu=>?_)) ?_
   ·have hu':a<i∧i<mid:=by simpa using hu
    simp (maxSteps:=1000000) [go_sem]
    refine⟨⟨rfl,by simp[Tryz.f236]⟩,CallK_of [([0],[0]),([1],[1])] (ih P A1 B1 (A2++(B2++S)) o n a i mid hP lA1 eAB (by omega) (by omega) (by omega) (by omega) (by simp;omega) (by simp;omega) rA1 rB1 sA1 sB1) (by simp[go_sem,notHead]) ⟨by simp[go_sem],by simp[go_sem,cmpA]⟩ (by simp[go_sem]) ?_⟩
    rintro _ _ ⟨r,hr,rfl,rfl⟩
    simp (maxSteps:=1000000) [go_sem]
    exact JoinU_in r hr (by simp[go_sem])
   ·have he:SortK (keyT t) (A1++B1):=by
     have:A1.length=0∨B1.length=0:=by
      have:¬(a<i∧i<mid):=by simpa using hu
      omega
     rcases this with e|e
     ·rw[List.eq_nil_of_length_eq_zero e];exact sB1
     ·rw[List.eq_nil_of_length_eq_zero e,List.append_nil];exact sA1
    simp (maxSteps:=1000000) [go_sem]
    exact JoinU_in (A1++B1) (Stab.refl he) (by simp[go_sem])
   rintro r1 ts1 hr1
   have lr1:r1.length=A1.length+B1.length:=by rw[hr1.2.perm.length_eq];simp
   simp (maxSteps:=1000000) [go_sem]
   refine condK_split (fun hu=>?_) (fun hu=>?_)
   ·have hu':mid<en∧en<e:=by simpa using hu
    simp (maxSteps:=1000000) [go_sem]
    have hc:=ih (P++r1) A2 B2 S o n mid en e (by simp;omega) eBA lB2 (by omega) (by omega) (by omega) (by omega) (by simp;omega) (by simp;omega) rA2 rB2 sA2 sB2
    simp only[List.append_assoc]at hc
    refine⟨⟨rfl,by simp[Tryz.f236]⟩,CallK_of [([0],[0]),([1],[1])] hc (by simp[go_sem,notHead]) ⟨by simp[go_sem],by simp[go_sem,cmpA]⟩ (by simp[go_sem]) ?_⟩
    rintro _ _ ⟨r,hr,rfl,rfl⟩
    simp (maxSteps:=1000000) [go_sem]
    exact ret_keep [[0],[1]] (.tup []) ⟨rfl,by simp⟩ (by simp[go_sem,resOf,leA,leT]) ⟨r1++r,by simpa using hst r1 r hr1 hr,rfl,by simp[go_sem]⟩
   ·have he:SortK (keyT t) (A2++B2):=by
     have:A2.length=0∨B2.length=0:=by
      have:¬(mid<en∧en<e):=by simpa using hu
      omega
     rcases this with e|e
     ·rw[List.eq_nil_of_length_eq_zero e];exact sB2
     ·rw[List.eq_nil_of_length_eq_zero e,List.append_nil];exact sA2
    simp (maxSteps:=1000000) [go_sem]
    exact ret_keep [[0],[1]] (.tup []) ⟨rfl,by simp⟩ (by simp[go_sem,resOf,leA,leT]) ⟨r1++(A2++B2),by simpa using hst r1 _ hr1 (Stab.refl he),rfl,by simp[go_sem]⟩
end Go.Proofs.YtjefahhmkcfiiaaGreat
end
section
namespace Go.Proofs.YtjefahhmkcfiiaaGreat
open Go.AM
set_option maxHeartbeats 4000000
set_option maxRecDepth 10000
def Runs(k:Int→Int)(z:Nat)(l:List Int):Prop:=∀j,SortK k ((l.drop (j*z)).take z)
theorem Runs.app {k:Int→Int} {z c:Nat} {E F:List Int}(hl:E.length=c*z)(hE:Runs k z E)(hF:Runs k z F):Runs k z (E++F):=fun j=>by
 rcases Nat.lt_or_ge j c with h|h
 ·have h1:(j+1)*z≤c*z:=Nat.mul_le_mul_right z h
  rw[Nat.add_mul,Nat.one_mul]at h1
  rw[List.drop_append_of_le_length (by omega),List.take_append_of_le_length (by rw[List.length_drop];omega)]
  exact hE j
 ·have e:(E++F).drop (j*z)=F.drop ((j-c)*z):=by
   rw[List.drop_append,List.drop_eq_nil_of_le (by rw[hl];exact Nat.mul_le_mul_right z h),hl,Nat.sub_mul];rfl
  rw[e];exact hF _
theorem Runs.one {k:Int→Int} {z:Nat} {l:List Int}(hl:l.length≤z)(h:SortK k l):Runs k z l:=fun j=>by
 cases j with
 |zero=>simp only[Nat.zero_mul,List.drop_zero];rw[List.take_of_length_le hl];exact h
 |succ j=>
  rw[List.drop_eq_nil_of_le (by rw[Nat.add_mul];omega)]
  simp[SortK]
theorem Runs.head {k:Int→Int} {z:Nat} {l:List Int}(h:Runs k z l):SortK k (l.take z):=by
 have:=h 0
 simpa using this
theorem Runs.drop {k:Int→Int} {z:Nat} {l:List Int}(h:Runs k z l):Runs k z (l.drop z):=fun j=>by
 have:=h (j+1)
 rw[List.drop_drop]
 rw[Nat.add_mul,Nat.one_mul]at this
 rwa[Nat.add_comm z]
theorem Runs.all {k:Int→Int} {z:Nat} {l:List Int}(h:Runs k z l)(hl:l.length≤z):SortK k l:=by
 have:=h.head
 rwa[List.take_of_length_le hl]at this
theorem Runs.nil(k:Int→Int)(z:Nat):Runs k z []:=fun j=>by simp[SortK]
theorem insertion0_cr [Gi](tab:PV)(M:List Int)(o n a:Nat)(ha:a<2^50):
  CR Tryz.prog 235 [[0],[1]] [.la [0] 1 o n,.p (.int .i64 a),.p (.int .i64 a),cmpA] [([0],cellsR M),([1],[.p tab])] (fun x rs=>x=.tup []∧rs=[([0],cellsR M),([1],[.p tab])]):=by
 refine CR_of_wpD [200006] mixed 10 [] Tryz.func235 rfl (by kernel_rfl) rfl (by simp) (by simp) ?_
 have w1:IntKind.i64.wrap ((a:Int)+1)=((a+1:Nat):Int):=wrapN_one (by omega)
 have h1:¬((a:Int)+1<a):=by omega
 simp (maxSteps:=1000000) [go_sem,Tryz.f235,cmpA,w1]
 refine wpA_loopU (fun _:Unit=>True) (fun _=>[]) (fun _=>[]) (fun _=>0) () trivial (by simp[go_sem,LeS,leV,leR,leA,leL,leL_refl]) (fun _ _=>?_)
 simp (maxSteps:=1000000) [go_sem,h1]
 exact ret_keep [[0],[1]] (.tup []) ⟨rfl,by simp⟩ (by simp[go_sem,resOf,leA,leT]) ⟨rfl,by simp[go_sem]⟩
theorem insertionE_cr [Gi] {t:Tells4} {c b j f p:PV}(h:TabV t c b j f p)(hz:ZeroT t)(ck cx sk sx:List PV)(P L R:List Int)(o n a:Nat)(hP:P.length=o+a)(ha:a+L.length≤n)(hS:o+n≤(P++(L++R)).length)(hn:(P++(L++R)).length<2^40)(hr:∀x∈L, -2147483648≤x∧x<2147483648):
  CR Tryz.prog 235 [[0],[1]] [.la [0] 1 o n,.p (.int .i64 a),.p (.int .i64 ((a+L.length:Nat):Int)),cmpA] [([0],cellsR (P++(L++R))),([1],[.p (tabP c b j f p ck cx sk sx)])]
   (fun x rs=>∃L',Stab (keyT t) L L'∧x=.tup []∧rs=[([0],cellsR (P++(L'++R))),([1],[.p (tabP c b j f p ck cx sk sx)])]):=by
 cases L with
 |nil=>
  intro w g vs h1 h2
  have hl:(P++([]++R)).length=P.length+R.length:=by simp
  refine(insertion0_cr (tabP c b j f p ck cx sk sx) (P++([]++R)) o n a (by omega) w g vs h1 h2).mono ?_
  rintro e w' ⟨v,x,rs',g',h3,⟨rfl,rfl⟩,h4⟩
  exact⟨v,_,_,g',h3,⟨[],Stab.refl (by simp[SortK]),rfl,rfl⟩,h4⟩
 |cons y l=>exact insertionS_cr h hz ck cx sk sx P (y::l) R o n a hP (by simp) ha hS hn hr
end Go.Proofs.YtjefahhmkcfiiaaGreat
end
