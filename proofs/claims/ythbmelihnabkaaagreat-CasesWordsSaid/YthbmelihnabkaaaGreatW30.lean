/- A part of the proof of this seat's statements, by an abstract machine: what each operation does to values, and what the law's functions compute. Conditions: as each law says. -/
import Derived.Test.YthbmelihnabkaaaGreatW29
import Derived.Test.YthbmelihnabkaaaGreatW17
section
namespace Go.Proofs.YthbmelihnabkaaaGreat
open Go.AM
set_option maxHeartbeats 4000000
set_option maxRecDepth 10000
def zoB [Gi](t:zR)(tab:PV)(N:Nat):Prop:=∀(P A B S:List Int) (o n a m e:Nat),P.length=o+a→a+A.length=m→m+B.length=e→0<A.length→0<B.length→e≤n→e-a≤N→
  o+n≤(P++(A++(B++S))).length→(P++(A++(B++S))).length<2^40→(∀y∈A, -2147483648≤y∧y<2147483648)→(∀y∈B, -2147483648≤y∧y<2147483648)→qm (zK t) A→qm (zK t) B→
  CR Tryz.prog 216 [[0],[1]] [.la [0] 1 o n,.p (.int .i64 a),.p (.int .i64 m),.p (.int .i64 e),jI] [([0],zo (P++(A++(B++S)))),([1],[.p tab])]
   (fun r rs=>∃L',QF (zK t) (A++B) L'∧r=.tup []∧rs=[([0],zo (P++(L'++S))),([1],[.p tab])])
structure zkF(a m e mid z s0 r0:Nat):Prop where
 lo:a≤s0
 hi:z≤s0+e
 le:s0≤r0
 lm:r0≤m
 lmid:r0≤mid
 first:∀i,s0≤i→a<i→mid+m<i+e→s0<i
 last:∀i,i≤r0→i<m→i<mid→i<r0
theorem zk2 {a m e mid z s0 r0:Nat}(h1:a<m)(h2:m<e)(h3:mid=(a+e)/2)(h4:z=mid+m)(hj:(mid<m∧s0=z-e∧r0=mid)∨(m≤mid∧s0=a∧r0=m)):zkF a m e mid z s0 r0:=by
 rcases hj with ⟨j1,j2,j3⟩|⟨j1,j2,j3⟩
 ·exact⟨by omega,by omega,by omega,by omega,by omega,fun i _ _ _=>by omega,fun i _ _ _=>by omega⟩
 ·exact⟨by omega,by omega,by omega,by omega,by omega,fun i _ _ _=>by omega,fun i _ _ _=>by omega⟩
structure zph(a m e mid z s0 r0 i k g g2:Nat):Prop where
 ig:i≤g
 gk:g<k
 ag:a≤g
 gm:g<m
 gmid:g<mid
 mg:m≤g2
 ge:g2<e
 eq:z-1=g2+g
 e1:mid-1-g=g2-m
 e2:mid- (g+1)=g2-m
theorem zkR {a m e mid z s0 r0 i k:Nat}(hJ:zkF a m e mid z s0 r0)(h1:s0≤i)(h2:i<k)(h3:k≤r0)(h4:z=mid+m):zph a m e mid z s0 r0 i k ((i+k)/2) (z-1- (i+k)/2):=by
 obtain⟨a1,a2,a3,a4,a5,_,_⟩:=hJ
 exact⟨by omega,by omega,by omega,by omega,by omega,by omega,by omega,by omega,by omega,by omega⟩
theorem zkK {a m e mid z s0 r0 i:Nat} {A B:List Int}(hJ:zkF a m e mid z s0 r0)(h1:s0≤i)(h3:i≤r0)(h4:z=mid+m)(hA:a+A.length=m)(hB:m+B.length=e):
  i-a≤A.length∧mid-i≤B.length∧(0<i-a→mid-i<B.length→s0<i)∧(i-a<A.length→0<mid-i→i<r0)∧(0<i-a→i-1-a=i-a-1)∧(0<mid-i→mid-1-i=mid-i-1):=by
 obtain⟨a1,a2,a3,a4,a5,a6,a7⟩:=hJ
 exact⟨by omega,by omega,fun h5 h6=>a6 i h1 (by omega) (by omega),fun h5 h6=>a7 i h3 (by omega) (by omega),fun h=>by omega,fun h=>by omega⟩
theorem zi5 [Gi] {t:zR} {c b j f p:PV}(h:jo t c b j f p)(hz:Qq t)(ck cx sk sx:List PV):∀N,zoB t (zF c b j f p ck cx sk sx) N:=by
 intro N
 induction N with
 |zero=>intro P A B S o n a m e h1 h2 h3 h4 h5 h6 h7;omega
 |succ N ih=>
  intro P A B S o n a m e hP hA hB hA0 hB0 hen hN hS hn hrA hrB hsA hsB
  by_cases hA1:A.length=1
  ·obtain⟨x,rfl⟩:=List.length_eq_one_iff.1 hA1
   exact zlA h hz ck cx sk sx P B S x o n a m e hP (by simp at hA;omega) (by omega) (by omega) hen hS hn hrB (hrA x (by simp)) hsB
  by_cases hB1:B.length=1
  ·obtain⟨x,rfl⟩:=List.length_eq_one_iff.1 hB1
   exact zkW h hz ck cx sk sx P A S x o n a m e hP hA (by omega) (by simp at hB;omega) hen hS hn hrA (hrB x (by simp)) hsA
  refine zS [200011,200023] mixed 25 [] Tryz.func216 rfl (by kernel_rfl) rfl (by simp) (by simp) ?_
  have hl:(P++(A++(B++S))).length=P.length+A.length+B.length+S.length:=by simp;omega
  have hS0:=hS
  have hn0:=hn
  rw[hl]at hS hn
  have hb:o+n<2^41:=by omega
  have w1:IntKind.i64.wrap ((m:Int)-a)=(A.length:Int):=yG (by omega) (by omega)
  have w1':¬((A.length:Int)=1):=by omega
  have w2:IntKind.i64.wrap ((e:Int)-m)=(B.length:Int):=yG (by omega) (by omega)
  have w2':¬((B.length:Int)=1):=by omega
  obtain⟨mid,hmid⟩:∃g,g=(a+e)/2:=⟨_,rfl⟩
  obtain⟨z,hzz⟩:∃z,z=mid+m:=⟨_,rfl⟩
  have am:a<mid:=by omega
  have me:mid<e:=by omega
  have v1:IntKind.i64.wrap ((a:Int)+e)=((a+e:Nat):Int):=yJ (by omega) rfl
  have v2:IntKind.u64.wrap ((a+e:Nat):Int)=((a+e:Nat):Int):=J4 (by omega)
  have v3:((a+e:Nat):Int).fdiv 2=(mid:Int):=Uq hmid
  have v4:IntKind.i64.wrap (mid:Int)=(mid:Int):=XV (by omega)
  have v5:IntKind.u64.wrap (mid:Int)=(mid:Int):=J4 (by omega)
  have v6:IntKind.i64.wrap ((mid:Int)+m)=(z:Int):=yJ (by omega) hzz
  have v8:IntKind.i64.wrap ((z:Int)-1)=((z-1:Nat):Int):=zq (by omega) (by omega)
  have v7:mid<m→IntKind.i64.wrap ((z:Int)-e)=((z-e:Nat):Int):=fun _=>yG (by omega) (by omega)
  have hJ:∀s0 r0,_→zkF a m e mid z s0 r0:=fun s0 r0=>zk2 (by omega) (by omega) hmid hzz
  clear hmid hS hn
  obtain⟨s,hs⟩:∃s,s=a+e:=⟨_,rfl⟩
  rw[←hs]at v1 v2 v3
  clear hs
  simp (maxSteps:=1000000) [go_sem,Tryz.f216,jI,w1,w1',w2,w2',v1,v2,v3,v4,v6]
  refine Zt (fun r:Nat×Nat=>(mid<m∧r.1=z-e∧r.2=mid)∨(m≤mid∧r.1=a∧r.2=m)) (fun r=>[(20,.p (.int .i64 (r.1:Nat))),(21,.p (.int .i64 (r.2:Nat)))]) (fun _=>[]) (zw (fun hu=>?_) (fun hu=>?_)) ?_
  ·have hu':mid<m:=by omega
   simp (maxSteps:=1000000) [go_sem,v7 hu']
   exact zW (z-e,mid) (.inl ⟨hu',rfl,rfl⟩) (by simp[go_sem])
  ·have hu':m≤mid:=by omega
   simp (maxSteps:=1000000) [go_sem]
   exact zW (a,m) (.inr ⟨hu',rfl,rfl⟩) (by simp[go_sem])
  rintro⟨s0,r0⟩ ts hj
  have hJ:=hJ s0 r0 hj
  clear hj
  have hmz:((mid:Nat):Int)+((m:Nat):Int)=(z:Int):=by omega
  simp (maxSteps:=1000000) [go_sem,v8]
  refine zm (fun r:Nat×Nat=>s0≤r.1∧r.1≤r.2∧r.2≤r0∧(s0<r.1→zK t (A[r.1-1-a]?.getD 0)≤zK t (B[mid-r.1]?.getD 0))∧(r.2<r0→zK t (B[mid-1-r.2]?.getD 0)<zK t (A[r.2-a]?.getD 0)))
   (fun r=>[(20,.p (.int .i64 (r.1:Nat))),(21,.p (.int .i64 (r.2:Nat)))]) (fun _=>[]) (fun r=>r.2-r.1) (s0,r0) ⟨Nat.le_refl _,hJ.le,Nat.le_refl _,fun h=>absurd h (Nat.lt_irrefl _),fun h=>absurd h (Nat.lt_irrefl _)⟩ (by simp[go_sem,LeS,leV,leR,leA,leL,zj]) (fun r hr'=>?_)
  obtain⟨i,k⟩:=r
  obtain⟨q1,q2,q3,q4,q5⟩:=hr'
  simp only at q1 q2 q3 q4 q5
  simp (maxSteps:=1000000) [go_sem]
  refine zw (fun h1=>?_) (fun h1=>?_)
  ·have hik:i<k:=by omega
   have hG:=zkR hJ q1 hik q3 hzz
   have hr0:=hJ.lmid
   obtain⟨g,hg⟩:∃g,g=(i+k)/2:=⟨_,rfl⟩
   rw[←hg]at hG
   obtain⟨g2,hg2⟩:∃g2,g2=z-1-g:=⟨_,rfl⟩
   rw[←hg2]at hG
   have u3:((i+k:Nat):Int).fdiv 2=(g:Int):=Uq hg
   clear hg hg2
   obtain⟨g1,g2',g3,g4,g5,g6,g7,g8,g9,g10⟩:=hG
   have u1:IntKind.i64.wrap ((i:Int)+k)=((i+k:Nat):Int):=yJ (by omega) rfl
   have u2:IntKind.u64.wrap ((i+k:Nat):Int)=((i+k:Nat):Int):=J4 (by omega)
   have u4:IntKind.i64.wrap (g:Int)=(g:Int):=XV (by omega)
   have u5:IntKind.i64.wrap ((g:Int)+1)=((g+1:Nat):Int):=zN (by omega)
   have u6:IntKind.u64.wrap (g:Int)=(g:Int):=J4 (by omega)
   have u7:IntKind.i64.wrap (((z-1:Nat):Int)-g)=(g2:Int):=yG (by omega) g8
   obtain⟨sm,hsm⟩:∃sm,sm=i+k:=⟨_,rfl⟩
   rw[←hsm]at u1 u2 u3
   clear hsm
   have hga:g-a<A.length:=by omega
   have hgb:g2-m<B.length:=by omega
   have gx:=Zw (za6 (R:=B++S) (A:=A) (c:=g) hP g3 hga)
   have gy:=Zw (Ja (R:=S) (A:=A) (B:=B) (c:=g2) hP hA g6 hgb)
   obtain⟨x,hx⟩:∃x,x=A[g-a]'hga:=⟨_,rfl⟩
   obtain⟨y,hy⟩:∃y,y=B[g2-m]'hgb:=⟨_,rfl⟩
   have hxr: -2147483648≤x∧x<2147483648:=hrA x (by rw[hx];exact List.getElem_mem _)
   have hyr: -2147483648≤y∧y<2147483648:=hrB y (by rw[hy];exact List.getElem_mem _)
   rw[←hx]at gx
   rw[←hy]at gy
   have hx':A[g-a]?.getD 0=x:=by rw[List.getElem?_eq_getElem hga,hx];rfl
   have hy':B[g2-m]?.getD 0=y:=by rw[List.getElem?_eq_getElem hgb,hy];rfl
   have hgn:g<n:=by omega
   have hg2n:g2<n:=by omega
   simp (maxSteps:=1000000) [go_sem,u1,u2,u3,u4,u7,gx,gy,hgn,hg2n]
   refine⟨⟨rfl,by simp[Tryz.f190]⟩,vS [([0],[1])] (WS h hz ck cx sk sx y x hyr hxr) (by simp[go_sem,zE]) ⟨by simp[go_sem],by simp[go_sem]⟩ (by simp[go_sem]) ?_⟩
   rintro _ _ ⟨rfl,rfl⟩
   simp (maxSteps:=1000000) [go_sem]
   refine xJ (fun hc=>?_) (fun hc=>?_)
   ·have hge:zK t x≤zK t y:=Int.not_lt.1 (mt x0.2 hc)
    simp (maxSteps:=1000000) [go_sem,u5]
    refine zf (g+1,k) ⟨Nat.le_trans q1 (Nat.le_succ_of_le g1),g2',q3,fun _=>?_,q5⟩ (by simp[go_sem,LeS,leV,leR,leA,leL,zj]) (Nat.sub_lt_sub_left (Nat.lt_of_le_of_lt g1 g2') (Nat.lt_succ_of_le g1))
    show zK t (A[g+1-1-a]?.getD 0)≤zK t (B[mid- (g+1)]?.getD 0)
    rw[Nat.add_sub_cancel,g10,hx',hy']
    exact hge
   ·have hlt:zK t y<zK t x:=x0.1 hc
    simp (maxSteps:=1000000) [go_sem]
    refine zf (i,g) ⟨q1,g1,Nat.le_trans (Nat.le_of_lt g2') q3,q4,fun _=>?_⟩ (by simp[go_sem,LeS,leV,leR,leA,leL,zj]) (by show g-i<k-i;omega)
    show zK t (B[mid-1-g]?.getD 0)<zK t (A[g-a]?.getD 0)
    rw[g9,hx',hy']
    exact hlt
  ·obtain rfl:i=k:=by omega
   obtain⟨c1,c2,c3,c4,c5,c6⟩:=zkK hJ q1 q3 hzz hA hB
   have hcut:=zlE hsA hsB (s:=i-a) (e:=mid-i) c1 c2 (fun h1 h2=>by
    have h3:=q4 (c3 h1 h2)
    rw[c5 h1,List.getElem?_eq_getElem (by omega),List.getElem?_eq_getElem h2]at h3
    exact h3) (fun h1 h2=>by
    have h3:=q5 (c4 h1 h2)
    rw[c6 h2,List.getElem?_eq_getElem (by omega),List.getElem?_eq_getElem h1]at h3
    exact h3)
   obtain⟨A1,hA1'⟩:∃l,l=A.take (i-a):=⟨_,rfl⟩
   obtain⟨A2,hA2'⟩:∃l,l=A.drop (i-a):=⟨_,rfl⟩
   obtain⟨B1,hB1'⟩:∃l,l=B.take (mid-i):=⟨_,rfl⟩
   obtain⟨B2,hB2'⟩:∃l,l=B.drop (mid-i):=⟨_,rfl⟩
   have eA:A=A1++A2:=by rw[hA1',hA2',List.take_append_drop]
   have eB:B=B1++B2:=by rw[hB1',hB2',List.take_append_drop]
   obtain⟨en,hen'⟩:∃en,en=z-i:=⟨_,rfl⟩
   have b1:=Nat.le_trans hJ.lo q1
   have b2:=Nat.le_trans q3 hJ.lm
   have b3:=Nat.le_trans q3 hJ.lmid
   have lA1:a+A1.length=i:=by rw[hA1',List.length_take];omega
   have lA2:i+A2.length=m:=by rw[hA2',List.length_drop];omega
   have lB1:m+B1.length=en:=by rw[hB1',List.length_take];omega
   have lB2:en+B2.length=e:=by rw[hB2',List.length_drop];omega
   rw[←hA1',←hA2',←hB1',←hB2']at hcut
   clear hA1' hA2' hB1' hB2' q4 q5 c1 c2 c3 c4 c5 c6
   subst eA
   subst eB
   have eAB:i+B1.length=mid:=by omega
   have eBA:mid+A2.length=en:=by omega
   have u8:IntKind.i64.wrap ((z:Int)-i)=(en:Int):=yG (by omega) (by omega)
   have sA1:qm (zK t) A1:=hsA.left
   have sA2:qm (zK t) A2:=hsA.right
   have sB1:qm (zK t) B1:=hsB.left
   have sB2:qm (zK t) B2:=hsB.right
   have rA1:∀y∈A1, -2147483648≤y∧y<2147483648:=fun y hy=>hrA y (by simp[hy])
   have rA2:∀y∈A2, -2147483648≤y∧y<2147483648:=fun y hy=>hrA y (by simp[hy])
   have rB1:∀y∈B1, -2147483648≤y∧y<2147483648:=fun y hy=>hrB y (by simp[hy])
   have rB2:∀y∈B2, -2147483648≤y∧y<2147483648:=fun y hy=>hrB y (by simp[hy])
   have hst:∀r1 r2,QF (zK t) (A1++B1) r1→QF (zK t) (A2++B2) r2→QF (zK t) (A1++A2++(B1++B2)) (r1++r2):=fun r1 r2 k1 k2=>zjj hsA hsB hcut.1 hcut.2 k1 k2
   clear hcut hsA hsB hrA hrB
   have hT:(P++(A1++A2++(B1++B2++S))).length=P.length+(A1.length+A2.length)+(B1.length+B2.length)+S.length:=by simp;omega
   rw[hT]at hS0 hn0
   have iz:(z:Int)-i=(en:Int):=by omega
   simp (maxSteps:=1000000) [go_sem,u8]
   refine Zt (fun _:Unit=>True) (fun _=>[]) (fun _=>[([0],zo (P++(A1++(B1++(A2++(B2++S))))))]) (qk (fun hu=>?_) (fun hu=>?_)) ?_
   ·have hu':i<m∧m<en:=by simpa using hu
    simp (maxSteps:=1000000) [go_sem]
    have hrot:=zhY (P++A1) A2 B1 (B2++S) (zF c b j f p ck cx sk sx) o n i m en (by simp;omega) (by omega) (by omega) hu'.1 hu'.2 (by omega) (by simp;omega) (by simp;omega)
    simp only[List.append_assoc]at hrot
    refine⟨⟨rfl,by simp[Tryz.f217]⟩,zc [([0],[0]),([1],[1])] hrot (by simp[go_sem,zE]) ⟨by simp[go_sem],by simp[go_sem,jI]⟩ (by simp[go_sem]) ?_⟩
    rintro _ _ ⟨rfl,rfl⟩
    simp (maxSteps:=1000000) [go_sem]
    exact zW () trivial (by simp[go_sem])
   ·have he:A2++(B1++(B2++S))=B1++(A2++(B2++S)):=by
     have:A2.length=0∨B1.length=0:=by
      have:¬(i<m∧m<en):=by simpa using hu
      omega
     rcases this with e|e
     ·rw[List.eq_nil_of_length_eq_zero e];rfl
     ·rw[List.eq_nil_of_length_eq_zero e];rfl
    simp (maxSteps:=1000000) [go_sem]
    exact zW () trivial (by simp[go_sem,he])
   rintro _ ts _
   simp (maxSteps:=1000000) [go_sem]
   refine Zt (fun r:List Int=>QF (zK t) (A1++B1) r) (fun _=>[]) (fun r=>[([0],zo (P++(r++(A2++(B2++S)))))]) (qk (fun hu=>?_) (fun hu=>?_)) ?_
   ·have hu':a<i∧i<mid:=by simpa using hu
    simp (maxSteps:=1000000) [go_sem]
    refine⟨⟨rfl,by simp[Tryz.f216]⟩,zc [([0],[0]),([1],[1])] (ih P A1 B1 (A2++(B2++S)) o n a i mid hP lA1 eAB (by omega) (by omega) (by omega) (by omega) (by simp;omega) (by simp;omega) rA1 rB1 sA1 sB1) (by simp[go_sem,zE]) ⟨by simp[go_sem],by simp[go_sem,jI]⟩ (by simp[go_sem]) ?_⟩
    rintro _ _ ⟨r,hr,rfl,rfl⟩
    simp (maxSteps:=1000000) [go_sem]
    exact zW r hr (by simp[go_sem])
   ·have he:qm (zK t) (A1++B1):=by
     have:A1.length=0∨B1.length=0:=by
      have:¬(a<i∧i<mid):=by simpa using hu
      omega
     rcases this with e|e
     ·rw[List.eq_nil_of_length_eq_zero e];exact sB1
     ·rw[List.eq_nil_of_length_eq_zero e,List.append_nil];exact sA1
    simp (maxSteps:=1000000) [go_sem]
    exact zW (A1++B1) (QF.refl he) (by simp[go_sem])
   rintro r1 ts1 hr1
   have lr1:r1.length=A1.length+B1.length:=by rw[hr1.2.perm.length_eq];simp
   simp (maxSteps:=1000000) [go_sem]
   refine qk (fun hu=>?_) (fun hu=>?_)
   ·have hu':mid<en∧en<e:=by simpa using hu
    simp (maxSteps:=1000000) [go_sem]
    have hc:=ih (P++r1) A2 B2 S o n mid en e (by simp;omega) eBA lB2 (by omega) (by omega) (by omega) (by omega) (by simp;omega) (by simp;omega) rA2 rB2 sA2 sB2
    simp only[List.append_assoc]at hc
    refine⟨⟨rfl,by simp[Tryz.f216]⟩,zc [([0],[0]),([1],[1])] hc (by simp[go_sem,zE]) ⟨by simp[go_sem],by simp[go_sem,jI]⟩ (by simp[go_sem]) ?_⟩
    rintro _ _ ⟨r,hr,rfl,rfl⟩
    simp (maxSteps:=1000000) [go_sem]
    exact zi [[0],[1]] (.tup []) ⟨rfl,by simp⟩ (by simp[go_sem,zd,leT]) ⟨r1++r,by simpa using hst r1 r hr1 hr,rfl,by simp[go_sem]⟩
   ·have he:qm (zK t) (A2++B2):=by
     have:A2.length=0∨B2.length=0:=by
      have:¬(mid<en∧en<e):=by simpa using hu
      omega
     rcases this with e|e
     ·rw[List.eq_nil_of_length_eq_zero e];exact sB2
     ·rw[List.eq_nil_of_length_eq_zero e,List.append_nil];exact sA2
    simp (maxSteps:=1000000) [go_sem]
    exact zi [[0],[1]] (.tup []) ⟨rfl,by simp⟩ (by simp[go_sem,zd,leT]) ⟨r1++(A2++B2),by simpa using hst r1 _ hr1 (QF.refl he),rfl,by simp[go_sem]⟩
end Go.Proofs.YthbmelihnabkaaaGreat
end
section
namespace Go.Proofs.YthbmelihnabkaaaGreat
open Go.AM
set_option maxHeartbeats 4000000
set_option maxRecDepth 10000
def Q1(k:Int→Int)(z:Nat)(l:List Int):Prop:=∀j,qm k ((l.drop (j*z)).take z)
theorem Q1.app {k:Int→Int} {z c:Nat} {E F:List Int}(hl:E.length=c*z)(hE:Q1 k z E)(hF:Q1 k z F):Q1 k z (E++F):=fun j=>by
 rcases Nat.lt_or_ge j c with h|h
 ·have h1:(j+1)*z≤c*z:=Nat.mul_le_mul_right z h
  rw[Nat.add_mul,Nat.one_mul]at h1
  rw[List.drop_append_of_le_length (by omega),List.take_append_of_le_length (by rw[List.length_drop];omega)]
  exact hE j
 ·have e:(E++F).drop (j*z)=F.drop ((j-c)*z):=by
   rw[List.drop_append,List.drop_eq_nil_of_le (by rw[hl];exact Nat.mul_le_mul_right z h),hl,Nat.sub_mul];rfl
  rw[e];exact hF _
theorem Q1.one {k:Int→Int} {z:Nat} {l:List Int}(hl:l.length≤z)(h:qm k l):Q1 k z l:=fun j=>by
 cases j with
 |zero=>simp only[Nat.zero_mul,List.drop_zero];rw[List.take_of_length_le hl];exact h
 |succ j=>
  rw[List.drop_eq_nil_of_le (by rw[Nat.add_mul];omega)]
  simp[qm]
theorem Q1.head {k:Int→Int} {z:Nat} {l:List Int}(h:Q1 k z l):qm k (l.take z):=by
 have:=h 0
 simpa using this
theorem Q1.drop {k:Int→Int} {z:Nat} {l:List Int}(h:Q1 k z l):Q1 k z (l.drop z):=fun j=>by
 have:=h (j+1)
 rw[List.drop_drop]
 rw[Nat.add_mul,Nat.one_mul]at this
 rwa[Nat.add_comm z]
theorem Q1.all {k:Int→Int} {z:Nat} {l:List Int}(h:Q1 k z l)(hl:l.length≤z):qm k l:=by
 have:=h.head
 rwa[List.take_of_length_le hl]at this
theorem Q1.nil(k:Int→Int)(z:Nat):Q1 k z []:=fun j=>by simp[qm]
theorem Xe [Gi](tab:PV)(M:List Int)(o n a:Nat)(ha:a<2^50):
  CR Tryz.prog 215 [[0],[1]] [.la [0] 1 o n,.p (.int .i64 a),.p (.int .i64 a),jI] [([0],zo M),([1],[.p tab])] (fun x rs=>x=.tup []∧rs=[([0],zo M),([1],[.p tab])]):=by
 refine zS [200006] mixed 10 [] Tryz.func215 rfl (by kernel_rfl) rfl (by simp) (by simp) ?_
 have w1:IntKind.i64.wrap ((a:Int)+1)=((a+1:Nat):Int):=zN (by omega)
 have h1:¬((a:Int)+1<a):=by omega
 simp (maxSteps:=1000000) [go_sem,Tryz.f215,jI,w1]
 refine zm (fun _:Unit=>True) (fun _=>[]) (fun _=>[]) (fun _=>0) () trivial (by simp[go_sem,LeS,leV,leR,leA,leL,zj]) (fun _ _=>?_)
 simp (maxSteps:=1000000) [go_sem,h1]
 exact zi [[0],[1]] (.tup []) ⟨rfl,by simp⟩ (by simp[go_sem,zd,leT]) ⟨rfl,by simp[go_sem]⟩
theorem Wf [Gi] {t:zR} {c b j f p:PV}(h:jo t c b j f p)(hz:Qq t)(ck cx sk sx:List PV)(P L R:List Int)(o n a:Nat)(hP:P.length=o+a)(ha:a+L.length≤n)(hS:o+n≤(P++(L++R)).length)(hn:(P++(L++R)).length<2^40)(hr:∀x∈L, -2147483648≤x∧x<2147483648):
  CR Tryz.prog 215 [[0],[1]] [.la [0] 1 o n,.p (.int .i64 a),.p (.int .i64 ((a+L.length:Nat):Int)),jI] [([0],zo (P++(L++R))),([1],[.p (zF c b j f p ck cx sk sx)])]
   (fun x rs=>∃L',QF (zK t) L L'∧x=.tup []∧rs=[([0],zo (P++(L'++R))),([1],[.p (zF c b j f p ck cx sk sx)])]):=by
 cases L with
 |nil=>
  intro w g vs h1 h2
  have hl:(P++([]++R)).length=P.length+R.length:=by simp
  refine(Xe (zF c b j f p ck cx sk sx) (P++([]++R)) o n a (by omega) w g vs h1 h2).mono ?_
  rintro e w' ⟨v,x,rs',g',h3,⟨rfl,rfl⟩,h4⟩
  exact⟨v,_,_,g',h3,⟨[],QF.refl (by simp[qm]),rfl,rfl⟩,h4⟩
 |cons y l=>exact Y1 h hz ck cx sk sx P (y::l) R o n a hP (by simp) ha hS hn hr
end Go.Proofs.YthbmelihnabkaaaGreat
end
section
namespace Go.Proofs.YthbmelihnabkaaaGreat
open Go.AM
set_option maxHeartbeats 4000000
set_option maxRecDepth 10000
theorem qw.len {k:Int→Int} {l m:List Int}(h:qw k l m):l.length=m.length:=h.perm.length_eq
theorem zh4 [Gi] {t:zR} {c b j f p:PV}(h:jo t c b j f p)(hz:Qq t)(ck cx sk sx:List PV)(P L S:List Int)(o n:Nat)(hP:P.length=o)(hL:L.length=n)(hn:(P++(L++S)).length<2^40)(hr:∀x∈L, -2147483648≤x∧x<2147483648):
  CR Tryz.prog 209 [[0],[1]] [.la [0] 1 o n,.p (.int .i64 n),jI] [([0],zo (P++(L++S))),([1],[.p (zF c b j f p ck cx sk sx)])]
   (fun x rs=>∃L',QF (zK t) L L'∧x=.tup []∧rs=[([0],zo (P++(L'++S))),([1],[.p (zF c b j f p ck cx sk sx)])]):=by
 refine zn mixed 10 [] Tryz.func209 rfl (by kernel_rfl) rfl (by simp) (by simp) ?_
 have hl:(P++(L++S)).length=P.length+L.length+S.length:=by simp;omega
 rw[hl]at hn
 have hb:n<2^40:=by omega
 simp (maxSteps:=1000000) [go_sem,Tryz.f209,jI]
 refine zm (fun r:List Int×List Int×List Int=>L=r.1++r.2.2∧qw (zK t) r.2.1 r.1∧Q1 (zK t) 20 r.2.1∧∃c,r.2.1.length=c*20) (fun r=>[(7,.p (.int .i64 (r.2.1.length:Nat))),(8,.p (.int .i64 ((r.2.1.length+20:Nat):Int)))]) (fun r=>[([0],zo (P++(r.2.1++(r.2.2++S))))]) (fun r=>r.2.2.length) ([],[],L)
  ⟨rfl,qw.refl _ _,Q1.nil _ _,0,rfl⟩ (by simp[go_sem,LeS,leV,leR,leA,leL,zj]) (fun r hr'=>?_)
 obtain⟨L0,D,E⟩:=r
 obtain⟨q1,q2,q3,cc,q4⟩:=hr'
 simp only at q1 q2 q3 q4
 have lD:=q2.len
 have lL:L.length=D.length+E.length:=by rw[q1,lD];simp
 obtain⟨d,hd⟩:∃d,d=D.length:=⟨_,rfl⟩
 simp only[←hd]
 have w1:IntKind.i64.wrap ((d:Int)+20+20)=((d+40:Nat):Int):=by rw[wrap64 (by omega) (by omega)];omega
 simp (maxSteps:=1000000) [go_sem]
 refine zw (fun h1=>?_) (fun h1=>?_)
 ·obtain⟨X,Y,rfl,hX⟩:∃X Y,E=X++Y∧X.length=20:=⟨E.take 20,E.drop 20,(List.take_append_drop _ _).symm,by rw[List.length_take];omega⟩
  have lE:(X++Y).length=X.length+Y.length:=by simp
  have hI:=Wf h hz ck cx sk sx (P++D) X (Y++S) o n d (by simp;omega) (by omega) (by simp;omega) (by simp;omega) (fun x hx=>hr x (by rw[q1];simp[hx]))
  simp only[List.append_assoc,hX]at hI
  simp (maxSteps:=1000000) [go_sem]
  refine⟨⟨rfl,by simp[Tryz.f215]⟩,zc [([0],[0]),([1],[1])] hI (by simp[go_sem,zE]) ⟨by simp[go_sem],by simp[go_sem,jI]⟩ (by simp[go_sem]) ?_⟩
  rintro _ _ ⟨X',hX',rfl,rfl⟩
  have lX':X'.length=20:=by rw[hX'.2.len,hX]
  simp (maxSteps:=1000000) [go_sem,w1]
  refine zf (L0++X,D++X',Y) ⟨by rw[q1];simp,q2.app hX'.2,Q1.app q4 q3 (Q1.one (by omega) hX'.1),cc+1,by simp;omega⟩ (by simp[go_sem,LeS,leV,leR,leA,leL,zj,hd,lX'];omega) (by simp;omega)
 ·have hI:=Wf h hz ck cx sk sx (P++D) E S o n d (by simp;omega) (by omega) (by simp;omega) (by simp;omega) (fun x hx=>hr x (by rw[q1];simp[hx]))
  have dE:d+E.length=n:=by omega
  simp only[List.append_assoc,dE]at hI
  simp (maxSteps:=1000000) [go_sem]
  refine⟨⟨rfl,by simp[Tryz.f215]⟩,zc [([0],[0]),([1],[1])] hI (by simp[go_sem,zE]) ⟨by simp[go_sem],by simp[go_sem,jI]⟩ (by simp[go_sem]) ?_⟩
  rintro _ _ ⟨E',hE',rfl,rfl⟩
  have lE':=hE'.2.len
  have M1:Q1 (zK t) 20 (D++E')∧qw (zK t) (D++E') L:=⟨Q1.app q4 q3 (Q1.one (by omega) hE'.1),by rw[q1];exact q2.app hE'.2⟩
  simp (maxSteps:=1000000) [go_sem]
  clear w1 hI
  refine zm (fun r:Nat×List Int=>0<r.1∧r.1<2^42∧Q1 (zK t) r.1 r.2∧qw (zK t) r.2 L) (fun r=>[(6,.p (.int .i64 (r.1:Nat))),(7,.zU),(8,.zU),(9,.zU)]) (fun r=>[([0],zo (P++(r.2++S)))]) (fun r=>n-r.1) (20,D++E')
   ⟨by simp,by simp,M1⟩ (by simp[go_sem,LeS,leV,leR,leA,leL,zj]) (fun r hr2=>?_)
  obtain⟨z,M⟩:=r
  obtain⟨p1,p2,p3,p4⟩:=hr2
  simp only at p1 p2 p3 p4
  have lM:=p4.len
  simp (maxSteps:=1000000) [go_sem]
  refine zw (fun h2=>?_) (fun h2=>?_)
  ·have w2:IntKind.i64.wrap (2*(z:Int))=((2*z:Nat):Int):=by rw[wrap64 (by omega) (by omega)];omega
   simp (maxSteps:=1000000) [go_sem,w2]
   clear M1 hE' q1 q2 q3 q4 lE' lL lD dE
   have hrM:∀x∈M, -2147483648≤x∧x<2147483648:=fun x hx=>hr x (p4.mem hx)
   refine zm (fun r:List Int×List Int=>Q1 (zK t) (2*z) r.1∧Q1 (zK t) z r.2∧qw (zK t) (r.1++r.2) L∧∃c,r.1.length=c*(2*z)) (fun r=>[(7,.p (.int .i64 (r.1.length:Nat))),(8,.p (.int .i64 ((r.1.length+2*z:Nat):Int)))]) (fun r=>[([0],zo (P++(r.1++(r.2++S))))]) (fun r=>r.2.length) ([],M)
    ⟨Q1.nil _ _,p3,p4,0,by simp⟩ (by simp[go_sem,LeS,leV,leR,leA,leL,zj]) (fun r hr3=>?_)
   obtain⟨E1,F⟩:=r
   obtain⟨s1,s2,s3,cE,s4⟩:=hr3
   simp only at s1 s2 s3 s4
   have lEF:E1.length+F.length=n:=by have:=s3.len;simp at this;omega
   have hrE:∀x∈F, -2147483648≤x∧x<2147483648:=fun x hx=>hr x (s3.mem (by simp[hx]))
   obtain⟨a,ha⟩:∃a,a=E1.length:=⟨_,rfl⟩
   simp only[←ha]
   rw[←ha]at s4 lEF
   have w3:IntKind.i64.wrap ((a:Int)+z)=((a+z:Nat):Int):=yJ (by omega) rfl
   have w4:IntKind.i64.wrap ((a:Int)+2*(z:Int)+2*(z:Int))=((a+2*z+2*z:Nat):Int):=by rw[wrap64 (by omega) (by omega)];omega
   have w5:IntKind.i64.wrap ((a:Int)+2*(z:Int))=((a+2*z:Nat):Int):=by rw[wrap64 (by omega) (by omega)];omega
   simp (maxSteps:=1000000) [go_sem]
   refine zw (fun h3=>?_) (fun h3=>?_)
   ·obtain⟨X,Y,Z,rfl,lX,lY⟩:∃X Y Z,F=X++(Y++Z)∧X.length=z∧Y.length=z:=⟨F.take z,(F.drop z).take z,(F.drop z).drop z,by rw[List.take_append_drop,List.take_append_drop],by rw[List.length_take];omega,by rw[List.length_take,List.length_drop];omega⟩
    have lF:(X++(Y++Z)).length=X.length+Y.length+Z.length:=by simp;omega
    rw[lF]at lEF
    have sX:qm (zK t) X:=by have:=s2.head;rwa[List.take_append_of_le_length (by omega),List.take_of_length_le (by omega)]at this
    have s2':Q1 (zK t) z (Y++Z):=by have:=s2.drop;rwa[List.drop_append_of_le_length (by omega),List.drop_eq_nil_of_le (by omega),List.nil_append]at this
    have sY:qm (zK t) Y:=by have:=s2'.head;rwa[List.take_append_of_le_length (by omega),List.take_of_length_le (by omega)]at this
    have sZ:Q1 (zK t) z Z:=by have:=s2'.drop;rwa[List.drop_append_of_le_length (by omega),List.drop_eq_nil_of_le (by omega),List.nil_append]at this
    have hT:(P++(E1++(X++(Y++(Z++S))))).length=P.length+a+(X.length+Y.length+Z.length)+S.length:=by simp;omega
    have hI:=zi5 h hz ck cx sk sx n (P++E1) X Y (Z++S) o n a (a+z) (a+2*z) (by simp;omega) (by omega) (by omega) (by omega) (by omega) (by omega) (by omega) (by rw[List.append_assoc,hT];omega) (by rw[List.append_assoc,hT];omega) (fun x hx=>hrE x (by simp[hx])) (fun x hx=>hrE x (by simp[hx])) sX sY
    simp only[List.append_assoc]at hI
    simp (maxSteps:=1000000) [go_sem]
    refine⟨⟨rfl,by simp[Tryz.f216]⟩,zc [([0],[0]),([1],[1])] hI (by simp[go_sem,zE]) ⟨by simp[go_sem],by simp[go_sem,jI,w3]⟩ (by simp[go_sem]) ?_⟩
    rintro _ _ ⟨W,hW,rfl,rfl⟩
    have lW:W.length=2*z:=by rw[hW.2.len];simp;omega
    simp (maxSteps:=1000000) [go_sem,w2,w4]
    refine zf (E1++W,Z) ⟨Q1.app (ha.symm.trans s4) s1 (Q1.one (by omega) hW.1),sZ,?_,cE+1,by rw[List.length_append,lW,Nat.add_mul,←ha,s4,Nat.one_mul]⟩ (by simp[go_sem,LeS,leV,leR,leA,leL,zj,←ha,lW]) (by simp;omega)
    have:=((qw.refl (zK t) E1).app (hW.2.app (qw.refl (zK t) Z))).trans (by simpa using s3)
    simpa using this
   ·simp (maxSteps:=1000000) [go_sem,w3]
    refine Zt (fun r:List Int=>Q1 (zK t) (2*z) r∧qw (zK t) r L) (fun _=>[]) (fun r=>[([0],zo (P++(r++S)))]) (zw (fun h4=>?_) (fun h4=>?_)) ?_
    ·obtain⟨X,Y,rfl,lX⟩:∃X Y,F=X++Y∧X.length=z:=⟨F.take z,F.drop z,(List.take_append_drop _ _).symm,by rw[List.length_take];omega⟩
     have lF:(X++Y).length=X.length+Y.length:=by simp
     rw[lF]at lEF
     have sX:qm (zK t) X:=by have:=s2.head;rwa[List.take_append_of_le_length (by omega),List.take_of_length_le (by omega)]at this
     have s2':Q1 (zK t) z Y:=by have:=s2.drop;rwa[List.drop_append_of_le_length (by omega),List.drop_eq_nil_of_le (by omega),List.nil_append]at this
     have sY:qm (zK t) Y:=s2'.all (by omega)
     have hT:(P++(E1++(X++(Y++S)))).length=P.length+a+(X.length+Y.length)+S.length:=by simp;omega
     have hI:=zi5 h hz ck cx sk sx n (P++E1) X Y S o n a (a+z) n (by simp;omega) (by omega) (by omega) (by omega) (by omega) (by omega) (by omega) (by rw[List.append_assoc,hT];omega) (by rw[List.append_assoc,hT];omega) (fun x hx=>hrE x (by simp[hx])) (fun x hx=>hrE x (by simp[hx])) sX sY
     simp only[List.append_assoc]at hI
     simp (maxSteps:=1000000) [go_sem]
     refine⟨⟨rfl,by simp[Tryz.f216]⟩,zc [([0],[0]),([1],[1])] hI (by simp[go_sem,zE]) ⟨by simp[go_sem],by simp[go_sem,jI]⟩ (by simp[go_sem]) ?_⟩
     rintro _ _ ⟨W,hW,rfl,rfl⟩
     have lW:W.length=X.length+Y.length:=by rw[hW.2.len];simp
     simp (maxSteps:=1000000) [go_sem]
     exact zW (E1++W) ⟨Q1.app (ha.symm.trans s4) s1 (Q1.one (by omega) hW.1),((qw.refl (zK t) E1).app hW.2).trans s3⟩ (by simp[go_sem])
    ·simp (maxSteps:=1000000) [go_sem]
     exact zW (E1++F) ⟨Q1.app (ha.symm.trans s4) s1 (Q1.one (by omega) (s2.all (by omega))),s3⟩ (by simp[go_sem])
    rintro M2 ts ⟨k1,k2⟩
    have w6:IntKind.i64.wrap ((z:Int)*2)=((2*z:Nat):Int):=by rw[wrap64 (by omega) (by omega)];omega
    simp (maxSteps:=1000000) [go_sem,w6]
    refine zf (2*z,M2) ⟨by show 0<2*z;omega,by show 2*z<2^42;omega,k1,k2⟩ (by simp[go_sem,LeS,leV,leR,leA,leL,zj]) (by show n-2*z<n-z;omega)
  ·simp (maxSteps:=1000000) [go_sem]
   exact zi [[0],[1]] (.tup []) ⟨rfl,by simp⟩ (by simp[go_sem,zd,leT]) ⟨M,⟨p3.all (by omega),p4⟩,rfl,by simp[go_sem]⟩
theorem Xd [Gi] {t:zR} {c b j f p:PV}(h:jo t c b j f p)(hz:Qq t)(ck cx sk sx:List PV)(P L S:List Int)(o n:Nat)(hP:P.length=o)(hL:L.length=n)(hn:(P++(L++S)).length<2^40)(hr:∀x∈L, -2147483648≤x∧x<2147483648):
  CR Tryz.prog 189 [[0],[1]] [.la [0] 1 o n,jI] [([0],zo (P++(L++S))),([1],[.p (zF c b j f p ck cx sk sx)])]
   (fun x rs=>∃L',QF (zK t) L L'∧x=.tup []∧rs=[([0],zo (P++(L'++S))),([1],[.p (zF c b j f p ck cx sk sx)])]):=by
 refine zn mixed 2 [] Tryz.func189 rfl (by kernel_rfl) rfl (by simp) (by simp) ?_
 simp (maxSteps:=1000000) [go_sem,Tryz.f189,jI]
 refine⟨⟨rfl,by simp[Tryz.f209]⟩,zc [([0],[0]),([1],[1])] (zh4 h hz ck cx sk sx P L S o n hP hL hn hr) (by simp[go_sem,zE]) ⟨by simp[go_sem],by simp[go_sem,jI]⟩ (by simp[go_sem]) ?_⟩
 rintro _ _ ⟨L',hL',rfl,rfl⟩
 simp (maxSteps:=1000000) [go_sem]
 exact zi [[0],[1]] (.tup []) ⟨rfl,by simp⟩ (by simp[go_sem,zd,leT]) ⟨L',hL',rfl,by simp[go_sem]⟩
end Go.Proofs.YthbmelihnabkaaaGreat
end
