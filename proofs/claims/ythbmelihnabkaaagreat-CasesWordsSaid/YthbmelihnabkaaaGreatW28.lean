/- A part of the proof of this seat's statements, by an abstract machine: what each operation does to values, and what the law's functions compute. Conditions: as each law says. -/
import Derived.Test.YthbmelihnabkaaaGreatW16
import Derived.Test.YthbmelihnabkaaaGreatW17
section
namespace Go.Proofs.YthbmelihnabkaaaGreat
open Go.AM
set_option maxHeartbeats 4000000
set_option maxRecDepth 10000
def zo(M:List Int):List AV:=(M.map fun r=>PV.int .i32 r).map .p
@[go_sem] theorem zno (rt tt : Tok → Bool) (M : List Int) : (zo M).map (AV.upd (fil rt tt)) = zo M := by simp [zo, AV.upd, fil, QK]
@[go_sem] theorem zni (f : Tok → Option Tok) (M : List Int) : (zo M).map (AV.ren f) = zo M := by rw [zo, List.map_map, zn0]
@[go_sem] theorem WQ (M : List Int) : (zo M).length = M.length := by simp [zo]
theorem y3 {M:List Int} {i:Nat}(h:i<M.length):(zo M)[i]?=some (.p (.int .i32 (M[i]?.getD 0))):=by
 simp[zo,List.getElem?_eq_getElem h]
theorem qU {M:List Int} {i:Nat}(v:Int)(h:i<M.length):(zo M).take i++AV.p (.int .i32 v)::(zo M).drop (i+1)=zo (M.set i v):=by
 have:zo (M.set i v)=(zo M).set i (.p (.int .i32 v)):=by simp[zo,List.map_set]
 rw[this,List.set_eq_take_append_cons_drop,if_pos (by simpa[zo]using h)]
def swapAt(M:List Int)(i j:Nat):List Int:=(M.set i (M[j]?.getD 0)).set j (M[i]?.getD 0)
def kV(M:List Int)(a b:Nat):Nat→List Int
 |0=>M
 |n+1=>swapAt (kV M a b n) (a+n) (b+n)
theorem Ua(M:List Int)(a b:Nat):∀n,(kV M a b n).length=M.length
 |0=>rfl
 |n+1=>by simp[kV,swapAt,Ua M a b n]
def swapT:OT:=.now 0 0 (.now 1 0 (.now 2 0 (.now 3 0 (.now 4 2 (.now 5 2 (.now 6 2 (.now 7 2 (.now 8 0 (.now 9 0 (.now 10 0 (.now 11 0 (.now 12 0 (.now 13 0 (.now 14 0 (.now 15 0 (.now 16 0 (.now 17 0 (.now 18 0 (.now 19 0 (.now 20 0 (.mk [(21,.now 22 0 (.mk [(23,.mk [])]))])))))))))))))))))))))
def jI:AV:=.fn 190 [.lp [1] 0]
theorem wu [Gi](M:List Int)(tab:PV)(o n a b m:Nat)(hM:o+n≤M.length)(ha:a+m≤n)(hb:b+m≤n)(hn:M.length<2^40):
  CR Tryz.prog 218 [[0],[1]] [.la [0] 1 o n,.p (.int .i64 a),.p (.int .i64 b),.p (.int .i64 m),jI] [([0],zo M),([1],[.p tab])] (fun x rs=>x=.tup []∧rs=[([0],zo (kV M (o+a) (o+b) m)),([1],[.p tab])]):=by
 refine zS [200003] mixed 11 [] Tryz.func218 rfl (by kernel_rfl) rfl (by simp) (by simp) ?_
 simp (maxSteps:=1000000) [go_sem,Tryz.f218,jI]
 refine zm (fun i:Nat=>i≤m) (fun i=>[(10,.p (.int .i64 (i:Nat)))]) (fun i=>[([0],zo (kV M (o+a) (o+b) i))]) (fun i=>m-i) 0 (by omega) (by simp[go_sem,LeS,leV,leR,leA,leL,zj,kV]) (fun i hi=>?_)
 simp (maxSteps:=1000000) [go_sem]
 refine zw (fun h=>?_) (fun h=>?_)
 ·have him:i<m:=by omega
  have w1:IntKind.i64.wrap ((i:Int)+1)=((i+1:Nat):Int):=by rw[wrap64 (by omega) (by omega)];rfl
  obtain⟨x,hx⟩:∃x,x=a+i:=⟨_,rfl⟩
  obtain⟨y,hy⟩:∃y,y=b+i:=⟨_,rfl⟩
  have w2:IntKind.i64.wrap ((a:Int)+i)=(x:Int):=by rw[wrap64 (by omega) (by omega)];omega
  have w3:IntKind.i64.wrap ((b:Int)+i)=(y:Int):=by rw[wrap64 (by omega) (by omega)];omega
  have hs:=Ua M (o+a) (o+b) i
  have hnext:kV M (o+a) (o+b) (i+1)=swapAt (kV M (o+a) (o+b) i) (o+x) (o+y):=by rw[hx,hy,←Nat.add_assoc,←Nat.add_assoc];rfl
  generalize kV M (o+a) (o+b) i=Mi at hs hnext
  have hxn:x<n:=by omega
  have hyn:y<n:=by omega
  have gx:=y3 (M:=Mi) (i:=o+x) (by omega)
  have gy:=y3 (M:=Mi) (i:=o+y) (by omega)
  have px:=qU (M:=Mi) (i:=o+x) (Mi[o+y]?.getD 0) (by omega)
  have py:=qU (M:=Mi.set (o+x) (Mi[o+y]?.getD 0)) (i:=o+y) (Mi[o+x]?.getD 0) (by simp;omega)
  simp (maxSteps:=1000000) [go_sem]
  refine Zh swapT (by kernel_rfl) ?_
  simp (maxSteps:=1000000) [go_sem,swapT,w1,w2,w3,hxn,hyn,gx,gy,px,py]
  exact⟨by omega,by omega,zf (i+1) (by omega) (by simp[go_sem,LeS,leV,leR,leA,leL,zj,hnext,swapAt]) (by omega)⟩
 ·obtain rfl:i=m:=by omega
  simp (maxSteps:=1000000) [go_sem]
  exact zi [[0],[1]] (.tup []) ⟨rfl,by simp⟩ (by simp[go_sem,zd,leT]) ⟨rfl,by simp[go_sem]⟩
theorem XJ(M:List Int)(a b:Nat):∀n,a+n≤b→b+n≤M.length→∀k,(kV M a b n)[k]?=if a≤k∧k<a+n then M[k-a+b]? else if b≤k∧k<b+n then M[k-b+a]? else M[k]?
 |0,_,_,k=>by
  rw[if_neg (by omega),if_neg (by omega)];rfl
 |n+1,h1,h2,k=>by
  have ih:=XJ M a b n (by omega) (by omega)
  have hl:=Ua M a b n
  have e1:(kV M a b n)[a+n]?=M[a+n]?:=by rw[ih,if_neg (by omega),if_neg (by omega)]
  have e2:(kV M a b n)[b+n]?=M[b+n]?:=by rw[ih,if_neg (by omega),if_neg (by omega)]
  simp only[kV,swapAt,e1,e2]
  have g1:M[a+n]?=some (M[a+n]?.getD 0):=by rw[List.getElem?_eq_getElem (by omega)];rfl
  have g2:M[b+n]?=some (M[b+n]?.getD 0):=by rw[List.getElem?_eq_getElem (by omega)];rfl
  rw[List.getElem?_set,List.getElem?_set]
  by_cases hk1:b+n=k
  ·subst hk1
   rw[if_pos rfl,if_pos (by simp;omega),if_neg (by omega),if_pos (by omega)]
   rw[←g1];congr 1;omega
  ·rw[if_neg hk1]
   by_cases hk2:a+n=k
   ·subst hk2
    rw[if_pos rfl,if_pos (by omega),if_pos (by omega)]
    rw[←g2];congr 1;omega
   ·rw[if_neg hk2,ih]
    by_cases c1:a≤k∧k<a+n
    ·rw[if_pos c1,if_pos (by omega)]
    ·rw[if_neg c1,if_neg (by omega:¬(a≤k∧k<a+(n+1)))]
     by_cases c2:b≤k∧k<b+n
     ·rw[if_pos c2,if_pos (by omega)]
     ·rw[if_neg c2,if_neg (by omega)]
end Go.Proofs.YthbmelihnabkaaaGreat
end
section
namespace Go.Proofs.YthbmelihnabkaaaGreat
open Go.AM
set_option maxHeartbeats 4000000
set_option maxRecDepth 10000
theorem wR(P X Y Z W:List Int)(h:X.length=Z.length):kV (P++(X++(Y++(Z++W)))) P.length (P.length+X.length+Y.length) X.length=P++(Z++(Y++(X++W))):=by
 apply List.ext_getElem?
 intro k
 rw[XJ _ _ _ _ (by omega) (by simp;omega)]
 simp only[List.getElem?_append]
 by_cases h1:k<P.length
 ·rw[if_neg (by omega),if_neg (by omega),if_pos h1,if_pos h1]
 ·by_cases h2:k<P.length+X.length
  ·rw[if_pos (by omega),if_neg (by omega),if_neg (by omega),if_neg (by omega),if_pos (by omega),if_neg (by omega),if_pos (by omega)]
   congr 1;omega
  ·by_cases h3:k<P.length+X.length+Y.length
   ·rw[if_neg (by omega),if_neg (by omega),if_neg (by omega),if_neg (by omega),if_pos (by omega),if_neg (by omega),if_neg (by omega),if_pos (by omega)]
    congr 1;omega
   ·by_cases h4:k<P.length+X.length+Y.length+X.length
    ·rw[if_neg (by omega),if_pos (by omega),if_neg (by omega),if_pos (by omega),if_neg (by omega),if_neg (by omega),if_neg (by omega),if_pos (by omega)]
     congr 1;omega
    ·rw[if_neg (by omega),if_neg (by omega),if_neg (by omega),if_neg (by omega),if_neg (by omega),if_neg (by omega),if_neg (by omega),if_neg (by omega),if_neg (by omega),if_neg (by omega)]
     congr 1;omega
theorem zhY [Gi](P U V S:List Int)(tab:PV)(o n a m b:Nat)(hP:P.length=o+a)(hU:U.length=m-a)(hV:V.length=b-m)(ham:a<m)(hmb:m<b)(hbn:b≤n)(hn:(P++(U++(V++S))).length<2^40)(hS:o+n≤(P++(U++(V++S))).length):
  CR Tryz.prog 217 [[0],[1]] [.la [0] 1 o n,.p (.int .i64 a),.p (.int .i64 m),.p (.int .i64 b),jI] [([0],zo (P++(U++(V++S)))),([1],[.p tab])] (fun x rs=>x=.tup []∧rs=[([0],zo (P++(V++(U++S)))),([1],[.p tab])]):=by
 refine zn mixed 12 [] Tryz.func217 rfl (by kernel_rfl) rfl (by simp) (by simp) ?_
 have w1:IntKind.i64.wrap ((m:Int)-a)=((m-a:Nat):Int):=by rw[wrap64 (by simp at hS hn;omega) (by simp at hS hn;omega)];omega
 have w2:IntKind.i64.wrap ((b:Int)-m)=((b-m:Nat):Int):=by rw[wrap64 (by simp at hS hn;omega) (by simp at hS hn;omega)];omega
 simp (maxSteps:=1000000) [go_sem,Tryz.f217,w1,w2,jI]
 have hlen:(P++(U++(V++S))).length=P.length+U.length+V.length+S.length:=by simp;omega
 rw[hlen]at hn hS
 refine zm (fun r:List Int×List Int×List Int×List Int=>r.1.length+r.2.1.length=o+m∧0<r.2.1.length∧0<r.2.2.1.length∧r.2.1.length≤m∧m+r.2.2.1.length≤n∧r.1.length+r.2.1.length+r.2.2.1.length+r.2.2.2.length=P.length+U.length+V.length+S.length∧r.1++(r.2.2.1++(r.2.1++r.2.2.2))=P++(V++(U++S)))
  (fun r=>[(10,.p (.int .i64 (r.2.1.length:Nat))),(11,.p (.int .i64 (r.2.2.1.length:Nat)))]) (fun r=>[([0],zo (r.1++(r.2.1++(r.2.2.1++r.2.2.2))))]) (fun r=>r.2.1.length+r.2.2.1.length) (P,U,V,S) ⟨by simp only;omega,by simp only;omega,by simp only;omega,by simp only;omega,by simp only;omega,rfl,rfl⟩ (by simp[go_sem,LeS,leV,leR,leA,leL,zj,hU,hV]) (fun r hr=>?_)
 obtain⟨P',U',V',S'⟩:=r
 obtain⟨q1,q2,q3,q4,q5,q6,q7⟩:=hr
 simp only at q1 q2 q3 q4 q5 q6 q7
 have hM:(P'++(U'++(V'++S'))).length=P.length+U.length+V.length+S.length:=by simp;omega
 obtain⟨i,hi⟩:∃i,i=U'.length:=⟨_,rfl⟩
 obtain⟨j,hj⟩:∃j,j=V'.length:=⟨_,rfl⟩
 rw[←hi]at q1 q2 q4 q6
 rw[←hj]at q3 q5 q6
 have w3:IntKind.i64.wrap ((m:Int)-i)=((m-i:Nat):Int):=by rw[wrap64 (by omega) (by omega)];omega
 have w4:IntKind.i64.wrap ((m:Int)+j)=((m+j:Nat):Int):=by rw[wrap64 (by omega) (by omega)];omega
 have w5:j<i→IntKind.i64.wrap ((i:Int)-j)=((i-j:Nat):Int):=fun h=>by rw[wrap64 (by omega) (by omega)];omega
 have w6:i<j→IntKind.i64.wrap ((j:Int)-i)=((j-i:Nat):Int):=fun h=>by rw[wrap64 (by omega) (by omega)];omega
 have w7:i<j→IntKind.i64.wrap ((m:Int)+j-i)=((m+j-i:Nat):Int):=fun h=>by rw[wrap64 (by omega) (by omega)];omega
 simp only[←hi,←hj]
 simp (maxSteps:=1000000) [go_sem]
 refine xJ (fun h=>?_) (fun h=>?_)
 ·have hij:i≠j:=fun e=>by simp[e]at h
  simp (maxSteps:=1000000) [go_sem]
  refine zw (fun h2=>?_) (fun h2=>?_)
  ·have hji:j<i:=by omega
   have w5':=w5 hji
   simp (maxSteps:=1000000) [go_sem,w3]
   refine⟨⟨rfl,by simp[Tryz.f218]⟩,zc [([0],[0]),([1],[1])] (wu (P'++(U'++(V'++S'))) tab o n (m-i) (m) j (by omega) (by omega) (by omega) (by omega)) (by simp[go_sem,zE]) ⟨by simp[go_sem],by simp[go_sem,jI]⟩ (by simp[go_sem]) ?_⟩
   rintro _ _ ⟨rfl,rfl⟩
   obtain⟨U1,U2,rfl,hu⟩:∃U1 U2,U'=U1++U2∧U1.length=j:=⟨U'.take j,U'.drop j,(List.take_append_drop _ _).symm,by simp;omega⟩
   have hu2:U2.length=i-j:=by simp at hi;omega
   have hsw:kV (P'++(U1++U2++(V'++S'))) (o+(m-i)) (o+m) j=(P'++V')++(U2++(U1++S')):=by
    have e:=wR P' U1 U2 V' S' (by omega)
    have e1:o+(m-i)=P'.length:=by omega
    have e2:o+m=P'.length+U1.length+U2.length:=by omega
    rw[e1,e2,←hu]
    simp only[List.append_assoc]at e⊢
    exact e
   rw[hsw]
   simp (maxSteps:=1000000) [go_sem,w5']
   refine zf (P'++V',U2,U1,S') ⟨by simp;omega,by simp only;omega,by simp only;omega,by simp only;omega,by simp only;omega,by simp;omega,by rw[←q7];simp⟩ (by simp[go_sem,LeS,leV,leR,leA,leL,zj,hu,hu2]) (by simp only[List.length_append];omega)
  ·have hji:i<j:=by omega
   have w6':=w6 hji
   have w7':=w7 hji
   simp (maxSteps:=1000000) [go_sem,w3,w4,w7']
   refine⟨⟨rfl,by simp[Tryz.f218]⟩,zc [([0],[0]),([1],[1])] (wu (P'++(U'++(V'++S'))) tab o n (m-i) (m+j-i) i (by omega) (by omega) (by omega) (by omega)) (by simp[go_sem,zE]) ⟨by simp[go_sem],by simp[go_sem,jI]⟩ (by simp[go_sem]) ?_⟩
   rintro _ _ ⟨rfl,rfl⟩
   obtain⟨V1,V2,rfl,hv⟩:∃V1 V2,V'=V1++V2∧V1.length=j-i:=⟨V'.take (j-i),V'.drop (j-i),(List.take_append_drop _ _).symm,by simp;omega⟩
   have hv2:V2.length=i:=by simp at hj;omega
   have hsw:kV (P'++(U'++(V1++V2++S'))) (o+(m-i)) (o+(m+j-i)) i=P'++(V2++(V1++(U'++S'))):=by
    have e:=wR P' U' V1 V2 S' (by omega)
    have e1:o+(m-i)=P'.length:=by omega
    have e2:o+(m+j-i)=P'.length+U'.length+V1.length:=by omega
    rw[e1,e2,hi]
    simp only[List.append_assoc]at e⊢
    exact e
   rw[hsw]
   simp (maxSteps:=1000000) [go_sem,w6']
   refine zf (P',V2,V1,U'++S') ⟨by simp only;omega,by simp only;omega,by simp only;omega,by simp only;omega,by simp only;omega,by simp;omega,by rw[←q7];simp⟩ (by simp[go_sem,LeS,leV,leR,leA,leL,zj,hv,hv2]) (by simp only;omega)
 ·have hij:i=j:=by
   have:(i:Int)=j:=by simpa using h
   omega
  simp (maxSteps:=1000000) [go_sem,w3]
  refine⟨⟨rfl,by simp[Tryz.f218]⟩,zc [([0],[0]),([1],[1])] (wu (P'++(U'++(V'++S'))) tab o n (m-i) (m) i (by omega) (by omega) (by omega) (by omega)) (by simp[go_sem,zE]) ⟨by simp[go_sem],by simp[go_sem,jI]⟩ (by simp[go_sem]) ?_⟩
  rintro _ _ ⟨rfl,rfl⟩
  have hsw:kV (P'++(U'++(V'++S'))) (o+(m-i)) (o+m) i=P'++(V'++(U'++S')):=by
   have e:=wR P' U' [] V' S' (by omega)
   have e1:o+(m-i)=P'.length:=by omega
   have e2:o+m=P'.length+U'.length+([]:List Int).length:=by simp;omega
   rw[e1,e2,hi]
   exact e
  rw[hsw,q7]
  simp (maxSteps:=1000000) [go_sem]
  exact zi [[0],[1]] (.tup []) ⟨rfl,by simp⟩ (by simp[go_sem,zd,leT]) ⟨rfl,by simp[go_sem]⟩
end Go.Proofs.YthbmelihnabkaaaGreat
end
