/- A part of this seat's proofs, by an abstract machine. Conditions: each law's. -/
import Derived.Test.YtfjdbbpimklecaaGreatDoorT30
import Derived.Test.YtfjdbbpimklecaaGreatDoorT40
import Derived.Test.YtfjdbbpimklecaaGreatDoorT39
import Derived.Test.YtfjdbbpimklecaaGreatDoorT44
import Derived.Test.YtfjdbbpimklecaaGreatDoorT42
import Derived.Test.YtfjdbbpimklecaaGreatDoorT31
import Derived.Test.YtfjdbbpimklecaaGreatDoorT25
set_option maxHeartbeats 4000000
set_option maxRecDepth 10000
namespace Go.Proofs.YtfjdbbpimklecaaGreatDoor
section
open Go.AM
theorem w11:IntKind.i64.wrap 1=1:=by decide
variable [Gi]
attribute [local go_sem] qK zJ zbq jt wA zfT
theorem jH:CR Tryz.prog 63 [] [] [] (is (.p (clP blk))):=by
 refine zx mixed 1 [] Tryz.func63 rfl (by kernel_rfl) rfl (by simp) (by simp) ?_
 simp (maxSteps:=1000000) (disch:=omega) [go_sem,Tryz.f63]
 exact zg _ rfl (by simp[go_sem,zf,leA,clP,blk]) ⟨rfl,rfl⟩
def xI(r:Nat):AV:=match r with
 |0=>.p (.opq (.slice none 0 0))
 |r+1=>.la [40] 1 0 (r+1)
def UB(c:Nat):AV:=match c with
 |0=>.p (.opq (.slice none 0 0))
 |c+1=>.la [36] 2 0 (c+1)
def gx(R C:Nat)(G:Nat→zt):List (Tok×List AV):=([0],laF 1 2 C R)::fam 1 R fun i=>cw (G i)
def yX(C r:Nat):List (Tok×List AV):=match r with
 |0=>[]
 |r+1=>([40],laF 100 2 C (r+1))::fam 100 (r+1) fun _=>bl C
def zeN(R C r:Nat):St:={n:=42,nv:=9,vs:=[(0,.p (.int .i64 R)),(1,.p (.int .i64 C)),(5,xI r),(6,.p (.int .i64 r))],ts:=[],rs:=([36],[])::([39],[])::yX C r,rm:=[5,7,36,40]}
def W6(R C r c:Nat):St:={n:=42,nv:=9,vs:=[(0,.p (.int .i64 R)),(1,.p (.int .i64 C)),(5,xI r),(6,.p (.int .i64 r)),(7,UB c),(8,.p (.int .i64 c))],ts:=[],rs:=([36],bl c)::([39],[])::yX C r,rm:=[5,7,36,40]}
theorem zmh(R C:Nat)(hR:1≤R∧R≤500)(hC:2≤C∧C≤1000):CR Tryz.prog 15 [] [.p (.int .i64 R),.p (.int .i64 C)] []
  (fun x rs'=>x=.la [40] 1 0 R∧rs'=yX C R):=by
 refine walk Tryz.func15 9 [] [] [5,7,36,40] ?_
 have a1:¬((R:Int)<1):=by omega
 have a2:¬((500:Int)<R):=by omega
 have a3:¬((C:Int)<2):=by omega
 have a4:¬((1000:Int)<C):=by omega
 simp (maxSteps:=1000000) [go_sem,Tryz.f15,a1,a2,a3,a4]
 refine qM (fun r:Nat=>r≤R) (fun r=>zeN R C r) (fun r=>R-r) 0 (by simp) (by simp[go_sem,LeS,leV,leR,leA,zeN,yX,xI]) ?_
 intro r hr
 by_cases hrR:r<R
 ·have wr:IntKind.i64.wrap ((r:Int)+1)=((r+1:Nat):Int):=wrap64 (by omega) (by omega)
  cases r with
  |zero=>
   simp (maxSteps:=1000000) [go_sem,zeN,yX,xI,hrR]
   refine qM (fun c:Nat=>c≤C) (fun c=>W6 R C 0 c) (fun c=>C-c) 0 (by simp) (by simp[go_sem,LeS,leV,leR,leA,leL,W6,yX,xI,UB,K0]) ?_
   intro c hc
   by_cases hcC:c<C
   ·have wc:IntKind.i64.wrap ((c:Int)+1)=((c+1:Nat):Int):=wrap64 (by omega) (by omega)
    cases c with
    |zero=>
     simp (maxSteps:=1000000) [go_sem,W6,yX,xI,UB,hcC]
     refine zq jH ?_
     simp (maxSteps:=1000000) [go_sem,clP,blk,jt]
     refine zi 1 hcC (by simp[go_sem,LeS,leV,leR,leA,leL,zj,K0,K5,w11]) (by omega)
    |succ c=>
     have hcC':(c:Int)+1<C:=by omega
     have wc':IntKind.i64.wrap ((c:Int)+1+1)=((c+1+1:Nat):Int):=by rw[←wc];simp
     simp (maxSteps:=1000000) [go_sem,W6,yX,xI,UB,hcC']
     refine zq jH ?_
     simp (maxSteps:=1000000) [go_sem,clP,blk,jt,ziS,wc']
     refine⟨by omega,?_⟩
     refine zi (c+1+1) (by omega) (by simp[go_sem,LeS,leV,leR,leA,leL,zj,jt,K5]) (by omega)
   ·obtain rfl:c=C:=by omega
    obtain⟨k,rfl⟩:∃k,c=k+1:=⟨c-1,by omega⟩
    simp (maxSteps:=1000000) [go_sem,W6,yX,xI,UB]
    rw[w11]
    refine Kj 1 [([100,0],[36]),([40],[40])] hrR (by simp[go_sem,LeS,leV,leR,leA,zj,jt,zbq,laF,laK,fam,ZN]) (by omega)
  |succ r=>
   have hrR':(r:Int)+1<R:=by omega
   simp (maxSteps:=1000000) [go_sem,zeN,yX,xI,hrR']
   refine qM (fun c:Nat=>c≤C) (fun c=>W6 R C (r+1) c) (fun c=>C-c) 0 (by simp) (by simp[go_sem,LeS,leV,leR,leA,leL,zj,W6,yX,xI,UB,jt,K0]) ?_
   intro c hc
   by_cases hcC:c<C
   ·have wc:IntKind.i64.wrap ((c:Int)+1)=((c+1:Nat):Int):=wrap64 (by omega) (by omega)
    cases c with
    |zero=>
     simp (maxSteps:=1000000) [go_sem,W6,yX,xI,UB,hcC]
     refine zq jH ?_
     simp (maxSteps:=1000000) [go_sem,clP,blk,jt]
     refine zi 1 hcC (by simp[go_sem,LeS,leV,leR,leA,leL,zj,jt,K0,K5,w11]) (by omega)
    |succ c=>
     have hcC':(c:Int)+1<C:=by omega
     have wc':IntKind.i64.wrap ((c:Int)+1+1)=((c+1+1:Nat):Int):=by rw[←wc];simp
     simp (maxSteps:=1000000) [go_sem,W6,yX,xI,UB,hcC']
     refine zq jH ?_
     simp (maxSteps:=1000000) [go_sem,clP,blk,jt,ziS,wc']
     refine⟨by omega,?_⟩
     refine zi (c+1+1) (by omega) (by simp[go_sem,LeS,leV,leR,leA,leL,zj,jt,K5]) (by omega)
   ·obtain rfl:c=C:=by omega
    obtain⟨k,rfl⟩:∃k,c=k+1:=⟨c-1,by omega⟩
    simp (maxSteps:=1000000) [go_sem,W6,yX,xI,UB]
    rw[show IntKind.i64.wrap ((r:Int)+1+1)=((r+1+1:Nat):Int) by rw[←wr];simp]
    refine⟨by omega,?_⟩
    rw[Vn fun i _=>by simp[QA]]
    refine Kj (r+1+1) (([100,r+1],[36])::([40],[40])::wS 100 100 (r+1)) hrR ⟨⟨by simp[go_sem],by simp⟩,?_⟩ (by omega)
    have e1:∀(S:St) m0,S.rs=([36],bl (k+1))::([39],[AV.la [36] 2 0 (k+1)])::([40],laF 100 2 (k+1) (r+1)++[AV.la [36] 2 0 (k+1)])::(fam 100 (r+1) fun _=>bl (k+1))→qW S m0 (wS 100 100 (r+1))=fam 100 (r+1) fun i=>(bl (k+1)).map (AV.ren (inM m0)):=
     fun S m0 e=>uc fun i hi=>by rw[e];simp[go_sem,hi]
    simp[go_sem,LeS,leV,leR,leA,jt,zbq,e1]
    rw[Vn fun i hi=>by simp[go_sem];omega,←zku]
    refine⟨zj _,zcO fun i hi=>?_⟩
    by_cases q:i=r+1
    ·subst q;simp[go_sem]
    ·simp[go_sem,show ¬r+1=i from fun e=>q e.symm,show i<r+1 by omega]
 ·obtain rfl:r=R:=by omega
  obtain⟨k,rfl⟩:∃k,r=k+1:=⟨r-1,by omega⟩
  simp (maxSteps:=1000000) [go_sem,zeN,yX,xI]
  refine zA ([40]::J3 100 (k+1)) (.la [40] 1 0 (k+1)) (by simp) (by simp[go_sem,zf,leA,leT]) ⟨rfl,?_⟩
  simp[go_sem,jt]
theorem zgB(R C:Nat)(hR:1≤R∧R≤500)(hC:2≤C∧C≤1000):CR Tryz.prog 15 [] [.p (.int .i64 R),.p (.int .i64 C)] []
  (fun x rs'=>x=.la [0] 1 0 R∧rs'=gx R C fun _=>List.replicate C blk):=by
 refine(zmh R C hR hC).ren 1000 ?_
 rintro x rs' ⟨rfl,rfl⟩
 obtain⟨k,rfl⟩:∃k,R=k+1:=⟨R-1,by omega⟩
 refine⟨([0],[40])::wS 1 100 (k+1),by simp[go_sem],rfl,by simp[go_sem],?_⟩
 simp only[qW,yX,St.ofR,zn,if_true]
 rw[uc (f:=fun _=>bl C) (fun i hi=>by simp[go_sem,hi])]
 simp[go_sem,gx]
 exact⟨zbc fun i hi=>by simp[go_sem,hi],rfl⟩
end
section
open Go.AM
theorem zen [Gi](l:zt)(n:Nat)(hn:l.length=n)(hl:n≤1000000):CR Tryz.prog 173 [] [.p (qe l)] [] (is (.p (.int .i64 (dL l n)))):=by
 refine zK [4] mixed 4 [8,16] Tryz.func173 rfl (by kernel_rfl) rfl (by simp) (by simp) ?_
 have e0:IntKind.i64.wrap ((n:Int)-1)=(n:Int)-1:=wrap64 (by omega) (by omega)
 simp (maxSteps:=1000000) [go_sem,Tryz.f173,hn,e0]
 refine qM (fun i:Nat=>i≤n∧dL l i=dL l n) (fun i=>{n:=19,nv:=4,ex:=[8,16],vs:=[(0,.p (qe l)),(2,.p (.int .i64 0)),(3,.p (.int .i64 ((i:Int)-1)))],ts:=[],rs:=[]}) (fun i=>i) n ⟨Nat.le_refl _,rfl⟩ (by simp[go_sem,LeS,leV,leR,leA]) ?_
 rintro i ⟨hi,he⟩
 simp (maxSteps:=1000000) [go_sem]
 refine zh (fun h=>?_) (fun h=>?_)
 ·obtain⟨k,rfl⟩:∃k,i=k+1:=⟨i-1,by omega⟩
  have hk:k<l.length:=by omega
  have ea:=Z7 hk
  have e1:((k+1:Nat):Int)-1=k:=by omega
  have e2:IntKind.i64.wrap ((k:Int)-1)=(k:Int)-1:=wrap64 (by omega) (by omega)
  have e3:IntKind.i64.wrap ((k:Int)+1)=(k:Int)+1:=wrap64 (by omega) (by omega)
  have eL:dL l (k+1)=if l[k]≠blk then(k:Int)+1 else dL l k:=by rw[dL,qp hk]
  simp only[e1]
  simp (maxSteps:=1000000) (disch:=omega) [go_sem,ea,hk]
  refine qm (.p (clP blk)) rfl rfl (fun _=>qk 63 jH rfl ⟨rfl,by simp[Tryz.f63]⟩ ⟨by simp[go_sem],by simp[go_sem]⟩) ?_
  simp (maxSteps:=1000000) [go_sem,clP,blk]
  refine zN (fun h3=>?_) (fun h3=>?_)
  ·have hc:l[k]≠blk:=fun e=>by
    rw[e]at h3;simp[blk]at h3
   rw[if_pos hc]at eL
   simp (maxSteps:=1000000) [go_sem,e3]
   exact zg (.p (.int .i64 (dL l n))) rfl (by simp[go_sem,zf,leA,←he,eL]) ⟨rfl,rfl⟩
  ·have hc:l[k]=blk:=by
    rw[←YB];simpa[blk]using h3
   rw[if_neg (by simp[hc])]at eL
   simp (maxSteps:=1000000) [go_sem,e2]
   exact zi k ⟨by omega,by rw[←eL,he]⟩ (by simp[go_sem,LeS,leV,leR,leA]) (by omega)
 ·obtain rfl:i=0:=by omega
  simp (maxSteps:=1000000) [go_sem]
  exact zg (.p (.int .i64 (dL l n))) rfl (by simp[go_sem,zf,leA,←he,dL]) ⟨rfl,rfl⟩
theorem KR {a b:zt} {k:Nat}(h:0≤dF a b k):∀j,dF a b (k+j)=dF a b k
 |0=>rfl
 |j+1=>by rw[←Nat.add_assoc,dF,KR h j,if_neg (by omega)]
theorem zdV [Gi](a b:zt)(n:Nat)(h1:a.length=n)(h2:b.length=n)(hb:n≤1000000):CR Tryz.prog 80 [] [.p (qe a),.p (qe b)] [] (is (.p (.bool (decide (dF a b n<0))))):=by
 refine zx mixed 6 [10,14,25] Tryz.func80 rfl (by kernel_rfl) rfl (by simp) (by simp) ?_
 simp (maxSteps:=1000000) [go_sem,Tryz.f80,h1,h2]
 refine qM (fun i:Nat=>i≤n∧dF a b i<0) (fun i=>{n:=26,nv:=6,ex:=[10,14,25],vs:=[(0,.p (qe a)),(1,.p (qe b)),(4,.p (.bool false)),(5,.p (.int .i64 i))],ts:=[],rs:=[]}) (fun i=>n-i) 0 ⟨Nat.zero_le _,by rw[dF];decide⟩ (by simp[go_sem,LeS,leV,leR,leA]) ?_
 rintro i ⟨hi,he⟩
 simp (maxSteps:=1000000) [go_sem,h1]
 refine zh (fun h=>?_) (fun h=>?_)
 ·have hi1:i<a.length:=by omega
  have hi2:i<b.length:=by omega
  have ea:=Z7 hi1
  have eb:=Z7 hi2
  have eF:dF a b (i+1)=if dF a b i<0∧a[i]≠b[i]then(i:Int)else dF a b i:=by rw[dF,qp hi1,qp hi2]
  have e3:IntKind.i64.wrap ((i:Int)+1)=(i:Int)+1:=wrap64 (by omega) (by omega)
  simp (maxSteps:=1000000) (disch:=omega) [go_sem,ea,eb,h1,h2,h]
  refine zN (fun h3=>?_) (fun h3=>?_)
  ·have hc:dF a b i<0∧a[i]≠b[i]:=by
    refine⟨he,fun e=>?_⟩
    rw[e]at h3;simp at h3
   rw[if_pos hc]at eF
   have e4:¬dF a b n<0:=by
    have:=KR (a:=a) (b:=b) (k:=i+1) (by omega) (n- (i+1))
    rw[show i+1+(n- (i+1))=n from by omega]at this
    omega
   simp (maxSteps:=1000000) [go_sem]
   exact zg (.p (.bool false)) rfl (by simp[go_sem,zf,leA]) ⟨rfl,by simp[e4]⟩
  ·have hc:¬(dF a b i<0∧a[i]≠b[i]):=by
    rintro⟨h4,h5⟩
    apply h5
    rw[←YB]
    simpa[h4]using h3
   rw[if_neg hc]at eF
   simp (maxSteps:=1000000) [go_sem,e3]
   exact zi (i+1) ⟨by omega,by omega⟩ (by simp[go_sem,LeS,leV,leR,leA]) (by omega)
 ·obtain rfl:i=n:=by omega
  simp (maxSteps:=1000000) [go_sem]
  exact zg (.p (.bool true)) rfl (by simp[go_sem,zf,leA]) ⟨rfl,by simp[he]⟩
theorem zno {a b:zt} {j:Nat}(h:dF a b j<0):∀m,dF a b (j+m)<0∨(j:Int)≤dF a b (j+m)
 |0=>.inl h
 |m+1=>by
  rw[←Nat.add_assoc,dF]
  rcases zno h m with ih|ih
  ·split
   ·right;omega
   ·exact .inl ih
  ·rw[if_neg (by omega)];exact .inr ih
theorem zmR {a b:zt} {n k:Nat} {F:Nat}(hF:dF a b n=F)(hk:k≤F)(hn:F<n):dF a b k<0:=by
 by_cases h:dF a b k<0
 ·exact h
 ·have:=KR (a:=a) (b:=b) (k:=k) (by omega) (n-k)
  rw[show k+(n-k)=n from by omega,hF]at this
  have b1:=XI a b k
  omega
theorem zlE [Gi](r:Int)(n:Nat)(a b:zt)(h1:a.length=n)(h2:b.length=n)(hb:n≤1000)(hd:0≤dF a b n)(ht:∀c∈b,c.t.length≤140737488355328):
  CR Tryz.prog 124 [] [.p (.int .i64 r),.p (qe a),.p (qe b)] [] (is (.p (yC r a b n))):=by
 have b1:=XI a b n
 have b2:=zga b n
 have lb:=zen b n h2 (by omega)
 have la:=zen a n h1 (by omega)
 obtain⟨F,hF⟩:∃F:Nat,dF a b n=F:=⟨(dF a b n).toNat,by omega⟩
 obtain⟨T,hT⟩:∃T:Nat,max (dL b n) (dF a b n)=T:=⟨(max (dL b n) (dF a b n)).toNat,by omega⟩
 have hFT:F≤T∧T≤n∧F<n:=by omega
 have hdr:yC r a b n=.agg [.int .i64 r,.int .i64 F,.int .i64 T,.str (dT b F (T-F)),.bool (decide ((T:Int)<dL a n))]:=by
  have e1:((T:Int)- (F:Int)).toNat=T-F:=by omega
  rw[yC,if_neg (by omega),hT,hF,e1];rfl
 rw[hdr]
 rw[hF]at hT
 refine zK [11] mixed 9 [21,33,42] Tryz.func124 rfl (by kernel_rfl) rfl (by simp) (by simp) ?_
 simp (maxSteps:=1000000) [go_sem,Tryz.f124]
 refine qM (fun k:Nat=>k≤F) (fun k=>{n:=61,nv:=9,ex:=[21,33,42],vs:=[(1,.p (qe a)),(2,.p (qe b)),(6,.lp [6] 0),(7,.lp [7] 0)],ts:=[],rs:=[([6],[.p (.int .i64 0),.p (.int .i64 0),.p (.int .i64 0),.p (.str []),.p (.bool false)]),([7],[.p (.int .i64 r),.p (.int .i64 k),.p (.int .i64 0),.p (.str []),.p (.bool false)])]}) (fun k=>F-k) 0 (Nat.zero_le _) (by simp[go_sem,LeS,leV,leR,leA,leL]) ?_
 intro k hk
 have hk1:k<a.length:=by omega
 have hk2:k<b.length:=by omega
 have hkn:k<n:=by omega
 have ea:=Z7 hk1
 have eb:=Z7 hk2
 have eF:dF a b (k+1)=if dF a b k<0∧a[k]≠b[k]then(k:Int)else dF a b k:=by rw[dF,qp hk1,qp hk2]
 have hneg:=zmR hF hk hFT.2.2
 have e3:IntKind.i64.wrap ((k:Int)+1)=(k:Int)+1:=wrap64 (by omega) (by omega)
 simp (maxSteps:=1000000) (disch:=omega) [go_sem,ea,eb,h1,h2,hkn]
 refine zN (fun h3=>?_) (fun h3=>?_)
 ·have hc:a[k]=b[k]:=by
   rw[←YB];simpa using h3
  rw[if_neg (fun h=>h.2 hc)]at eF
  have hkF:k<F:=by
   rcases Nat.lt_or_ge k F with h|h
   ·exact h
   ·have e:k=F:=by omega
    subst e
    have:=zno (a:=a) (b:=b) (j:=k+1) (by rw[eF];exact hneg) (n- (k+1))
    rw[show k+1+(n- (k+1))=n from by omega,hF]at this
    omega
  simp (maxSteps:=1000000) [go_sem,e3]
  exact zi (k+1) (by omega) (by simp[go_sem,LeS,leV,leR,leA,leL]) (by omega)
 ·have hc:a[k]≠b[k]:=fun e=>by
   rw[e]at h3;simp at h3
  rw[if_pos ⟨hneg,hc⟩]at eF
  have hkF:k=F:=by
   have:=KR (a:=a) (b:=b) (k:=k+1) (by omega) (n- (k+1))
   rw[show k+1+(n- (k+1))=n from by omega]at this
   omega
  subst hkF
  simp (maxSteps:=1000000) [go_sem]
  refine⟨⟨rfl,by simp[Tryz.f173]⟩,zd [] lb (by simp[go_sem]) ⟨by simp[go_sem],by simp[go_sem]⟩ (by simp[go_sem]) ?_⟩
  rintro y rs ⟨rfl,rfl⟩
  simp (maxSteps:=1000000) [go_sem]
  refine yP (ι:=AV×AV×List (Nat×AV)) (fun i=>{n:=61,nv:=9,ex:=[21,33,42],vs:=[(1,.p (.sl 2 (a.map clP))),(2,.p (.sl 2 (b.map clP))),(6,.lp [6] 0),(7,.lp [7] 0),(21,i.1),(33,i.2.1)],ts:=i.2.2,rs:=[([6],[.p (.int .i64 0),.p (.int .i64 0),.p (.int .i64 0),.p (.str []),.p (.bool false)]),([7],[.p (.int .i64 r),.p (.int .i64 k),.p (.int .i64 T),.p (.str []),.p (.bool false)])]}) (zh (fun h5=>?_) (fun h5=>?_)) ?_
  ·have hTk:(T:Int)=k:=by omega
   simp (maxSteps:=1000000) [go_sem]
   exact Q5 (_,_,_) (by rw[hTk])
  ·have hTk:(T:Int)=dL b n:=by omega
   simp (maxSteps:=1000000) [go_sem]
   exact Q5 (_,_,_) (by rw[hTk])
  ·rintro⟨v1,v2,ts⟩
   simp (maxSteps:=1000000) [go_sem]
   clear hdr eF hneg h3 hc
   refine qM (fun j:Nat=>k+j≤T) (fun j=>{n:=61,nv:=9,ex:=[42],vs:=[(1,.p (qe a)),(2,.p (qe b)),(6,.lp [6] 0),(7,.lp [7] 0),(8,.p (.int .i64 (k+j:Nat)))],ts:=[],rs:=[([6],[.p (.int .i64 0),.p (.int .i64 0),.p (.int .i64 0),.p (.str []),.p (.bool false)]),([7],[.p (.int .i64 r),.p (.int .i64 k),.p (.int .i64 T),.p (.str (dT b k j)),.p (.bool false)])]}) (fun j=>T- (k+j)) 0 (by simp;omega) (by simp[go_sem,LeS,leV,leR,leA,leL,dT]) ?_
   intro j hj
   have ec:((k+j:Nat):Int)=(k:Int)+j:=by omega
   simp (maxSteps:=1000000) [go_sem]
   refine zh (fun h3=>?_) (fun h3=>?_)
   ·have hj2:k+j<b.length:=by omega
    have eb2:=Z7 hj2
    have eT:dT b k (j+1)=dT b k j++b[k+j].t:=by rw[dT,qp hj2]
    have e2:((k:Int)+(j:Int)).toNat=k+j:=by omega
    have hj3:(k:Int)+j<n:=by omega
    have hj4:(0:Int)≤(k:Int)+j:=by omega
    have e5:IntKind.i64.wrap ((k:Int)+j+1)=(k:Int)+j+1:=wrap64 (by omega) (by omega)
    have hkk:=zjA ht k j
    have hk3:=ht b[k+j] (List.getElem_mem hj2)
    simp (maxSteps:=1000000) (disch:=omega) [go_sem,e5,eb2,h2,e2,hj3,hj4]
    have e6:(k:Int)+((j:Int)+1)=(k:Int)+j+1:=by omega
    refine⟨by omega,zi (j+1) (by omega) (by simp[go_sem,LeS,leV,leR,leA,leL,eT,e6]) (by omega)⟩
   ·obtain rfl:j=T-k:=by omega
    simp (maxSteps:=1000000) [go_sem]
    refine qm (.p (.int .i64 (dL a n))) rfl rfl (fun _=>qk 173 la rfl ⟨rfl,by simp[Tryz.f173]⟩ ⟨by simp[go_sem],by simp[go_sem]⟩) ?_
    simp (maxSteps:=1000000) [go_sem]
    exact zg (.p (.agg [.int .i64 r,.int .i64 k,.int .i64 T,.str (dT b k (T-k)),.bool (decide ((T:Int)<dL a n))])) rfl (by simp[go_sem,zf,leA]) ⟨rfl,rfl⟩
def xRs(C:Nat)(X Y:List zt):Nat→List PV
 |0=>[]
 |k+1=>if 0≤dF (X.getD k []) (Y.getD k []) C then xRs C X Y k++[yC k (X.getD k []) (Y.getD k []) C]else xRs C X Y k
theorem zmx(C:Nat)(X Y:List zt)(k:Nat):(xRs C X Y k).length≤k:=by
 induction k with
 |zero=>simp[xRs]
 |succ k ih=>
  rw[xRs]
  split
  ·simp;omega
  ·omega
theorem zju [Gi](R C:Nat)(X Y:List zt)(hR:0<R∧R≤500)(hC:0<C∧C≤1000)(hX:X.length=R)(hY:Y.length=R)(hXC:∀a∈X,a.length=C)(hYC:∀b∈Y,b.length=C)
  (ht:∀b∈Y,∀c∈b,c.t.length≤140737488355328):CR Tryz.prog 71 [] [.p (.sl 1 (X.map qe)),.p (.sl 1 (Y.map qe))] [] (is (.p (.sl 5 (xRs C X Y R)))):=by
 refine zK [8] mixed 7 [27,31,43] Tryz.func71 rfl (by kernel_rfl) rfl (by simp) (by simp) ?_
 have hx0:X[0].length=C:=hXC _ (List.getElem_mem _)
 have hy0:Y[0].length=C:=hYC _ (List.getElem_mem _)
 have q0:0<X.length:=by omega
 have q1:0<Y.length:=by omega
 simp (maxSteps:=1000000) (disch:=omega) [go_sem,Tryz.f71,zp,hX,hY,hx0,hy0,hR]
 refine qM (fun k:Nat=>k≤R) (fun k=>{n:=58,nv:=7,ex:=[27,31,43],vs:=[(0,.p (.sl 1 (X.map qe))),(1,.p (.sl 1 (Y.map qe))),(5,.os [5] 5 (xRs C X Y k)),(6,.p (.int .i64 k))],ts:=[],rs:=[]}) (fun k=>R-k) 0 (by simp) (by simp[go_sem,LeS,leV,leR,leA,xRs]) ?_
 intro k hk
 simp (maxSteps:=1000000) [go_sem,hX]
 refine zh (fun h=>?_) (fun h=>?_)
 ·have k1:k<X.length:=by omega
  have k2:k<Y.length:=by omega
  have xl:X[k].length=C:=hXC _ (List.getElem_mem _)
  have yl:Y[k].length=C:=hYC _ (List.getElem_mem _)
  have hs:=zdV X[k] Y[k] C xl yl (by omega)
  have ho:=zlE k C X[k] Y[k] xl yl (by omega)
  have hty:=ht Y[k] (List.getElem_mem _)
  have eR:xRs C X Y (k+1)=if 0≤dF X[k] Y[k] C then xRs C X Y k++[yC k X[k] Y[k] C]else xRs C X Y k:=by
   rw[xRs,List.getD_eq_getElem?_getD,List.getD_eq_getElem?_getD,List.getElem?_eq_getElem k1,List.getElem?_eq_getElem k2];rfl
  have xlen:=zmx C X Y k
  have e3:IntKind.i64.wrap ((k:Int)+1)=(k:Int)+1:=wrap64 (by omega) (by omega)
  have m1:=zp qe X k k1
  have m2:=zp qe Y k k2
  have y1:k<Y.length:=k2
  generalize X[k]=a at*
  generalize Y[k]=b at*
  simp (maxSteps:=1000000) (disch:=omega) [go_sem,m1,m2,hX,hY,h]
  refine⟨⟨rfl,by simp[Tryz.f80]⟩,zd [] hs (by simp[go_sem]) ⟨by simp[go_sem],by simp[go_sem]⟩ (by simp[go_sem]) ?_⟩
  rintro y rs ⟨rfl,rfl⟩
  simp (maxSteps:=1000000) [go_sem]
  refine jy (fun h3=>?_) (fun h3=>?_)
  ·have ho:=ho (by omega) hty
   rw[if_pos (by omega)]at eR
   have hd2:∃f t s e,yC k a b C=.agg [.int .i64 k,.int .i64 f,.int .i64 t,.str s,.bool e]:=⟨_,_,_,_,by rw[yC,if_neg (by omega)]⟩
   obtain⟨f,t,s,e,hd2⟩:=hd2
   simp (maxSteps:=1000000) (disch:=omega) [go_sem,m1,m2,hX,hY,h]
   refine qm (.p (yC k a b C)) rfl rfl (fun _=>qk 124 ho rfl ⟨rfl,by simp[Tryz.f124]⟩ ⟨by simp[go_sem],by simp[go_sem]⟩) ?_
   rw[hd2]at eR⊢
   simp (maxSteps:=1000000) [go_sem,e3]
   refine⟨by omega,zi (k+1) (by omega) (by simp[go_sem,LeS,leV,leR,leA,eR]) (by omega)⟩
  ·rw[if_neg (by omega)]at eR
   simp (maxSteps:=1000000) [go_sem,e3]
   exact zi (k+1) (by omega) (by simp[go_sem,LeS,leV,leR,leA,eR]) (by omega)
 ·obtain rfl:k=R:=by omega
  simp (maxSteps:=1000000) [go_sem]
  exact zg (.p (.sl 5 (xRs C X Y k))) rfl (by simp[go_sem,zf,leA]) ⟨rfl,rfl⟩
end
section
open Go.AM
attribute [local go_sem] qK zJ zbq jt wA zfT
def gz(R C:Nat)(G:Nat→zt):List (Tok×List AV):=gy 0 1 R C fun i=>cw (G i)
def vU(G:Nat→zt)(k:Nat)(l:zt):Nat→zt:=fun i=>if i=k then l else G i
theorem ky(G:Nat→zt)(k:Nat)(l:zt):vU G k l k=l:=if_pos rfl
theorem jG(G:Nat→zt)(k:Nat)(l m:zt):vU (vU G k l) k m=vU G k m:=by
 funext i;unfold vU;by_cases h:i=k<;>simp[h]
theorem zas(G:Nat→zt)(k:Nat):vU G k (G k)=G:=by
 funext i;unfold vU;by_cases h:i=k<;>simp[h]
theorem xq(G:Nat→zt)(k:Nat)(l:zt):Uv (fun i=>cw (G i)) k (cw l)=fun i=>cw (vU G k l i):=by
 funext i;unfold Uv vU;by_cases h:i=k<;>simp[h]
theorem WC [Gi](R C:Nat)(G:Nat→zt)(k0:Nat)(hk0:k0<R)(l:zt)(hC:C=l.length)(c:Nat)(hc:c<l.length)(hl:l.length≤1000)(ho:OkR l):CR Tryz.prog 183 (gT R) [.la [1,k0] 2 0 l.length,.p (.int .i64 c)] (gz R C (vU G k0 l)) (fun x rs'=>x=.tup []∧rs'=gz R C (vU G k0 (qH l c))):=by
 refine zx mixed 2 [] Tryz.func183 rfl (by kernel_rfl) rfl (by simp) (by simp) ?_
 simp (maxSteps:=1000000) (disch:=omega) [go_sem,Tryz.f183,gz,ky,zfF hc]
 refine⟨hc,?_⟩
 refine yP (ι:=List (Nat×AV)) (fun ts=>{n:=30,nv:=2,vs:=[(0,.la [1,k0] 2 0 l.length),(1,.p (.int .i64 c))],ts:=ts,rs:=gz R C (vU G k0 (Qz l c)),pin:=gT R}) (zh (fun h=>?_) (fun h=>?_)) ?_
 ·have h0:=(ho c l[c] (List.getElem?_eq_getElem hc)).1 h
  obtain⟨k,rfl⟩:∃k,c=k+1:=⟨c-1,by omega⟩
  have hk:k<l.length:=by omega
  have ea:Qz l (k+1)=l.set k blk:=by rw[Qz,qp hc,if_pos h];rfl
  have ew:=kh (l:=l) (c:=k) [32] 1 hk
  rw[ea]
  simp (maxSteps:=1000000) (disch:=omega) [go_sem,gz,wrap64]
  refine⟨⟨rfl,by simp[Tryz.f63]⟩,zd [] jH (by simp[go_sem]) ⟨by simp[go_sem],by simp[go_sem]⟩ (by simp[go_sem]) ?_⟩
  rintro y rs ⟨rfl,rfl⟩
  simp (maxSteps:=1000000) (disch:=omega) [go_sem,ky,clP,blk,jo,zJ]
  exact⟨hk,by omega,Q5 _ (by rw[ew,xq,jG])⟩
 ·have ea:Qz l c=l:=by rw[Qz,qp hc,if_neg h]
  rw[ea]
  simp (maxSteps:=1000000) (disch:=omega) [go_sem]
  exact Q5 _ rfl
 ·intro ts
  have hc1:c< (Qz l c).length:=by rw[WL];exact hc
  have ho1:=ho.Qz c
  have hl1:=WL l c
  have er:qH l c=(Q3 (Qz l c) c).set c blk:=rfl
  rw[er]
  generalize Qz l c=l1 at hc1 ho1 hl1⊢
  simp (maxSteps:=1000000) (disch:=omega) [go_sem,gz,ky,zfF hc1]
  refine⟨hc,?_⟩
  refine yP (ι:=List (Nat×AV)) (fun ts=>{n:=30,nv:=2,vs:=[(0,.la [1,k0] 2 0 l.length),(1,.p (.int .i64 c))],ts:=ts,rs:=gz R C (vU G k0 (Q3 l1 c)),pin:=gT R}) (zh (fun h=>?_) (fun h=>?_)) ?_
  ·have h0:=(ho1 c l1[c] (List.getElem?_eq_getElem hc1)).2 h
   have ea:Q3 l1 c=l1.set (c+1) blk:=by rw[Q3,qp hc1,if_pos h]
   have ew:=kh (l:=l1) (c:=c+1) [32] 1 h0
   rw[ea]
   simp (maxSteps:=1000000) (disch:=omega) [go_sem,gz,wrap64]
   refine⟨⟨rfl,by simp[Tryz.f63]⟩,zd [] jH (by simp[go_sem]) ⟨by simp[go_sem],by simp[go_sem]⟩ (by simp[go_sem]) ?_⟩
   rintro y rs ⟨rfl,rfl⟩
   simp (maxSteps:=1000000) (disch:=omega) [go_sem,ky,clP,blk,jo,zJ]
   exact⟨by omega,by omega,Q5 _ (by rw[ew,xq,jG])⟩
  ·have ea:Q3 l1 c=l1:=by rw[Q3,qp hc1,if_neg h]
   rw[ea]
   simp (maxSteps:=1000000) (disch:=omega) [go_sem]
   exact Q5 _ rfl
  ·intro ts
   have hc2:c< (Q3 l1 c).length:=by rw[Wl];exact hc1
   have hl2:=Wl l1 c
   generalize Q3 l1 c=l2 at hc2 hl2⊢
   have ew:=kh (l:=l2) (c:=c) [32] 1 hc2
   simp (maxSteps:=1000000) (disch:=omega) [go_sem]
   refine⟨⟨rfl,by simp[Tryz.f63]⟩,zd [] jH (by simp[go_sem]) ⟨by simp[go_sem],by simp[go_sem]⟩ (by simp[go_sem]) ?_⟩
   rintro y rs ⟨rfl,rfl⟩
   simp (maxSteps:=1000000) (disch:=omega) [go_sem,gz,ky,clP,blk,jo,zJ]
   refine⟨hc,by omega,?_⟩
   rw[ew,xq,jG]
   refine xA (rest:=[]) _ rfl (by simp) (by simp) (fun i rt tt=>zJ rt tt _) (by simp[go_sem,zf,leT,leP])
theorem YF [Gi](R C:Nat)(G:Nat→zt)(r c:Int):CR Tryz.prog 182 (gT R) [.la [0] 1 0 R,.p (.int .i64 r),.p (.int .i64 c)] (gz R C G) (fun x rs=>x=.p (.bool (inB R C r c))∧rs=gz R C G):=by
 refine walk Tryz.func182 7 [] [] [] ?_
 unfold inB gz
 by_cases h0:0≤r
 ·by_cases h1:r< (R:Int)
  ·obtain⟨k,rfl⟩:∃k:Nat,r=k:=⟨r.toNat,by omega⟩
   have hk:k<R:=by omega
   have la:(laF 1 2 C R)[k]?=some (.la [1,k] 2 0 C):=by simp[VS,hk]
   by_cases h2:0≤c<;>by_cases h3:c< (C:Int)<;>
   ·simp (maxSteps:=1000000) [go_sem,Tryz.f182,h0,hk,h1,h2,h3]
    refine xA (rest:=[]) _ rfl (by simp) (by simp) (fun i rt tt=>zJ rt tt _) (by simp[go_sem,zf,leA,leT])
  ·have hn:(laF 1 2 C R)[r.toNat]?=none:=List.getElem?_eq_none (by simp[zaP];omega)
   by_cases h2:0≤c<;>
   ·simp (maxSteps:=1000000) [go_sem,Tryz.f182,h0,h1,h2]
    refine xA (rest:=[]) _ rfl (by simp) (by simp) (fun i rt tt=>zJ rt tt _) (by simp[go_sem,zf,leA,leT])
 ·have hz:r.toNat=0:=by omega
  have h1:r< (R:Int):=by omega
  by_cases hR:0<R
  ·have la:(laF 1 2 C R)[0]?=some (.la [1,0] 2 0 C):=by simp[VS,hR]
   by_cases h2:0≤c<;>
   ·simp (maxSteps:=1000000) [go_sem,Tryz.f182,h0,h1,h2,hz,hR]
    refine xA (rest:=[]) _ rfl (by simp) (by simp) (fun i rt tt=>zJ rt tt _) (by simp[go_sem,zf,leA,leT])
  ·have hn:(laF 1 2 C R)[0]?=none:=List.getElem?_eq_none (by simp[zaP];omega)
   by_cases h2:0≤c<;>
   ·simp (maxSteps:=1000000) [go_sem,Tryz.f182,h0,h1,h2,hz,hn]
    refine xA (rest:=[]) _ rfl (by simp) (by simp) (fun i rt tt=>zJ rt tt _) (by simp[go_sem,zf,leA,leT])
theorem zj5 [Gi](R C:Nat)(G:Nat→zt)(r c:Int)(x:Cl)(hB:KD C R r c x=false)(hC:C≤1000):CR Tryz.prog 129 (gT R) [.la [0] 1 0 R,.p (.int .i64 r),.p (.int .i64 c),.p (clP x)] (gz R C G) (fun v rs=>v=.p (.bool false)∧rs=gz R C G):=by
 have h1:=YF R C G r c
 have h2:=YF R C G r (c+1)
 refine walk Tryz.func129 9 [] [] [] ?_
 simp (maxSteps:=1000000) [go_sem,Tryz.f129,clP,gz]
 refine⟨⟨rfl,by simp[Tryz.f182]⟩,zd (gM 0 1 R) (pin:=gT R) h1 (by simp[go_sem]) ⟨by simp[go_sem],by simp[go_sem]⟩ (by rw[Qe rfl];simp[go_sem,gz]) ?_⟩
 rintro _ _ ⟨rfl,rfl⟩
 by_cases hb:inB R C r c=true
 ·have hbd:=hb
  unfold inB at hbd
  simp at hbd
  have w1:IntKind.i64.wrap (c+1)=c+1:=wrap64 (by omega) (by omega)
  by_cases k1:x.w=1
  ·exfalso
   unfold KD at hB
   simp[k1]at hB
   omega
  ·by_cases k2:x.w=2
   ·have hb2:inB R C r (c+1)=false:=by
     unfold KD at hB
     unfold inB
     simp[k2]at hB⊢
     omega
    rw[hb2]at h2
    simp (maxSteps:=1000000) [go_sem,gz,hb,k2,w1]
    refine⟨⟨rfl,by simp[Tryz.f182]⟩,zd (gM 0 1 R) (pin:=gT R) h2 (by simp[go_sem]) ⟨by simp[go_sem],by simp[go_sem]⟩ (by rw[Qe rfl];simp[go_sem,gz]) ?_⟩
    rintro _ _ ⟨rfl,rfl⟩
    simp (maxSteps:=1000000) [go_sem,gz]
    exact xA (rest:=[([7],[.p (.str x.t),.p (.int .i64 2)])]) _ rfl rfl (by simp[go_sem]) (fun i rt tt=>zJ rt tt _) (by simp[go_sem,zf,leA,leT])
   ·simp (maxSteps:=1000000) [go_sem,gz,hb,k1,k2]
    exact xA (rest:=[([7],[.p (.str x.t),.p (.int .i64 x.w)])]) _ rfl rfl (by simp[go_sem]) (fun i rt tt=>zJ rt tt _) (by simp[go_sem,zf,leA,leT])
 ·have hb':inB R C r c=false:=by simpa using hb
  simp (maxSteps:=1000000) [go_sem,gz,hb']
  exact xA (rest:=[([7],[.p (.str x.t),.p (.int .i64 x.w)])]) _ rfl rfl (by simp[go_sem]) (fun i rt tt=>zJ rt tt _) (by simp[go_sem,zf,leA,leT])
theorem zjX [Gi](R C:Nat)(G:Nat→zt)(k c:Nat)(t:List UInt8)(hk:k<R)(hc:c<C)(hC:C≤1000)(hl:(G k).length=C)(ho:OkR (G k)):CR Tryz.prog 129 (gT R) [.la [0] 1 0 R,.p (.int .i64 k),.p (.int .i64 c),.p (.agg [.str t,.int .i64 1])] (gz R C G) (fun v rs=>v=.p (.bool true)∧rs=gz R C (vU G k (x5 (G k) c ⟨t,1⟩))):=by
 have h1:=YF R C G (k:Int) (c:Int)
 have hb:inB R C (k:Int) (c:Int)=true:=by unfold inB;simp;omega
 rw[hb]at h1
 have h3:=WC R C G k hk (G k) hl.symm c (by omega) (by omega) ho
 rw[zas,hl]at h3
 have la:(laF 1 2 C R)[k]?=some (.la [1,k] 2 0 C):=by simp[VS,hk]
 have lr:(qH (G k) c).length=C:=by rw[jw,hl]
 have ew:=kh (l:=qH (G k) c) (c:=c) t 1 (by omega)
 have ep:x5 (G k) c ⟨t,1⟩=(qH (G k) c).set c ⟨t,1⟩:=by unfold x5;simp
 rw[ep]
 refine walk Tryz.func129 9 [] [] [] ?_
 simp (maxSteps:=1000000) [go_sem,Tryz.f129,gz]
 refine⟨⟨rfl,by simp[Tryz.f182]⟩,zd (gM 0 1 R) (pin:=gT R) h1 (by simp[go_sem]) ⟨by simp[go_sem],by simp[go_sem]⟩ (by rw[Qe rfl];simp[go_sem,gz]) ?_⟩
 rintro _ _ ⟨rfl,rfl⟩
 simp (maxSteps:=1000000) [go_sem,gz,hk]
 refine⟨⟨rfl,by simp[Tryz.f183]⟩,zd (gM 0 1 R) (pin:=gT R) h3 (by simp[go_sem]) ⟨by simp[go_sem],by simp[go_sem,hk]⟩ (by rw[Qe rfl];simp[go_sem,gz]) ?_⟩
 rintro _ _ ⟨rfl,rfl⟩
 generalize qH (G k) c=l2 at lr ew⊢
 simp (maxSteps:=1000000) [go_sem,gz,hk,ky,jo,lr,hc]
 refine⟨by omega,?_⟩
 rw[ew,xq,jG]
 exact xA (rest:=[([7],[.p (.str t),.p (.int .i64 1)])]) _ rfl rfl (by simp[go_sem]) (fun i rt tt=>zJ rt tt _) (by simp[go_sem,zf,leA,leT])
theorem zkE [Gi](R C:Nat)(G:Nat→zt)(k c:Nat)(t:List UInt8)(hk:k<R)(hc:c+1<C)(hC:C≤1000)(hl:(G k).length=C)(ho:OkR (G k)):CR Tryz.prog 129 (gT R) [.la [0] 1 0 R,.p (.int .i64 k),.p (.int .i64 c),.p (.agg [.str t,.int .i64 2])] (gz R C G) (fun v rs=>v=.p (.bool true)∧rs=gz R C (vU G k (x5 (G k) c ⟨t,2⟩))):=by
 have h1:=YF R C G (k:Int) (c:Int)
 have h2:=YF R C G (k:Int) ((c:Int)+1)
 have hb:inB R C (k:Int) (c:Int)=true:=by unfold inB;simp;omega
 have hb2:inB R C (k:Int) ((c:Int)+1)=true:=by unfold inB;simp;omega
 rw[hb]at h1
 rw[hb2]at h2
 have h3:=WC R C G k hk (G k) hl.symm c (by omega) (by omega) ho
 rw[zas,hl]at h3
 have la:(laF 1 2 C R)[k]?=some (.la [1,k] 2 0 C):=by simp[VS,hk]
 have lr:(qH (G k) c).length=C:=by rw[jw,hl]
 have h4:=WC R C G k hk (qH (G k) c) lr.symm (c+1) (by omega) (by omega) (ho.qH c)
 rw[lr]at h4
 have lr2:(qH (qH (G k) c) (c+1)).length=C:=by rw[jw,lr]
 have ew:=kh (l:=qH (qH (G k) c) (c+1)) (c:=c+1) [] 0 (by omega)
 have ew2:=kh (l:=(qH (qH (G k) c) (c+1)).set (c+1) ⟨[],0⟩) (c:=c) t 2 (by rw[List.length_set];omega)
 have ep:x5 (G k) c ⟨t,2⟩=((qH (qH (G k) c) (c+1)).set (c+1) ⟨[],0⟩).set c ⟨t,2⟩:=by unfold x5;simp
 have w1:IntKind.i64.wrap ((c:Int)+1)=(c:Int)+1:=wrap64 (by omega) (by omega)
 rw[ep]
 refine walk Tryz.func129 9 [] [] [] ?_
 simp (maxSteps:=1000000) [go_sem,Tryz.f129,gz]
 refine⟨⟨rfl,by simp[Tryz.f182]⟩,zd (gM 0 1 R) (pin:=gT R) h1 (by simp[go_sem]) ⟨by simp[go_sem],by simp[go_sem]⟩ (by rw[Qe rfl];simp[go_sem,gz]) ?_⟩
 rintro _ _ ⟨rfl,rfl⟩
 simp (maxSteps:=1000000) [go_sem,gz,hk,w1]
 refine⟨⟨rfl,by simp[Tryz.f182]⟩,zd (gM 0 1 R) (pin:=gT R) h2 (by simp[go_sem]) ⟨by simp[go_sem],by simp[go_sem]⟩ (by rw[Qe rfl];simp[go_sem,gz]) ?_⟩
 rintro _ _ ⟨rfl,rfl⟩
 simp (maxSteps:=1000000) [go_sem,gz,hk]
 refine⟨⟨rfl,by simp[Tryz.f183]⟩,zd (gM 0 1 R) (pin:=gT R) h3 (by simp[go_sem]) ⟨by simp[go_sem],by simp[go_sem,hk]⟩ (by rw[Qe rfl];simp[go_sem,gz]) ?_⟩
 rintro _ _ ⟨rfl,rfl⟩
 generalize qH (G k) c=l2 at lr h4 lr2 ew ew2⊢
 simp (maxSteps:=1000000) [go_sem,gz,hk,w1]
 refine⟨⟨rfl,by simp[Tryz.f183]⟩,zd (gM 0 1 R) (pin:=gT R) h4 (by simp[go_sem]) ⟨by simp[go_sem],by simp[go_sem,hk]⟩ (by rw[Qe rfl];simp[go_sem,gz]) ?_⟩
 rintro _ _ ⟨rfl,rfl⟩
 generalize qH l2 (c+1)=l3 at lr2 ew ew2⊢
 simp (maxSteps:=1000000) [go_sem,gz,hk,ky,jo,lr2,w1]
 simp only[ew,xq,jG,ky,ew2,jo,List.length_set,lr2]
 exact⟨by omega,by omega,by omega,by omega,xA (rest:=[([7],[.p (.str t),.p (.int .i64 2)])]) _ rfl rfl (by simp[go_sem]) (fun i rt tt=>zJ rt tt _) (by simp[go_sem,zf,leA,leT])⟩
end
section
open Go.AM
attribute [local irreducible] za
attribute [local go_sem] qK zJ
theorem zmk [Gi](R C:Nat)(G:Nat→zt)(r c:Int)(x:Cl)(hC:C≤1000)(hl:∀i,i<R→(G i).length=C)(ho:∀i,i<R→OkR (G i)):
  CR Tryz.prog 129 (gT R) [.la [0] 1 0 R,.p (.int .i64 r),.p (.int .i64 c),.p (clP x)] (gz R C G) (fun v rs=>v=.p (.bool (KD C R r c x))∧rs=gz R C fun i=>KF C R r c x i (G i)):=by
 cases hB:KD C R r c x with
 |false=>
  refine(zj5 R C G r c x hB hC).mono ?_
  rintro v rs ⟨rfl,rfl⟩
  exact⟨rfl,by unfold KF;simp[hB]⟩
 |true=>
  have hb':((((0≤r∧r<R)∧0≤c)∧c<C)∧(x.w=1∨x.w=2))∧(¬x.w=2∨c+1<C):=by simpa[KD]using hB
  obtain⟨⟨⟨⟨⟨h0,h0'⟩,h1⟩,h2⟩,h3⟩,h4⟩:=hb'
  obtain⟨k,rfl⟩:∃k:Nat,r=k:=⟨r.toNat,by omega⟩
  obtain⟨q,rfl⟩:∃q:Nat,c=q:=⟨c.toNat,by omega⟩
  have hk:k<R:=by omega
  have e:(fun i=>KF C R (k:Int) (q:Int) x i (G i))=vU G k (x5 (G k) q x):=by
   funext i
   unfold KF vU
   rw[if_pos hB]
   by_cases hi:i=k
   ·subst hi;simp
   ·rw[if_neg (by omega),if_neg hi]
  rw[e]
  obtain⟨t,w⟩:=x
  simp only at h3 h4
  rcases h3 with rfl|rfl
  ·exact zjX R C G k q t hk (by omega) hC (hl k hk) (ho k hk)
  ·exact zkE R C G k q t hk (by omega) hC (hl k hk) (ho k hk)
theorem zlP [Gi] {P:Program} {ts:List (Nat×Option TypeId)} {S:St} {R C:Nat} {F:Nat→List AV} {rest:List (Tok×List AV)}(x:AV)(hp:S.pin=[])(hrs:S.rs=gy 0 1 R C F++rest)(hr:∀y∈rest,(gT R).contains y.1=false)
  (hF:∀i (rt tt:Tok→Bool),(F i).map (AV.upd (AM.fil rt tt))=F i) (hx:(zf P S ts).1∧leT ((zf P S ts).2.upd (AM.fil (fun t=>(gT R).contains t) ftt)) x):uT P [] ts (fun y rs=>y=x∧rs=gy 0 1 R C F) S:=by
 refine zA (gT R) x ⟨hp,rfl⟩ hx ⟨rfl,?_⟩
 have e:(S.fil (fun t=>(gT R).contains t) ftt).rs=gy 0 1 R C F++rest.map (fun x=>(x.1,x.2.map (AV.upd (AM.fil (fun t=>(gT R).contains t) ftt)))):=by
  show S.rs.map _=_
  rw[hrs,List.map_append,zbs fun i hi=>zb2 hi]
  simp only[hF]
 rw[e]
 refine zch fun y hy=>?_
 obtain⟨z,hz,rfl⟩:=List.mem_map.1 hy
 exact hr z hz
theorem zbI {k a R C:Nat} {F:Nat→List AV}:leR (gy k a R C F) (gy k a R C F):=zoY zfe fun _ hi=>Jo hi
theorem zmU [Gi](l:List Cl)(R C:Nat)(top:Int)(hR:1≤R∧R≤500)(hC:2≤C∧C≤1000)(hn:l.length≤100000)(hl:∀x∈l,yB x)(ht:0≤top∧top≤1000000):
  CR Tryz.prog 78 [] [.p (qe l),.p (.int .i64 R),.p (.int .i64 C),.p (.int .i64 top)] [] (fun x rs=>x=.la [0] 1 0 R∧rs=gz R C fun r=>wg C R top l r l.length):=by
 refine walk Tryz.func78 12 [] [] [] ?_
 have hR0:0<R:=hR.1
 simp (maxSteps:=1000000) [go_sem,Tryz.f78]
 refine⟨⟨rfl,by simp[Tryz.f15]⟩,zd (gM 0 1 R) (zgB R C hR hC) (by simp[go_sem]) ⟨by simp[go_sem],by simp[go_sem]⟩ (by rw[zfc rfl fun _=>rfl]) ?_⟩
 rintro _ _ ⟨rfl,rfl⟩
 have e0:(gx R C fun _=>List.replicate C blk)=gz R C fun _=>List.replicate C blk:=rfl
 rw[e0]
 simp (maxSteps:=1000000) [go_sem,gz,X1]
 refine zq (zae l C hn hC hl) ?_
 have hs:(Qx C l).length=l.length+1:=by simp[Qx]
 simp (maxSteps:=1000000) [go_sem,jQ]
 refine qM (fun i:Nat=>i≤l.length) (fun i=>{n:=55,nv:=12,vs:=[(0,.p (qe l)),(1,.p (.int .i64 R)),(2,.p (.int .i64 C)),(3,.p (.int .i64 top)),(9,.la [0] 1 0 R),(10,.p (jQ (Qx C l))),(11,.p (.int .i64 i))],ts:=[],rs:=gz R C fun r=>wg C R top l r i}) (fun i=>l.length-i) 0 (Nat.zero_le _) (by simp[go_sem,LeS,leV,leA,wg,gz,jQ,zbI]) ?_
 intro i hi
 by_cases hil:i<l.length
 ·have em:elemAt ((Qx C l).map QC) i=.agg [.int .i64 (qu C l i).1,.int .i64 (qu C l i).2]:=by
   rw[zp QC _ _ (by rw[hs];omega)]
   simp[Qx,QC]
  have bd:=wD (C:=C) (by omega) hl i
  have w1:IntKind.i64.wrap ((i:Int)+1)=((i+1:Nat):Int):=zG (by omega)
  have st:∀r,wg C R top l r (i+1)=if top≤(qu C l i).1 then KF C R ((qu C l i).1-top) (qu C l i).2 (l.getD i blk) r (wg C R top l r i)else wg C R top l r i:=fun r=>rfl
  have gm:=YY hil
  have gd:l.getD i blk=l[i]:=by rw[List.getD_eq_getElem?_getD,List.getElem?_eq_getElem hil];rfl
  rw[gd]at st
  have pc:=zmk R C (fun r=>wg C R top l r i) ((qu C l i).1-top) (qu C l i).2 l[i] hC.2 (fun r _=>Jt C R top l r i) (fun r _=>zgX C R top l r i)
  generalize l[i]=x at gm st pc
  generalize qu C l i=s at bd em st pc⊢
  obtain⟨p,q⟩:=s
  simp only at bd em st pc
  have wt:IntKind.i64.wrap (p-top)=p-top:=wrap64 (by omega) (by omega)
  have hil':(i:Int)<l.length:=by omega
  have hil2:(i:Int)<l.length+1:=by omega
  by_cases k:top≤p
  ·simp only[if_pos k]at st
   simp (maxSteps:=1000000) [go_sem,hil',hil2,hs,em,k,wt,gm,gz,jQ,hR0]
   refine⟨⟨rfl,by simp[Tryz.f129]⟩,zd (gM 0 1 R) (pin:=gT R) pc (by simp[go_sem]) ⟨by simp[go_sem],by simp[go_sem,clP]⟩ (by rw[Qe (rest:=[]) (List.append_nil _).symm];simp[go_sem,gz]) ?_⟩
   rintro _ _ ⟨rfl,rfl⟩
   simp (maxSteps:=1000000) [go_sem,gz,w1]
   refine zi (i+1) hil ?_ (by show l.length- (i+1)<l.length-i;omega)
   simp[go_sem,LeS,leV,leA,st,zbI]
  ·simp only[if_neg k]at st
   simp (maxSteps:=1000000) [go_sem,hil',hil2,hs,em,k,w1,gz,jQ,hR0]
   refine zi (i+1) hil ?_ (by show l.length- (i+1)<l.length-i;omega)
   simp[go_sem,LeS,leV,leA,st,zbI]
 ·obtain rfl:i=l.length:=by omega
  simp (maxSteps:=1000000) [go_sem,gz,hR0]
  exact zlP (rest:=[]) _ rfl (by simp) (by simp) (fun i rt tt=>zJ rt tt _) (by simp[go_sem,zf,leA,leT])
def jA(L:List zt):PV:=.sl 1 (L.map qe)
theorem zhb {a j:Nat}:∀{n k:Nat},j<n→(xO a k n)[j]?=some [a,k+j]:=by
 induction j with
 |zero=>intro n k h;obtain⟨n,rfl⟩:∃q,n=q+1:=⟨n-1,by omega⟩;simp[xO]
 |succ j ih=>
  intro n k h
  obtain⟨n,rfl⟩:∃q,n=q+1:=⟨n-1,by omega⟩
  simp only[xO,List.getElem?_cons_succ]
  rw[ih (by omega),show k+1+j=k+(j+1) by omega]
theorem zaz {a:Nat}:∀{n k:Nat},(xO a k n).length=n
 |0,k=>rfl
 |n+1,k=>by simp only[xO,List.length_cons,zaz]
theorem zde {a z m:Nat}:∀{n k:Nat},laK a z m k n=(xO a k n).map fun t=>.la t z 0 m
 |0,k=>rfl
 |n+1,k=>by simp only[laK,xO,List.map_cons,zde]
theorem ziT [Gi] {R C:Nat}(hR:0<R)(hC:0<C) {G:Nat→zt}(hl:∀i,i<R→(G i).length=C):zb9 (fun _=>false) (gz R C G) (.la [0] 1 0 R) (.p (jA ((List.range R).map G))):=by
 intro g w v hG hv
 have len:(J3 1 R).length=R:=zaz
 have h:=zji (rt:=fun _=>false) hG (t0:=[0]) (z:=2) (n:=C) (ts:=J3 1 R) (X:=(List.range R).map fun i=>(G i).map clP) hC (by rw[len];exact hR) (by
  show some (laF 1 2 C R)=_
  unfold laF;rw[zde];rfl) rfl (by simp[len]) ?_ (v:=v) (by rw[len];exact hv)
 ·rw[vX]
  have e:jA ((List.range R).map G)=.sl 1 (((List.range R).map fun i=>(G i).map clP).map (.sl 2)):=by
   unfold jA qe
   rw[List.map_map,List.map_map];rfl
  rw[e];exact h
 ·intro i t hi
  have hiR:i<R:=by rw[←len];exact(List.getElem?_eq_some_iff.1 hi).1
  have ht:=zhb (a:=1) (k:=0) hiR
  unfold J3 at hi
  rw[hi]at ht
  injection ht with ht
  subst ht
  refine⟨rfl,(G i).map clP,by simp[hiR],by rw[List.length_map];exact hl i hiR,YV _,?_⟩
  rw[Nat.zero_add]
  unfold gz
  rw[Jo hiR,zgT]
theorem zmw [Gi](l:List Cl)(R C:Nat)(top:Int)(hR:1≤R∧R≤500)(hC:2≤C∧C≤1000)(hn:l.length≤100000)(hl:∀x∈l,yB x)(ht:0≤top∧top≤1000000):
  CR Tryz.prog 78 [] [.p (qe l),.p (.int .i64 R),.p (.int .i64 C),.p (.int .i64 top)] [] (is (.p (jA ((List.range R).map fun r=>wg C R top l r l.length)))):=by
 refine(zmU l R C top hR hC hn hl ht).freeze (fun _=>false) rfl ?_
 rintro x rs ⟨rfl,rfl⟩
 exact⟨_,ziT (by omega) (by omega) (fun r _=>Jt C R top l r _),by simp[Yi],rfl⟩
end
end Go.Proofs.YtfjdbbpimklecaaGreatDoor
