/- A part of this seat's proofs, by an abstract machine. Conditions: each law's. -/
import Derived.Test.YtfjdbbpimklecaaGreatDoorT30
import Derived.Test.YtfjdbbpimklecaaGreatDoorT40
import Derived.Test.YtfjdbbpimklecaaGreatDoorT42
import Derived.Test.YtfjdbbpimklecaaGreatDoorT31
set_option maxHeartbeats 4000000
set_option maxRecDepth 100000
namespace Go.Proofs.YtfjdbbpimklecaaGreatDoor
section
open Go.AM
variable [Gi]
theorem jx:CR Tryz.prog 82 [] [] [] (is (.p (clP blk))):=by
 refine zx mixed 1 [] Tryz.func82 rfl (by kernel_rfl) rfl (by simp) (by simp) ?_
 simp (maxSteps:=1000000) (disch:=omega) [go_sem,Tryz.f82]
 exact zg _ rfl (by simp[go_sem,zf,leA,clP,blk]) ⟨rfl,rfl⟩
def gp(R C N:Nat)(l:zt):List (Tok×List AV):=[([0],[.p (.int .i64 R),.p (.int .i64 C),.la [1] 2 0 N]),([1],cw l)]
theorem zlv(R C:Nat)(hR:1≤R∧R≤500)(hC:2≤C∧C≤1000):CR Tryz.prog 23 [] [.p (.int .i64 R),.p (.int .i64 C)] []
  (fun x rs'=>x=.lp [28] 0∧zn rs' [28]=some [.p (.int .i64 R),.p (.int .i64 C),.la [26] 2 0 (R*C)]∧zn rs' [26]=some (cw (List.replicate (R*C) blk))):=by
 refine walk Tryz.func23 7 [33,34] [7] [] ?_
 have a1:¬((R:Int)<1):=by omega
 have a2:¬((500:Int)<R):=by omega
 have a3:¬((C:Int)<2):=by omega
 have a4:¬((1000:Int)<C):=by omega
 obtain⟨N,hN⟩:∃N,N=R*C:=⟨_,rfl⟩
 have hN':(R:Int)*(C:Int)=(N:Int):=by rw[hN];simp
 have hNb:N≤500000:=by rw[hN];exact Nat.mul_le_mul hR.2 hC.2
 rw[←hN]
 clear hN
 have wN:IntKind.i64.wrap (N:Int)=N:=wrap64 (by omega) (by omega)
 simp (maxSteps:=1000000) [go_sem,Tryz.f23,wN,a1,a2,a3,a4,hN']
 rw[zmj]
 refine⟨by omega,?_⟩
 refine loop (fun i:Nat=>i≤N) (fun i=>[(34,.p (.int .i64 i)),(6,.zY)]) (fun i=>[([26],cw (nw N i))]) (fun i=>N-i) 0 (Nat.zero_le _) (fun i hi=>?_) (h0:=by simp[go_sem,LeS,leV,leR,leA,leL,zj,zJ])
 have hl:=zol hi
 by_cases c:i<N
 ·have ew:=kh (l:=nw N i) (c:=i) [32] 1 (by omega)
  have es:(nw N i).set i ⟨[32],1⟩=nw N (i+1):=zoI c
  rw[es]at ew
  have w1:IntKind.i64.wrap ((i:Int)+1)=((i+1:Nat):Int):=wrap64 (by omega) (by omega)
  simp (maxSteps:=1000000) [go_sem,c]
  refine qm (.p (clP blk)) rfl rfl (fun _=>qk 82 jx rfl ⟨rfl,by simp[Tryz.f82]⟩ ⟨by simp[go_sem],by simp[go_sem]⟩) ?_
  simp (maxSteps:=1000000) [go_sem,clP,blk,jo,hl,ew,w1,c]
  refine⟨by omega,?_⟩
  exact next (i+1) c (h3:=by show N- (i+1)<N-i;omega) (h2:=by simp[go_sem,LeS,leV,leR,leA,leL,zj,zJ])
 ·obtain rfl:i=N:=by omega
  rw[znL]
  simp (maxSteps:=1000000) [go_sem]
  exact zA [[28],[26]] _ (by simp) (by simp[go_sem,zf,leA]) ⟨rfl,by simp[go_sem,zJ]⟩
theorem zgJ(R C:Nat)(hR:1≤R∧R≤500)(hC:2≤C∧C≤1000):CR Tryz.prog 23 [] [.p (.int .i64 R),.p (.int .i64 C)] []
  (fun x rs'=>x=.lp [0] 0∧rs'=gp R C (R*C) (List.replicate (R*C) blk)):=by
 refine(zlv R C hR hC).ren 1000 ?_
 rintro x rs' ⟨rfl,h0,h1⟩
 exact⟨[([0],[28]),([1],[26])],rfl,rfl,rfl,by simp[qW,St.ofR,h0,h1,gp,qK,AV.ren,AV.upd,KK,yf,inM]⟩
theorem zfQ(R C N:Nat)(l:zt)(r c:Int):CR Tryz.prog 132 [[0],[1]] [.lp [0] 0,.p (.int .i64 r),.p (.int .i64 c)] (gp R C N l) (fun x rs'=>x=.p (.bool (inB R C r c))∧rs'=gp R C N l):=by
 refine zx mixed 7 [] Tryz.func132 rfl (by kernel_rfl) rfl (by simp) (by simp) ?_
 simp (maxSteps:=1000000) (disch:=omega) [go_sem,Tryz.f132,gp]
 exact zA [[0],[1]] (.p (.bool (inB R C r c))) (by simp) (by simp[go_sem,zf,leA,inB]) ⟨rfl,by simp[go_sem,zJ]⟩
theorem Ub(R C N:Nat)(l:zt)(i:Nat)(hl:l.length=N)(hb:N≤1000000)(hi:i<N)(ho:OkR l):CR Tryz.prog 149 [[0],[1]] [.lp [0] 0,.p (.int .i64 i)] (gp R C N l) (fun x rs'=>x=.tup []∧rs'=gp R C N (qV l i)):=by
 have hi':i<l.length:=by omega
 refine zK [2,4,5] mixed 12 [] Tryz.func149 rfl (by kernel_rfl) rfl (by simp) (by simp) ?_
 simp (maxSteps:=1000000) (disch:=omega) [go_sem,Tryz.f149,gp,zfF hi']
 have ll:=XJ l i
 have ew2:=kh (l:=y8 l i) (c:=i) [32] 1 (by omega)
 have er:qV l i=(y8 l i).set i ⟨[32],1⟩:=rfl
 rw[er]
 refine⟨hi,zh (fun h=>?_) (fun h=>?_)⟩
 ·have h0:=(ho i l[i] (List.getElem?_eq_getElem hi')).1 h
  obtain⟨k,rfl⟩:∃k,i=k+1:=⟨i-1,by omega⟩
  have ea:y8 l (k+1)=l.set k ⟨[32],1⟩:=by rw[y8,qp hi',if_pos h];rfl
  have ew:=kh (l:=l) (c:=k) [32] 1 (by omega)
  rw[ea]at ew2 ll
  simp (maxSteps:=1000000) (disch:=omega) [go_sem,wrap64]
  refine qm (.p (clP blk)) rfl rfl (fun _=>qk 82 jx rfl ⟨rfl,by simp[Tryz.f82]⟩ ⟨by simp[go_sem],by simp[go_sem]⟩) ?_
  simp (maxSteps:=1000000) (disch:=omega) [go_sem,clP,blk,jo,hl,ew]
  refine⟨by omega,by omega,?_⟩
  refine qm (.p (clP blk)) rfl rfl (fun _=>qk 82 jx rfl ⟨rfl,by simp[Tryz.f82]⟩ ⟨by simp[go_sem],by simp[go_sem]⟩) ?_
  simp (maxSteps:=1000000) (disch:=omega) [go_sem,clP,blk,jo,hl,ew2]
  exact⟨⟨by omega,by omega⟩,by omega,zA [[0],[1]] _ (by simp) (by simp[go_sem,zf]) ⟨rfl,by simp[go_sem,zJ,ea]⟩⟩
 ·simp (maxSteps:=1000000) (disch:=omega) [go_sem]
  refine zh (fun h2=>?_) (fun h2=>?_)
  ·have h0:=(ho i l[i] (List.getElem?_eq_getElem hi')).2 h2
   have ea:y8 l i=l.set (i+1) ⟨[32],1⟩:=by rw[y8,qp hi',if_neg h,if_pos h2];rfl
   have ew:=kh (l:=l) (c:=i+1) [32] 1 h0
   rw[ea]at ew2 ll
   simp (maxSteps:=1000000) (disch:=omega) [go_sem,wrap64]
   refine qm (.p (clP blk)) rfl rfl (fun _=>qk 82 jx rfl ⟨rfl,by simp[Tryz.f82]⟩ ⟨by simp[go_sem],by simp[go_sem]⟩) ?_
   simp (maxSteps:=1000000) (disch:=omega) [go_sem,clP,blk,jo,hl,ew]
   refine⟨⟨by omega,by omega⟩,by omega,?_⟩
   refine qm (.p (clP blk)) rfl rfl (fun _=>qk 82 jx rfl ⟨rfl,by simp[Tryz.f82]⟩ ⟨by simp[go_sem],by simp[go_sem]⟩) ?_
   simp (maxSteps:=1000000) (disch:=omega) [go_sem,clP,blk,jo,hl,ew2]
   exact⟨hi,by omega,zA [[0],[1]] _ (by simp) (by simp[go_sem,zf]) ⟨rfl,by simp[go_sem,zJ,ea]⟩⟩
  ·have ea:y8 l i=l:=by rw[y8,qp hi',if_neg h,if_neg h2]
   rw[ea]at ew2 ll
   simp (maxSteps:=1000000) (disch:=omega) [go_sem]
   refine qm (.p (clP blk)) rfl rfl (fun _=>qk 82 jx rfl ⟨rfl,by simp[Tryz.f82]⟩ ⟨by simp[go_sem],by simp[go_sem]⟩) ?_
   simp (maxSteps:=1000000) (disch:=omega) [go_sem,clP,blk,jo,hl,ew2]
   exact⟨hi,by omega,zA [[0],[1]] _ (by simp) (by simp[go_sem,zf]) ⟨rfl,by simp[go_sem,zJ,ea]⟩⟩
theorem zl0(R C N:Nat)(l:zt)(r c:Int)(x:Cl)(hN:N=R*C)(hR:R≤500)(hC:C≤1000)(hl:l.length=N)(ho:OkR l):
  CR Tryz.prog 96 [[0],[1]] [.lp [0] 0,.p (.int .i64 r),.p (.int .i64 c),.p (clP x)] (gp R C N l) (fun v rs'=>v=.p (.bool (yF R C r c x))∧rs'=gp R C N (Q9 R C r c x l)):=by
 obtain⟨t,w⟩:=x
 have hNb:N≤500000:=by rw[hN];exact Nat.mul_le_mul hR hC
 refine zx mixed 10 [] Tryz.func96 rfl (by kernel_rfl) rfl (by simp) (by simp) ?_
 have hin:=zfQ R C N l r c
 by_cases hB:inB R C r c=true
 ·rw[hB]at hin
  obtain⟨⟨⟨h0,h1⟩,h2⟩,h3⟩:((0≤r∧r<R)∧0≤c)∧c<C:=by simpa[inB]using hB
  obtain⟨q,rfl⟩:∃q:Nat,c=q:=⟨c.toNat,by omega⟩
  obtain⟨k,rfl⟩:∃k:Nat,r=k:=⟨r.toNat,by omega⟩
  have hq:q<C:=by omega
  have hk:k<R:=by omega
  obtain⟨i,hi⟩:∃i,i=k*C+q:=⟨_,rfl⟩
  have hiI:(k:Int)*(C:Int)+(q:Int)=(i:Int):=by rw[hi];simp
  have hkC:(k:Int)*(C:Int)≤500000∧0≤(k:Int)*(C:Int):=by
   have h5:k*C≤500*1000:=Nat.mul_le_mul (by omega) hC
   have h6:((k*C:Nat):Int)=(k:Int)*(C:Int):=by simp
   omega
  have hiN:i<N:=by
   have h5:k*C+C≤R*C:=by rw[←Nat.succ_mul];exact Nat.mul_le_mul_right _ hk
   omega
  by_cases hw1:w=1
  ·subst hw1
   have hin2:=zfQ R C N l k q
   rw[hB]at hin2
   have hpb:yF R C k q ⟨t,1⟩=true:=by
    have e:((q:Int)+1-1)=q:=by omega
    simp only[yF,hB,e];rfl
   rw[hpb]
   have hpi:Q9 R C k q ⟨t,1⟩ l=V5 l i ⟨t,1⟩:=by rw[Q9,hpb,if_pos rfl,hi];rfl
   rw[hpi]
   have e1:((q:Int)+1-1)=q:=by omega
   have hlo:=Ub R C N l i hl (by omega) hiN ho
   have ll:=jv l i
   have hpr:V5 l i ⟨t,1⟩=(qV l i).set i ⟨t,1⟩:=by simp[V5]
   have ew:=kh (l:=qV l i) (c:=i) t 1 (by omega)
   clear hpi hpb hB hi
   simp (maxSteps:=1000000) (disch:=omega) [go_sem,Tryz.f96,gp,clP]
   refine⟨⟨rfl,by simp[Tryz.f132]⟩,zd [([0],[0]),([1],[1])] hin (by simp[go_sem]) ⟨by simp[go_sem],by simp[go_sem]⟩ (by simp[go_sem,gp,qK,zJ]) ?_⟩
   rintro y rs ⟨rfl,rfl⟩
   simp (maxSteps:=1000000) (disch:=omega) [go_sem,wrap64,gp,qK,zJ,e1]
   refine⟨⟨rfl,by simp[Tryz.f132]⟩,zd [([0],[0]),([1],[1])] hin2 (by simp[go_sem]) ⟨by simp[go_sem],by simp[go_sem]⟩ (by simp[go_sem,gp,qK]) ?_⟩
   rintro y rs ⟨rfl,rfl⟩
   simp (maxSteps:=1000000) (disch:=omega) [go_sem,wrap64,gp,qK,zJ,hiI]
   refine⟨⟨rfl,by simp[Tryz.f149]⟩,zd [([0],[0]),([1],[1])] hlo (by simp[go_sem]) ⟨by simp[go_sem],by simp[go_sem]⟩ (by simp[go_sem,gp,qK]) ?_⟩
   rintro y rs ⟨rfl,rfl⟩
   simp (maxSteps:=1000000) (disch:=omega) [go_sem,gp,qK,zJ,jo,ll,hl,ew]
   refine⟨by omega,by omega,?_⟩
   exact zA [[0],[1]] _ (by simp) (by simp[go_sem,zf,leA]) ⟨rfl,by simp[go_sem,zJ,hpr]⟩
  ·by_cases hw2:w=2
   ·subst hw2
    have e1:((q:Int)+2-1)=(q:Int)+1:=by omega
    have hin2:=zfQ R C N l k ((q:Int)+1)
    by_cases hq1:q+1<C
    ·have hB2:inB R C k ((q:Int)+1)=true:=by simp[inB,hk];omega
     rw[hB2]at hin2
     have hpb:yF R C k q ⟨t,2⟩=true:=by simp only[yF,hB,e1,hB2];rfl
     rw[hpb]
     have hpi:Q9 R C k q ⟨t,2⟩ l=V5 l i ⟨t,2⟩:=by rw[Q9,hpb,if_pos rfl,hi];rfl
     rw[hpi]
     have hi1:i+1<N:=by
      have h5:k*C+C≤R*C:=by rw[←Nat.succ_mul];exact Nat.mul_le_mul_right _ hk
      omega
     have hlo:=Ub R C N l i hl (by omega) hiN ho
     have ll:=jv l i
     have hlo2:=Ub R C N (qV l i) (i+1) (by omega) (by omega) hi1 (ho.qV i)
     have ll2:=jv (qV l i) (i+1)
     have hpr:V5 l i ⟨t,2⟩=((qV (qV l i) (i+1)).set (i+1) ⟨[],0⟩).set i ⟨t,2⟩:=by simp[V5]
     have ew1:=kh (l:=qV (qV l i) (i+1)) (c:=i+1) [] 0 (by omega)
     have ew2:=kh (l:=(qV (qV l i) (i+1)).set (i+1) ⟨[],0⟩) (c:=i) t 2 (by rw[List.length_set];omega)
     clear hpi hpb hB hi hB2
     simp (maxSteps:=1000000) (disch:=omega) [go_sem,Tryz.f96,gp,clP]
     refine⟨⟨rfl,by simp[Tryz.f132]⟩,zd [([0],[0]),([1],[1])] hin (by simp[go_sem]) ⟨by simp[go_sem],by simp[go_sem]⟩ (by simp[go_sem,gp,qK,zJ]) ?_⟩
     rintro y rs ⟨rfl,rfl⟩
     simp (maxSteps:=1000000) (disch:=omega) [go_sem,wrap64,gp,qK,zJ,e1]
     refine⟨⟨rfl,by simp[Tryz.f132]⟩,zd [([0],[0]),([1],[1])] hin2 (by simp[go_sem]) ⟨by simp[go_sem],by simp[go_sem]⟩ (by simp[go_sem,gp,qK]) ?_⟩
     rintro y rs ⟨rfl,rfl⟩
     simp (maxSteps:=1000000) (disch:=omega) [go_sem,wrap64,gp,qK,zJ,hiI]
     refine⟨⟨rfl,by simp[Tryz.f149]⟩,zd [([0],[0]),([1],[1])] hlo (by simp[go_sem]) ⟨by simp[go_sem],by simp[go_sem]⟩ (by simp[go_sem,gp,qK]) ?_⟩
     rintro y rs ⟨rfl,rfl⟩
     simp (maxSteps:=1000000) (disch:=omega) [go_sem,wrap64,gp,qK,zJ]
     refine⟨⟨rfl,by simp[Tryz.f149]⟩,zd [([0],[0]),([1],[1])] hlo2 (by simp[go_sem]) ⟨by simp[go_sem],by simp[go_sem]⟩ (by simp[go_sem,gp,qK]) ?_⟩
     rintro y rs ⟨rfl,rfl⟩
     simp (maxSteps:=1000000) (disch:=omega) [go_sem,wrap64,gp,qK,zJ,jo,ll,ll2,hl,ew1,ew2]
     refine⟨⟨by omega,by omega⟩,by omega,by omega,by omega,?_⟩
     exact zA [[0],[1]] _ (by simp) (by simp[go_sem,zf,leA]) ⟨rfl,by simp[go_sem,zJ,hpr]⟩
    ·have hB2:inB R C k ((q:Int)+1)=false:=by
      have:¬((q:Int)+1<C):=by omega
      simp[inB,this]
     rw[hB2]at hin2
     have hpb:yF R C k q ⟨t,2⟩=false:=by simp only[yF,hB,e1,hB2];rfl
     rw[hpb]
     have hpi:Q9 R C k q ⟨t,2⟩ l=l:=by rw[Q9,hpb];rfl
     rw[hpi]
     clear hpi hpb hB hi hB2
     simp (maxSteps:=1000000) (disch:=omega) [go_sem,Tryz.f96,gp,clP]
     refine⟨⟨rfl,by simp[Tryz.f132]⟩,zd [([0],[0]),([1],[1])] hin (by simp[go_sem]) ⟨by simp[go_sem],by simp[go_sem]⟩ (by simp[go_sem,gp,qK,zJ]) ?_⟩
     rintro y rs ⟨rfl,rfl⟩
     simp (maxSteps:=1000000) (disch:=omega) [go_sem,wrap64,gp,qK,zJ,e1]
     refine⟨⟨rfl,by simp[Tryz.f132]⟩,zd [([0],[0]),([1],[1])] hin2 (by simp[go_sem]) ⟨by simp[go_sem],by simp[go_sem]⟩ (by simp[go_sem,gp,qK]) ?_⟩
     rintro y rs ⟨rfl,rfl⟩
     simp (maxSteps:=1000000) (disch:=omega) [go_sem,gp,qK,zJ]
     exact zA [[0],[1]] _ (by simp) (by simp[go_sem,zf,leA]) ⟨rfl,by simp[go_sem,zJ]⟩
   ·have hpb:yF R C k q ⟨t,w⟩=false:=by simp[yF,hw1,hw2]
    rw[hpb]
    have hpi:Q9 R C k q ⟨t,w⟩ l=l:=by rw[Q9,hpb];rfl
    rw[hpi]
    clear hpi hpb hB hi
    rcases Int.lt_or_le w 1 with hw|hw
    ·simp (maxSteps:=1000000) (disch:=omega) [go_sem,Tryz.f96,gp,clP]
     refine⟨⟨rfl,by simp[Tryz.f132]⟩,zd [([0],[0]),([1],[1])] hin (by simp[go_sem]) ⟨by simp[go_sem],by simp[go_sem]⟩ (by simp[go_sem,gp,qK,zJ]) ?_⟩
     rintro y rs ⟨rfl,rfl⟩
     simp (maxSteps:=1000000) (disch:=omega) [go_sem,gp,qK,zJ,hw]
     exact zA [[0],[1]] _ (by simp) (by simp[go_sem,zf,leA]) ⟨rfl,by simp[go_sem,zJ]⟩
    ·have hw3:¬(w<1):=by omega
     have hw4:2<w:=by omega
     simp (maxSteps:=1000000) (disch:=omega) [go_sem,Tryz.f96,gp,clP]
     refine⟨⟨rfl,by simp[Tryz.f132]⟩,zd [([0],[0]),([1],[1])] hin (by simp[go_sem]) ⟨by simp[go_sem],by simp[go_sem]⟩ (by simp[go_sem,gp,qK,zJ]) ?_⟩
     rintro y rs ⟨rfl,rfl⟩
     simp (maxSteps:=1000000) (disch:=omega) [go_sem,gp,qK,zJ,hw3,hw4]
     exact zA [[0],[1]] _ (by simp) (by simp[go_sem,zf,leA]) ⟨rfl,by simp[go_sem,zJ]⟩
 ·have hB':inB R C r c=false:=by simpa using hB
  rw[hB']at hin
  have hpb:yF R C r c ⟨t,w⟩=false:=by simp[yF,hB']
  rw[hpb]
  have hpi:Q9 R C r c ⟨t,w⟩ l=l:=by rw[Q9,hpb];rfl
  rw[hpi]
  clear hpi hpb hB hB'
  simp (maxSteps:=1000000) (disch:=omega) [go_sem,Tryz.f96,gp,clP]
  refine⟨⟨rfl,by simp[Tryz.f132]⟩,zd [([0],[0]),([1],[1])] hin (by simp[go_sem]) ⟨by simp[go_sem],by simp[go_sem]⟩ (by simp[go_sem,gp,qK,zJ]) ?_⟩
  rintro y rs ⟨rfl,rfl⟩
  simp (maxSteps:=1000000) (disch:=omega) [go_sem,gp,qK,zJ]
  exact zA [[0],[1]] _ (by simp) (by simp[go_sem,zf,leA]) ⟨rfl,by simp[go_sem,zJ]⟩
end
section
open Go.AM
attribute [local irreducible] za
def gpT(a b:Tok)(R C N:Nat)(l:zt):List (Tok×List AV):=[(a,[.p (.int .i64 R),.p (.int .i64 C),.la b 2 0 N]),(b,cw l)]
theorem zm1(f:Tok→Option Tok)(rt tt:Tok→Bool)(l:zt):List.map (AV.ren f∘AV.upd (fil rt tt)) (cw l)=cw l:=by rw[←List.map_map,zJ,qK]
theorem znN [Gi](l:List Cl)(R C:Nat)(top:Int)(hR:1≤R∧R≤500)(hC:2≤C∧C≤1000)(hn:l.length≤100000)(hl:∀x∈l,yB x)(ht:0≤top∧top≤1000000):
  CR Tryz.prog 69 [] [.p (qe l),.p (.int .i64 R),.p (.int .i64 C),.p (.int .i64 top)] [] (fun x rs=>x=.lp [9] 0∧rs=gpT [9] [10,1] R C (R*C) (yW R C top l l.length)):=by
 refine walk Tryz.func69 12 [19,20,21] [] [] ?_
 simp (maxSteps:=1000000) [go_sem,Tryz.f69]
 refine⟨⟨rfl,by simp[Tryz.f23]⟩,zd [([0],[9]),([1],[10,1])] (zgJ R C hR hC) (by simp[go_sem,zS]) ⟨by simp[go_sem],by simp[go_sem]⟩ (by simp[go_sem]) ?_⟩
 rintro _ _ ⟨rfl,rfl⟩
 simp (maxSteps:=1000000) [go_sem,gp,qK]
 refine zq (zdH l C hn hC hl) ?_
 have hs:(Qx C l).length=l.length+1:=by simp[Qx]
 simp (maxSteps:=1000000) [go_sem,jQ,hs]
 refine loop (fun i:Nat=>i≤l.length+1) (fun i=>[(21,.p (.int .i64 i))]) (fun i=>[([10,1],cw (yW R C top l (min i l.length)))]) (fun i=>l.length+1-i) 0 (Nat.zero_le _) (fun i hi=>?_) (h0:=by simp[go_sem,LeS,leV,leR,leA,leL,zj,yW,zJ])
 by_cases hil:i<l.length+1
 ·have em:elemAt ((Qx C l).map QC) i=.agg [.int .i64 (qu C l i).1,.int .i64 (qu C l i).2]:=by
   rw[zp QC _ _ (by rw[hs];exact hil)]
   simp[Qx,QC]
  have bd:=wD (C:=C) (by omega) hl i
  have w1:IntKind.i64.wrap ((i:Int)+1)=((i+1:Nat):Int):=zG (by omega)
  have st:yW R C top l (i+1)=if top≤(qu C l i).1 then Q9 R C ((qu C l i).1-top) (qu C l i).2 (l.getD i blk) (yW R C top l i)else yW R C top l i:=rfl
  generalize qu C l i=s at bd em st⊢
  obtain⟨p,q⟩:=s
  simp only at bd em st
  have wt:IntKind.i64.wrap (p-top)=p-top:=wrap64 (by omega) (by omega)
  have hil':(i:Int)<l.length+1:=by omega
  by_cases hin:i<l.length
  ·have hlen:=x6 R C top l i
   have hok:=zmg R C top l i
   rw[show min i l.length=i by omega]
   have m1:min (i+1) l.length=i+1:=by omega
   have gm:=YY hin
   have gd:l.getD i blk=l[i]:=by rw[List.getD_eq_getElem?_getD,List.getElem?_eq_getElem hin];rfl
   rw[gd]at st
   generalize l[i]=x at gm st
   by_cases k:top≤p
   ·rw[if_pos k]at st
    simp (maxSteps:=1000000) [go_sem,hil',hs,em,hin,k,wt,gm,zJ]
    refine⟨⟨rfl,by simp[Tryz.f96]⟩,zd [([0],[9]),([1],[10,1])] (pin:=[[0],[1]]) (zl0 R C (R*C) (yW R C top l i) (p-top) q x rfl (by omega) (by omega) hlen hok) (by simp[go_sem,zS]) ⟨by simp[go_sem],by simp[go_sem,clP]⟩ (by simp[go_sem,gp,qK]) ?_⟩
    rintro _ _ ⟨rfl,rfl⟩
    simp (maxSteps:=1000000) [go_sem,gp,qK,w1,zJ]
    exact next (i+1) hil (h3:=by show l.length+1- (i+1)<l.length+1-i;omega) (h2:=by simp[go_sem,LeS,leV,leR,leA,leL,zj,st,m1,zJ])
   ·rw[if_neg k]at st
    simp (maxSteps:=1000000) [go_sem,hil',hs,em,hin,k,w1,zJ]
    exact next (i+1) hil (h3:=by show l.length+1- (i+1)<l.length+1-i;omega) (h2:=by simp[go_sem,LeS,leV,leR,leA,leL,zj,st,m1,zJ])
  ·rw[show min i l.length=l.length by omega]
   have m1:min (i+1) l.length=l.length:=by omega
   simp (maxSteps:=1000000) [go_sem,hil',hs,em,hin,w1,zJ]
   exact next (i+1) hil (h3:=by show l.length+1- (i+1)<l.length+1-i;omega) (h2:=by simp[go_sem,LeS,leV,leR,leA,leL,zj,m1,zJ])
 ·obtain rfl:i=l.length+1:=by omega
  rw[show min (l.length+1) l.length=l.length by omega]
  simp (maxSteps:=1000000) [go_sem]
  exact zA [[9],[10,1]] (.lp [9] 0) ⟨rfl,by simp⟩ (by simp[go_sem,zf,leA,leT]) ⟨rfl,by simp[go_sem,gpT,zJ]⟩
def Zv(ps:List (List Int)):List Cl:=ps.flatMap WW
def vwG(ps:List (List Int))(ln:List Int):List Cl:=Zv ps++WW ln
def vwN(ln:List Int)(cur:Int):Nat:=cnt (pl (zM za ln)) cur
def vwK(ps:List (List Int))(ln:List Int)(cur:Int):Nat:=(Zv ps).length+atG (zM za ln) (vwN ln cur)
def ZU(ps:List (List Int))(ln:List Int)(cur:Int):PV:=.agg [.sl 1 (q9 ps),zE ln,.int .i64 cur]
structure W7(ps:List (List Int))(ln:List Int):Prop where
 n:ps.length≤4
 p:∀x∈ps,x.length≤1000∧∀r∈x,qg r
 l:ln.length≤1000
 r:∀r∈ln,qg r
theorem uz {l:List Int}(hn:l.length≤1000)(hr:∀r∈l,qg r):(WW l).length≤2000:=by
 have h:=Ln.mk' l (by omega) hr
 have h2:=ug h (zM za l).length
 rw[zgs,wu h]at h2
 omega
theorem zgE(l:List Int):∀x∈WW l,yB x:=fun x hx=>by
 unfold WW at hx
 obtain⟨c,_,h⟩:=List.mem_flatMap.1 hx
 exact znV c x h
theorem ui {ps:List (List Int)}(h:∀x∈ps,x.length≤1000∧∀r∈x,qg r):(Zv ps).length≤2000*ps.length:=by
 induction ps with
 |nil=>simp[Zv]
 |cons p ps ih=>
  have h1:=ih fun x hx=>h x (by simp[hx])
  have h2:=uz (h p (by simp)).1 (h p (by simp)).2
  unfold Zv at h1⊢
  rw[List.flatMap_cons,List.length_append,List.length_cons];omega
theorem zfh(ps:List (List Int))(ln:List Int):∀x∈vwG ps ln,yB x:=fun x hx=>by
 rcases List.mem_append.1 hx with h|h
 ·obtain⟨c,_,h⟩:=List.mem_flatMap.1 h
  exact zgE c x h
 ·exact zgE ln x h
theorem zjq {ps:List (List Int)} {ln:List Int}(h:W7 ps ln):(vwG ps ln).length≤10000:=by
 have h1:=ui h.p
 have h2:=uz h.l h.r
 have h3:=h.n
 unfold vwG
 rw[List.length_append];omega
theorem ziG(ln:List Int)(cur:Int):vwN ln cur≤(zM za ln).length:=by
 have:=zjN (pl (zM za ln)) cur
 rw[Q4]at this
 exact this
theorem zfu {ps:List (List Int)} {ln:List Int}(h:W7 ps ln)(cur:Int):vwK ps ln cur≤(vwG ps ln).length:=by
 have h1:=Ln.mk' ln (by have:=h.l;omega) h.r
 have h2:atG (zM za ln) (vwN ln cur)≤(WW ln).length:=by
  rw[←wu h1]
  unfold atG
  have e:(zM za ln).flatMap ofG=((zM za ln).take (vwN ln cur)).flatMap ofG++((zM za ln).drop (vwN ln cur)).flatMap ofG:=by
   rw[←List.flatMap_append,List.take_append_drop]
  rw[e,List.length_append];omega
 unfold vwK vwG
 rw[List.length_append];omega
theorem YQ {ps:List (List Int)} {i:Nat}(h:i<ps.length):(Zv (ps.take i)).map clP++(WW ps[i]).map clP=(Zv (ps.take (i+1))).map clP:=by
 unfold Zv
 rw[List.take_add_one,List.getElem?_eq_getElem h,List.flatMap_append,List.map_append]
 simp
def zgG:OT:=.now 0 0 (.now 1 0 (.now 3 2 (.now 5 2 (.now 6 2 (.now 7 2 (.mk [(2,.now 4 0 (.now 8 0 (.now 9 0 (.mk [(10,.now 11 0 (.mk []))])))),(4,.mk [(2,.now 8 0 (.now 9 0 (.mk [(10,.now 11 0 (.mk []))]))),(8,.now 9 2 (.mk [(2,.mk [(10,.now 11 0 (.mk []))])]))]),(8,.mk [(2,.now 4 0 (.now 9 0 (.mk [(10,.now 11 0 (.mk []))]))),(4,.now 9 2 (.mk [(2,.mk [(10,.now 11 0 (.mk []))])]))])]))))))
theorem zf1 {L:List (List Int)} {n k:Nat}(h:k<n):elemAt (Z9 (ke L n)) k=.int .i64 (atG L k:Nat):=by
 rw[KY (by rw[vQ];exact h)]
 simp[ke]
theorem zhh [Gi] {e:PV}(hT:xn e) {ps:List (List Int)} {ln:List Int}(h:W7 ps ln)(cur:Int):
  CR Tryz.prog 66 [] [.p (ZU ps ln cur),.p e] [] (is (.tup [.p (qe (vwG ps ln)),.p (.int .i64 (vwK ps ln cur:Nat))])):=by
 have hl:=h.l
 have hL:=Ln.mk' ln (by omega) h.r
 have hv:=ziG ln cur
 refine uA 15 [16,17,18] Tryz.func66 rfl rfl (by simp) (by simp) ?_
 refine Ql.seq (D:=[]) mixed (by kernel_rfl) ?_
 simp (maxSteps:=1000000) [go_sem,ZU]
 refine Ql.seq (D:=[]) mixed (by kernel_rfl) ?_
 simp (maxSteps:=1000000) [go_sem]
 refine Ql.seq (D:=[]) mixed (by kernel_rfl) ?_
 simp (maxSteps:=1000000) [go_sem]
 refine loop (fun i:Nat=>i≤ps.length) (fun i=>[(6,.os [6] 2 ((Zv (ps.take i)).map clP)),(18,.p (.int .i64 i))]) (fun _=>[]) (fun i=>ps.length-i) 0 (Nat.zero_le _) (fun i hi=>?_) (h0:=by simp[go_sem,LeS,leV,leR,leA,zj,Zv])
 by_cases hil:i<ps.length
 ·have hp:=h.p _ (List.getElem_mem hil)
  have hP:=Ln.mk' ps[i] (by omega) hp.2
  have lc:=zfZ hT hP (by omega)
  rw[wu hP]at lc
  have em:=xL hil
  have st:=YQ hil
  have le:=uz hp.1 hp.2
  have le2:=ui (ps:=ps.take i) fun x hx=>h.p x (List.mem_of_mem_take hx)
  have hn:=h.n
  have le3:((Zv (ps.take i)).map clP).length≤10000:=by rw[List.length_map];rw[List.length_take]at le2;omega
  have w1:IntKind.i64.wrap ((i:Int)+1)=((i+1:Nat):Int):=zG (by omega)
  generalize ps[i]=y at hp hP lc em st le
  generalize WW y=gy at lc st le
  generalize (Zv (ps.take i)).map clP=A at st le3⊢
  generalize ke (zM za y) ((zM za y).length+1)=at_ at lc
  simp (maxSteps:=1000000) [go_sem,hil,em]
  refine zq lc ?_
  simp (maxSteps:=1000000) [go_sem,w1,st]
  refine⟨by omega,?_⟩
  exact next (i+1) hil (h3:=by show ps.length- (i+1)<ps.length-i;omega) (h2:=by simp[go_sem,LeS,leV,leR,leA,leL])
 ·obtain rfl:i=ps.length:=by omega
  rw[List.take_length]
  have lc:=zfZ hT hL (by omega)
  rw[wu hL]at lc
  simp (maxSteps:=1000000) [go_sem]
  refine Ql.seq (D:=[]) mixed (by kernel_rfl) ?_
  simp (maxSteps:=1000000) [go_sem]
  refine zq lc ?_
  have g1:=zhg hT ln (by omega) h.r
  have g2:=zeL (pl (zM za ln)) cur (zla hL.cl) (by have:=hL.cl.full.n;rw[Q4];omega)
  simp (maxSteps:=1000000) [go_sem]
  refine Ql.seq (D:=[9]) mixed (by kernel_rfl) ?_
  simp (maxSteps:=1000000) [go_sem]
  refine qI 122 g1 ?_ (ha':=by simp[go_sem,zE])
  simp (maxSteps:=1000000) [go_sem]
  refine qI 121 g2 ?_
  have hn:=h.n
  have lh:=ui h.p
  have le:=uz h.l h.r
  have lk:=ug hL (vwN ln cur)
  have em:=zf1 (L:=zM za ln) (n:=(zM za ln).length+1) (k:=vwN ln cur) (by omega)
  have nl:(Z9 (ke (zM za ln) ((zM za ln).length+1))).length=(zM za ln).length+1:=by simp[Z9,ke]
  have e1:cnt (pl (zM za ln)) cur=vwN ln cur:=rfl
  have e2:(Zv ps).map clP++(WW ln).map clP=(vwG ps ln).map clP:=by rw[vwG,List.map_append]
  have e3:vwK ps ln cur=(Zv ps).length+atG (zM za ln) (vwN ln cur):=rfl
  have w2:IntKind.i64.wrap (((Zv ps).length:Int)+(atG (zM za ln) (vwN ln cur):Nat))=(((Zv ps).length+atG (zM za ln) (vwN ln cur):Nat):Int):=by
   rw[←Int.natCast_add];exact wrap64 (by omega) (by omega)
  rw[e1]
  rw[e3]
  generalize vwN ln cur=k at hv lk em w2⊢
  simp (maxSteps:=1000000) [go_sem]
  refine Ql.zew fun E=>zV.tree mixed zgG (by kernel_rfl) ?_
  have hb:((Zv ps).length+(WW ln).length)*24≤140737488355328:=by omega
  have hk:(k:Int)< ((zM za ln).length:Int)+1:=by omega
  simp (maxSteps:=1000000) [go_sem,zgG,em,nl,e2,w2,hb,hk]
  repeat'(first|exact True.intro|apply And.intro)
  all_goals
   refine Ql.Qb (D:=[]) mixed (by kernel_rfl) ?_
   simp (maxSteps:=1000000) [go_sem]
   exact ret (hx:=by simp[go_sem,zf,leA,leT,leP])
end
section
open Go.ChangeShapes Go.WideShapes Go.ChangeAt Go.RowKit Go.AM
theorem Tryz.own:ownKnob Tryz.prog.godebug=none:=by kernel_rfl
theorem Tryz.laidOut:laidOutB Tryz.prog=true:=by kernel_rfl
theorem Yh {α:Type} {f:α→PV} {Q:α→Prop}:∀{es:List PV},(∀el∈es,∃a,Q a∧el=f a)→∃l:List α,(∀a∈l,Q a)∧es=l.map f
 | [],_=>⟨[],by simp,rfl⟩
 |x::xs,h=>by
  obtain⟨a,q,rfl⟩:=h x (by simp)
  obtain⟨l,ql,rfl⟩:=Yh (es:=xs) fun el hel=>h el (by simp[hel])
  exact⟨a::l,by simpa using ⟨q,ql⟩,rfl⟩
section
variable {H:Type} {enc:TypeId×Value→H} {W:World}
abbrev QI:List PV→Prop:=fun xs=>∃x,xs=[x]∧∃n,x=.int .i64 n∧ -9223372036854775808≤n∧n≤9223372036854775807
abbrev QR:List PV→Prop:=fun xs=>∃x,xs=[x]∧∃n,x=.int .i32 n∧qg n
abbrev QT:List PV→Prop:=fun xs=>∃x,xs=[x]∧∃l:List Int,(∀r∈l,qg r)∧x=zbY l
theorem va:kK enc Tryz.prog W 0 (fun _=>true) true 3 QI:=by
 intro fuel cs x h
 obtain⟨xs,⟨n,rfl,hw⟩,r⟩:=X0 (k:=.i64) (by kernel_rfl) _ _ _ h
 simp[Lit.wf,IntKind.min,IntKind.max,IntKind.signed,IntKind.bits]at hw
 exact⟨_,⟨_,rfl,n,rfl,by omega⟩,r⟩
theorem zmd:kK enc Tryz.prog W 0 (fun _=>true) true 21 QR:=by
 intro fuel cs x h
 obtain⟨xs,⟨n,rfl,hw⟩,r⟩:=X0 (k:=.i32) (by kernel_rfl) _ _ _ h
 simp[Lit.wf,IntKind.min,IntKind.max,IntKind.signed,IntKind.bits]at hw
 exact⟨_,⟨_,rfl,n,rfl,⟨by omega,by omega⟩⟩,r⟩
theorem zgH:kK enc Tryz.prog W 0 (fun _=>true) true 45 QT:=by
 intro fuel cs x h
 obtain⟨xs,⟨es,rfl,he⟩,r⟩:=xg (e:=21) (QE:=fun el=>∃n,qg n∧el=PV.int .i32 n) (by kernel_rfl) (of_decide_eq_true (by kernel_rfl)) (fun fuel cs x h=>by
  obtain⟨el,v,⟨n,rfl,q⟩,r⟩:=ziW zmd _ _ _ h
  exact⟨_,v,⟨n,q,rfl⟩,r⟩) _ _ _ h
 obtain⟨l,ql,rfl⟩:=Yh he
 exact⟨_,⟨_,rfl,l,ql,rfl⟩,r⟩
abbrev QTs:List PV→Prop:=fun xs=>∃x,xs=[x]∧∃l:List (List Int),(∀t∈l,∀r∈t,qg r)∧x=.sl 1 (q9 l)
theorem zi8:kK enc Tryz.prog W 0 (fun _=>true) true 44 QTs:=by
 intro fuel cs x h
 obtain⟨xs,⟨es,rfl,he⟩,r⟩:=xg (e:=45) (QE:=fun el=>∃l:List Int,(∀r∈l,qg r)∧el=zE l) (by kernel_rfl) (of_decide_eq_true (by kernel_rfl)) (fun fuel cs x h=>by
  obtain⟨el,v,⟨l,q,rfl⟩,r⟩:=ziW zgH _ _ _ h
  exact⟨_,v,⟨l,q,rfl⟩,r⟩) _ _ _ h
 obtain⟨l,ql,rfl⟩:=Yh he
 exact⟨_,⟨_,rfl,l,ql,rfl⟩,r⟩
def znG(v:List (List Int)×List Int×Int):Prop:=(∀t∈v.1,∀r∈t,qg r)∧∀r∈v.2.1,qg r
def zqs(v:List (List Int)×List Int×Int):PV:=ZU v.1 v.2.1 v.2.2
theorem zii {xs:List PV}(h:xz [QTs,QT,QI] xs):∃v,znG v∧PV.agg xs=zqs v:=by
 obtain⟨a,b,rfl,⟨_,rfl,f,h0,rfl⟩,c,d,rfl,⟨_,rfl,g,h1,rfl⟩,e,f',rfl,⟨_,rfl,n,rfl,_⟩,rfl⟩:=h
 exact⟨(f,g,n),⟨h0,h1⟩,rfl⟩
theorem Jj:kK enc Tryz.prog W 0 (fun _=>true) true 49 (xz [QTs,QT,QI]):=
 Vr Tryz.underlying49 (by kernel_rfl) ⟨zi8,zgH,va,trivial⟩
end
end
section
open Go.AM
attribute [local irreducible] za
theorem znz [Gi](all rows row:Int)(ha:0≤all∧all≤1000000)(hr:1≤rows∧rows≤500)(hw:0≤row∧row≤1000000):CR Tryz.prog 68 [] [.p (.int .i64 all),.p (.int .i64 rows),.p (.int .i64 row)] [] (is (.p (.int .i64 (xx all rows row)))):=by
 refine walk Tryz.func68 7 [] [] [] ?_
 have h2:0≤rows.tdiv 2∧rows.tdiv 2≤250:=by
  rw[Int.tdiv_eq_ediv_of_nonneg (by omega)];omega
 have w1:IntKind.i64.wrap (rows.tdiv 2)=rows.tdiv 2:=wrap64 (by omega) (by omega)
 have w2:IntKind.i64.wrap (row-rows.tdiv 2)=row-rows.tdiv 2:=wrap64 (by omega) (by omega)
 have w3:IntKind.i64.wrap (all-rows)=all-rows:=wrap64 (by omega) (by omega)
 simp (maxSteps:=1000000) [go_sem,Tryz.f68,w1,w2,w3]
 unfold xx
 exact ret
theorem zmp [Gi](all rows row:Int)(ha:0≤all∧all≤1000000)(hr:1≤rows∧rows≤500)(hw:0≤row∧row≤1000000):CR Tryz.prog 77 [] [.p (.int .i64 all),.p (.int .i64 rows),.p (.int .i64 row)] [] (is (.p (.int .i64 (xx all rows row)))):=by
 refine walk Tryz.func77 8 [] [] [] ?_
 have h2:0≤rows.tdiv 2∧rows.tdiv 2≤250:=by
  rw[Int.tdiv_eq_ediv_of_nonneg (by omega)];omega
 have w1:IntKind.i64.wrap (rows.tdiv 2)=rows.tdiv 2:=wrap64 (by omega) (by omega)
 have w2:IntKind.i64.wrap (row-rows.tdiv 2)=row-rows.tdiv 2:=wrap64 (by omega) (by omega)
 have w3:IntKind.i64.wrap (all-rows)=all-rows:=wrap64 (by omega) (by omega)
 by_cases c1:all-rows<row-rows.tdiv 2
 ·by_cases c2:all-rows<0
  ·have e:xx all rows row=0:=by unfold xx;omega
   rw[e]
   simp (maxSteps:=1000000) [go_sem,Tryz.f77,w1,w2,w3,c1,c2]
   exact ret
  ·have e:xx all rows row=all-rows:=by unfold xx;omega
   rw[e]
   simp (maxSteps:=1000000) [go_sem,Tryz.f77,w1,w2,w3,c1,c2]
   exact ret
 ·by_cases c2:row-rows.tdiv 2<0
  ·have e:xx all rows row=0:=by unfold xx;omega
   rw[e]
   simp (maxSteps:=1000000) [go_sem,Tryz.f77,w1,w2,w3,c1,c2]
   exact ret
  ·have e:xx all rows row=row-rows.tdiv 2:=by unfold xx;omega
   rw[e]
   simp (maxSteps:=1000000) [go_sem,Tryz.f77,w1,w2,w3,c1,c2]
   exact ret
def vwS(C:Int)(ps:List (List Int))(ln:List Int)(cur:Int):Int×Int:=qu C (vwG ps ln) (vwK ps ln cur)
def vwT(R C:Int)(ps:List (List Int))(ln:List Int)(cur:Int):Int:=xx ((qu C (vwG ps ln) (vwG ps ln).length).1+1) R (vwS C ps ln cur).1
def vwL(R C:Nat)(ps:List (List Int))(ln:List Int)(cur:Int):zt:=yW R C (vwT R C ps ln cur) (vwG ps ln) (vwG ps ln).length
theorem K6 {C:Int} {l:List Cl} {i:Nat}(h:i<l.length+1):elemAt ((Qx C l).map QC) i=.agg [.int .i64 (qu C l i).1,.int .i64 (qu C l i).2]:=by
 rw[zp QC _ _ (by simp[Qx];omega)]
 simp[Qx,QC]
theorem zic [Gi] {e:PV}(hT:xn e) {ps:List (List Int)} {ln:List Int}(h:W7 ps ln)(cur:Int)(R C:Nat)(hR:1≤R∧R≤500)(hC:2≤C∧C≤1000):
  CR Tryz.prog 17 [] [.p e,.p (ZU ps ln cur),.p (.int .i64 R),.p (.int .i64 C)] [] (fun x rs=>x=.ag [.lp [15] 0,.p (.int .i64 ((vwS C ps ln cur).1-vwT R C ps ln cur)),.p (.int .i64 (vwS C ps ln cur).2)]∧rs=gpT [15] [15,1] R C (R*C) (vwL R C ps ln cur)):=by
 refine walk Tryz.func17 16 [] [] [] ?_
 have hG:=zjq h
 have hO:=zfh ps ln
 have hk:=zfu h cur
 have gl:=zhh hT h cur
 have e1:=K6 (C:=C) (l:=vwG ps ln) (i:=(vwG ps ln).length) (by omega)
 have e2:=K6 (C:=C) (l:=vwG ps ln) (i:=vwK ps ln cur) (by omega)
 have b1:=wD (C:=C) (by omega) hO (vwG ps ln).length
 have b2:=wD (C:=C) (by omega) hO (vwK ps ln cur)
 have hs:(Qx C (vwG ps ln)).length=(vwG ps ln).length+1:=by simp[Qx]
 have tp:=znz ((qu C (vwG ps ln) (vwG ps ln).length).1+1) R (qu C (vwG ps ln) (vwK ps ln cur)).1 (by omega) (by omega) (by omega)
 have tb:0≤xx ((qu C (vwG ps ln) (vwG ps ln).length).1+1) R (qu C (vwG ps ln) (vwK ps ln cur)).1∧xx ((qu C (vwG ps ln) (vwG ps ln).length).1+1) R (qu C (vwG ps ln) (vwK ps ln cur)).1≤1000000:=by
  unfold xx;omega
 have ly:=znN (vwG ps ln) R C _ hR hC (by omega) hO tb
 unfold vwL vwT vwS
 have w1:IntKind.i64.wrap ((qu C (vwG ps ln) (vwG ps ln).length).1+1)=(qu C (vwG ps ln) (vwG ps ln).length).1+1:=wrap64 (by omega) (by omega)
 generalize xx ((qu C (vwG ps ln) (vwG ps ln).length).1+1) R (qu C (vwG ps ln) (vwK ps ln cur)).1=T at tp tb ly⊢
 have w2:IntKind.i64.wrap ((qu C (vwG ps ln) (vwK ps ln cur)).1-T)=(qu C (vwG ps ln) (vwK ps ln cur)).1-T:=wrap64 (by omega) (by omega)
 have pl:=zdH (vwG ps ln) C (by omega) hC hO
 unfold ZU at gl⊢
 generalize vwK ps ln cur=k at*
 generalize vwG ps ln=G at*
 obtain⟨a,A,hA⟩:∃a A,(Qx C G).map QC=a::A:=by
  cases hc:(Qx C G).map QC with
  |nil=>have:=congrArg List.length hc;simp[hs]at this
  |cons a A=>exact⟨a,A,rfl⟩
 have hAl:A.length=G.length:=by
  have:=congrArg List.length hA
  simp[hs]at this
  omega
 rw[hA]at e1 e2
 unfold jQ at pl
 rw[hA]at pl
 simp (maxSteps:=1000000) [go_sem,Tryz.f17]
 refine zq gl ?_
 simp (maxSteps:=1000000) [go_sem]
 refine zq pl ?_
 have hk':k<A.length+1:=by omega
 simp (maxSteps:=1000000) [go_sem,hAl,e1,e2,w1]
 refine⟨by omega,by omega,zq tp ?_⟩
 simp (maxSteps:=1000000) [go_sem]
 refine⟨⟨rfl,by simp[Tryz.f69]⟩,zd [([9],[15]),([10,1],[15,1])] ly (by simp[go_sem,zS]) ⟨by simp[go_sem],by simp[go_sem]⟩ (by simp[go_sem]) ?_⟩
 rintro _ _ ⟨rfl,rfl⟩
 simp (maxSteps:=1000000) [go_sem,gpT,qK,w2]
 exact zA [[15],[15,1]] (.ag [.lp [15] 0,.p (.int .i64 ((qu C G k).1-T)),.p (.int .i64 (qu C G k).2)]) ⟨rfl,by simp⟩ (by simp[go_sem,zf,leA,leT]) ⟨rfl,by simp[go_sem,zJ]⟩
theorem zge [Gi] {rs:List (Tok×List AV)} {rt:Tok→Bool} {t:Tok} {cs:List AV} {ps:List PV}(hl:zn rs t=some cs)(ht:rt t=false)(hn:ps.length=cs.length)
  (hp:∀g w,GS g w rs→∀(j:Nat) (x:AV) (p:PV) (v:Value),cs[j]?=some x→ps[j]?=some p→zb g w x v→zl (frz g w rt).fr w p v):zb9 rt rs (.lp t 0) (.p (.pt cs.length (.agg ps))):=by
 intro g w v hG hv
 simp only[zb]at hv
 obtain⟨b,hk,rfl⟩:=hv
 obtain⟨cs',hl',hfr,arr,T,hb,hle,hc⟩:=hG.roots b t hk
 rw[hl]at hl';injection hl' with hl';subst hl'
 have hfb:(frz g w rt).fr b=arr.size:=by rw[xm hk ht];simp[frW,hb]
 have hP:zw (frz g w rt).fr w ps (arr.toList.take cs.length):=by
  refine zbl (by simp;omega) fun j p hj=>?_
  have hjc:j<cs.length:=by rw[←hn];exact(List.getElem?_eq_some_iff.1 hj).1
  obtain⟨u,hu,h1,hr⟩:=hc j cs[j] (List.getElem?_eq_getElem hjc)
  exact⟨u,by rw[List.getElem?_take,if_pos hjc];simpa using hu,h1,hp g w hG j cs[j] p u (List.getElem?_eq_getElem hjc) hj hr⟩
 have hOne:∀u∈arr.toList.take cs.length,u.oneCell'=true:=fun u hu=>by
  obtain⟨j,hj⟩:=List.mem_iff_getElem?.1 hu
  rw[List.getElem?_take]at hj
  split at hj
  ·rename_i hjc
   obtain⟨u',hu',h1,_⟩:=hc j cs[j] (List.getElem?_eq_getElem hjc)
   have:u'=u:=by
    have e:arr.toList[j]?=some u':=by simpa using hu'
    rw[e]at hj;injection hj
   rw[←this];exact h1
  ·cases hj
 simp only[zb,zl]
 refine⟨b,0,rfl,by rw[hfb];omega,.agg (arr.toList.take cs.length).toArray,⟨_,rfl,by simpa using hP⟩,by simp[Value.cells];omega,fun j c hj=>?_⟩
 have hj':(arr.toList.take cs.length)[j]?=some c:=by simpa[Value.cells]using hj
 refine⟨hOne c (List.mem_of_getElem? hj'),?_⟩
 rw[z8 hb,Nat.zero_add]
 rw[List.getElem?_take]at hj'
 split at hj'
 ·simpa using hj'
 ·cases hj'
def Zj(R C:Nat)(l:zt):PV:=.pt 3 (.agg [.int .i64 R,.int .i64 C,qe l])
theorem zck [Gi] {rs:List (Tok×List AV)} {rt:Tok→Bool} {a b:Tok} {R C N:Nat} {l:zt}(ha:zn rs a=some [.p (.int .i64 R),.p (.int .i64 C),.la b 2 0 N])(hb:zn rs b=some (cw l))(ra:rt a=false)(rb:rt b=false)(hN:0<N)(hl:l.length=N):
  zb9 rt rs (.lp a 0) (.p (Zj R C l)):=by
 refine zge (cs:=[.p (.int .i64 R),.p (.int .i64 C),.la b 2 0 N]) ha ra rfl ?_
 intro g w hG j x p v hx hp hv
 rcases j with _|_|_|j
 ·simp at hx hp;subst hx;subst hp;simpa only[zb,zl]using hv
 ·simp at hx hp;subst hx;subst hp;simpa only[zb,zl]using hv
 ·simp at hx hp;subst hx;subst hp
  refine Uf (ext:=[]) hG hN ?_ rb (by simpa using hl) (YV l) hv
  rw[hb,zgT,List.append_nil]
 ·simp at hx
def zcW(R C:Nat)(ps:List (List Int))(ln:List Int)(cur:Int):PV:=.agg [Zj R C (vwL R C ps ln cur),.int .i64 ((vwS C ps ln cur).1-vwT R C ps ln cur),.int .i64 (vwS C ps ln cur).2]
theorem yu [Gi] {e:PV}(hT:xn e) {ps:List (List Int)} {ln:List Int}(h:W7 ps ln)(cur:Int)(R C:Nat)(hR:1≤R∧R≤500)(hC:2≤C∧C≤1000):
  CR Tryz.prog 17 [] [.p e,.p (ZU ps ln cur),.p (.int .i64 R),.p (.int .i64 C)] [] (is (.p (zcW R C ps ln cur))):=by
 refine(zic hT h cur R C hR hC).freeze (fun _=>false) rfl ?_
 rintro x rs ⟨rfl,rfl⟩
 refine⟨.p (zcW R C ps ln cur),fun g w v hG hv=>?_,rfl,rfl⟩
 have hRC:0<R*C:=Nat.mul_pos (by omega) (by omega)
 have hf:=zck (rt:=fun _=>false) (rs:=gpT [15] [15,1] R C (R*C) (vwL R C ps ln cur)) (a:=[15]) (b:=[15,1]) rfl rfl rfl rfl hRC (x6 _ _ _ _ _)
 simp only[zb,zo]at hv
 obtain⟨vs,rfl,h1,u1,l1,e1,r1,u2,l2,rfl,r2,u3,l3,rfl,r3,rfl⟩:=hv
 have:=hf g w u1 hG (by simpa only[zb]using r1)
 rw[vX]at this⊢
 unfold zcW
 simp only[zl,zw]
 refine⟨vs,rfl,u1,_,e1,h1 u1 (by rw[e1];simp),this,u2,_,rfl,h1 u2 (by rw[e1];simp),by simpa only[zb,zl]using r2,u3,_,rfl,h1 u3 (by rw[e1];simp),by simpa only[zb,zl]using r3,rfl⟩
theorem vN [Gi](R C:Nat)(l:zt):CR Tryz.prog 38 [] [.p (Zj R C l)] [] (is (.tup [.p (.int .i64 R),.p (.int .i64 C)])):=by
 refine walk Tryz.func38 4 [] [3] [] ?_
 simp (maxSteps:=1000000) [go_sem,Tryz.f38,Zj]
 exact ret
theorem zoC [Gi](R C:Nat)(l:zt)(r c:Int):CR Tryz.prog 132 [] [.p (Zj R C l),.p (.int .i64 r),.p (.int .i64 c)] [] (is (.p (.bool (inB R C r c)))):=by
 refine walk Tryz.func132 7 [] [] [] ?_
 unfold inB
 by_cases h1:0≤r<;>by_cases h2:r< (R:Int)<;>by_cases h3:0≤c<;>by_cases h4:c< (C:Int)<;>
 ·simp (maxSteps:=1000000) [go_sem,Tryz.f132,Zj,h1,h2,h3,h4]
  exact ret
theorem VG [Gi](l:zt)(h0:l≠ [])(hn:l.length≤1000000):CR Tryz.prog 119 [] [.p (qe l)] [] (is (.p (qe l))):=by
 cases l with
 |nil=>exact absurd rfl h0
 |cons x l=>
  refine walk Tryz.func119 3 [] [] [] ?_
  simp only[List.length_cons]at hn
  simp (maxSteps:=1000000) [go_sem,Tryz.f119,qe]
  refine⟨by omega,?_⟩
  exact ret (hx:=by simp[go_sem,zf,leA,leT])
theorem zaW [Gi](R C:Nat)(l:zt)(r:Nat)(hR:R≤500)(hC:1≤C∧C≤1000)(hl:l.length=R*C)(hr:r<R):CR Tryz.prog 84 [] [.p (Zj R C l),.p (.int .i64 r)] [] (is (.p (qe (zm C l r)))):=by
 have hin:=zoC R C l r 0
 have hb:inB R C r 0=true:=by unfold inB;simp;omega
 rw[hb]at hin
 have hlen:=ZA hl hr
 have hcl:=VG (zm C l r) (fun e=>by rw[e]at hlen;simp at hlen;omega) (by omega)
 have hm:(r+1)*C≤R*C:=Nat.mul_le_mul_right C hr
 have hRC:R*C≤500000:=Nat.mul_le_mul hR hC.2
 have hrC:(r+1)*C=r*C+C:=by rw[Nat.add_mul];omega
 have w1:IntKind.i64.wrap ((r:Int)*C)=((r*C:Nat):Int):=by rw[Int.natCast_mul];exact wrap64 (by rw[←Int.natCast_mul];omega) (by rw[←Int.natCast_mul];omega)
 have w2:IntKind.i64.wrap ((r:Int)+1)=((r+1:Nat):Int):=zG (by omega)
 have e3:((r:Int)+1)*C=(((r+1)*C:Nat):Int):=by rw[Int.natCast_mul];rfl
 have e1:(r:Int)*C=((r*C:Nat):Int):=(Int.natCast_mul _ _).symm
 have w3:IntKind.i64.wrap (((r:Int)+1)*C)=((r:Int)+1)*C:=wrap64 (by omega) (by omega)
 have hcut:cut (l.map clP) ((r:Int)*C) (((r:Int)+1)*C)=(zm C l r).map clP:=by
  rw[e1,e3,cut,zm,List.map_take,List.map_drop]
  simp only[Int.toNat_natCast]
  try rw[List.drop_take]
  rw[show(r+1)*C-r*C=C by omega]
 refine walk Tryz.func84 5 [] [] [] ?_
 unfold Zj at hin⊢
 simp (maxSteps:=1000000) [go_sem,Tryz.f84]
 refine zq hin ?_
 simp (maxSteps:=1000000) [go_sem,w1,w2,w3,hcut]
 refine⟨⟨by omega,by omega,by omega⟩,zq hcl ?_⟩
 simp (maxSteps:=1000000) [go_sem]
 exact ret
end
end Go.Proofs.YtfjdbbpimklecaaGreatDoor
