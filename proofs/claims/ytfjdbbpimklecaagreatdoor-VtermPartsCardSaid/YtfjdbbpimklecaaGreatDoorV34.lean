/- A part of this seat's proofs, by an abstract machine. Conditions: each law's. -/
import Derived.Test.YtfjdbbpimklecaaGreatDoorV27
import Derived.Test.YtfjdbbpimklecaaGreatDoorV33
import Derived.Test.YtfjdbbpimklecaaGreatDoorV28
set_option maxHeartbeats 4000000
set_option maxRecDepth 100000
namespace Go.Proofs.YtfjdbbpimklecaaGreatDoor
section
open Go.AM
variable [Gi]
theorem Z4:CR Tryz.prog 82 [] [] [] (is (.p (clP blk))):=by
 refine zH mixed 1 [] Tryz.func82 rfl (by kernel_rfl) rfl (by simp) (by simp) ?_
 simp (maxSteps:=1000000) (disch:=omega) [go_sem,Tryz.f82]
 exact zn _ rfl (by simp[go_sem,zg,leA,clP,blk]) ⟨rfl,rfl⟩
def gp(R C N:Nat)(l:zQ):List (Tok×List AV):=[([0],[.p (.int .i64 R),.p (.int .i64 C),.la [1] 2 0 N]),([1],cw l)]
theorem zgw(R C:Nat)(hR:1≤R∧R≤500)(hC:2≤C∧C≤1000):CR Tryz.prog 23 [] [.p (.int .i64 R),.p (.int .i64 C)] []
  (fun x rs'=>x=.lp [28] 0∧zw rs' [28]=some [.p (.int .i64 R),.p (.int .i64 C),.la [26] 2 0 (R*C)]∧zw rs' [26]=some (cw (List.replicate (R*C) blk))):=by
 refine walk Tryz.func23 7 [33,34] [7] [] ?_
 have a1:¬((R:Int)<1):=by omega
 have a2:¬((500:Int)<R):=by omega
 have a3:¬((C:Int)<2):=by omega
 have a4:¬((1000:Int)<C):=by omega
 obtain⟨N,hN⟩:∃N,N=R*C:=⟨_,rfl⟩
 have hN':(R:Int)*(C:Int)=(N:Int):=by rw[hN];simp
 have hNb:N≤500000:=by rw[hN];exact Nat.mul_le_mul hR.2 hC.2
 rw[←hN]
 clear hN
 have wN:IntKind.i64.wrap (N:Int)=N:=wrap64 (by omega) (by omega)
 simp (maxSteps:=1000000) [go_sem,Tryz.f23,wN,a1,a2,a3,a4,hN']
 rw[zgW]
 refine⟨by omega,?_⟩
 refine loop (fun i:Nat=>i≤N) (fun i=>[(34,.p (.int .i64 i)),(6,.zK)]) (fun i=>[([26],cw (nw N i))]) (fun i=>N-i) 0 (Nat.zero_le _) (fun i hi=>?_) (h0:=by simp[go_sem,LeS,leV,leR,leA,leL,zl,zd])
 have hl:=zjj hi
 by_cases c:i<N
 ·have ew:=xG (l:=nw N i) (c:=i) [32] 1 (by omega)
  have es:(nw N i).set i ⟨[32],1⟩=nw N (i+1):=ziI c
  rw[es]at ew
  have w1:IntKind.i64.wrap ((i:Int)+1)=((i+1:Nat):Int):=wrap64 (by omega) (by omega)
  simp (maxSteps:=1000000) [go_sem,c]
  refine Za (.p (clP blk)) rfl rfl (fun _=>Zb 82 Z4 rfl ⟨rfl,by simp[Tryz.f82]⟩ ⟨by simp[go_sem],by simp[go_sem]⟩) ?_
  simp (maxSteps:=1000000) [go_sem,clP,blk,yz,hl,ew,w1,c]
  refine⟨by omega,?_⟩
  exact next (i+1) c (h3:=by show N- (i+1)<N-i;omega) (h2:=by simp[go_sem,LeS,leV,leR,leA,leL,zl,zd])
 ·obtain rfl:i=N:=by omega
  rw[zi4]
  simp (maxSteps:=1000000) [go_sem]
  exact zt [[28],[26]] _ (by simp) (by simp[go_sem,zg,leA]) ⟨rfl,by simp[go_sem,zd]⟩
theorem zcc(R C:Nat)(hR:1≤R∧R≤500)(hC:2≤C∧C≤1000):CR Tryz.prog 23 [] [.p (.int .i64 R),.p (.int .i64 C)] []
  (fun x rs'=>x=.lp [0] 0∧rs'=gp R C (R*C) (List.replicate (R*C) blk)):=by
 refine(zgw R C hR hC).ren 1000 ?_
 rintro x rs' ⟨rfl,h0,h1⟩
 exact⟨[([0],[28]),([1],[26])],rfl,rfl,rfl,by simp[Zk,St.ofR,h0,h1,gp,zf,AV.ren,AV.upd,u9,jt,inM]⟩
theorem uY(R C N:Nat)(l:zQ)(r c:Int):CR Tryz.prog 132 [[0],[1]] [.lp [0] 0,.p (.int .i64 r),.p (.int .i64 c)] (gp R C N l) (fun x rs'=>x=.p (.bool (inB R C r c))∧rs'=gp R C N l):=by
 refine zH mixed 7 [] Tryz.func132 rfl (by kernel_rfl) rfl (by simp) (by simp) ?_
 simp (maxSteps:=1000000) (disch:=omega) [go_sem,Tryz.f132,gp]
 exact zt [[0],[1]] (.p (.bool (inB R C r c))) (by simp) (by simp[go_sem,zg,leA,inB]) ⟨rfl,by simp[go_sem,zd]⟩
theorem wa(R C N:Nat)(l:zQ)(i:Nat)(hl:l.length=N)(hb:N≤1000000)(hi:i<N)(ho:OkR l):CR Tryz.prog 149 [[0],[1]] [.lp [0] 0,.p (.int .i64 i)] (gp R C N l) (fun x rs'=>x=.tup []∧rs'=gp R C N (qP l i)):=by
 have hi':i<l.length:=by omega
 refine zN [2,4,5] mixed 12 [] Tryz.func149 rfl (by kernel_rfl) rfl (by simp) (by simp) ?_
 simp (maxSteps:=1000000) (disch:=omega) [go_sem,Tryz.f149,gp,zh0 hi']
 have ll:=KL l i
 have ew2:=xG (l:=xa l i) (c:=i) [32] 1 (by omega)
 have er:qP l i=(xa l i).set i ⟨[32],1⟩:=rfl
 rw[er]
 refine⟨hi,zq (fun h=>?_) (fun h=>?_)⟩
 ·have h0:=(ho i l[i] (List.getElem?_eq_getElem hi')).1 h
  obtain⟨k,rfl⟩:∃k,i=k+1:=⟨i-1,by omega⟩
  have ea:xa l (k+1)=l.set k ⟨[32],1⟩:=by rw[xa,jd hi',if_pos h];rfl
  have ew:=xG (l:=l) (c:=k) [32] 1 (by omega)
  rw[ea]at ew2 ll
  simp (maxSteps:=1000000) (disch:=omega) [go_sem,wrap64]
  refine Za (.p (clP blk)) rfl rfl (fun _=>Zb 82 Z4 rfl ⟨rfl,by simp[Tryz.f82]⟩ ⟨by simp[go_sem],by simp[go_sem]⟩) ?_
  simp (maxSteps:=1000000) (disch:=omega) [go_sem,clP,blk,yz,hl,ew]
  refine⟨by omega,by omega,?_⟩
  refine Za (.p (clP blk)) rfl rfl (fun _=>Zb 82 Z4 rfl ⟨rfl,by simp[Tryz.f82]⟩ ⟨by simp[go_sem],by simp[go_sem]⟩) ?_
  simp (maxSteps:=1000000) (disch:=omega) [go_sem,clP,blk,yz,hl,ew2]
  exact⟨⟨by omega,by omega⟩,by omega,zt [[0],[1]] _ (by simp) (by simp[go_sem,zg]) ⟨rfl,by simp[go_sem,zd,ea]⟩⟩
 ·simp (maxSteps:=1000000) (disch:=omega) [go_sem]
  refine zq (fun h2=>?_) (fun h2=>?_)
  ·have h0:=(ho i l[i] (List.getElem?_eq_getElem hi')).2 h2
   have ea:xa l i=l.set (i+1) ⟨[32],1⟩:=by rw[xa,jd hi',if_neg h,if_pos h2];rfl
   have ew:=xG (l:=l) (c:=i+1) [32] 1 h0
   rw[ea]at ew2 ll
   simp (maxSteps:=1000000) (disch:=omega) [go_sem,wrap64]
   refine Za (.p (clP blk)) rfl rfl (fun _=>Zb 82 Z4 rfl ⟨rfl,by simp[Tryz.f82]⟩ ⟨by simp[go_sem],by simp[go_sem]⟩) ?_
   simp (maxSteps:=1000000) (disch:=omega) [go_sem,clP,blk,yz,hl,ew]
   refine⟨⟨by omega,by omega⟩,by omega,?_⟩
   refine Za (.p (clP blk)) rfl rfl (fun _=>Zb 82 Z4 rfl ⟨rfl,by simp[Tryz.f82]⟩ ⟨by simp[go_sem],by simp[go_sem]⟩) ?_
   simp (maxSteps:=1000000) (disch:=omega) [go_sem,clP,blk,yz,hl,ew2]
   exact⟨hi,by omega,zt [[0],[1]] _ (by simp) (by simp[go_sem,zg]) ⟨rfl,by simp[go_sem,zd,ea]⟩⟩
  ·have ea:xa l i=l:=by rw[xa,jd hi',if_neg h,if_neg h2]
   rw[ea]at ew2 ll
   simp (maxSteps:=1000000) (disch:=omega) [go_sem]
   refine Za (.p (clP blk)) rfl rfl (fun _=>Zb 82 Z4 rfl ⟨rfl,by simp[Tryz.f82]⟩ ⟨by simp[go_sem],by simp[go_sem]⟩) ?_
   simp (maxSteps:=1000000) (disch:=omega) [go_sem,clP,blk,yz,hl,ew2]
   exact⟨hi,by omega,zt [[0],[1]] _ (by simp) (by simp[go_sem,zg]) ⟨rfl,by simp[go_sem,zd,ea]⟩⟩
theorem YB(R C N:Nat)(l:zQ)(r c:Int)(x:Cl)(hN:N=R*C)(hR:R≤500)(hC:C≤1000)(hl:l.length=N)(ho:OkR l):
  CR Tryz.prog 96 [[0],[1]] [.lp [0] 0,.p (.int .i64 r),.p (.int .i64 c),.p (clP x)] (gp R C N l) (fun v rs'=>v=.p (.bool (ye R C r c x))∧rs'=gp R C N (Qx R C r c x l)):=by
 obtain⟨t,w⟩:=x
 have hNb:N≤500000:=by rw[hN];exact Nat.mul_le_mul hR hC
 refine zH mixed 10 [] Tryz.func96 rfl (by kernel_rfl) rfl (by simp) (by simp) ?_
 have hin:=uY R C N l r c
 by_cases hB:inB R C r c=true
 ·rw[hB]at hin
  obtain⟨⟨⟨h0,h1⟩,h2⟩,h3⟩:((0≤r∧r<R)∧0≤c)∧c<C:=by simpa[inB]using hB
  obtain⟨q,rfl⟩:∃q:Nat,c=q:=⟨c.toNat,by omega⟩
  obtain⟨k,rfl⟩:∃k:Nat,r=k:=⟨r.toNat,by omega⟩
  have hq:q<C:=by omega
  have hk:k<R:=by omega
  obtain⟨i,hi⟩:∃i,i=k*C+q:=⟨_,rfl⟩
  have hiI:(k:Int)*(C:Int)+(q:Int)=(i:Int):=by rw[hi];simp
  have hkC:(k:Int)*(C:Int)≤500000∧0≤(k:Int)*(C:Int):=by
   have h5:k*C≤500*1000:=Nat.mul_le_mul (by omega) hC
   have h6:((k*C:Nat):Int)=(k:Int)*(C:Int):=by simp
   omega
  have hiN:i<N:=by
   have h5:k*C+C≤R*C:=by rw[←Nat.succ_mul];exact Nat.mul_le_mul_right _ hk
   omega
  by_cases hw1:w=1
  ·subst hw1
   have hin2:=uY R C N l k q
   rw[hB]at hin2
   have hpb:ye R C k q ⟨t,1⟩=true:=by
    have e:((q:Int)+1-1)=q:=by omega
    simp only[ye,hB,e];rfl
   rw[hpb]
   have hpi:Qx R C k q ⟨t,1⟩ l=U3 l i ⟨t,1⟩:=by rw[Qx,hpb,if_pos rfl,hi];rfl
   rw[hpi]
   have e1:((q:Int)+1-1)=q:=by omega
   have hlo:=wa R C N l i hl (by omega) hiN ho
   have ll:=Qo l i
   have hpr:U3 l i ⟨t,1⟩=(qP l i).set i ⟨t,1⟩:=by simp[U3]
   have ew:=xG (l:=qP l i) (c:=i) t 1 (by omega)
   clear hpi hpb hB hi
   simp (maxSteps:=1000000) (disch:=omega) [go_sem,Tryz.f96,gp,clP]
   refine⟨⟨rfl,by simp[Tryz.f132]⟩,zh [([0],[0]),([1],[1])] hin (by simp[go_sem]) ⟨by simp[go_sem],by simp[go_sem]⟩ (by simp[go_sem,gp,zf,zd]) ?_⟩
   rintro y rs ⟨rfl,rfl⟩
   simp (maxSteps:=1000000) (disch:=omega) [go_sem,wrap64,gp,zf,zd,e1]
   refine⟨⟨rfl,by simp[Tryz.f132]⟩,zh [([0],[0]),([1],[1])] hin2 (by simp[go_sem]) ⟨by simp[go_sem],by simp[go_sem]⟩ (by simp[go_sem,gp,zf]) ?_⟩
   rintro y rs ⟨rfl,rfl⟩
   simp (maxSteps:=1000000) (disch:=omega) [go_sem,wrap64,gp,zf,zd,hiI]
   refine⟨⟨rfl,by simp[Tryz.f149]⟩,zh [([0],[0]),([1],[1])] hlo (by simp[go_sem]) ⟨by simp[go_sem],by simp[go_sem]⟩ (by simp[go_sem,gp,zf]) ?_⟩
   rintro y rs ⟨rfl,rfl⟩
   simp (maxSteps:=1000000) (disch:=omega) [go_sem,gp,zf,zd,yz,ll,hl,ew]
   refine⟨by omega,by omega,?_⟩
   exact zt [[0],[1]] _ (by simp) (by simp[go_sem,zg,leA]) ⟨rfl,by simp[go_sem,zd,hpr]⟩
  ·by_cases hw2:w=2
   ·subst hw2
    have e1:((q:Int)+2-1)=(q:Int)+1:=by omega
    have hin2:=uY R C N l k ((q:Int)+1)
    by_cases hq1:q+1<C
    ·have hB2:inB R C k ((q:Int)+1)=true:=by simp[inB,hk];omega
     rw[hB2]at hin2
     have hpb:ye R C k q ⟨t,2⟩=true:=by simp only[ye,hB,e1,hB2];rfl
     rw[hpb]
     have hpi:Qx R C k q ⟨t,2⟩ l=U3 l i ⟨t,2⟩:=by rw[Qx,hpb,if_pos rfl,hi];rfl
     rw[hpi]
     have hi1:i+1<N:=by
      have h5:k*C+C≤R*C:=by rw[←Nat.succ_mul];exact Nat.mul_le_mul_right _ hk
      omega
     have hlo:=wa R C N l i hl (by omega) hiN ho
     have ll:=Qo l i
     have hlo2:=wa R C N (qP l i) (i+1) (by omega) (by omega) hi1 (ho.qP i)
     have ll2:=Qo (qP l i) (i+1)
     have hpr:U3 l i ⟨t,2⟩=((qP (qP l i) (i+1)).set (i+1) ⟨[],0⟩).set i ⟨t,2⟩:=by simp[U3]
     have ew1:=xG (l:=qP (qP l i) (i+1)) (c:=i+1) [] 0 (by omega)
     have ew2:=xG (l:=(qP (qP l i) (i+1)).set (i+1) ⟨[],0⟩) (c:=i) t 2 (by rw[List.length_set];omega)
     clear hpi hpb hB hi hB2
     simp (maxSteps:=1000000) (disch:=omega) [go_sem,Tryz.f96,gp,clP]
     refine⟨⟨rfl,by simp[Tryz.f132]⟩,zh [([0],[0]),([1],[1])] hin (by simp[go_sem]) ⟨by simp[go_sem],by simp[go_sem]⟩ (by simp[go_sem,gp,zf,zd]) ?_⟩
     rintro y rs ⟨rfl,rfl⟩
     simp (maxSteps:=1000000) (disch:=omega) [go_sem,wrap64,gp,zf,zd,e1]
     refine⟨⟨rfl,by simp[Tryz.f132]⟩,zh [([0],[0]),([1],[1])] hin2 (by simp[go_sem]) ⟨by simp[go_sem],by simp[go_sem]⟩ (by simp[go_sem,gp,zf]) ?_⟩
     rintro y rs ⟨rfl,rfl⟩
     simp (maxSteps:=1000000) (disch:=omega) [go_sem,wrap64,gp,zf,zd,hiI]
     refine⟨⟨rfl,by simp[Tryz.f149]⟩,zh [([0],[0]),([1],[1])] hlo (by simp[go_sem]) ⟨by simp[go_sem],by simp[go_sem]⟩ (by simp[go_sem,gp,zf]) ?_⟩
     rintro y rs ⟨rfl,rfl⟩
     simp (maxSteps:=1000000) (disch:=omega) [go_sem,wrap64,gp,zf,zd]
     refine⟨⟨rfl,by simp[Tryz.f149]⟩,zh [([0],[0]),([1],[1])] hlo2 (by simp[go_sem]) ⟨by simp[go_sem],by simp[go_sem]⟩ (by simp[go_sem,gp,zf]) ?_⟩
     rintro y rs ⟨rfl,rfl⟩
     simp (maxSteps:=1000000) (disch:=omega) [go_sem,wrap64,gp,zf,zd,yz,ll,ll2,hl,ew1,ew2]
     refine⟨⟨by omega,by omega⟩,by omega,by omega,by omega,?_⟩
     exact zt [[0],[1]] _ (by simp) (by simp[go_sem,zg,leA]) ⟨rfl,by simp[go_sem,zd,hpr]⟩
    ·have hB2:inB R C k ((q:Int)+1)=false:=by
      have:¬((q:Int)+1<C):=by omega
      simp[inB,this]
     rw[hB2]at hin2
     have hpb:ye R C k q ⟨t,2⟩=false:=by simp only[ye,hB,e1,hB2];rfl
     rw[hpb]
     have hpi:Qx R C k q ⟨t,2⟩ l=l:=by rw[Qx,hpb];rfl
     rw[hpi]
     clear hpi hpb hB hi hB2
     simp (maxSteps:=1000000) (disch:=omega) [go_sem,Tryz.f96,gp,clP]
     refine⟨⟨rfl,by simp[Tryz.f132]⟩,zh [([0],[0]),([1],[1])] hin (by simp[go_sem]) ⟨by simp[go_sem],by simp[go_sem]⟩ (by simp[go_sem,gp,zf,zd]) ?_⟩
     rintro y rs ⟨rfl,rfl⟩
     simp (maxSteps:=1000000) (disch:=omega) [go_sem,wrap64,gp,zf,zd,e1]
     refine⟨⟨rfl,by simp[Tryz.f132]⟩,zh [([0],[0]),([1],[1])] hin2 (by simp[go_sem]) ⟨by simp[go_sem],by simp[go_sem]⟩ (by simp[go_sem,gp,zf]) ?_⟩
     rintro y rs ⟨rfl,rfl⟩
     simp (maxSteps:=1000000) (disch:=omega) [go_sem,gp,zf,zd]
     exact zt [[0],[1]] _ (by simp) (by simp[go_sem,zg,leA]) ⟨rfl,by simp[go_sem,zd]⟩
   ·have hpb:ye R C k q ⟨t,w⟩=false:=by simp[ye,hw1,hw2]
    rw[hpb]
    have hpi:Qx R C k q ⟨t,w⟩ l=l:=by rw[Qx,hpb];rfl
    rw[hpi]
    clear hpi hpb hB hi
    rcases Int.lt_or_le w 1 with hw|hw
    ·simp (maxSteps:=1000000) (disch:=omega) [go_sem,Tryz.f96,gp,clP]
     refine⟨⟨rfl,by simp[Tryz.f132]⟩,zh [([0],[0]),([1],[1])] hin (by simp[go_sem]) ⟨by simp[go_sem],by simp[go_sem]⟩ (by simp[go_sem,gp,zf,zd]) ?_⟩
     rintro y rs ⟨rfl,rfl⟩
     simp (maxSteps:=1000000) (disch:=omega) [go_sem,gp,zf,zd,hw]
     exact zt [[0],[1]] _ (by simp) (by simp[go_sem,zg,leA]) ⟨rfl,by simp[go_sem,zd]⟩
    ·have hw3:¬(w<1):=by omega
     have hw4:2<w:=by omega
     simp (maxSteps:=1000000) (disch:=omega) [go_sem,Tryz.f96,gp,clP]
     refine⟨⟨rfl,by simp[Tryz.f132]⟩,zh [([0],[0]),([1],[1])] hin (by simp[go_sem]) ⟨by simp[go_sem],by simp[go_sem]⟩ (by simp[go_sem,gp,zf,zd]) ?_⟩
     rintro y rs ⟨rfl,rfl⟩
     simp (maxSteps:=1000000) (disch:=omega) [go_sem,gp,zf,zd,hw3,hw4]
     exact zt [[0],[1]] _ (by simp) (by simp[go_sem,zg,leA]) ⟨rfl,by simp[go_sem,zd]⟩
 ·have hB':inB R C r c=false:=by simpa using hB
  rw[hB']at hin
  have hpb:ye R C r c ⟨t,w⟩=false:=by simp[ye,hB']
  rw[hpb]
  have hpi:Qx R C r c ⟨t,w⟩ l=l:=by rw[Qx,hpb];rfl
  rw[hpi]
  clear hpi hpb hB hB'
  simp (maxSteps:=1000000) (disch:=omega) [go_sem,Tryz.f96,gp,clP]
  refine⟨⟨rfl,by simp[Tryz.f132]⟩,zh [([0],[0]),([1],[1])] hin (by simp[go_sem]) ⟨by simp[go_sem],by simp[go_sem]⟩ (by simp[go_sem,gp,zf,zd]) ?_⟩
  rintro y rs ⟨rfl,rfl⟩
  simp (maxSteps:=1000000) (disch:=omega) [go_sem,gp,zf,zd]
  exact zt [[0],[1]] _ (by simp) (by simp[go_sem,zg,leA]) ⟨rfl,by simp[go_sem,zd]⟩
theorem zdi(R C N:Nat)(l:zQ)(r c:Int)(hN:N=R*C)(hR:R≤500)(hC:C≤1000)(hl:l.length=N)(ho:OkR l):
  CR Tryz.prog 139 [[0],[1]] [.lp [0] 0,.p (.int .i64 r),.p (.int .i64 c)] (gp R C N l) (fun v rs'=>v=.tup []∧rs'=gp R C N (UB R C r c l)):=by
 have hNb:N≤500000:=by rw[hN];exact Nat.mul_le_mul hR hC
 refine zH mixed 3 [] Tryz.func139 rfl (by kernel_rfl) rfl (by simp) (by simp) ?_
 by_cases hB:(0≤r∧r<R)∧0≤c
 ·obtain⟨⟨h0,h1⟩,h2⟩:=hB
  have hei:UB R C r c l=Vn l (r.toNat*C+c.toNat) (C-c.toNat):=by rw[UB];exact if_pos ⟨⟨h0,h1⟩,h2⟩
  rw[hei]
  obtain⟨q,rfl⟩:∃q:Nat,c=q:=⟨c.toNat,by omega⟩
  obtain⟨k,rfl⟩:∃k:Nat,r=k:=⟨r.toNat,by omega⟩
  have hk:k<R:=by omega
  simp only[Int.toNat_natCast]
  obtain⟨m,hm⟩:∃m,m=k*C:=⟨_,rfl⟩
  have hmI:(k:Int)*(C:Int)=(m:Int):=by rw[hm];simp
  have hmN:m+C≤N:=by rw[hm,hN,←Nat.succ_mul];exact Nat.mul_le_mul_right _ hk
  rw[←hm]
  clear hei hm hN
  simp (maxSteps:=1000000) (disch:=omega) [go_sem,Tryz.f139,gp]
  refine QT (fun j:Nat=>j≤C-q) (fun j=>{n:=22,nv:=3,vs:=[(0,.lp [0] 0),(1,.p (.int .i64 k)),(2,.p (.int .i64 ((q:Int)+j)))],ts:=[],rs:=[([0],[.p (.int .i64 R),.p (.int .i64 C),.la [1] 2 0 N]),([1],cw (Vn l (m+q) j))],pin:=[[0],[1]]}) (fun j=>C-q-j) 0 (by simp) (by simp[go_sem,LeS,leV,leR,leA,leL,zl,zd,Vn]) ?_
  intro j hj
  have hin:=uY R C N (Vn l (m+q) j) k ((q:Int)+j)
  have lp:=zao l (m+q) j
  have op:=zcb l (m+q) j ho
  have es:Vn l (m+q) (j+1)=qP (Vn l (m+q) j) (m+q+j):=rfl
  simp (maxSteps:=1000000) (disch:=omega) [go_sem]
  refine⟨⟨rfl,by simp[Tryz.f132]⟩,zh [([0],[0]),([1],[1])] hin (by simp[go_sem]) ⟨by simp[go_sem],by simp[go_sem]⟩ (by simp[go_sem,gp,zf]) ?_⟩
  rintro y rs ⟨rfl,rfl⟩
  by_cases hqj:q+j<C
  ·have hB2:inB R C k ((q:Int)+j)=true:=by simp[inB,hk];omega
   have hlo:=wa R C N (Vn l (m+q) j) (m+q+j) (by omega) (by omega) (by omega) op
   have e2:(m:Int)+((q:Int)+j)=((m+q+j:Nat):Int):=by omega
   simp (maxSteps:=1000000) (disch:=omega) [go_sem,wrap64,gp,zf,zd,hB2,hmI]
   rw[e2]
   refine⟨⟨rfl,by simp[Tryz.f149]⟩,zh [([0],[0]),([1],[1])] hlo (by simp[go_sem]) ⟨by simp[go_sem],by simp[go_sem]⟩ (by simp[go_sem,gp,zf]) ?_⟩
   rintro y rs ⟨rfl,rfl⟩
   simp (maxSteps:=1000000) (disch:=omega) [go_sem,wrap64,gp,zf,zd]
   refine zj (j+1) (by omega) (by simp[go_sem,LeS,leV,leR,leA,leL,zl,zd,es];omega) (by omega)
  ·have hB2:inB R C k ((q:Int)+j)=false:=by
    have:¬((q:Int)+j<C):=by omega
    simp[inB,this]
   obtain rfl:j=C-q:=by omega
   simp (maxSteps:=1000000) (disch:=omega) [go_sem,gp,zf,zd,hB2]
   exact zt [[0],[1]] _ (by simp) (by simp[go_sem,zg]) ⟨rfl,by simp[go_sem,zd]⟩
 ·have hei:UB R C r c l=l:=by rw[UB];exact if_neg hB
  rw[hei]
  have hin:=uY R C N l r c
  have hb:inB R C r c=false:=by
   by_cases a:0≤r<;>by_cases b:r<R<;>by_cases d:0≤c<;>simp[inB,a,b,d]
   exact absurd ⟨⟨a,b⟩,d⟩ hB
  rw[hb]at hin
  clear hei
  simp (maxSteps:=1000000) (disch:=omega) [go_sem,Tryz.f139,gp]
  refine QT (fun j:Nat=>j=0) (fun j=>{n:=22,nv:=3,vs:=[(0,.lp [0] 0),(1,.p (.int .i64 r)),(2,.p (.int .i64 c))],ts:=[],rs:=[([0],[.p (.int .i64 R),.p (.int .i64 C),.la [1] 2 0 N]),([1],cw l)],pin:=[[0],[1]]}) (fun j=>0) 0 (by simp) (by simp[go_sem,LeS,leV,leR,leA,leL,zl,zd]) ?_
  rintro j rfl
  simp (maxSteps:=1000000) (disch:=omega) [go_sem]
  refine⟨⟨rfl,by simp[Tryz.f132]⟩,zh [([0],[0]),([1],[1])] hin (by simp[go_sem]) ⟨by simp[go_sem],by simp[go_sem]⟩ (by simp[go_sem,gp,zf]) ?_⟩
  rintro y rs ⟨rfl,rfl⟩
  simp (maxSteps:=1000000) (disch:=omega) [go_sem,gp,zf,zd]
  exact zt [[0],[1]] _ (by simp) (by simp[go_sem,zg]) ⟨rfl,by simp[go_sem,zd]⟩
theorem uq(R C N:Nat)(l:zQ):CR Tryz.prog 38 [[0],[1]] [.lp [0] 0] (gp R C N l) (fun x rs'=>x=.tup [.p (.int .i64 R),.p (.int .i64 C)]∧rs'=gp R C N l):=by
 refine zN [3] mixed 4 [] Tryz.func38 rfl (by kernel_rfl) rfl (by simp) (by simp) ?_
 simp (maxSteps:=1000000) (disch:=omega) [go_sem,Tryz.f38,gp]
 exact zt [[0],[1]] _ (by simp) (by simp[go_sem,zg,leA]) ⟨rfl,by simp[go_sem,zd]⟩
end
section
open Go.AM
attribute [local irreducible] zb
theorem JM(f:Tok→Option Tok)(rt tt:Tok→Bool)(l:zQ):List.map (AV.ren f∘AV.upd (fil rt tt)) (cw l)=cw l:=by rw[←List.map_map,zd,zf]
def Uv(ps:List (List Int)):List Cl:=ps.flatMap zj2
def vwG(ps:List (List Int))(ln:List Int):List Cl:=Uv ps++zj2 ln
def vwN(ln:List Int)(cur:Int):Nat:=cnt (pl (kU zb ln)) cur
def vwK(ps:List (List Int))(ln:List Int)(cur:Int):Nat:=(Uv ps).length+atG (kU zb ln) (vwN ln cur)
structure zlJ(ps:List (List Int))(ln:List Int):Prop where
 n:ps.length≤4
 p:∀x∈ps,x.length≤1000∧∀r∈x,Zd r
 l:ln.length≤1000
 r:∀r∈ln,Zd r
end
section
open Go.ChangeShapes Go.WideShapes Go.ChangeAt Go.RowKit Go.AM
theorem Tryz.own:ownKnob Tryz.prog.godebug=none:=by kernel_rfl
theorem Tryz.laidOut:laidOutB Tryz.prog=true:=by kernel_rfl
theorem zaT {α:Type} {f:α→PV} {Q:α→Prop}:∀{es:List PV},(∀el∈es,∃a,Q a∧el=f a)→∃l:List α,(∀a∈l,Q a)∧es=l.map f
 | [],_=>⟨[],by simp,rfl⟩
 |x::xs,h=>by
  obtain⟨a,q,rfl⟩:=h x (by simp)
  obtain⟨l,ql,rfl⟩:=zaT (es:=xs) fun el hel=>h el (by simp[hel])
  exact⟨a::l,by simpa using ⟨q,ql⟩,rfl⟩
section
variable {H:Type} {enc:TypeId×Value→H} {W:World}
abbrev QI:List PV→Prop:=fun xs=>∃x,xs=[x]∧∃n,x=.int .i64 n∧ -9223372036854775808≤n∧n≤9223372036854775807
theorem kn:kK enc Tryz.prog W 0 (fun _=>true) true 3 QI:=by
 intro fuel cs x h
 obtain⟨xs,⟨n,rfl,hw⟩,r⟩:=zdN (k:=.i64) (by kernel_rfl) _ _ _ h
 simp[Lit.wf,IntKind.min,IntKind.max,IntKind.signed,IntKind.bits]at hw
 exact⟨_,⟨_,rfl,n,rfl,by omega⟩,r⟩
end
end
section
open Go.AM
theorem zgf(l:zQ):xD (cw l)=some ((l.map clP).flatMap PV.cells):=by
 rw[zhh]
 generalize (l.map clP).flatMap PV.cells=m
 induction m with
 |nil=>rfl
 |cons x m ih=>simp only[List.map_cons,xD,ih];rfl
theorem zai:∀(l:zQ),kJ 2 l.length ((l.map clP).flatMap PV.cells)=l.map clP
 | []=>rfl
 |c::l=>by
  rw[List.length_cons,kJ,List.map_cons,List.flatMap_cons]
  have e:(clP c).cells=[.str c.t,.int .i64 c.w]:=rfl
  rw[e]
  simp only[List.cons_append,List.nil_append,List.take_succ_cons,List.take_zero,List.drop_succ_cons,List.drop_zero]
  rw[zai l];rfl
theorem W4:∀(l:zQ),((l.map clP).flatMap PV.cells).length=l.length*2
 | []=>rfl
 |c::l=>by
  rw[List.map_cons,List.flatMap_cons,List.length_append,W4 l,List.length_cons]
  show 2+_=_
  omega
theorem WW:∀(l:zQ),((l.map clP).flatMap PV.cells).all PV.one=true
 | []=>rfl
 |c::l=>by
  rw[List.map_cons,List.flatMap_cons,List.all_append,WW l];rfl
theorem zjn(l:zQ)(o n:Nat):List.take (n*2) (List.drop (o*2) (cw l))=cw ((l.drop o).take n):=by rw[zbD,zbV]
theorem YJ [Gi](l:zQ)(o n:Nat)(h0:0<n)(hn:o+n≤l.length)(hl:l.length≤1000000):
  CR Tryz.prog 119 [[0]] [.la [0] 2 (o*2) n] [([0],cw l)] (keeps [([0],cw l)] (qQ ((l.drop o).take n))):=by
 refine zhx Tryz.func119 3 [] [] [] ?_
 have e1:=zgf ((l.drop o).take n)
 have hk:((l.drop o).take n).length=n:=by rw[List.length_take,List.length_drop];omega
 have e2:=zai ((l.drop o).take n)
 have e3:=W4 ((l.drop o).take n)
 have e4:=WW ((l.drop o).take n)
 rw[←zjn]at e1
 rw[hk]at e2 e3
 unfold qQ
 generalize (l.drop o).take n=m at*
 simp (maxSteps:=1000000) [go_sem,Tryz.f119,e1,e2,e3,e4]
 exact⟨by omega,zkO (hr:=by simp[go_sem,zd,zk,zf])⟩
theorem ziq [Gi](R C:Nat)(l:zQ)(r:Nat)(hR:R≤500)(hC:1≤C∧C≤1000)(hl:l.length=R*C)(hr:r<R):CR Tryz.prog 84 [[0],[1]] [.lp [0] 0,.p (.int .i64 r)] (gp R C (R*C) l) (keeps (gp R C (R*C) l) (qQ (Qp C l r))):=by
 have hin:=uY R C (R*C) l r 0
 have hb:inB R C r 0=true:=by unfold inB;simp;omega
 rw[hb]at hin
 have hm:(r+1)*C≤R*C:=Nat.mul_le_mul_right C hr
 have hRC:R*C≤500000:=Nat.mul_le_mul hR hC.2
 have hrC:(r+1)*C=r*C+C:=by rw[Nat.add_mul];omega
 have hcl:=YJ l (r*C) C (by omega) (by omega) (by omega)
 have w2:IntKind.i64.wrap ((r:Int)+1)=((r+1:Nat):Int):=qD (by omega)
 have e3:((r:Int)+1)*C=(((r+1)*C:Nat):Int):=by rw[Int.natCast_mul];rfl
 have e1:(r:Int)*C=((r*C:Nat):Int):=(Int.natCast_mul _ _).symm
 have w1:IntKind.i64.wrap ((r:Int)*C)=(r:Int)*C:=by rw[e1];exact wrap64 (by omega) (by omega)
 have w3:IntKind.i64.wrap (((r:Int)+1)*C)=((r:Int)+1)*C:=wrap64 (by omega) (by omega)
 refine zhx Tryz.func84 5 [] [] [] ?_
 simp (maxSteps:=1000000) [go_sem,Tryz.f84,gp]
 refine call [([0],[0]),([1],[1])] hin ?_ (hr:=by simp[go_sem,gp,zf])
 rintro _ _ ⟨rfl,rfl⟩
 have t1:((r:Int)*C).toNat=r*C:=by rw[e1];rfl
 have t2:(((r:Int)+1)*C).toNat-r*C=C:=by rw[e3,Int.toNat_natCast];omega
 simp (maxSteps:=1000000) [go_sem,gp,zf,zd,w1,w2,w3,t1,t2]
 refine⟨⟨by omega,by omega,by omega⟩,call [([0],[1])] hcl ?_ (hr:=by simp[go_sem,zf])⟩
 rintro _ _ ⟨rfl,rfl⟩
 have eo:qQ (List.take C (List.drop (r*C) l))=qQ (Qp C l r):=rfl
 rw[eo]
 unfold qQ
 simp (maxSteps:=1000000) [go_sem,zf,zd]
 exact zkO (hr:=by simp[go_sem,zd,zf])
def U7(l:zQ)(i:Nat):zQ:=List.replicate i blk++l.drop i
theorem zd6 {l:zQ} {i:Nat}(h:i≤l.length):(U7 l i).length=l.length:=by unfold U7;simp;omega
theorem zdz {l:zQ} {i:Nat}(h:i<l.length):(U7 l i).set i ⟨[32],1⟩=U7 l (i+1):=by
 unfold U7
 rw[List.set_append_right _ _ (by simp),List.length_replicate,Nat.sub_self,List.drop_eq_getElem_cons h,List.set_cons_zero,List.replicate_succ',List.append_assoc]
 rfl
theorem zfW(l:zQ):U7 l l.length=List.replicate l.length blk:=by unfold U7;rw[List.drop_length,List.append_nil]
theorem zfk [Gi](R C N:Nat)(l:zQ)(hl:l.length=N)(hN:N≤500000):CR Tryz.prog 140 [[0],[1]] [.lp [0] 0] (gp R C N l) (ZP (gp R C N (List.replicate N blk)) (.tup [])):=by
 refine X2 Tryz.func140 3 [8,9,10] [4] [] ?_
 simp (maxSteps:=1000000) [go_sem,Tryz.f140,gp]
 refine loop (fun i:Nat=>i≤N) (fun i=>[(2,.zK),(10,.p (.int .i64 i))]) (fun i=>[([1],cw (U7 l i))]) (fun i=>N-i) 0 (Nat.zero_le _) (fun i hi=>?_) (h0:=by simp[go_sem,LeS,leV,leR,leA,leL,zl,U7,zd])
 have hi2:=zd6 (l:=l) (i:=i) (by omega)
 by_cases c:i<N
 ·have ew:=xG (l:=U7 l i) (c:=i) [32] 1 (by omega)
  rw[zdz (by omega)]at ew
  have w1:IntKind.i64.wrap ((i:Int)+1)=((i+1:Nat):Int):=qD (by omega)
  simp (maxSteps:=1000000) [go_sem,c]
  refine Za (.p (clP blk)) rfl rfl (fun _=>Zb 82 Z4 rfl ⟨rfl,by simp[Tryz.f82]⟩ ⟨by simp[go_sem],by simp[go_sem]⟩) ?_
  simp (maxSteps:=1000000) [go_sem,clP,blk,yz,hi2,hl,ew,w1,c]
  refine⟨by omega,?_⟩
  exact next (i+1) c (h3:=by show N- (i+1)<N-i;omega) (h2:=by simp[go_sem,LeS,leV,leR,leA,leL,zl,zd])
 ·obtain rfl:i=N:=by omega
  have ea:=zfW l
  rw[hl]at ea
  rw[ea]
  simp (maxSteps:=1000000) [go_sem]
  exact Xt (hr:=by simp[go_sem,zd,zf])
end
section
open Go.AM
attribute [local irreducible] zb
def vwS(C:Int)(ps:List (List Int))(ln:List Int)(cur:Int):Int×Int:=zea C (vwG ps ln) (vwK ps ln cur)
def vwT(R C:Int)(ps:List (List Int))(ln:List Int)(cur:Int):Int:=zk7 ((zea C (vwG ps ln) (vwG ps ln).length).1+1) R (vwS C ps ln cur).1
def vwL(R C:Nat)(ps:List (List Int))(ln:List Int)(cur:Int):zQ:=ziN R C (vwT R C ps ln cur) (vwG ps ln) (vwG ps ln).length
theorem zgO [Gi] {rs:List (Tok×List AV)} {rt:Tok→Bool} {t:Tok} {cs:List AV} {ps:List PV}(hl:zw rs t=some cs)(ht:rt t=false)(hn:ps.length=cs.length)
  (hp:∀g w,GS g w rs→∀(j:Nat) (x:AV) (p:PV) (v:Value),cs[j]?=some x→ps[j]?=some p→za g w x v→zi (frz g w rt).fr w p v):ze2 rt rs (.lp t 0) (.p (.pt cs.length (.agg ps))):=by
 intro g w v hG hv
 simp only[za]at hv
 obtain⟨b,hk,rfl⟩:=hv
 obtain⟨cs',hl',hfr,arr,T,hb,hle,hc⟩:=hG.roots b t hk
 rw[hl]at hl';injection hl' with hl';subst hl'
 have hfb:(frz g w rt).fr b=arr.size:=by rw[xx hk ht];simp[frW,hb]
 have hP:zr (frz g w rt).fr w ps (arr.toList.take cs.length):=by
  refine Vy (by simp;omega) fun j p hj=>?_
  have hjc:j<cs.length:=by rw[←hn];exact(List.getElem?_eq_some_iff.1 hj).1
  obtain⟨u,hu,h1,hr⟩:=hc j cs[j] (List.getElem?_eq_getElem hjc)
  exact⟨u,by rw[List.getElem?_take,if_pos hjc];simpa using hu,h1,hp g w hG j cs[j] p u (List.getElem?_eq_getElem hjc) hj hr⟩
 have hOne:∀u∈arr.toList.take cs.length,u.oneCell'=true:=fun u hu=>by
  obtain⟨j,hj⟩:=List.mem_iff_getElem?.1 hu
  rw[List.getElem?_take]at hj
  split at hj
  ·rename_i hjc
   obtain⟨u',hu',h1,_⟩:=hc j cs[j] (List.getElem?_eq_getElem hjc)
   have:u'=u:=by
    have e:arr.toList[j]?=some u':=by simpa using hu'
    rw[e]at hj;injection hj
   rw[←this];exact h1
  ·cases hj
 simp only[za,zi]
 refine⟨b,0,rfl,by rw[hfb];omega,.agg (arr.toList.take cs.length).toArray,⟨_,rfl,by simpa using hP⟩,by simp[Value.cells];omega,fun j c hj=>?_⟩
 have hj':(arr.toList.take cs.length)[j]?=some c:=by simpa[Value.cells]using hj
 refine⟨hOne c (List.mem_of_getElem? hj'),?_⟩
 rw[zT hb,Nat.zero_add]
 rw[List.getElem?_take]at hj'
 split at hj'
 ·simpa using hj'
 ·cases hj'
def ZJ(R C:Nat)(l:zQ):PV:=.pt 3 (.agg [.int .i64 R,.int .i64 C,qQ l])
end
section
open Go.AM
def vt(e:PV)(R C:Nat)(t:Trm):List (Tok×List AV):=[([0],[.p e,.lp [1] 0,.p (.int .i64 t.r),.p (.int .i64 t.c),.p (.bool t.f),.p (.int .i64 t.b)]),([1],[.p (.int .i64 R),.p (.int .i64 C),.la [2] 2 0 (R*C)]),([2],cw t.l)]
theorem CR.zhV [Gi] {P:Program} {f:FuncId} {pin pin':List Tok} {args:List AV} {rs:List (Tok×List AV)} {R:AV→List (Tok×List AV)→Prop}(h:CR P f pin args rs R)(hs:∀t∈pin',t∈pin):CR P f pin' args rs R:=
 fun w g vs h1 h2=>(h w g vs h1 h2).mono fun _ _ ⟨v,x,rs',g',a1,a2,a3,a4,hA⟩=>⟨v,x,rs',g',a1,a2,a3,a4,⟨hA.frame,hA.ext,hA.out,hA.mono,fun b t hk ht=>hA.pins b t hk (hs t ht)⟩⟩
def Jn(toks:List Tok)(R:List (Tok×List AV))(v:AV):AV→List (Tok×List AV)→Prop:=fun x rs=>x=v∧Zk (St.ofR rs) (idm toks) (idm toks)=R
theorem CR.zii [Gi] {f:FuncId} {pin:List Tok} {args:List AV} {rs R:List (Tok×List AV)} {v:AV}(toks:List Tok)(h:CR Tryz.prog f pin args rs (Jn toks R v))(hok:(okM 1000000 (idm toks)&&pin.all fun t=>inM (idm toks) t==some t)=true)(hv:v.ren (inM (idm toks))=v):CR Tryz.prog f pin args rs (Go.Proofs.YtfjdbbpimklecaaGreatDoor.ZP R v):=by
 simp only[Bool.and_eq_true]at hok
 refine CR.ren h 1000000 ?_
 rintro x rs' ⟨rfl,h2⟩
 exact⟨idm toks,hok.1,hok.2,h2,hv⟩
theorem xd [Gi] {ts:List (Nat×Option TypeId)} {S:St} {pin toks:List Tok} {R:List (Tok×List AV)} {v:AV}(hp:S.pin=pin∧pin.all (fun t=>toks.contains t)=true:=by simp)
  (hx:(zg Tryz.prog S ts).1∧leT ((zg Tryz.prog S ts).2.upd (AM.fil (fun t=>toks.contains t) ftt)) v:=by simp[go_sem,zg,leA,leT,leP])
  (hr:Zk (St.ofR (wD toks (S.fil (fun t=>toks.contains t) ftt).rs)) (idm toks) (idm toks)=R:=by simp[go_sem]):wo Tryz.prog pin ts (Jn toks R v) S:=zt toks v hp hx ⟨rfl,hr⟩
theorem zcg [Gi] {f:FuncId} {fn:Func} {c:Code} {ts:List (Nat×Option TypeId)}(toks:List Tok)(hf:Tryz.prog.funcs[f]?=some fn)(nv:Nat) {pin:List Tok} {args:List AV} {rs R:List (Tok×List AV)} {v:AV}(ex:List Nat)(D:List Nat)(rm:List Nat)
  (h:wpA Tryz.prog D c (y9 Tryz.prog pin ts (Jn toks R v)) {n:=fn.ntmps,nv:=nv,vs:=wm 0 args,ts:=[],rs:=rs,pin:=pin,ex:=ex,rm:=rm}) (hok1:(okM 1000000 (idm toks)&&pin.all fun t=>inM (idm toks) t==some t)=true:=by decide) (hv:v.ren (inM (idm toks))=v:=by rfl) (hb:fn.body=some c:=by exact rfl) (hok:q7 D c=true:=by kernel_rfl)
  (hres:xQ fn.results.toList=some ts:=by exact rfl) (hnv:args.length≤nv:=by simp) (hn:args.length≤fn.ntmps:=by simp):CR Tryz.prog f pin args rs (ZP R v):=
 CR.zii toks (QX D mixed nv ex hf hb hok rm hres hnv hn h) hok1 hv
theorem zfd [Gi](e:PV)(R C:Nat)(t:Trm)(hR:1≤R∧R≤500)(h0:0≤t.r)(hc:t.r+1<R):CR Tryz.prog 141 [[0],[1],[2]] [.lp [0] 0] (vt e R C t) (ZP (vt e R C (yp R C t)) (.tup [])):=by
 have w1:IntKind.i64.wrap (t.r+1)=t.r+1:=wrap64 (by omega) (by omega)
 have hf:yp R C t={t with r:=t.r+1}:=by unfold yp;rw[if_pos hc]
 rw[hf]
 refine X2 Tryz.func141 8 [51,52,53] [11] [] ?_
 simp (maxSteps:=1000000) [go_sem,Tryz.f141,vt]
 refine call [([0],[1]),([1],[2])] (uq R C (R*C) t.l) ?_ (hr:=by simp[go_sem,gp,zf])
 rintro _ _ ⟨rfl,rfl⟩
 simp (maxSteps:=1000000) [go_sem,gp,zf,zd,w1,hc]
 exact Xt (hr:=by simp[go_sem,zd,zf])
theorem zj9(t:List UInt8)(w:Int):(decide (0<w)&&(!decide (t=[32]) ||!decide (w=1)))=decide (0<w∧(⟨t,w⟩:Cl)≠blk):=by
 by_cases a:t=[32]<;>by_cases b:w=1<;>by_cases c:0<w<;>simp[a,b,c,blk]
theorem zfF [Gi](e:PV)(R C:Nat)(t:Trm)(hR:1≤R∧R≤500)(hC:2≤C∧C≤1000)(h0:0≤t.r∧t.r<R)(hc:¬t.r+1<R)(hl:t.l.length=R*C):CR Tryz.prog 141 [[0]] [.lp [0] 0] (vt e R C t)
  (fun x rs=>x=.tup []∧zw rs [0]=some [.p e,.lp [41] 0,.p (.int .i64 ((R:Int)-1)),.p (.int .i64 t.c),.p (.bool t.f),.p (.int .i64 t.b)]∧zw rs [41]=some [.p (.int .i64 R),.p (.int .i64 C),.la [41,1] 2 0 (R*C)]∧zw rs [41,1]=some (cw (upG R C t.l (R-1)))):=by
 have w1:IntKind.i64.wrap (t.r+1)=t.r+1:=wrap64 (by omega) (by omega)
 have w2:IntKind.i64.wrap ((R:Int)-1)=(R:Int)-1:=wrap64 (by omega) (by omega)
 refine walk Tryz.func141 8 [51,52,53] [11] [] ?_
 simp (maxSteps:=1000000) [go_sem,Tryz.f141,vt]
 refine call [([0],[1]),([1],[2])] (uq R C (R*C) t.l) ?_ (hr:=by simp[go_sem,gp,zf])
 rintro _ _ ⟨rfl,rfl⟩
 simp (maxSteps:=1000000) [go_sem,gp,zf,zd,w1,hc,w2]
 refine call [([0],[41]),([1],[41,1])] (zcc R C hR hC) ?_
 rintro _ _ ⟨rfl,rfl⟩
 simp (maxSteps:=1000000) [go_sem,gp,zf,zd]
 obtain⟨M,hM⟩:∃M,M+1=R:=⟨R-1,by omega⟩
 have hRC:R*C≤500000:=Nat.mul_le_mul hR.2 hC.2
 refine loop (fun k:Nat=>k≤M) (fun k=>[(5,.p (.int .i64 ((k:Int)+1))),(6,.zK),(7,.zK),(51,.zK),(52,.zK),(53,.zK)]) (fun k=>[([41,1],cw (upG R C t.l k))]) (fun k=>M-k) 0 (Nat.zero_le _) (fun k hk=>?_) (h0:=by simp[go_sem,LeS,leV,leR,leA,leL,zl,zd,upG])
 by_cases c:k<M
 ·have c1:(k:Int)+1<R:=by omega
  have rr:=ziq R C t.l (k+1) hR.2 (by omega) hl (by omega)
  have hlen:=wV hl (show k+1<R by omega)
  have wk:IntKind.i64.wrap (k:Int)=(k:Int):=wrap64 (by omega) (by omega)
  have w3:IntKind.i64.wrap ((k:Int)+1+1)=((k+1:Nat):Int)+1:=wrap64 (by omega) (by omega)
  rw[show((k+1:Nat):Int)=(k:Int)+1 by omega]at rr
  have eG:upG R C t.l (k+1)=ki R C k (Qp C t.l (k+1)) (upG R C t.l k) C:=rfl
  have gl:=Vu R C t.l k
  have go:=za0 R C t.l k
  generalize upG R C t.l k=G at*
  generalize Qp C t.l (k+1)=cs at*
  simp (maxSteps:=1000000) [go_sem,c1]
  refine call [([0],[1]),([1],[2])] rr ?_ (hr:=by simp[go_sem,gp,zf])
  rintro _ _ ⟨rfl,rfl⟩
  simp (maxSteps:=1000000) [go_sem,gp,zf,zd]
  refine loop (fun j:Nat=>j≤C) (fun j=>[(6,.zK),(7,.zK),(53,.p (.int .i64 j))]) (fun j=>[([41,1],cw (ki R C k cs G j))]) (fun j=>C-j) 0 (Nat.zero_le _) (fun j hj=>?_) (h0:=by simp[go_sem,LeS,leV,leR,leA,leL,zl,zd,ki])
  have ul:=yg R C k cs G j
  have uo:=uj R C k cs G gl go j
  have us:=zbj R C k cs G j
  by_cases d:j<C
  ·have em:=Yz (l:=cs) (i:=j) (by omega)
   have gd:=jd (l:=cs) (c:=j) (by omega)
   rw[gd]at us
   have wj:IntKind.i64.wrap ((j:Int)+1)=((j+1:Nat):Int):=qD (by omega)
   generalize cs[j]=x at em us
   obtain⟨tx,w⟩:=x
   generalize ki R C k cs G j=U at*
   simp only at em us
   simp (maxSteps:=1000000) [go_sem,d,hlen,em]
   refine ym 82 Z4 ?_
   simp (maxSteps:=1000000) [go_sem,clP,blk]
   have wN:(k:Int)<R:=by omega
   have hp:=YB R C (R*C) U k j ⟨tx,w⟩ rfl hR.2 hC.2 (by rw[ul,gl]) uo
   simp only[clP]at hp
   rw[zj9 tx w]
   by_cases q:0<w∧(⟨tx,w⟩:Cl)≠blk
   ·rw[if_pos q]at us
    rw[decide_eq_true q]
    simp (maxSteps:=1000000) [go_sem,wk]
    refine call [([0],[41]),([1],[41,1])] (pin:=[[0],[1]]) hp ?_ (hr:=by simp[go_sem,gp,zf,zd])
    rintro _ _ ⟨rfl,rfl⟩
    simp (maxSteps:=1000000) [go_sem,gp,zf,zd,wj]
    exact next (j+1) d (h3:=by show C- (j+1)<C-j;omega) (h2:=by simp[go_sem,LeS,leV,leR,leA,leL,zl,zd,us])
   ·rw[if_neg q]at us
    rw[decide_eq_false q]
    simp (maxSteps:=1000000) [go_sem,wj]
    exact next (j+1) d (h3:=by show C- (j+1)<C-j;omega) (h2:=by simp[go_sem,LeS,leV,leR,leA,leL,zl,zd,us])
  ·obtain rfl:j=C:=by omega
   simp (maxSteps:=1000000) [go_sem,hlen,w3]
   exact next (k+1) c (h3:=by show M- (k+1)<M-k;omega) (h2:=by simp[go_sem,LeS,leV,leR,leA,leL,zl,zd,eG])
 ·obtain rfl:k=M:=by omega
  rw[show R-1=k by omega]
  have c1:¬(k:Int)+1<R:=by omega
  simp (maxSteps:=1000000) [go_sem,c1]
  exact zt [[0],[41],[41,1]] (.tup []) ⟨rfl,by simp⟩ (by simp[go_sem,zg,leT]) ⟨rfl,by simp[go_sem,zd]⟩
theorem XV [Gi](e:PV)(R C:Nat)(t:Trm) {B:Int}(hR:1≤R∧R≤500)(hC:2≤C∧C≤1000)(h:qH R C B t):CR Tryz.prog 141 [[0]] [.lp [0] 0] (vt e R C t) (ZP (vt e R C (yp R C t)) (.tup [])):=by
 by_cases c:t.r+1<R
 ·exact CR.zhV (zfd e R C t hR h.hr.1 c) (by simp)
 ·refine(zfF e R C t hR hC h.hr c h.hl).ren 1000 ?_
  rintro x rs ⟨rfl,h0,h1,h2⟩
  refine⟨[([0],[0]),([1],[41]),([2],[41,1])],rfl,rfl,?_,rfl⟩
  simp[Zk,St.ofR,h0,h1,h2,vt,zf,AV.ren,AV.upd,u9,jt,inM,yp,c]
theorem zd0 [Gi](e:PV)(R C:Nat)(t:Trm)(g:Cl) {B:Int}(hR:1≤R∧R≤500)(hC:2≤C∧C≤1000)(h:qH R C B t)(hg:1≤g.w∧g.w≤2):
  CR Tryz.prog 137 [[0]] [.lp [0] 0,.p (clP g)] (vt e R C t) (ZP (vt e R C (jz R C t g)) (.tup [])):=by
 obtain⟨tx,w⟩:=g
 simp only at hg
 have hu:=h.wrap hC.1 w
 have hc:=h.hc
 have w1:IntKind.i64.wrap (t.c+w)=t.c+w:=wrap64 (by omega) (by omega)
 refine zcg [[0],[1],[2]] Tryz.func137 6 [] [2,5,6] [] ?_
 simp (maxSteps:=1000000) [go_sem,Tryz.f137,vt,clP]
 refine call [([0],[1]),([1],[2])] (uq R C (R*C) t.l) ?_ (hr:=by simp[go_sem,gp,zf,zd])
 rintro _ _ ⟨rfl,rfl⟩
 simp (maxSteps:=1000000) [go_sem,gp,zf,zd,w1]
 by_cases q:t.f=true∨(C:Int)<t.c+w
 ·have hb:(t.f || decide ((C:Int)<t.c+w))=true:=by rcases q with q|q<;>simp[q]
  have hW:vI R C t w={yp R C t with c:=0,f:=false}:=by rw[vI,if_pos q]
  rw[show jz R C t ⟨tx,w⟩=jg R C (vI R C t w) ⟨tx,w⟩from rfl]
  rw[hW]at hu⊢
  rw[hb]
  simp (maxSteps:=1000000) [go_sem]
  refine call [([0],[0]),([1],[1]),([2],[2])] (XV e R C t hR hC h) ?_ (hr:=by simp[go_sem,vt,zf])
  rintro _ _ ⟨rfl,rfl⟩
  simp (maxSteps:=1000000) [go_sem,vt,zf,zd]
  have ww:IntKind.i64.wrap w=w:=wrap64 (by omega) (by omega)
  have wC:IntKind.i64.wrap ((C:Int)-1)=(C:Int)-1:=wrap64 (by omega) (by omega)
  have hp:=YB R C (R*C) (yp R C t).l (yp R C t).r 0 ⟨tx,w⟩ rfl hR.2 hC.2 hu.hl hu.ho
  simp only[clP]at hp
  refine call [([0],[1]),([1],[2])] (pin:=[[0],[1]]) hp ?_ (hr:=by simp[go_sem,gp,zf])
  rintro _ _ ⟨rfl,rfl⟩
  unfold jg
  simp only[Int.zero_add]
  by_cases d:(C:Int)≤w
  ·rw[if_pos d]
   simp (maxSteps:=1000000) [go_sem,gp,zf,zd,ww,wC,d]
   exact xd (hr:=by simp[go_sem,zd,zf])
  ·rw[if_neg d]
   simp (maxSteps:=1000000) [go_sem,gp,zf,zd,ww,d]
   exact xd (hr:=by simp[go_sem,zd,zf])
 ·have hb:(t.f || decide ((C:Int)<t.c+w))=false:=by cases hf:t.f<;>simp_all
  have hW:vI R C t w=t:=by rw[vI,if_neg q]
  rw[show jz R C t ⟨tx,w⟩=jg R C (vI R C t w) ⟨tx,w⟩from rfl]
  rw[hW]at hu⊢
  rw[hb]
  simp (maxSteps:=1000000) [go_sem]
  have ww:IntKind.i64.wrap (t.c+w)=t.c+w:=wrap64 (by have:=hu.hc;omega) (by have:=hu.hc;omega)
  have wC:IntKind.i64.wrap ((C:Int)-1)=(C:Int)-1:=wrap64 (by omega) (by omega)
  have hp:=YB R C (R*C) t.l t.r t.c ⟨tx,w⟩ rfl hR.2 hC.2 hu.hl hu.ho
  simp only[clP]at hp
  refine call [([0],[1]),([1],[2])] (pin:=[[0],[1]]) hp ?_ (hr:=by simp[go_sem,gp,zf])
  rintro _ _ ⟨rfl,rfl⟩
  unfold jg
  by_cases d:(C:Int)≤t.c+w
  ·rw[if_pos d]
   simp (maxSteps:=1000000) [go_sem,gp,zf,zd,ww,wC,d]
   exact xd (hr:=by simp[go_sem,zd,zf])
  ·rw[if_neg d]
   simp (maxSteps:=1000000) [go_sem,gp,zf,zd,ww,d]
   exact xd (hr:=by simp[go_sem,zd,zf])
end
end Go.Proofs.YtfjdbbpimklecaaGreatDoor
