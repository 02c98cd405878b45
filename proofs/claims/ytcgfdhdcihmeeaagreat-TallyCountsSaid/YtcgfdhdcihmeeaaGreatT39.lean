/- A part of the proof of this seat's statements, by an abstract machine: what each operation does to values, and what the law's functions compute. Conditions: as each law says. -/
import Derived.Test.YtcgfdhdcihmeeaaGreatT33
import Derived.Test.YtcgfdhdcihmeeaaGreatT36
import Derived.Test.YtcgfdhdcihmeeaaGreatT38
import Derived.Test.YtcgfdhdcihmeeaaGreatT34
import Derived.Test.YtcgfdhdcihmeeaaGreatT35
import Derived.Test.YtcgfdhdcihmeeaaGreatT17
section
namespace Go.Proofs.YtcgfdhdcihmeeaaGreat
open Go.AM
set_option maxHeartbeats 4000000
set_option maxRecDepth 10000
variable [Gi]
theorem jg:CR Tryz.prog 82 [] [] [] (is (.p (clP blk))):=by
 refine zC mixed 1 [] Tryz.func82 rfl (by kernel_rfl) rfl (by simp) (by simp) ?_
 simp (maxSteps:=1000000) (disch:=omega) [go_sem,Tryz.f82]
 exact zh _ rfl (by simp[go_sem,zf,leA,clP,blk]) ⟨rfl,rfl⟩
def gp(R C N:Nat)(l:zw):List (Tok×List AV):=[([0],[.p (.int .i64 R),.p (.int .i64 C),.la [1] 2 0 N]),([1],cw l)]
theorem zjH(R C:Nat)(hR:1≤R∧R≤500)(hC:2≤C∧C≤1000):CR Tryz.prog 47 [] [.p (.int .i64 R),.p (.int .i64 C)] []
  (fun x rs'=>x=.lp [28] 0∧zl rs' [28]=some [.p (.int .i64 R),.p (.int .i64 C),.la [26] 2 0 (R*C)]∧zl rs' [26]=some (cw (List.replicate (R*C) blk))):=by
 refine walk Tryz.func47 7 [33,34] [7] [] ?_
 have a1:¬((R:Int)<1):=by omega
 have a2:¬((500:Int)<R):=by omega
 have a3:¬((C:Int)<2):=by omega
 have a4:¬((1000:Int)<C):=by omega
 obtain⟨N,hN⟩:∃N,N=R*C:=⟨_,rfl⟩
 have hN':(R:Int)*(C:Int)=(N:Int):=by rw[hN];simp
 have hNb:N≤500000:=by rw[hN];exact Nat.mul_le_mul hR.2 hC.2
 rw[←hN]
 clear hN
 have wN:IntKind.i64.wrap (N:Int)=N:=wrap64 (by omega) (by omega)
 simp (maxSteps:=1000000) [go_sem,Tryz.f47,wN,a1,a2,a3,a4,hN']
 rw[zjT]
 refine⟨by omega,?_⟩
 refine loop (fun i:Nat=>i≤N) (fun i=>[(34,.p (.int .i64 i)),(6,.z8)]) (fun i=>[([26],cw (nw N i))]) (fun i=>N-i) 0 (Nat.zero_le _) (fun i hi=>?_) (h0:=by simp[go_sem,LeS,leV,leR,leA,leL,zi,zG])
 have hl:=zmE hi
 by_cases c:i<N
 ·have ew:=jG (l:=nw N i) (c:=i) [32] 1 (by omega)
  have es:(nw N i).set i ⟨[32],1⟩=nw N (i+1):=zlD c
  rw[es]at ew
  have w1:IntKind.i64.wrap ((i:Int)+1)=((i+1:Nat):Int):=wrap64 (by omega) (by omega)
  simp (maxSteps:=1000000) [go_sem,c]
  refine Zs (.p (clP blk)) rfl rfl (fun _=>Zt 82 jg rfl ⟨rfl,by simp[Tryz.f82]⟩ ⟨by simp[go_sem],by simp[go_sem]⟩) ?_
  simp (maxSteps:=1000000) [go_sem,clP,blk,QZ,hl,ew,w1,c]
  refine⟨by omega,?_⟩
  exact next (i+1) c (h3:=by show N- (i+1)<N-i;omega) (h2:=by simp[go_sem,LeS,leV,leR,leA,leL,zi,zG])
 ·obtain rfl:i=N:=by omega
  rw[zmt]
  simp (maxSteps:=1000000) [go_sem]
  exact zu [[28],[26]] _ (by simp) (by simp[go_sem,zf,leA]) ⟨rfl,by simp[go_sem,zG]⟩
theorem zev(R C:Nat)(hR:1≤R∧R≤500)(hC:2≤C∧C≤1000):CR Tryz.prog 47 [] [.p (.int .i64 R),.p (.int .i64 C)] []
  (fun x rs'=>x=.lp [0] 0∧rs'=gp R C (R*C) (List.replicate (R*C) blk)):=by
 refine(zjH R C hR hC).ren 1000 ?_
 rintro x rs' ⟨rfl,h0,h1⟩
 exact⟨[([0],[28]),([1],[26])],rfl,rfl,rfl,by simp[qB,St.ofR,h0,h1,gp,qy,AV.ren,AV.upd,UP,kG,inM]⟩
theorem zdi(R C N:Nat)(l:zw)(r c:Int):CR Tryz.prog 66 [[0],[1]] [.lp [0] 0,.p (.int .i64 r),.p (.int .i64 c)] (gp R C N l) (fun x rs'=>x=.p (.bool (inB R C r c))∧rs'=gp R C N l):=by
 refine zC mixed 7 [] Tryz.func66 rfl (by kernel_rfl) rfl (by simp) (by simp) ?_
 simp (maxSteps:=1000000) (disch:=omega) [go_sem,Tryz.f66,gp]
 exact zu [[0],[1]] (.p (.bool (inB R C r c))) (by simp) (by simp[go_sem,zf,leA,inB]) ⟨rfl,by simp[go_sem,zG]⟩
theorem Vk(R C N:Nat)(l:zw)(i:Nat)(hl:l.length=N)(hb:N≤1000000)(hi:i<N)(ho:OkR l):CR Tryz.prog 102 [[0],[1]] [.lp [0] 0,.p (.int .i64 i)] (gp R C N l) (fun x rs'=>x=.tup []∧rs'=gp R C N (qE l i)):=by
 have hi':i<l.length:=by omega
 refine zR [2,4,5] mixed 12 [] Tryz.func102 rfl (by kernel_rfl) rfl (by simp) (by simp) ?_
 simp (maxSteps:=1000000) (disch:=omega) [go_sem,Tryz.f102,gp,zc6 hi']
 have ll:=YX l i
 have ew2:=jG (l:=yD l i) (c:=i) [32] 1 (by omega)
 have er:qE l i=(yD l i).set i ⟨[32],1⟩:=rfl
 rw[er]
 refine⟨hi,zt (fun h=>?_) (fun h=>?_)⟩
 ·have h0:=(ho i l[i] (List.getElem?_eq_getElem hi')).1 h
  obtain⟨k,rfl⟩:∃k,i=k+1:=⟨i-1,by omega⟩
  have ea:yD l (k+1)=l.set k ⟨[32],1⟩:=by rw[yD,qM hi',if_pos h];rfl
  have ew:=jG (l:=l) (c:=k) [32] 1 (by omega)
  rw[ea]at ew2 ll
  simp (maxSteps:=1000000) (disch:=omega) [go_sem,wrap64]
  refine Zs (.p (clP blk)) rfl rfl (fun _=>Zt 82 jg rfl ⟨rfl,by simp[Tryz.f82]⟩ ⟨by simp[go_sem],by simp[go_sem]⟩) ?_
  simp (maxSteps:=1000000) (disch:=omega) [go_sem,clP,blk,QZ,hl,ew]
  refine⟨by omega,by omega,?_⟩
  refine Zs (.p (clP blk)) rfl rfl (fun _=>Zt 82 jg rfl ⟨rfl,by simp[Tryz.f82]⟩ ⟨by simp[go_sem],by simp[go_sem]⟩) ?_
  simp (maxSteps:=1000000) (disch:=omega) [go_sem,clP,blk,QZ,hl,ew2]
  exact⟨⟨by omega,by omega⟩,by omega,zu [[0],[1]] _ (by simp) (by simp[go_sem,zf]) ⟨rfl,by simp[go_sem,zG,ea]⟩⟩
 ·simp (maxSteps:=1000000) (disch:=omega) [go_sem]
  refine zt (fun h2=>?_) (fun h2=>?_)
  ·have h0:=(ho i l[i] (List.getElem?_eq_getElem hi')).2 h2
   have ea:yD l i=l.set (i+1) ⟨[32],1⟩:=by rw[yD,qM hi',if_neg h,if_pos h2];rfl
   have ew:=jG (l:=l) (c:=i+1) [32] 1 h0
   rw[ea]at ew2 ll
   simp (maxSteps:=1000000) (disch:=omega) [go_sem,wrap64]
   refine Zs (.p (clP blk)) rfl rfl (fun _=>Zt 82 jg rfl ⟨rfl,by simp[Tryz.f82]⟩ ⟨by simp[go_sem],by simp[go_sem]⟩) ?_
   simp (maxSteps:=1000000) (disch:=omega) [go_sem,clP,blk,QZ,hl,ew]
   refine⟨⟨by omega,by omega⟩,by omega,?_⟩
   refine Zs (.p (clP blk)) rfl rfl (fun _=>Zt 82 jg rfl ⟨rfl,by simp[Tryz.f82]⟩ ⟨by simp[go_sem],by simp[go_sem]⟩) ?_
   simp (maxSteps:=1000000) (disch:=omega) [go_sem,clP,blk,QZ,hl,ew2]
   exact⟨hi,by omega,zu [[0],[1]] _ (by simp) (by simp[go_sem,zf]) ⟨rfl,by simp[go_sem,zG,ea]⟩⟩
  ·have ea:yD l i=l:=by rw[yD,qM hi',if_neg h,if_neg h2]
   rw[ea]at ew2 ll
   simp (maxSteps:=1000000) (disch:=omega) [go_sem]
   refine Zs (.p (clP blk)) rfl rfl (fun _=>Zt 82 jg rfl ⟨rfl,by simp[Tryz.f82]⟩ ⟨by simp[go_sem],by simp[go_sem]⟩) ?_
   simp (maxSteps:=1000000) (disch:=omega) [go_sem,clP,blk,QZ,hl,ew2]
   exact⟨hi,by omega,zu [[0],[1]] _ (by simp) (by simp[go_sem,zf]) ⟨rfl,by simp[go_sem,zG,ea]⟩⟩
theorem zkr(R C N:Nat)(l:zw)(r c:Int)(x:Cl)(hN:N=R*C)(hR:R≤500)(hC:C≤1000)(hl:l.length=N)(ho:OkR l):
  CR Tryz.prog 74 [[0],[1]] [.lp [0] 0,.p (.int .i64 r),.p (.int .i64 c),.p (clP x)] (gp R C N l) (fun v rs'=>v=.p (.bool (kV R C r c x))∧rs'=gp R C N (QP R C r c x l)):=by
 obtain⟨t,w⟩:=x
 have hNb:N≤500000:=by rw[hN];exact Nat.mul_le_mul hR hC
 refine zC mixed 10 [] Tryz.func74 rfl (by kernel_rfl) rfl (by simp) (by simp) ?_
 have hin:=zdi R C N l r c
 by_cases hB:inB R C r c=true
 ·rw[hB]at hin
  obtain⟨⟨⟨h0,h1⟩,h2⟩,h3⟩:((0≤r∧r<R)∧0≤c)∧c<C:=by simpa[inB]using hB
  obtain⟨q,rfl⟩:∃q:Nat,c=q:=⟨c.toNat,by omega⟩
  obtain⟨k,rfl⟩:∃k:Nat,r=k:=⟨r.toNat,by omega⟩
  have hq:q<C:=by omega
  have hk:k<R:=by omega
  obtain⟨i,hi⟩:∃i,i=k*C+q:=⟨_,rfl⟩
  have hiI:(k:Int)*(C:Int)+(q:Int)=(i:Int):=by rw[hi];simp
  have hkC:(k:Int)*(C:Int)≤500000∧0≤(k:Int)*(C:Int):=by
   have h5:k*C≤500*1000:=Nat.mul_le_mul (by omega) hC
   have h6:((k*C:Nat):Int)=(k:Int)*(C:Int):=by simp
   omega
  have hiN:i<N:=by
   have h5:k*C+C≤R*C:=by rw[←Nat.succ_mul];exact Nat.mul_le_mul_right _ hk
   omega
  by_cases hw1:w=1
  ·subst hw1
   have hin2:=zdi R C N l k q
   rw[hB]at hin2
   have hpb:kV R C k q ⟨t,1⟩=true:=by
    have e:((q:Int)+1-1)=q:=by omega
    simp only[kV,hB,e];rfl
   rw[hpb]
   have hpi:QP R C k q ⟨t,1⟩ l=V4 l i ⟨t,1⟩:=by rw[QP,hpb,if_pos rfl,hi];rfl
   rw[hpi]
   have e1:((q:Int)+1-1)=q:=by omega
   have hlo:=Vk R C N l i hl (by omega) hiN ho
   have ll:=Q4 l i
   have hpr:V4 l i ⟨t,1⟩=(qE l i).set i ⟨t,1⟩:=by simp[V4]
   have ew:=jG (l:=qE l i) (c:=i) t 1 (by omega)
   clear hpi hpb hB hi
   simp (maxSteps:=1000000) (disch:=omega) [go_sem,Tryz.f74,gp,clP]
   refine⟨⟨rfl,by simp[Tryz.f66]⟩,zd [([0],[0]),([1],[1])] hin (by simp[go_sem]) ⟨by simp[go_sem],by simp[go_sem]⟩ (by simp[go_sem,gp,qy,zG]) ?_⟩
   rintro y rs ⟨rfl,rfl⟩
   simp (maxSteps:=1000000) (disch:=omega) [go_sem,wrap64,gp,qy,zG,e1]
   refine⟨⟨rfl,by simp[Tryz.f66]⟩,zd [([0],[0]),([1],[1])] hin2 (by simp[go_sem]) ⟨by simp[go_sem],by simp[go_sem]⟩ (by simp[go_sem,gp,qy]) ?_⟩
   rintro y rs ⟨rfl,rfl⟩
   simp (maxSteps:=1000000) (disch:=omega) [go_sem,wrap64,gp,qy,zG,hiI]
   refine⟨⟨rfl,by simp[Tryz.f102]⟩,zd [([0],[0]),([1],[1])] hlo (by simp[go_sem]) ⟨by simp[go_sem],by simp[go_sem]⟩ (by simp[go_sem,gp,qy]) ?_⟩
   rintro y rs ⟨rfl,rfl⟩
   simp (maxSteps:=1000000) (disch:=omega) [go_sem,gp,qy,zG,QZ,ll,hl,ew]
   refine⟨by omega,by omega,?_⟩
   exact zu [[0],[1]] _ (by simp) (by simp[go_sem,zf,leA]) ⟨rfl,by simp[go_sem,zG,hpr]⟩
  ·by_cases hw2:w=2
   ·subst hw2
    have e1:((q:Int)+2-1)=(q:Int)+1:=by omega
    have hin2:=zdi R C N l k ((q:Int)+1)
    by_cases hq1:q+1<C
    ·have hB2:inB R C k ((q:Int)+1)=true:=by simp[inB,hk];omega
     rw[hB2]at hin2
     have hpb:kV R C k q ⟨t,2⟩=true:=by simp only[kV,hB,e1,hB2];rfl
     rw[hpb]
     have hpi:QP R C k q ⟨t,2⟩ l=V4 l i ⟨t,2⟩:=by rw[QP,hpb,if_pos rfl,hi];rfl
     rw[hpi]
     have hi1:i+1<N:=by
      have h5:k*C+C≤R*C:=by rw[←Nat.succ_mul];exact Nat.mul_le_mul_right _ hk
      omega
     have hlo:=Vk R C N l i hl (by omega) hiN ho
     have ll:=Q4 l i
     have hlo2:=Vk R C N (qE l i) (i+1) (by omega) (by omega) hi1 (ho.qE i)
     have ll2:=Q4 (qE l i) (i+1)
     have hpr:V4 l i ⟨t,2⟩=((qE (qE l i) (i+1)).set (i+1) ⟨[],0⟩).set i ⟨t,2⟩:=by simp[V4]
     have ew1:=jG (l:=qE (qE l i) (i+1)) (c:=i+1) [] 0 (by omega)
     have ew2:=jG (l:=(qE (qE l i) (i+1)).set (i+1) ⟨[],0⟩) (c:=i) t 2 (by rw[List.length_set];omega)
     clear hpi hpb hB hi hB2
     simp (maxSteps:=1000000) (disch:=omega) [go_sem,Tryz.f74,gp,clP]
     refine⟨⟨rfl,by simp[Tryz.f66]⟩,zd [([0],[0]),([1],[1])] hin (by simp[go_sem]) ⟨by simp[go_sem],by simp[go_sem]⟩ (by simp[go_sem,gp,qy,zG]) ?_⟩
     rintro y rs ⟨rfl,rfl⟩
     simp (maxSteps:=1000000) (disch:=omega) [go_sem,wrap64,gp,qy,zG,e1]
     refine⟨⟨rfl,by simp[Tryz.f66]⟩,zd [([0],[0]),([1],[1])] hin2 (by simp[go_sem]) ⟨by simp[go_sem],by simp[go_sem]⟩ (by simp[go_sem,gp,qy]) ?_⟩
     rintro y rs ⟨rfl,rfl⟩
     simp (maxSteps:=1000000) (disch:=omega) [go_sem,wrap64,gp,qy,zG,hiI]
     refine⟨⟨rfl,by simp[Tryz.f102]⟩,zd [([0],[0]),([1],[1])] hlo (by simp[go_sem]) ⟨by simp[go_sem],by simp[go_sem]⟩ (by simp[go_sem,gp,qy]) ?_⟩
     rintro y rs ⟨rfl,rfl⟩
     simp (maxSteps:=1000000) (disch:=omega) [go_sem,wrap64,gp,qy,zG]
     refine⟨⟨rfl,by simp[Tryz.f102]⟩,zd [([0],[0]),([1],[1])] hlo2 (by simp[go_sem]) ⟨by simp[go_sem],by simp[go_sem]⟩ (by simp[go_sem,gp,qy]) ?_⟩
     rintro y rs ⟨rfl,rfl⟩
     simp (maxSteps:=1000000) (disch:=omega) [go_sem,wrap64,gp,qy,zG,QZ,ll,ll2,hl,ew1,ew2]
     refine⟨⟨by omega,by omega⟩,by omega,by omega,by omega,?_⟩
     exact zu [[0],[1]] _ (by simp) (by simp[go_sem,zf,leA]) ⟨rfl,by simp[go_sem,zG,hpr]⟩
    ·have hB2:inB R C k ((q:Int)+1)=false:=by
      have:¬((q:Int)+1<C):=by omega
      simp[inB,this]
     rw[hB2]at hin2
     have hpb:kV R C k q ⟨t,2⟩=false:=by simp only[kV,hB,e1,hB2];rfl
     rw[hpb]
     have hpi:QP R C k q ⟨t,2⟩ l=l:=by rw[QP,hpb];rfl
     rw[hpi]
     clear hpi hpb hB hi hB2
     simp (maxSteps:=1000000) (disch:=omega) [go_sem,Tryz.f74,gp,clP]
     refine⟨⟨rfl,by simp[Tryz.f66]⟩,zd [([0],[0]),([1],[1])] hin (by simp[go_sem]) ⟨by simp[go_sem],by simp[go_sem]⟩ (by simp[go_sem,gp,qy,zG]) ?_⟩
     rintro y rs ⟨rfl,rfl⟩
     simp (maxSteps:=1000000) (disch:=omega) [go_sem,wrap64,gp,qy,zG,e1]
     refine⟨⟨rfl,by simp[Tryz.f66]⟩,zd [([0],[0]),([1],[1])] hin2 (by simp[go_sem]) ⟨by simp[go_sem],by simp[go_sem]⟩ (by simp[go_sem,gp,qy]) ?_⟩
     rintro y rs ⟨rfl,rfl⟩
     simp (maxSteps:=1000000) (disch:=omega) [go_sem,gp,qy,zG]
     exact zu [[0],[1]] _ (by simp) (by simp[go_sem,zf,leA]) ⟨rfl,by simp[go_sem,zG]⟩
   ·have hpb:kV R C k q ⟨t,w⟩=false:=by simp[kV,hw1,hw2]
    rw[hpb]
    have hpi:QP R C k q ⟨t,w⟩ l=l:=by rw[QP,hpb];rfl
    rw[hpi]
    clear hpi hpb hB hi
    rcases Int.lt_or_le w 1 with hw|hw
    ·simp (maxSteps:=1000000) (disch:=omega) [go_sem,Tryz.f74,gp,clP]
     refine⟨⟨rfl,by simp[Tryz.f66]⟩,zd [([0],[0]),([1],[1])] hin (by simp[go_sem]) ⟨by simp[go_sem],by simp[go_sem]⟩ (by simp[go_sem,gp,qy,zG]) ?_⟩
     rintro y rs ⟨rfl,rfl⟩
     simp (maxSteps:=1000000) (disch:=omega) [go_sem,gp,qy,zG,hw]
     exact zu [[0],[1]] _ (by simp) (by simp[go_sem,zf,leA]) ⟨rfl,by simp[go_sem,zG]⟩
    ·have hw3:¬(w<1):=by omega
     have hw4:2<w:=by omega
     simp (maxSteps:=1000000) (disch:=omega) [go_sem,Tryz.f74,gp,clP]
     refine⟨⟨rfl,by simp[Tryz.f66]⟩,zd [([0],[0]),([1],[1])] hin (by simp[go_sem]) ⟨by simp[go_sem],by simp[go_sem]⟩ (by simp[go_sem,gp,qy,zG]) ?_⟩
     rintro y rs ⟨rfl,rfl⟩
     simp (maxSteps:=1000000) (disch:=omega) [go_sem,gp,qy,zG,hw3,hw4]
     exact zu [[0],[1]] _ (by simp) (by simp[go_sem,zf,leA]) ⟨rfl,by simp[go_sem,zG]⟩
 ·have hB':inB R C r c=false:=by simpa using hB
  rw[hB']at hin
  have hpb:kV R C r c ⟨t,w⟩=false:=by simp[kV,hB']
  rw[hpb]
  have hpi:QP R C r c ⟨t,w⟩ l=l:=by rw[QP,hpb];rfl
  rw[hpi]
  clear hpi hpb hB hB'
  simp (maxSteps:=1000000) (disch:=omega) [go_sem,Tryz.f74,gp,clP]
  refine⟨⟨rfl,by simp[Tryz.f66]⟩,zd [([0],[0]),([1],[1])] hin (by simp[go_sem]) ⟨by simp[go_sem],by simp[go_sem]⟩ (by simp[go_sem,gp,qy,zG]) ?_⟩
  rintro y rs ⟨rfl,rfl⟩
  simp (maxSteps:=1000000) (disch:=omega) [go_sem,gp,qy,zG]
  exact zu [[0],[1]] _ (by simp) (by simp[go_sem,zf,leA]) ⟨rfl,by simp[go_sem,zG]⟩
end Go.Proofs.YtcgfdhdcihmeeaaGreat
end
section
namespace Go.Proofs.YtcgfdhdcihmeeaaGreat
open Go.AM
set_option maxHeartbeats 4000000
set_option maxRecDepth 10000
attribute [local irreducible] za
def gpT(a b:Tok)(R C N:Nat)(l:zw):List (Tok×List AV):=[(a,[.p (.int .i64 R),.p (.int .i64 C),.la b 2 0 N]),(b,cw l)]
theorem zj8(f:Tok→Option Tok)(rt tt:Tok→Bool)(l:zw):List.map (AV.ren f∘AV.upd (fil rt tt)) (cw l)=cw l:=by rw[←List.map_map,zG,qy]
theorem zma [Gi](l:List Cl)(R C:Nat)(top:Int)(hR:1≤R∧R≤500)(hC:2≤C∧C≤1000)(hn:l.length≤100000)(hl:∀x∈l,k9 x)(ht:0≤top∧top≤1000000):
  CR Tryz.prog 39 [] [.p (Za l),.p (.int .i64 R),.p (.int .i64 C),.p (.int .i64 top)] [] (fun x rs=>x=.lp [9] 0∧rs=gpT [9] [10,1] R C (R*C) (yr R C top l l.length)):=by
 refine walk Tryz.func39 12 [19,20,21] [] [] ?_
 simp (maxSteps:=1000000) [go_sem,Tryz.f39]
 refine⟨⟨rfl,by simp[Tryz.f47]⟩,zd [([0],[9]),([1],[10,1])] (zev R C hR hC) (by simp[go_sem,zM]) ⟨by simp[go_sem],by simp[go_sem]⟩ (by simp[go_sem]) ?_⟩
 rintro _ _ ⟨rfl,rfl⟩
 simp (maxSteps:=1000000) [go_sem,gp,qy]
 refine zq (zaP l C hn hC hl) ?_
 have hs:(Qt C l).length=l.length+1:=by simp[Qt]
 simp (maxSteps:=1000000) [go_sem,jv,hs]
 refine loop (fun i:Nat=>i≤l.length+1) (fun i=>[(21,.p (.int .i64 i))]) (fun i=>[([10,1],cw (yr R C top l (min i l.length)))]) (fun i=>l.length+1-i) 0 (Nat.zero_le _) (fun i hi=>?_) (h0:=by simp[go_sem,LeS,leV,leR,leA,leL,zi,leT,leP,yr,xY,zG])
 by_cases hil:i<l.length+1
 ·have em:elemAt ((Qt C l).map Qk) i=.agg [.int .i64 (qp C l i).1,.int .i64 (qp C l i).2]:=by
   rw[zp Qk _ _ (by rw[hs];exact hil)]
   simp[Qt,Qk]
  have bd:=vu (C:=C) (by omega) hl i
  have w1:IntKind.i64.wrap ((i:Int)+1)=((i+1:Nat):Int):=zD (by omega)
  have st:yr R C top l (i+1)=if top≤(qp C l i).1 then QP R C ((qp C l i).1-top) (qp C l i).2 (l.getD i blk) (yr R C top l i)else yr R C top l i:=rfl
  generalize qp C l i=s at bd em st⊢
  obtain⟨p,q⟩:=s
  simp only at bd em st
  have wt:IntKind.i64.wrap (p-top)=p-top:=wrap64 (by omega) (by omega)
  have hil':(i:Int)<l.length+1:=by omega
  by_cases hin:i<l.length
  ·have hlen:=xg R C top l i
   have hok:=zkf R C top l i
   rw[show min i l.length=i by omega]
   have m1:min (i+1) l.length=i+1:=by omega
   have gm:=JH hin
   have gd:l.getD i blk=l[i]:=by rw[List.getD_eq_getElem?_getD,List.getElem?_eq_getElem hin];rfl
   rw[gd]at st
   generalize l[i]=x at gm st
   by_cases k:top≤p
   ·rw[if_pos k]at st
    simp (maxSteps:=1000000) [go_sem,hil,hil',hs,em,hin,k,wt,gm,zG]
    refine⟨⟨rfl,by simp[Tryz.f74]⟩,zd [([0],[9]),([1],[10,1])] (pin:=[[0],[1]]) (zkr R C (R*C) (yr R C top l i) (p-top) q x rfl (by omega) (by omega) hlen hok) (by simp[go_sem,zM]) ⟨by simp[go_sem],by simp[go_sem,clP]⟩ (by simp[go_sem,gp,qy,zG,zj8]) ?_⟩
    rintro _ _ ⟨rfl,rfl⟩
    simp (maxSteps:=1000000) [go_sem,gp,qy,w1,zG]
    exact next (i+1) hil (h3:=by show l.length+1- (i+1)<l.length+1-i;omega) (h2:=by simp[go_sem,LeS,leV,leR,leA,leL,zi,leT,leP,st,m1,xY,zG])
   ·rw[if_neg k]at st
    simp (maxSteps:=1000000) [go_sem,hil,hil',hs,em,hin,k,w1,zG]
    exact next (i+1) hil (h3:=by show l.length+1- (i+1)<l.length+1-i;omega) (h2:=by simp[go_sem,LeS,leV,leR,leA,leL,zi,leT,leP,st,m1,xY,zG])
  ·rw[show min i l.length=l.length by omega]
   have m1:min (i+1) l.length=l.length:=by omega
   simp (maxSteps:=1000000) [go_sem,hil,hil',hs,em,hin,w1,zG]
   exact next (i+1) hil (h3:=by show l.length+1- (i+1)<l.length+1-i;omega) (h2:=by simp[go_sem,LeS,leV,leR,leA,leL,zi,leT,leP,m1,xY,zG])
 ·obtain rfl:i=l.length+1:=by omega
  rw[show min (l.length+1) l.length=l.length by omega]
  simp (maxSteps:=1000000) [go_sem]
  exact zu [[9],[10,1]] (.lp [9] 0) ⟨rfl,by simp⟩ (by simp[go_sem,zf,leA,leT]) ⟨rfl,by simp[go_sem,gpT,zG]⟩
end Go.Proofs.YtcgfdhdcihmeeaaGreat
end
section
namespace Go.Proofs.YtcgfdhdcihmeeaaGreat
open Go.AM
set_option maxHeartbeats 4000000
set_option maxRecDepth 10000
attribute [local irreducible] za
def Zc(ps:List (List Int)):List Cl:=ps.flatMap uK
def vwG(ps:List (List Int))(ln:List Int):List Cl:=Zc ps++uK ln
def vwN(ln:List Int)(cur:Int):Nat:=cnt (pl (zI za ln)) cur
def vwK(ps:List (List Int))(ln:List Int)(cur:Int):Nat:=(Zc ps).length+atG (zI za ln) (vwN ln cur)
def ZK(ps:List (List Int))(ln:List Int)(cur:Int):PV:=.agg [.sl 1 (Zg ps),zA ln,.int .i64 cur]
structure JY(ps:List (List Int))(ln:List Int):Prop where
 n:ps.length≤4
 p:∀x∈ps,x.length≤1000∧∀r∈x,zY r
 l:ln.length≤1000
 r:∀r∈ln,zY r
theorem vU {l:List Int}(hn:l.length≤1000)(hr:∀r∈l,zY r):(uK l).length≤2000:=by
 have h:=Ln.mk' l (by omega) hr
 have h2:=vf h (zI za l).length
 rw[ze9,xy h]at h2
 omega
theorem zeO(l:List Int):∀x∈uK l,k9 x:=fun x hx=>by
 unfold uK at hx
 obtain⟨c,_,h⟩:=List.mem_flatMap.1 hx
 exact zlI c x h
theorem wF {ps:List (List Int)}(h:∀x∈ps,x.length≤1000∧∀r∈x,zY r):(Zc ps).length≤2000*ps.length:=by
 induction ps with
 |nil=>simp[Zc]
 |cons p ps ih=>
  have h1:=ih fun x hx=>h x (by simp[hx])
  have h2:=vU (h p (by simp)).1 (h p (by simp)).2
  unfold Zc at h1⊢
  rw[List.flatMap_cons,List.length_append,List.length_cons];omega
theorem zi2(ps:List (List Int))(ln:List Int):∀x∈vwG ps ln,k9 x:=fun x hx=>by
 rcases List.mem_append.1 hx with h|h
 ·obtain⟨c,_,h⟩:=List.mem_flatMap.1 h
  exact zeO c x h
 ·exact zeO ln x h
theorem zhc {ps:List (List Int)} {ln:List Int}(h:JY ps ln):(vwG ps ln).length≤10000:=by
 have h1:=wF h.p
 have h2:=vU h.l h.r
 have h3:=h.n
 unfold vwG
 rw[List.length_append];omega
theorem zhw(ln:List Int)(cur:Int):vwN ln cur≤(zI za ln).length:=by
 have:=zhb (pl (zI za ln)) cur
 rw[QL]at this
 exact this
theorem zhj {ps:List (List Int)} {ln:List Int}(h:JY ps ln)(cur:Int):vwK ps ln cur≤(vwG ps ln).length:=by
 have h1:=Ln.mk' ln (by have:=h.l;omega) h.r
 have h2:atG (zI za ln) (vwN ln cur)≤(uK ln).length:=by
  rw[←xy h1]
  unfold atG
  have e:(zI za ln).flatMap ofG=((zI za ln).take (vwN ln cur)).flatMap ofG++((zI za ln).drop (vwN ln cur)).flatMap ofG:=by
   rw[←List.flatMap_append,List.take_append_drop]
  rw[e,List.length_append];omega
 unfold vwK vwG
 rw[List.length_append];omega
theorem Kk {ps:List (List Int)} {i:Nat}(h:i<ps.length):(Zc (ps.take i)).map clP++(uK ps[i]).map clP=(Zc (ps.take (i+1))).map clP:=by
 unfold Zc
 rw[List.take_add_one,List.getElem?_eq_getElem h,List.flatMap_append,List.map_append]
 simp
def zeG:OT:=.now 0 0 (.now 1 0 (.now 3 2 (.now 5 2 (.now 6 2 (.now 7 2 (.mk [(2,.now 4 0 (.now 8 0 (.now 9 0 (.mk [(10,.now 11 0 (.mk []))])))),(4,.mk [(2,.now 8 0 (.now 9 0 (.mk [(10,.now 11 0 (.mk []))]))),(8,.now 9 2 (.mk [(2,.mk [(10,.now 11 0 (.mk []))])]))]),(8,.mk [(2,.now 4 0 (.now 9 0 (.mk [(10,.now 11 0 (.mk []))]))),(4,.now 9 2 (.mk [(2,.mk [(10,.now 11 0 (.mk []))])]))])]))))))
theorem ze0 {L:List (List Int)} {n k:Nat}(h:k<n):elemAt (ZQ (jN L n)) k=.int .i64 (atG L k:Nat):=by
 rw[UZ (by rw[wy];exact h)]
 simp[jN]
theorem zgi [Gi] {e:PV}(hT:yA e) {ps:List (List Int)} {ln:List Int}(h:JY ps ln)(cur:Int):
  CR Tryz.prog 36 [] [.p (ZK ps ln cur),.p e] [] (is (.tup [.p (Za (vwG ps ln)),.p (.int .i64 (vwK ps ln cur:Nat))])):=by
 have hl:=h.l
 have hL:=Ln.mk' ln (by omega) h.r
 have hv:=zhw ln cur
 refine vz 15 [16,17,18] Tryz.func36 rfl rfl (by simp) (by simp) ?_
 refine Qb.seq (D:=[]) mixed (by kernel_rfl) ?_
 simp (maxSteps:=1000000) [go_sem,ZK]
 refine Qb.seq (D:=[]) mixed (by kernel_rfl) ?_
 simp (maxSteps:=1000000) [go_sem]
 refine Qb.seq (D:=[]) mixed (by kernel_rfl) ?_
 simp (maxSteps:=1000000) [go_sem]
 refine loop (fun i:Nat=>i≤ps.length) (fun i=>[(6,.os [6] 2 ((Zc (ps.take i)).map clP)),(18,.p (.int .i64 i))]) (fun _=>[]) (fun i=>ps.length-i) 0 (Nat.zero_le _) (fun i hi=>?_) (h0:=by simp[go_sem,LeS,leV,leR,leA,zi,leT,leP,Zc])
 by_cases hil:i<ps.length
 ·have hp:=h.p _ (List.getElem_mem hil)
  have hP:=Ln.mk' ps[i] (by omega) hp.2
  have lc:=zeX hT hP (by omega)
  rw[xy hP]at lc
  have em:=xh hil
  have st:=Kk hil
  have le:=vU hp.1 hp.2
  have le2:=wF (ps:=ps.take i) fun x hx=>h.p x (List.mem_of_mem_take hx)
  have hn:=h.n
  have le3:((Zc (ps.take i)).map clP).length≤10000:=by rw[List.length_map];rw[List.length_take]at le2;omega
  have w1:IntKind.i64.wrap ((i:Int)+1)=((i+1:Nat):Int):=zD (by omega)
  generalize ps[i]=y at hp hP lc em st le
  generalize uK y=gy at lc st le
  generalize (Zc (ps.take i)).map clP=A at st le3⊢
  generalize jN (zI za y) ((zI za y).length+1)=at_ at lc
  simp (maxSteps:=1000000) [go_sem,hil,em]
  refine zq lc ?_
  simp (maxSteps:=1000000) [go_sem,w1,st]
  refine⟨by omega,?_⟩
  exact next (i+1) hil (h3:=by show ps.length- (i+1)<ps.length-i;omega) (h2:=by simp[go_sem,LeS,leV,leR,leA,leL,zi,leT,leP])
 ·obtain rfl:i=ps.length:=by omega
  rw[List.take_length]
  have lc:=zeX hT hL (by omega)
  rw[xy hL]at lc
  simp (maxSteps:=1000000) [go_sem]
  refine Qb.seq (D:=[]) mixed (by kernel_rfl) ?_
  simp (maxSteps:=1000000) [go_sem]
  refine zq lc ?_
  have g1:=zgH hT ln (by omega) h.r
  have g2:=zdP (pl (zI za ln)) cur (zh7 hL.cl) (by have:=hL.cl.full.n;rw[QL];omega)
  simp (maxSteps:=1000000) [go_sem]
  refine Qb.seq (D:=[9]) mixed (by kernel_rfl) ?_
  simp (maxSteps:=1000000) [go_sem]
  refine ZB 72 g1 ?_ (ha':=by simp[go_sem,zA])
  simp (maxSteps:=1000000) [go_sem]
  refine ZB 71 g2 ?_
  have hn:=h.n
  have lh:=wF h.p
  have le:=vU h.l h.r
  have lk:=vf hL (vwN ln cur)
  have em:=ze0 (L:=zI za ln) (n:=(zI za ln).length+1) (k:=vwN ln cur) (by omega)
  have nl:(ZQ (jN (zI za ln) ((zI za ln).length+1))).length=(zI za ln).length+1:=by simp[ZQ,jN]
  have e1:cnt (pl (zI za ln)) cur=vwN ln cur:=rfl
  have e2:(Zc ps).map clP++(uK ln).map clP=(vwG ps ln).map clP:=by rw[vwG,List.map_append]
  have e3:vwK ps ln cur=(Zc ps).length+atG (zI za ln) (vwN ln cur):=rfl
  have w2:IntKind.i64.wrap (((Zc ps).length:Int)+(atG (zI za ln) (vwN ln cur):Nat))=(((Zc ps).length+atG (zI za ln) (vwN ln cur):Nat):Int):=by
   rw[←Int.natCast_add];exact wrap64 (by omega) (by omega)
  rw[e1]
  rw[e3]
  generalize vwN ln cur=k at hv lk em w2⊢
  simp (maxSteps:=1000000) [go_sem]
  refine Qb.zdk fun E=>zN.tree mixed zeG (by kernel_rfl) ?_
  have hb:((Zc ps).length+(uK ln).length)*24≤140737488355328:=by omega
  have hk:(k:Int)< ((zI za ln).length:Int)+1:=by omega
  simp (maxSteps:=1000000) [go_sem,zeG,em,nl,e2,w2,hb,hk]
  repeat'(first|exact True.intro|apply And.intro)
  all_goals
   refine Qb.ZY (D:=[]) mixed (by kernel_rfl) ?_
   simp (maxSteps:=1000000) [go_sem]
   exact ret (hx:=by simp[go_sem,zf,leA,leT,leP])
end Go.Proofs.YtcgfdhdcihmeeaaGreat
end
section
namespace Go.Proofs.YtcgfdhdcihmeeaaGreat
open Go.ChangeShapes Go.WideShapes Go.ChangeAt Go.RowKit Go.AM
set_option maxRecDepth 100000
theorem Tryz.own:ownKnob Tryz.prog.godebug=none:=by kernel_rfl
theorem Tryz.laidOut:laidOutB Tryz.prog=true:=by kernel_rfl
theorem zdb {α:Type} {f:α→PV} {Q:α→Prop}:∀{es:List PV},(∀el∈es,∃a,Q a∧el=f a)→∃l:List α,(∀a∈l,Q a)∧es=l.map f
 | [],_=>⟨[],by simp,rfl⟩
 |x::xs,h=>by
  obtain⟨a,q,rfl⟩:=h x (by simp)
  obtain⟨l,ql,rfl⟩:=zdb (es:=xs) fun el hel=>h el (by simp[hel])
  exact⟨a::l,by simpa using ⟨q,ql⟩,rfl⟩
@[reducible] def zoe : Gi := ⟨fun _ => none⟩
section
variable {H:Type} {enc:TypeId×Value→H} {W:World}
abbrev QI:List PV→Prop:=fun xs=>∃x,xs=[x]∧∃n,x=.int .i64 n∧ -9223372036854775808≤n∧n≤9223372036854775807
abbrev QR:List PV→Prop:=fun xs=>∃x,xs=[x]∧∃n,x=.int .i32 n∧zY n
abbrev QT:List PV→Prop:=fun xs=>∃x,xs=[x]∧∃l:List Int,(∀r∈l,zY r)∧x=XX l
theorem XK:xj enc Tryz.prog W 0 (fun _=>true) true 3 QI:=by
 intro fuel cs x h
 obtain⟨xs,⟨n,rfl,hw⟩,r⟩:=VO (k:=.i64) (by kernel_rfl) _ _ _ h
 simp[Lit.wf,IntKind.min,IntKind.max,IntKind.signed,IntKind.bits]at hw
 exact⟨_,⟨_,rfl,n,rfl,by omega⟩,r⟩
theorem zjY:xj enc Tryz.prog W 0 (fun _=>true) true 21 QR:=by
 intro fuel cs x h
 obtain⟨xs,⟨n,rfl,hw⟩,r⟩:=VO (k:=.i32) (by kernel_rfl) _ _ _ h
 simp[Lit.wf,IntKind.min,IntKind.max,IntKind.signed,IntKind.bits]at hw
 exact⟨_,⟨_,rfl,n,rfl,⟨by omega,by omega⟩⟩,r⟩
theorem ze8:xj enc Tryz.prog W 0 (fun _=>true) true 23 QT:=by
 intro fuel cs x h
 obtain⟨xs,⟨es,rfl,he⟩,r⟩:=Ut (e:=21) (QE:=fun el=>∃n,zY n∧el=PV.int .i32 n) (by kernel_rfl) (of_decide_eq_true (by kernel_rfl)) (fun fuel cs x h=>by
  obtain⟨el,v,⟨n,rfl,q⟩,r⟩:=zhO zjY _ _ _ h
  exact⟨_,v,⟨n,q,rfl⟩,r⟩) _ _ _ h
 obtain⟨l,ql,rfl⟩:=zdb he
 exact⟨_,⟨_,rfl,l,ql,rfl⟩,r⟩
abbrev QH:List PV→Prop:=fun xs=>∃x,xs=[x]∧∃n:Nat,x=.int .u16 n∧n<65536
theorem UY:xj enc Tryz.prog W 0 (fun _=>true) true 56 QH:=by
 intro fuel cs x h
 obtain⟨xs,⟨n,rfl,hw⟩,r⟩:=VO (k:=.u16) (by kernel_rfl) _ _ _ h
 simp[Lit.wf,IntKind.min,IntKind.max,IntKind.signed,IntKind.bits]at hw
 obtain⟨m,rfl⟩:∃m:Nat,n=m:=⟨n.toNat,by omega⟩
 exact⟨_,⟨_,rfl,m,rfl,by omega⟩,r⟩
abbrev QTs:List PV→Prop:=fun xs=>∃x,xs=[x]∧∃l:List (List Int),(∀t∈l,∀r∈t,zY r)∧x=.sl 1 (Zg l)
theorem zhz:xj enc Tryz.prog W 0 (fun _=>true) true 22 QTs:=by
 intro fuel cs x h
 obtain⟨xs,⟨es,rfl,he⟩,r⟩:=Ut (e:=23) (QE:=fun el=>∃l:List Int,(∀r∈l,zY r)∧el=zA l) (by kernel_rfl) (of_decide_eq_true (by kernel_rfl)) (fun fuel cs x h=>by
  obtain⟨el,v,⟨l,q,rfl⟩,r⟩:=zhO ze8 _ _ _ h
  exact⟨_,v,⟨l,q,rfl⟩,r⟩) _ _ _ h
 obtain⟨l,ql,rfl⟩:=zdb he
 exact⟨_,⟨_,rfl,l,ql,rfl⟩,r⟩
def zmf(v:List (List Int)×List Int×Int):Prop:=(∀t∈v.1,∀r∈t,zY r)∧∀r∈v.2.1,zY r
def znA(v:List (List Int)×List Int×Int):PV:=ZK v.1 v.2.1 v.2.2
theorem YL {xs:List PV}(h:u6 [QTs,QT,QI] xs):∃v,zmf v∧PV.agg xs=znA v:=by
 obtain⟨a,b,rfl,⟨_,rfl,f,h0,rfl⟩,c,d,rfl,⟨_,rfl,g,h1,rfl⟩,e,f',rfl,⟨_,rfl,n,rfl,_⟩,rfl⟩:=h
 exact⟨(f,g,n),⟨h0,h1⟩,rfl⟩
theorem Jf:xj enc Tryz.prog W 0 (fun _=>true) true 25 (u6 [QTs,QT,QI]):=
 XG Tryz.underlying25 (by kernel_rfl) ⟨zhz,ze8,XK,trivial⟩
end
end Go.Proofs.YtcgfdhdcihmeeaaGreat
end
section
namespace Go.Proofs.YtcgfdhdcihmeeaaGreat
open Go.AM
set_option maxHeartbeats 4000000
set_option maxRecDepth 10000
attribute [local irreducible] za
def dkV(d:Dk):PV:=.agg [.int .i64 d.need,.int .i64 d.hv,.int .u8 d.lo,.int .u8 d.hi,.int .i32 d.v]
theorem zoK:∀b:Fin 256,(IntKind.i32.wrap (IntKind.u8.wrap ((BitVec.ofNat 8 b.1&&& 31#8).toNat:Int))=(b.1:Int)%32)∧(IntKind.i32.wrap (IntKind.u8.wrap ((BitVec.ofNat 8 b.1&&& 15#8).toNat:Int))=(b.1:Int)%16)∧(IntKind.i32.wrap (IntKind.u8.wrap ((BitVec.ofNat 8 b.1&&& 7#8).toNat:Int))=(b.1:Int)%8):=by decide+kernel
theorem wq0:IntKind.i32.wrap (IntKind.u8.wrap 0)=0:=by decide
theorem zbw:IntKind.i32.wrap (IntKind.u8.wrap 13)=13:=by decide
theorem wq4:IntKind.i32.wrap (IntKind.u8.wrap 4)=4:=by decide
theorem ziu [Gi] (b : Nat) (hb : b < 256) : CR Tryz.prog 95 [] [.p (.int .u8 b)] [] (is (.tup [.p (dkV (qz b).1), .p (zA (qz b).2)])) := by
  refine walk Tryz.func95 5 [43] [] [] ?_
  obtain ⟨a1, a2, a3⟩ := zoK ⟨b, hb⟩
  simp only at a1 a2 a3
  have w1 : IntKind.i32.wrap (b : Int) = b := by have : (b : Int) < 256 := by omega
                                                 exact wrap32 (by omega) (by omega)
  by_cases h1 : b < 128
  · have e : qz b = (dz, [(b : Int)]) := by unfold qz; rw [if_pos h1]
    have h1' : (b : Int) < 128 := by omega
    rw [e]
    simp (maxSteps := 1000000) [go_sem, Tryz.f95, h1, h1', w1]
    exact ret (hx := by simp [go_sem, zf, leA, leT, leP, zK, wq0, zbw, wq4, dkV, dz])
  · have h1' : ¬ (b : Int) < 128 := by omega
    by_cases h2 : b < 194
    · have e : qz b = (dz, [ym]) := by unfold qz; rw [if_neg h1, if_pos (.inl h2)]
      have h2' : (b : Int) < 194 := by omega
      rw [e]
      simp (maxSteps := 1000000) [go_sem, Tryz.f95, h1, h1', h2, h2']
      exact ret (hx := by simp [go_sem, zf, leA, leT, leP, zK, wq0, zbw, wq4, dkV, dz, ym])
    · have h2' : ¬ (b : Int) < 194 := by omega
      by_cases h3 : 244 < b
      · have e : qz b = (dz, [ym]) := by unfold qz; rw [if_neg h1, if_pos (.inr h3)]
        have h3' : 244 < (b : Int) := by omega
        rw [e]
        simp (maxSteps := 1000000) [go_sem, Tryz.f95, h1, h1', h2, h2', h3, h3']
        exact ret (hx := by simp [go_sem, zf, leA, leT, leP, zK, wq0, zbw, wq4, dkV, dz, ym])
      · have h3' : ¬ 244 < (b : Int) := by omega
        have e : qz b = (⟨je b, 1, loD b, hiD b, vZ b⟩, []) := by unfold qz; rw [if_neg h1, if_neg (by omega)]
        rw [e]
        clear e
        by_cases s1 : b = 224
        · subst s1
          simp (maxSteps := 1000000) [go_sem, Tryz.f95]
          exact ret (hx := by simp [go_sem, zf, leA, leT, leP, zK, wq0, zbw, wq4, dkV, je, loD, hiD, vZ])
        by_cases s2 : b = 237
        · subst s2
          simp (maxSteps := 1000000) [go_sem, Tryz.f95]
          exact ret (hx := by simp [go_sem, zf, leA, leT, leP, zK, wq0, zbw, wq4, dkV, je, loD, hiD, vZ])
        by_cases s3 : b = 240
        · subst s3
          simp (maxSteps := 1000000) [go_sem, Tryz.f95]
          exact ret (hx := by simp [go_sem, zf, leA, leT, leP, zK, wq0, zbw, wq4, dkV, je, loD, hiD, vZ])
        by_cases s4 : b = 244
        · subst s4
          simp (maxSteps := 1000000) [go_sem, Tryz.f95]
          exact ret (hx := by simp [go_sem, zf, leA, leT, leP, zK, wq0, zbw, wq4, dkV, je, loD, hiD, vZ])
        have s1' : ¬ (b : Int) = 224 := by omega
        have s2' : ¬ (b : Int) = 237 := by omega
        have s3' : ¬ (b : Int) = 240 := by omega
        have s4' : ¬ (b : Int) = 244 := by omega
        have hl : loD b = 128 := by unfold loD; rw [if_neg s1, if_neg s3]
        have hh : hiD b = 191 := by unfold hiD; rw [if_neg s2, if_neg s4]
        rw [hl, hh]
        by_cases h4 : b < 224
        · have h4' : (b : Int) < 224 := by omega
          have e1 : je b = 1 := by unfold je; rw [if_pos h4]
          have e2 : vZ b = b % 32 := by unfold vZ; rw [if_pos h4]
          rw [e1, e2]
          simp (maxSteps := 1000000) [go_sem, Tryz.f95, h1, h1', h2, h2', h3, h3', h4, h4', s1, s2, s3, s4, s1', s2', s3', s4', a1]
          exact ret (hx := by simp [go_sem, zf, leA, leT, leP, zK, wq0, zbw, wq4, dkV]; exact a1)
        · have h4' : ¬ (b : Int) < 224 := by omega
          by_cases h5 : b < 240
          · have h5' : (b : Int) < 240 := by omega
            have e1 : je b = 2 := by unfold je; rw [if_neg h4, if_pos h5]
            have e2 : vZ b = b % 16 := by unfold vZ; rw [if_neg h4, if_pos h5]
            rw [e1, e2]
            simp (maxSteps := 1000000) [go_sem, Tryz.f95, h1, h1', h2, h2', h3, h3', h4, h4', h5, h5', s1, s2, s3, s4, s1', s2', s3', s4', a2]
            exact ret (hx := by simp [go_sem, zf, leA, leT, leP, zK, dkV]; exact a2)
          · have h5' : ¬ (b : Int) < 240 := by omega
            have e1 : je b = 3 := by unfold je; rw [if_neg h4, if_neg h5]
            have e2 : vZ b = b % 8 := by unfold vZ; rw [if_neg h4, if_neg h5]
            rw [e1, e2]
            simp (maxSteps := 1000000) [go_sem, Tryz.f95, h1, h1', h2, h2', h3, h3', h4, h4', h5, h5', s1, s2, s3, s4, s1', s2', s3', s4', a3]
            exact ret (hx := by simp [go_sem, zf, leA, leT, leP, zK, dkV]; exact a3)
end Go.Proofs.YtcgfdhdcihmeeaaGreat
end
section
namespace Go.Proofs.YtcgfdhdcihmeeaaGreat
open Go.AM
set_option maxHeartbeats 4000000
set_option maxRecDepth 10000
attribute [local irreducible] za
structure znI(d:Dk):Prop where
 n:d.need≤3
 h:d.hv≤4
 l:d.lo<256
 u:d.hi<256
 v:d.v<32768
def zad:OT:=.now 2 1 (.mk [(0,.mk [(1,.mk [(3,.mk [(4,.mk [(5,.mk [])])])])]),(1,.mk [(0,.mk [(3,.mk [(4,.mk [(5,.mk [])])])]),(3,.mk [(0,.mk [(4,.mk [(5,.mk [])])])])])])
def zhR:OT:=.now 1 2 (.mk [(0,.mk [(2,.mk [(3,.mk [(4,.mk [(5,.mk [])])]),(4,.mk [(3,.mk [(5,.mk [])])])]),(4,.mk [(2,.mk [(3,.mk [(5,.mk [])])])])]),(2,.mk [(0,.mk [(3,.mk [(4,.mk [(5,.mk [])])]),(4,.mk [(3,.mk [(5,.mk [])])])]),(3,.mk [(0,.mk [(4,.mk [(5,.mk [])])])])])])
theorem zol:∀b:Fin 256,IntKind.i32.wrap (IntKind.u8.wrap ((BitVec.ofNat 8 b.1&&& 63#8).toNat:Int))=((b.1%64:Nat):Int):=by decide+kernel
theorem zmx(v:Nat)(hv:v<32768)(b:Nat)(hb:b<256):IntKind.i32.wrap ((BitVec.ofInt 32 (IntKind.i32.wrap ((v:Int)*64)) |||BitVec.ofInt 32 (IntKind.i32.wrap (IntKind.u8.wrap ((BitVec.ofNat 8 b&&& 63#8).toNat:Int)))).toNat:Int)=((v*64+b%64:Nat):Int):=by
 rw[zol ⟨b,hb⟩]
 have e0:((v:Int)*64)=((v*64:Nat):Int):=by rw[Int.natCast_mul];rfl
 have e4:IntKind.i32.wrap ((v*64:Nat):Int)=((v*64:Nat):Int):=wrap32 (by omega) (by omega)
 rw[e0,e4]
 have e1:BitVec.ofInt 32 ((v*64:Nat):Int)=BitVec.ofNat 32 (v*64):=BitVec.ofInt_natCast ..
 have e2:BitVec.ofInt 32 ((b%64:Nat):Int)=BitVec.ofNat 32 (b%64):=BitVec.ofInt_natCast ..
 simp only[e1,e2,BitVec.toNat_or,BitVec.toNat_ofNat]
 rw[Nat.mod_eq_of_lt (show v*64<2^32 by omega),Nat.mod_eq_of_lt (show b%64<2^32 by omega)]
 have e3:v*64 |||b%64=v*64+b%64:=by
  have:=Nat.two_pow_add_eq_or_of_lt (i:=6) (b:=b%64) (by omega) v
  rw[show 2^6*v=v*64 by omega]at this
  exact this.symm
 rw[e3]
 exact wrap32 (by omega) (by omega)
theorem uU(b:Nat):(qz b).2.length≤1:=by unfold qz;split<;>(try split)<;>simp
theorem zkw [Gi](d:Dk)(hd:znI d)(b:Nat)(hb:b<256):CR Tryz.prog 68 [] [.p (dkV d),.p (.int .u8 b)] [] (is (.tup [.p (dkV (ZJ d b).1),.p (zA (ZJ d b).2)])):=by
 have fc:=ziu b hb
 refine vz 8 [] Tryz.func68 rfl rfl (by simp) (by simp) ?_
 refine Qb.seq (D:=[]) mixed (by kernel_rfl) ?_
 simp (maxSteps:=1000000) [go_sem,dkV]
 by_cases h0:d.need=0
 ·have e:ZJ d b=qz b:=by unfold ZJ;rw[if_pos h0]
  rw[e]
  refine Qb.seq (D:=[]) mixed (by kernel_rfl) ?_
  simp (maxSteps:=1000000) [go_sem,h0]
  generalize qz b=q at fc⊢
  obtain⟨q1,q2⟩:=q
  unfold dkV at fc
  refine zq fc ?_
  simp (maxSteps:=1000000) [go_sem]
  exact ret (hx:=by simp[go_sem,zf,leA,leT,leP])
 ·have h0':¬(d.need:Int)=0:=by omega
  refine Qb.seq (D:=[]) mixed (by kernel_rfl) ?_
  simp (maxSteps:=1000000) [go_sem,h0,h0']
  by_cases h1:b<d.lo∨d.hi<b
  ·have e:ZJ d b=((qz b).1,ym::(qz b).2):=by unfold ZJ;rw[if_neg h0,if_pos h1]
   rw[e]
   refine Qb.zdk fun E=>zN.yf (D:=[]) mixed (by kernel_rfl) ?_
   by_cases h2:b<d.lo
   ·have h2':(b:Int)<d.lo:=by omega
    simp (maxSteps:=1000000) [go_sem,h2,h2']
    refine zN.zin (by simp[go_sem]) ?_
    have hq:=uU b
    generalize qz b=q at fc hq⊢
    obtain⟨q1,q2⟩:=q
    simp only at hq
    unfold dkV at fc
    refine zN.yf (D:=[]) mixed (by kernel_rfl) ?_
    simp (maxSteps:=1000000) [go_sem]
    refine zq fc ?_
    simp (maxSteps:=1000000) [go_sem]
    refine zN.seq (zN.tree mixed zad (by kernel_rfl) ?_)
    have hb:(1+q2.length)*4≤140737488355328:=by omega
    simp (maxSteps:=1000000) [go_sem,zad,hb]
    repeat'(first|exact True.intro|apply And.intro)
    all_goals
     refine zN.ZY (D:=[]) mixed (by kernel_rfl) ?_
     simp (maxSteps:=1000000) [go_sem]
     exact ret (hx:=by simp[go_sem,zf,leA,leT,leP,zK,ym])
   ·have h2':¬(b:Int)<d.lo:=by omega
    have h3:d.hi<b:=by omega
    have h3':(d.hi:Int)<b:=by omega
    simp (maxSteps:=1000000) [go_sem,h2,h2',h3,h3']
    refine zN.zin (by simp[go_sem]) ?_
    have hq:=uU b
    generalize qz b=q at fc hq⊢
    obtain⟨q1,q2⟩:=q
    simp only at hq
    unfold dkV at fc
    refine zN.yf (D:=[]) mixed (by kernel_rfl) ?_
    simp (maxSteps:=1000000) [go_sem]
    refine zq fc ?_
    simp (maxSteps:=1000000) [go_sem]
    refine zN.seq (zN.tree mixed zad (by kernel_rfl) ?_)
    have hb:(1+q2.length)*4≤140737488355328:=by omega
    simp (maxSteps:=1000000) [go_sem,zad,hb]
    repeat'(first|exact True.intro|apply And.intro)
    all_goals
     refine zN.ZY (D:=[]) mixed (by kernel_rfl) ?_
     simp (maxSteps:=1000000) [go_sem]
     exact ret (hx:=by simp[go_sem,zf,leA,leT,leP,zK,ym])
  ·have h2:¬b<d.lo:=by omega
   have h3:¬d.hi<b:=by omega
   have h2':¬(b:Int)<d.lo:=by omega
   have h3':¬(d.hi:Int)<b:=by omega
   refine Qb.zdk fun E=>zN.yf (D:=[]) mixed (by kernel_rfl) ?_
   simp (maxSteps:=1000000) [go_sem,h2,h2',h3,h3']
   refine zN.zfp (by simp[go_sem]) ?_
   refine zN.ZY (D:=[]) mixed (by kernel_rfl) ?_
   simp (maxSteps:=1000000) [go_sem]
   refine Qb.seq (D:=[]) mixed (by kernel_rfl) ?_
   simp (maxSteps:=1000000) [go_sem]
   have ol:=zmx d.v hd.v b hb
   conv in (occs:= *) IntKind.i32.wrap (Nat.cast (BitVec.toNat _))=>all_goals tactic'=>exact ol
   have w1:IntKind.i64.wrap ((d.need:Int)-1)=(d.need:Int)-1:=by have:=hd.n;exact wrap64 (by omega) (by omega)
   have w2:IntKind.i64.wrap ((d.hv:Int)+1)=(d.hv:Int)+1:=by have:=hd.h;exact wrap64 (by omega) (by omega)
   generalize hv':d.v*64+b%64=v'
   refine Qb.seq (D:=[]) mixed (by kernel_rfl) ?_
   simp (maxSteps:=1000000) [go_sem,w1,w2]
   by_cases h4:d.need=1
   ·have h4':(d.need:Int)-1=0:=by omega
    have e:ZJ d b=(dz,[(v':Int)]):=by unfold ZJ;rw[if_neg h0,if_neg h1,if_pos h4,hv']
    rw[e]
    refine Qb.zdk fun E=>zN.yf (D:=[]) mixed (by kernel_rfl) ?_
    simp (maxSteps:=1000000) [go_sem,h4']
    refine zN.zin (by simp[go_sem]) ?_
    refine zN.seq (zN.tree mixed zhR (by kernel_rfl) ?_)
    simp (maxSteps:=1000000) [go_sem,zhR]
    repeat'(first|exact True.intro|apply And.intro)
    all_goals
     refine zN.ZY (D:=[]) mixed (by kernel_rfl) ?_
     simp (maxSteps:=1000000) [go_sem]
     exact ret (hx:=by simp[go_sem,zf,leA,leT,leP,zK,dz])
   ·have h4':¬(d.need:Int)-1=0:=by omega
    have e:ZJ d b=(⟨d.need-1,d.hv+1,128,191,v'⟩,[]):=by unfold ZJ;rw[if_neg h0,if_neg h1,if_neg h4,hv']
    have e2:((d.need-1:Nat):Int)=(d.need:Int)-1:=by omega
    rw[e]
    refine Qb.zdk fun E=>zN.yf (D:=[]) mixed (by kernel_rfl) ?_
    simp (maxSteps:=1000000) [go_sem,h4']
    refine zN.zfp (by simp[go_sem]) ?_
    refine zN.ZY (D:=[]) mixed (by kernel_rfl) ?_
    simp (maxSteps:=1000000) [go_sem]
    refine Qb.ZY (D:=[]) mixed (by kernel_rfl) ?_
    simp (maxSteps:=1000000) [go_sem]
    exact ret (hx:=by simp[go_sem,zf,leA,leT,leP,zK,e2])
end Go.Proofs.YtcgfdhdcihmeeaaGreat
end
