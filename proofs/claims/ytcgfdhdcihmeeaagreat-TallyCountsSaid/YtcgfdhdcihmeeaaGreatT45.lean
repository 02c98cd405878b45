/- A part of the proof of this seat's statements, by an abstract machine: what each operation does to values, and what the law's functions compute. Conditions: as each law says. -/
import Derived.Test.YtcgfdhdcihmeeaaGreatT33
import Derived.Test.YtcgfdhdcihmeeaaGreatT36
import Derived.Test.YtcgfdhdcihmeeaaGreatT43
import Derived.Test.YtcgfdhdcihmeeaaGreatT38
import Derived.Test.YtcgfdhdcihmeeaaGreatT34
import Derived.Test.YtcgfdhdcihmeeaaGreatT24
import Derived.Test.YtcgfdhdcihmeeaaGreatT40
section
namespace Go.Proofs.YtcgfdhdcihmeeaaGreat
open Go.AM
set_option maxHeartbeats 4000000
set_option maxRecDepth 10000
theorem w11:IntKind.i64.wrap 1=1:=by decide
variable [Gi]
attribute [local go_sem] qy zG zaj QV xY zek
theorem jO:CR Tryz.prog 113 [] [] [] (is (.p (clP blk))):=by
 refine zC mixed 1 [] Tryz.func113 rfl (by kernel_rfl) rfl (by simp) (by simp) ?_
 simp (maxSteps:=1000000) (disch:=omega) [go_sem,Tryz.f113]
 exact zh _ rfl (by simp[go_sem,zf,leA,clP,blk]) ⟨rfl,rfl⟩
def y6(r:Nat):AV:=match r with
 |0=>.p (.opq (.slice none 0 0))
 |r+1=>.la [40] 1 0 (r+1)
def V2(c:Nat):AV:=match c with
 |0=>.p (.opq (.slice none 0 0))
 |c+1=>.la [36] 2 0 (c+1)
def gx(R C:Nat)(G:Nat→zw):List (Tok×List AV):=([0],laF 1 2 C R)::fam 1 R fun i=>cw (G i)
def yq(C r:Nat):List (Tok×List AV):=match r with
 |0=>[]
 |r+1=>([40],laF 100 2 C (r+1))::fam 100 (r+1) fun _=>bl C
def zdv(R C r:Nat):St:={n:=42,nv:=9,vs:=[(0,.p (.int .i64 R)),(1,.p (.int .i64 C)),(5,y6 r),(6,.p (.int .i64 r))],ts:=[],rs:=([36],[])::([39],[])::yq C r,rm:=[5,7,36,40]}
def Wv(R C r c:Nat):St:={n:=42,nv:=9,vs:=[(0,.p (.int .i64 R)),(1,.p (.int .i64 C)),(5,y6 r),(6,.p (.int .i64 r)),(7,V2 c),(8,.p (.int .i64 c))],ts:=[],rs:=([36],bl c)::([39],[])::yq C r,rm:=[5,7,36,40]}
theorem zjD(R C:Nat)(hR:1≤R∧R≤500)(hC:2≤C∧C≤1000):CR Tryz.prog 78 [] [.p (.int .i64 R),.p (.int .i64 C)] []
  (fun x rs'=>x=.la [40] 1 0 R∧rs'=yq C R):=by
 refine walk Tryz.func78 9 [] [] [5,7,36,40] ?_
 have a1:¬((R:Int)<1):=by omega
 have a2:¬((500:Int)<R):=by omega
 have a3:¬((C:Int)<2):=by omega
 have a4:¬((1000:Int)<C):=by omega
 simp (maxSteps:=1000000) [go_sem,Tryz.f78,a1,a2,a3,a4]
 refine Z7 (fun r:Nat=>r≤R) (fun r=>zdv R C r) (fun r=>R-r) 0 (by simp) (by simp[go_sem,LeS,leV,leR,leA,zdv,yq,y6]) ?_
 intro r hr
 by_cases hrR:r<R
 ·have wr:IntKind.i64.wrap ((r:Int)+1)=((r+1:Nat):Int):=wrap64 (by omega) (by omega)
  cases r with
  |zero=>
   simp (maxSteps:=1000000) [go_sem,zdv,yq,y6,hrR]
   refine Z7 (fun c:Nat=>c≤C) (fun c=>Wv R C 0 c) (fun c=>C-c) 0 (by simp) (by simp[go_sem,LeS,leV,leR,leA,leL,Wv,yq,y6,V2,Kb]) ?_
   intro c hc
   by_cases hcC:c<C
   ·have wc:IntKind.i64.wrap ((c:Int)+1)=((c+1:Nat):Int):=wrap64 (by omega) (by omega)
    cases c with
    |zero=>
     simp (maxSteps:=1000000) [go_sem,Wv,yq,y6,V2,hcC]
     refine zq jO ?_
     simp (maxSteps:=1000000) [go_sem,clP,blk,QV]
     refine zg 1 hcC (by simp[go_sem,LeS,leV,leR,leA,leL,zi,Kb,UW,w11]) (by omega)
    |succ c=>
     have hcC':(c:Int)+1<C:=by omega
     have wc':IntKind.i64.wrap ((c:Int)+1+1)=((c+1+1:Nat):Int):=by rw[←wc];simp
     simp (maxSteps:=1000000) [go_sem,Wv,yq,y6,V2,hcC']
     refine zq jO ?_
     simp (maxSteps:=1000000) [go_sem,clP,blk,QV,zjn,wc']
     refine⟨by omega,?_⟩
     refine zg (c+1+1) (by omega) (by simp[go_sem,LeS,leV,leR,leA,leL,zi,QV,UW]) (by omega)
   ·obtain rfl:c=C:=by omega
    obtain⟨k,rfl⟩:∃k,c=k+1:=⟨c-1,by omega⟩
    simp (maxSteps:=1000000) [go_sem,Wv,yq,y6,V2]
    rw[w11]
    refine Ud 1 [([100,0],[36]),([40],[40])] hrR (by simp[go_sem,LeS,leV,leR,leA,zi,QV,zaj,laF,laK,fam,Zv]) (by omega)
  |succ r=>
   have hrR':(r:Int)+1<R:=by omega
   simp (maxSteps:=1000000) [go_sem,zdv,yq,y6,hrR']
   refine Z7 (fun c:Nat=>c≤C) (fun c=>Wv R C (r+1) c) (fun c=>C-c) 0 (by simp) (by simp[go_sem,LeS,leV,leR,leA,leL,zi,Wv,yq,y6,V2,QV,Kb]) ?_
   intro c hc
   by_cases hcC:c<C
   ·have wc:IntKind.i64.wrap ((c:Int)+1)=((c+1:Nat):Int):=wrap64 (by omega) (by omega)
    cases c with
    |zero=>
     simp (maxSteps:=1000000) [go_sem,Wv,yq,y6,V2,hcC]
     refine zq jO ?_
     simp (maxSteps:=1000000) [go_sem,clP,blk,QV]
     refine zg 1 hcC (by simp[go_sem,LeS,leV,leR,leA,leL,zi,QV,Kb,UW,w11]) (by omega)
    |succ c=>
     have hcC':(c:Int)+1<C:=by omega
     have wc':IntKind.i64.wrap ((c:Int)+1+1)=((c+1+1:Nat):Int):=by rw[←wc];simp
     simp (maxSteps:=1000000) [go_sem,Wv,yq,y6,V2,hcC']
     refine zq jO ?_
     simp (maxSteps:=1000000) [go_sem,clP,blk,QV,zjn,wc']
     refine⟨by omega,?_⟩
     refine zg (c+1+1) (by omega) (by simp[go_sem,LeS,leV,leR,leA,leL,zi,QV,UW]) (by omega)
   ·obtain rfl:c=C:=by omega
    obtain⟨k,rfl⟩:∃k,c=k+1:=⟨c-1,by omega⟩
    simp (maxSteps:=1000000) [go_sem,Wv,yq,y6,V2]
    rw[show IntKind.i64.wrap ((r:Int)+1+1)=((r+1+1:Nat):Int) by rw[←wr];simp]
    refine⟨by omega,?_⟩
    rw[WL fun i _=>by simp[Ql]]
    refine Ud (r+1+1) (([100,r+1],[36])::([40],[40])::xW 100 100 (r+1)) hrR ⟨⟨by simp[go_sem],by simp⟩,?_⟩ (by omega)
    have e1:∀(S:St) m0,S.rs=([36],bl (k+1))::([39],[AV.la [36] 2 0 (k+1)])::([40],laF 100 2 (k+1) (r+1)++[AV.la [36] 2 0 (k+1)])::(fam 100 (r+1) fun _=>bl (k+1))→qB S m0 (xW 100 100 (r+1))=fam 100 (r+1) fun i=>(bl (k+1)).map (AV.ren (inM m0)):=
     fun S m0 e=>wM fun i hi=>by rw[e];simp[go_sem,hi]
    simp[go_sem,LeS,leV,leR,leA,QV,zaj,e1]
    rw[WL fun i hi=>by simp[go_sem];omega,←zjo]
    refine⟨zi _,zcH fun i hi=>?_⟩
    by_cases q:i=r+1
    ·subst q;simp[go_sem]
    ·simp[go_sem,show ¬r+1=i from fun e=>q e.symm,show i<r+1 by omega]
 ·obtain rfl:r=R:=by omega
  obtain⟨k,rfl⟩:∃k,r=k+1:=⟨r-1,by omega⟩
  simp (maxSteps:=1000000) [go_sem,zdv,yq,y6]
  refine zu ([40]::KR 100 (k+1)) (.la [40] 1 0 (k+1)) (by simp) (by simp[go_sem,zf,leA,leT]) ⟨rfl,?_⟩
  simp[go_sem,QV]
theorem zjE(R C:Nat)(hR:1≤R∧R≤500)(hC:2≤C∧C≤1000):CR Tryz.prog 78 [] [.p (.int .i64 R),.p (.int .i64 C)] []
  (fun x rs'=>x=.la [0] 1 0 R∧rs'=gx R C fun _=>List.replicate C blk):=by
 refine(zjD R C hR hC).ren 1000 ?_
 rintro x rs' ⟨rfl,rfl⟩
 obtain⟨k,rfl⟩:∃k,R=k+1:=⟨R-1,by omega⟩
 refine⟨([0],[40])::xW 1 100 (k+1),by simp[go_sem],rfl,by simp[go_sem],?_⟩
 simp only[qB,yq,St.ofR,zl,if_true]
 rw[wM (f:=fun _=>bl C) (fun i hi=>by simp[go_sem,hi])]
 simp[go_sem,gx]
 exact⟨Xn fun i hi=>by simp[go_sem,hi],rfl⟩
end Go.Proofs.YtcgfdhdcihmeeaaGreat
end
section
namespace Go.Proofs.YtcgfdhdcihmeeaaGreat
open Go.AM
set_option maxHeartbeats 4000000
set_option maxRecDepth 10000
attribute [local go_sem] qy zG zaj QV xY zek
def gz(R C:Nat)(G:Nat→zw):List (Tok×List AV):=gy 0 1 R C fun i=>cw (G i)
def vi(G:Nat→zw)(k:Nat)(l:zw):Nat→zw:=fun i=>if i=k then l else G i
theorem jU(G:Nat→zw)(k:Nat)(l:zw):vi G k l k=l:=if_pos rfl
theorem jc(G:Nat→zw)(k:Nat)(l m:zw):vi (vi G k l) k m=vi G k m:=by
 funext i;unfold vi;by_cases h:i=k<;>simp[h]
theorem Y7(G:Nat→zw)(k:Nat):vi G k (G k)=G:=by
 funext i;unfold vi;by_cases h:i=k<;>simp[h]
theorem yH(G:Nat→zw)(k:Nat)(l:zw):VU (fun i=>cw (G i)) k (cw l)=fun i=>cw (vi G k l i):=by
 funext i;unfold VU vi;by_cases h:i=k<;>simp[h]
theorem uH [Gi](R C:Nat)(G:Nat→zw)(k0:Nat)(hk0:k0<R)(l:zw)(hC:C=l.length)(c:Nat)(hc:c<l.length)(hl:l.length≤1000)(ho:OkR l):CR Tryz.prog 115 (gT R) [.la [1,k0] 2 0 l.length,.p (.int .i64 c)] (gz R C (vi G k0 l)) (fun x rs'=>x=.tup []∧rs'=gz R C (vi G k0 (qv l c))):=by
 refine zC mixed 2 [] Tryz.func115 rfl (by kernel_rfl) rfl (by simp) (by simp) ?_
 simp (maxSteps:=1000000) (disch:=omega) [go_sem,Tryz.f115,gz,jU,zc6 hc]
 refine⟨hc,?_⟩
 refine xO (ι:=List (Nat×AV)) (fun ts=>{n:=30,nv:=2,vs:=[(0,.la [1,k0] 2 0 l.length),(1,.p (.int .i64 c))],ts:=ts,rs:=gz R C (vi G k0 (Qu l c)),pin:=gT R}) (zt (fun h=>?_) (fun h=>?_)) ?_
 ·have h0:=(ho c l[c] (List.getElem?_eq_getElem hc)).1 h
  obtain⟨k,rfl⟩:∃k,c=k+1:=⟨c-1,by omega⟩
  have hk:k<l.length:=by omega
  have ea:Qu l (k+1)=l.set k blk:=by rw[Qu,qM hc,if_pos h];rfl
  have ew:=jG (l:=l) (c:=k) [32] 1 hk
  rw[ea]
  simp (maxSteps:=1000000) (disch:=omega) [go_sem,gz,wrap64]
  refine⟨⟨rfl,by simp[Tryz.f113]⟩,zd [] jO (by simp[go_sem]) ⟨by simp[go_sem],by simp[go_sem]⟩ (by simp[go_sem]) ?_⟩
  rintro y rs ⟨rfl,rfl⟩
  simp (maxSteps:=1000000) (disch:=omega) [go_sem,jU,clP,blk,QZ,zG]
  exact⟨hk,by omega,kg _ (by rw[ew,yH,jc])⟩
 ·have ea:Qu l c=l:=by rw[Qu,qM hc,if_neg h]
  rw[ea]
  simp (maxSteps:=1000000) (disch:=omega) [go_sem]
  exact kg _ rfl
 ·intro ts
  have hc1:c< (Qu l c).length:=by rw[uX];exact hc
  have ho1:=ho.Qu c
  have hl1:=uX l c
  have er:qv l c=(QK (Qu l c) c).set c blk:=rfl
  rw[er]
  generalize Qu l c=l1 at hc1 ho1 hl1⊢
  simp (maxSteps:=1000000) (disch:=omega) [go_sem,gz,jU,zc6 hc1]
  refine⟨hc,?_⟩
  refine xO (ι:=List (Nat×AV)) (fun ts=>{n:=30,nv:=2,vs:=[(0,.la [1,k0] 2 0 l.length),(1,.p (.int .i64 c))],ts:=ts,rs:=gz R C (vi G k0 (QK l1 c)),pin:=gT R}) (zt (fun h=>?_) (fun h=>?_)) ?_
  ·have h0:=(ho1 c l1[c] (List.getElem?_eq_getElem hc1)).2 h
   have ea:QK l1 c=l1.set (c+1) blk:=by rw[QK,qM hc1,if_pos h]
   have ew:=jG (l:=l1) (c:=c+1) [32] 1 h0
   rw[ea]
   simp (maxSteps:=1000000) (disch:=omega) [go_sem,gz,wrap64]
   refine⟨⟨rfl,by simp[Tryz.f113]⟩,zd [] jO (by simp[go_sem]) ⟨by simp[go_sem],by simp[go_sem]⟩ (by simp[go_sem]) ?_⟩
   rintro y rs ⟨rfl,rfl⟩
   simp (maxSteps:=1000000) (disch:=omega) [go_sem,jU,clP,blk,QZ,zG]
   exact⟨by omega,by omega,kg _ (by rw[ew,yH,jc])⟩
  ·have ea:QK l1 c=l1:=by rw[QK,qM hc1,if_neg h]
   rw[ea]
   simp (maxSteps:=1000000) (disch:=omega) [go_sem]
   exact kg _ rfl
  ·intro ts
   have hc2:c< (QK l1 c).length:=by rw[uQ];exact hc1
   have hl2:=uQ l1 c
   generalize QK l1 c=l2 at hc2 hl2⊢
   have ew:=jG (l:=l2) (c:=c) [32] 1 hc2
   simp (maxSteps:=1000000) (disch:=omega) [go_sem]
   refine⟨⟨rfl,by simp[Tryz.f113]⟩,zd [] jO (by simp[go_sem]) ⟨by simp[go_sem],by simp[go_sem]⟩ (by simp[go_sem]) ?_⟩
   rintro y rs ⟨rfl,rfl⟩
   simp (maxSteps:=1000000) (disch:=omega) [go_sem,gz,jU,clP,blk,QZ,zG]
   refine⟨hc,by omega,?_⟩
   rw[ew,yH,jc]
   refine yT (rest:=[]) _ rfl (by simp) (by simp) (fun i rt tt=>zG rt tt _) (by simp[go_sem,zf,leT,leP])
theorem JG [Gi](R C:Nat)(G:Nat→zw)(r c:Int):CR Tryz.prog 114 (gT R) [.la [0] 1 0 R,.p (.int .i64 r),.p (.int .i64 c)] (gz R C G) (fun x rs=>x=.p (.bool (inB R C r c))∧rs=gz R C G):=by
 refine walk Tryz.func114 7 [] [] [] ?_
 unfold inB gz
 by_cases h0:0≤r
 ·by_cases h1:r< (R:Int)
  ·obtain⟨k,rfl⟩:∃k:Nat,r=k:=⟨r.toNat,by omega⟩
   have hk:k<R:=by omega
   have la:(laF 1 2 C R)[k]?=some (.la [1,k] 2 0 C):=by simp[WA,hk]
   by_cases h2:0≤c<;>by_cases h3:c< (C:Int)<;>
   ·simp (maxSteps:=1000000) [go_sem,Tryz.f114,h0,hk,h1,h2,h3]
    refine yT (rest:=[]) _ rfl (by simp) (by simp) (fun i rt tt=>zG rt tt _) (by simp[go_sem,zf,leA,leT])
  ·have hn:(laF 1 2 C R)[r.toNat]?=none:=List.getElem?_eq_none (by simp[zau];omega)
   by_cases h2:0≤c<;>
   ·simp (maxSteps:=1000000) [go_sem,Tryz.f114,h0,h1,h2]
    refine yT (rest:=[]) _ rfl (by simp) (by simp) (fun i rt tt=>zG rt tt _) (by simp[go_sem,zf,leA,leT])
 ·have hz:r.toNat=0:=by omega
  have h1:r< (R:Int):=by omega
  by_cases hR:0<R
  ·have la:(laF 1 2 C R)[0]?=some (.la [1,0] 2 0 C):=by simp[WA,hR]
   by_cases h2:0≤c<;>
   ·simp (maxSteps:=1000000) [go_sem,Tryz.f114,h0,h1,h2,hz,hR]
    refine yT (rest:=[]) _ rfl (by simp) (by simp) (fun i rt tt=>zG rt tt _) (by simp[go_sem,zf,leA,leT])
  ·have hn:(laF 1 2 C R)[0]?=none:=List.getElem?_eq_none (by simp[zau];omega)
   by_cases h2:0≤c<;>
   ·simp (maxSteps:=1000000) [go_sem,Tryz.f114,h0,h1,h2,hz,hn]
    refine yT (rest:=[]) _ rfl (by simp) (by simp) (fun i rt tt=>zG rt tt _) (by simp[go_sem,zf,leA,leT])
theorem zhx [Gi](R C:Nat)(G:Nat→zw)(r c:Int)(x:Cl)(hB:UT C R r c x=false)(hC:C≤1000):CR Tryz.prog 79 (gT R) [.la [0] 1 0 R,.p (.int .i64 r),.p (.int .i64 c),.p (clP x)] (gz R C G) (fun v rs=>v=.p (.bool false)∧rs=gz R C G):=by
 have h1:=JG R C G r c
 have h2:=JG R C G r (c+1)
 refine walk Tryz.func79 9 [] [] [] ?_
 simp (maxSteps:=1000000) [go_sem,Tryz.f79,clP,gz]
 refine⟨⟨rfl,by simp[Tryz.f114]⟩,zd (gM 0 1 R) (pin:=gT R) h1 (by simp[go_sem]) ⟨by simp[go_sem],by simp[go_sem]⟩ (by rw[Z1 rfl];simp[go_sem,gz]) ?_⟩
 rintro _ _ ⟨rfl,rfl⟩
 by_cases hb:inB R C r c=true
 ·have hbd:=hb
  unfold inB at hbd
  simp at hbd
  have w1:IntKind.i64.wrap (c+1)=c+1:=wrap64 (by omega) (by omega)
  by_cases k1:x.w=1
  ·exfalso
   unfold UT at hB
   simp[k1]at hB
   omega
  ·by_cases k2:x.w=2
   ·have hb2:inB R C r (c+1)=false:=by
     unfold UT at hB
     unfold inB
     simp[k2]at hB⊢
     omega
    rw[hb2]at h2
    simp (maxSteps:=1000000) [go_sem,gz,hb,k2,w1]
    refine⟨⟨rfl,by simp[Tryz.f114]⟩,zd (gM 0 1 R) (pin:=gT R) h2 (by simp[go_sem]) ⟨by simp[go_sem],by simp[go_sem]⟩ (by rw[Z1 rfl];simp[go_sem,gz]) ?_⟩
    rintro _ _ ⟨rfl,rfl⟩
    simp (maxSteps:=1000000) [go_sem,gz]
    exact yT (rest:=[([7],[.p (.str x.t),.p (.int .i64 2)])]) _ rfl rfl (by simp[go_sem]) (fun i rt tt=>zG rt tt _) (by simp[go_sem,zf,leA,leT])
   ·simp (maxSteps:=1000000) [go_sem,gz,hb,k1,k2]
    exact yT (rest:=[([7],[.p (.str x.t),.p (.int .i64 x.w)])]) _ rfl rfl (by simp[go_sem]) (fun i rt tt=>zG rt tt _) (by simp[go_sem,zf,leA,leT])
 ·have hb':inB R C r c=false:=by simpa using hb
  simp (maxSteps:=1000000) [go_sem,gz,hb']
  exact yT (rest:=[([7],[.p (.str x.t),.p (.int .i64 x.w)])]) _ rfl rfl (by simp[go_sem]) (fun i rt tt=>zG rt tt _) (by simp[go_sem,zf,leA,leT])
theorem ziy [Gi](R C:Nat)(G:Nat→zw)(k c:Nat)(t:List UInt8)(hk:k<R)(hc:c<C)(hC:C≤1000)(hl:(G k).length=C)(ho:OkR (G k)):CR Tryz.prog 79 (gT R) [.la [0] 1 0 R,.p (.int .i64 k),.p (.int .i64 c),.p (.agg [.str t,.int .i64 1])] (gz R C G) (fun v rs=>v=.p (.bool true)∧rs=gz R C (vi G k (y8 (G k) c ⟨t,1⟩))):=by
 have h1:=JG R C G (k:Int) (c:Int)
 have hb:inB R C (k:Int) (c:Int)=true:=by unfold inB;simp;omega
 rw[hb]at h1
 have h3:=uH R C G k hk (G k) hl.symm c (by omega) (by omega) ho
 rw[Y7,hl]at h3
 have la:(laF 1 2 C R)[k]?=some (.la [1,k] 2 0 C):=by simp[WA,hk]
 have lr:(qv (G k) c).length=C:=by rw[Q7,hl]
 have ew:=jG (l:=qv (G k) c) (c:=c) t 1 (by omega)
 have ep:y8 (G k) c ⟨t,1⟩=(qv (G k) c).set c ⟨t,1⟩:=by unfold y8;simp
 rw[ep]
 refine walk Tryz.func79 9 [] [] [] ?_
 simp (maxSteps:=1000000) [go_sem,Tryz.f79,gz]
 refine⟨⟨rfl,by simp[Tryz.f114]⟩,zd (gM 0 1 R) (pin:=gT R) h1 (by simp[go_sem]) ⟨by simp[go_sem],by simp[go_sem]⟩ (by rw[Z1 rfl];simp[go_sem,gz]) ?_⟩
 rintro _ _ ⟨rfl,rfl⟩
 simp (maxSteps:=1000000) [go_sem,gz,hk]
 refine⟨⟨rfl,by simp[Tryz.f115]⟩,zd (gM 0 1 R) (pin:=gT R) h3 (by simp[go_sem]) ⟨by simp[go_sem],by simp[go_sem,hk]⟩ (by rw[Z1 rfl];simp[go_sem,gz]) ?_⟩
 rintro _ _ ⟨rfl,rfl⟩
 generalize qv (G k) c=l2 at lr ew⊢
 simp (maxSteps:=1000000) [go_sem,gz,hk,jU,QZ,lr,hc]
 refine⟨by omega,?_⟩
 rw[ew,yH,jc]
 exact yT (rest:=[([7],[.p (.str t),.p (.int .i64 1)])]) _ rfl rfl (by simp[go_sem]) (fun i rt tt=>zG rt tt _) (by simp[go_sem,zf,leA,leT])
theorem zjs [Gi](R C:Nat)(G:Nat→zw)(k c:Nat)(t:List UInt8)(hk:k<R)(hc:c+1<C)(hC:C≤1000)(hl:(G k).length=C)(ho:OkR (G k)):CR Tryz.prog 79 (gT R) [.la [0] 1 0 R,.p (.int .i64 k),.p (.int .i64 c),.p (.agg [.str t,.int .i64 2])] (gz R C G) (fun v rs=>v=.p (.bool true)∧rs=gz R C (vi G k (y8 (G k) c ⟨t,2⟩))):=by
 have h1:=JG R C G (k:Int) (c:Int)
 have h2:=JG R C G (k:Int) ((c:Int)+1)
 have hb:inB R C (k:Int) (c:Int)=true:=by unfold inB;simp;omega
 have hb2:inB R C (k:Int) ((c:Int)+1)=true:=by unfold inB;simp;omega
 rw[hb]at h1
 rw[hb2]at h2
 have h3:=uH R C G k hk (G k) hl.symm c (by omega) (by omega) ho
 rw[Y7,hl]at h3
 have la:(laF 1 2 C R)[k]?=some (.la [1,k] 2 0 C):=by simp[WA,hk]
 have lr:(qv (G k) c).length=C:=by rw[Q7,hl]
 have h4:=uH R C G k hk (qv (G k) c) lr.symm (c+1) (by omega) (by omega) (ho.qv c)
 rw[lr]at h4
 have lr2:(qv (qv (G k) c) (c+1)).length=C:=by rw[Q7,lr]
 have ew:=jG (l:=qv (qv (G k) c) (c+1)) (c:=c+1) [] 0 (by omega)
 have ew2:=jG (l:=(qv (qv (G k) c) (c+1)).set (c+1) ⟨[],0⟩) (c:=c) t 2 (by rw[List.length_set];omega)
 have ep:y8 (G k) c ⟨t,2⟩=((qv (qv (G k) c) (c+1)).set (c+1) ⟨[],0⟩).set c ⟨t,2⟩:=by unfold y8;simp
 have w1:IntKind.i64.wrap ((c:Int)+1)=(c:Int)+1:=wrap64 (by omega) (by omega)
 rw[ep]
 refine walk Tryz.func79 9 [] [] [] ?_
 simp (maxSteps:=1000000) [go_sem,Tryz.f79,gz]
 refine⟨⟨rfl,by simp[Tryz.f114]⟩,zd (gM 0 1 R) (pin:=gT R) h1 (by simp[go_sem]) ⟨by simp[go_sem],by simp[go_sem]⟩ (by rw[Z1 rfl];simp[go_sem,gz]) ?_⟩
 rintro _ _ ⟨rfl,rfl⟩
 simp (maxSteps:=1000000) [go_sem,gz,hk,w1]
 refine⟨⟨rfl,by simp[Tryz.f114]⟩,zd (gM 0 1 R) (pin:=gT R) h2 (by simp[go_sem]) ⟨by simp[go_sem],by simp[go_sem]⟩ (by rw[Z1 rfl];simp[go_sem,gz]) ?_⟩
 rintro _ _ ⟨rfl,rfl⟩
 simp (maxSteps:=1000000) [go_sem,gz,hk]
 refine⟨⟨rfl,by simp[Tryz.f115]⟩,zd (gM 0 1 R) (pin:=gT R) h3 (by simp[go_sem]) ⟨by simp[go_sem],by simp[go_sem,hk]⟩ (by rw[Z1 rfl];simp[go_sem,gz]) ?_⟩
 rintro _ _ ⟨rfl,rfl⟩
 generalize qv (G k) c=l2 at lr h4 lr2 ew ew2⊢
 simp (maxSteps:=1000000) [go_sem,gz,hk,w1]
 refine⟨⟨rfl,by simp[Tryz.f115]⟩,zd (gM 0 1 R) (pin:=gT R) h4 (by simp[go_sem]) ⟨by simp[go_sem],by simp[go_sem,hk]⟩ (by rw[Z1 rfl];simp[go_sem,gz]) ?_⟩
 rintro _ _ ⟨rfl,rfl⟩
 generalize qv l2 (c+1)=l3 at lr2 ew ew2⊢
 simp (maxSteps:=1000000) [go_sem,gz,hk,jU,QZ,lr2,w1]
 simp only[ew,yH,jc,jU,ew2,QZ,List.length_set,lr2]
 exact⟨by omega,by omega,by omega,by omega,yT (rest:=[([7],[.p (.str t),.p (.int .i64 2)])]) _ rfl rfl (by simp[go_sem]) (fun i rt tt=>zG rt tt _) (by simp[go_sem,zf,leA,leT])⟩
end Go.Proofs.YtcgfdhdcihmeeaaGreat
end
section
namespace Go.Proofs.YtcgfdhdcihmeeaaGreat
open Go.AM
set_option maxHeartbeats 4000000
set_option maxRecDepth 10000
attribute [local irreducible] za
attribute [local go_sem] qy zG
theorem zjS [Gi](R C:Nat)(G:Nat→zw)(r c:Int)(x:Cl)(hC:C≤1000)(hl:∀i,i<R→(G i).length=C)(ho:∀i,i<R→OkR (G i)):
  CR Tryz.prog 79 (gT R) [.la [0] 1 0 R,.p (.int .i64 r),.p (.int .i64 c),.p (clP x)] (gz R C G) (fun v rs=>v=.p (.bool (UT C R r c x))∧rs=gz R C fun i=>UM C R r c x i (G i)):=by
 cases hB:UT C R r c x with
 |false=>
  refine(zhx R C G r c x hB hC).mono ?_
  rintro v rs ⟨rfl,rfl⟩
  exact⟨rfl,by unfold UM;simp[hB]⟩
 |true=>
  have hb':((((0≤r∧r<R)∧0≤c)∧c<C)∧(x.w=1∨x.w=2))∧(¬x.w=2∨c+1<C):=by simpa[UT]using hB
  obtain⟨⟨⟨⟨⟨h0,h0'⟩,h1⟩,h2⟩,h3⟩,h4⟩:=hb'
  obtain⟨k,rfl⟩:∃k:Nat,r=k:=⟨r.toNat,by omega⟩
  obtain⟨q,rfl⟩:∃q:Nat,c=q:=⟨c.toNat,by omega⟩
  have hk:k<R:=by omega
  have e:(fun i=>UM C R (k:Int) (q:Int) x i (G i))=vi G k (y8 (G k) q x):=by
   funext i
   unfold UM vi
   rw[if_pos hB]
   by_cases hi:i=k
   ·subst hi;simp
   ·rw[if_neg (by omega),if_neg hi]
  rw[e]
  obtain⟨t,w⟩:=x
  simp only at h3 h4
  rcases h3 with rfl|rfl
  ·exact ziy R C G k q t hk (by omega) hC (hl k hk) (ho k hk)
  ·exact zjs R C G k q t hk (by omega) hC (hl k hk) (ho k hk)
theorem zkC [Gi] {P:Program} {ts:List (Nat×Option TypeId)} {S:St} {R C:Nat} {F:Nat→List AV} {rest:List (Tok×List AV)}(x:AV)(hp:S.pin=[])(hrs:S.rs=gy 0 1 R C F++rest)(hr:∀y∈rest,(gT R).contains y.1=false)
  (hF:∀i (rt tt:Tok→Bool),(F i).map (AV.upd (AM.fil rt tt))=F i) (hx:(zf P S ts).1∧leT ((zf P S ts).2.upd (AM.fil (fun t=>(gT R).contains t) ftt)) x):uz P [] ts (fun y rs=>y=x∧rs=gy 0 1 R C F) S:=by
 refine zu (gT R) x ⟨hp,rfl⟩ hx ⟨rfl,?_⟩
 have e:(S.fil (fun t=>(gT R).contains t) ftt).rs=gy 0 1 R C F++rest.map (fun x=>(x.1,x.2.map (AV.upd (AM.fil (fun t=>(gT R).contains t) ftt)))):=by
  show S.rs.map _=_
  rw[hrs,List.map_append,XD fun i hi=>zax hi]
  simp only[hF]
 rw[e]
 refine zbf fun y hy=>?_
 obtain⟨z,hz,rfl⟩:=List.mem_map.1 hy
 exact hr z hz
theorem XS {k a R C:Nat} {F:Nat→List AV}:leR (gy k a R C F) (gy k a R C F):=zlx zd3 fun _ hi=>JT hi
theorem zki [Gi](l:List Cl)(R C:Nat)(top:Int)(hR:1≤R∧R≤500)(hC:2≤C∧C≤1000)(hn:l.length≤100000)(hl:∀x∈l,k9 x)(ht:0≤top∧top≤1000000):
  CR Tryz.prog 44 [] [.p (Za l),.p (.int .i64 R),.p (.int .i64 C),.p (.int .i64 top)] [] (fun x rs=>x=.la [0] 1 0 R∧rs=gz R C fun r=>y4 C R top l r l.length):=by
 refine walk Tryz.func44 12 [] [] [] ?_
 have hR0:0<R:=hR.1
 simp (maxSteps:=1000000) [go_sem,Tryz.f44]
 refine⟨⟨rfl,by simp[Tryz.f78]⟩,zd (gM 0 1 R) (zjE R C hR hC) (by simp[go_sem]) ⟨by simp[go_sem],by simp[go_sem]⟩ (by rw[zdn rfl fun _=>rfl]) ?_⟩
 rintro _ _ ⟨rfl,rfl⟩
 have e0:(gx R C fun _=>List.replicate C blk)=gz R C fun _=>List.replicate C blk:=rfl
 rw[e0]
 simp (maxSteps:=1000000) [go_sem,gz,Y8]
 refine zq (Yk l C hn hC hl) ?_
 have hs:(Qt C l).length=l.length+1:=by simp[Qt]
 simp (maxSteps:=1000000) [go_sem,jv]
 refine Z7 (fun i:Nat=>i≤l.length) (fun i=>{n:=55,nv:=12,vs:=[(0,.p (Za l)),(1,.p (.int .i64 R)),(2,.p (.int .i64 C)),(3,.p (.int .i64 top)),(9,.la [0] 1 0 R),(10,.p (jv (Qt C l))),(11,.p (.int .i64 i))],ts:=[],rs:=gz R C fun r=>y4 C R top l r i}) (fun i=>l.length-i) 0 (Nat.zero_le _) (by simp[go_sem,LeS,leV,leA,y4,gz,jv,XS]) ?_
 intro i hi
 by_cases hil:i<l.length
 ·have em:elemAt ((Qt C l).map Qk) i=.agg [.int .i64 (qp C l i).1,.int .i64 (qp C l i).2]:=by
   rw[zp Qk _ _ (by rw[hs];omega)]
   simp[Qt,Qk]
  have bd:=vu (C:=C) (by omega) hl i
  have w1:IntKind.i64.wrap ((i:Int)+1)=((i+1:Nat):Int):=zD (by omega)
  have st:∀r,y4 C R top l r (i+1)=if top≤(qp C l i).1 then UM C R ((qp C l i).1-top) (qp C l i).2 (l.getD i blk) r (y4 C R top l r i)else y4 C R top l r i:=fun r=>rfl
  have gm:=JH hil
  have gd:l.getD i blk=l[i]:=by rw[List.getD_eq_getElem?_getD,List.getElem?_eq_getElem hil];rfl
  rw[gd]at st
  have pc:=zjS R C (fun r=>y4 C R top l r i) ((qp C l i).1-top) (qp C l i).2 l[i] hC.2 (fun r _=>Km C R top l r i) (fun r _=>zfm C R top l r i)
  generalize l[i]=x at gm st pc
  generalize qp C l i=s at bd em st pc⊢
  obtain⟨p,q⟩:=s
  simp only at bd em st pc
  have wt:IntKind.i64.wrap (p-top)=p-top:=wrap64 (by omega) (by omega)
  have hil':(i:Int)<l.length:=by omega
  have hil2:(i:Int)<l.length+1:=by omega
  by_cases k:top≤p
  ·simp only[if_pos k]at st
   simp (maxSteps:=1000000) [go_sem,hil',hil2,hs,em,k,wt,gm,gz,jv,hR0]
   refine⟨⟨rfl,by simp[Tryz.f79]⟩,zd (gM 0 1 R) (pin:=gT R) pc (by simp[go_sem]) ⟨by simp[go_sem],by simp[go_sem,clP]⟩ (by rw[Z1 (rest:=[]) (List.append_nil _).symm];simp[go_sem,gz]) ?_⟩
   rintro _ _ ⟨rfl,rfl⟩
   simp (maxSteps:=1000000) [go_sem,gz,w1]
   refine zg (i+1) hil ?_ (by show l.length- (i+1)<l.length-i;omega)
   simp[go_sem,LeS,leV,leA,st,XS]
  ·simp only[if_neg k]at st
   simp (maxSteps:=1000000) [go_sem,hil',hil2,hs,em,k,w1,gz,jv,hR0]
   refine zg (i+1) hil ?_ (by show l.length- (i+1)<l.length-i;omega)
   simp[go_sem,LeS,leV,leA,st,XS]
 ·obtain rfl:i=l.length:=by omega
  simp (maxSteps:=1000000) [go_sem,gz,hR0]
  exact zkC (rest:=[]) _ rfl (by simp) (by simp) (fun i rt tt=>zG rt tt _) (by simp[go_sem,zf,leA,leT])
def uc(L:List zw):PV:=.sl 1 (L.map Za)
theorem zgj {a j:Nat}:∀{n k:Nat},j<n→(xm a k n)[j]?=some [a,k+j]:=by
 induction j with
 |zero=>intro n k h;obtain⟨n,rfl⟩:∃q,n=q+1:=⟨n-1,by omega⟩;simp[xm]
 |succ j ih=>
  intro n k h
  obtain⟨n,rfl⟩:∃q,n=q+1:=⟨n-1,by omega⟩
  simp only[xm,List.getElem?_cons_succ]
  rw[ih (by omega),show k+1+j=k+(j+1) by omega]
theorem Yh {a:Nat}:∀{n k:Nat},(xm a k n).length=n
 |0,k=>rfl
 |n+1,k=>by simp only[xm,List.length_cons,Yh]
theorem zaL {a z m:Nat}:∀{n k:Nat},laK a z m k n=(xm a k n).map fun t=>.la t z 0 m
 |0,k=>rfl
 |n+1,k=>by simp only[laK,xm,List.map_cons,zaL]
theorem zmc [Gi] {R C:Nat}(hR:0<R)(hC:0<C) {G:Nat→zw}(hl:∀i,i<R→(G i).length=C):zcv (fun _=>false) (gz R C G) (.la [0] 1 0 R) (.p (uc ((List.range R).map G))):=by
 intro g w v hG hv
 have len:(KR 1 R).length=R:=Yh
 have h:=ziO (rt:=fun _=>false) hG (t0:=[0]) (z:=2) (n:=C) (ts:=KR 1 R) (X:=(List.range R).map fun i=>(G i).map clP) hC (by rw[len];exact hR) (by
  show some (laF 1 2 C R)=_
  unfold laF;rw[zaL];rfl) rfl (by simp[len]) ?_ (v:=v) (by rw[len];exact hv)
 ·rw[uw]
  have e:uc ((List.range R).map G)=.sl 1 (((List.range R).map fun i=>(G i).map clP).map (.sl 2)):=by
   unfold uc Za
   rw[List.map_map,List.map_map];rfl
  rw[e];exact h
 ·intro i t hi
  have hiR:i<R:=by rw[←len];exact(List.getElem?_eq_some_iff.1 hi).1
  have ht:=zgj (a:=1) (k:=0) hiR
  unfold KR at hi
  rw[hi]at ht
  injection ht with ht
  subst ht
  refine⟨rfl,(G i).map clP,by simp[hiR],by rw[List.length_map];exact hl i hiR,Ku _,?_⟩
  rw[Nat.zero_add]
  unfold gz
  rw[JT hiR,zfr]
theorem zjB [Gi](l:List Cl)(R C:Nat)(top:Int)(hR:1≤R∧R≤500)(hC:2≤C∧C≤1000)(hn:l.length≤100000)(hl:∀x∈l,k9 x)(ht:0≤top∧top≤1000000):
  CR Tryz.prog 44 [] [.p (Za l),.p (.int .i64 R),.p (.int .i64 C),.p (.int .i64 top)] [] (is (.p (uc ((List.range R).map fun r=>y4 C R top l r l.length)))):=by
 refine(zki l R C top hR hC hn hl ht).freeze (fun _=>false) rfl ?_
 rintro x rs ⟨rfl,rfl⟩
 exact⟨_,zmc (by omega) (by omega) (fun r _=>Km C R top l r _),by simp[Xc],rfl⟩
end Go.Proofs.YtcgfdhdcihmeeaaGreat
end
section
namespace Go.Proofs.YtcgfdhdcihmeeaaGreat
open Go.AM
set_option maxHeartbeats 4000000
set_option maxRecDepth 10000
attribute [local irreducible] za
theorem ziY(s:Nat)(S:List Nat)(a:Int):cnt (s::S) a=cnt S a+(if(s:Int)<a then 1 else 0):=by
 unfold cnt
 rw[List.countP_cons]
 simp
theorem zig:∀{S:List Nat} {a:Int},S.Pairwise (· < ·)→∀{i:Nat} (h:i<S.length),((S[i]:Int)<a↔i<cnt S a)
 | [],a,_,i,h=>by simp at h
 |s::S,a,hp,i,h=>by
  have hp1:=(List.pairwise_cons.1 hp).1
  have hp2:=(List.pairwise_cons.1 hp).2
  rw[ziY]
  by_cases hs:(s:Int)<a
  ·rw[if_pos hs]
   cases i with
   |zero=>simp[hs]
   |succ i=>
    have:=zig (a:=a) hp2 (i:=i) (by simpa using h)
    rw[List.getElem_cons_succ,this];omega
  ·rw[if_neg hs]
   have hz:cnt S a=0:=by
    unfold cnt
    rw[List.countP_eq_zero]
    intro x hx
    have:=hp1 x hx
    simp;omega
   rw[hz]
   cases i with
   |zero=>simp;omega
   |succ i=>
    have:=hp1 _ (List.getElem_mem (show i<S.length by simpa using h))
    rw[List.getElem_cons_succ];omega
def vwX(R C:Nat)(ps:List (List Int))(ln:List Int)(cur:Int):List zw:=(List.range R).map fun r=>y4 C R (vwT R C ps ln cur) (vwG ps ln) r (vwG ps ln).length
theorem zhW(R C:Nat)(ps:List (List Int))(ln:List Int)(cur:Int):vwX R C ps ln cur=Wq R C (vwL R C ps ln cur):=by
 unfold vwX Wq vwL
 refine List.map_congr_left fun r hr=>?_
 rw[zhv _ _ _ _ _ r (List.mem_range.1 hr)]
def zlS(R C:Nat)(ps:List (List Int))(ln:List Int)(cur:Int):PV:=.agg [uc (vwX R C ps ln cur),.int .i64 ((vwS C ps ln cur).1-vwT R C ps ln cur),.int .i64 (vwS C ps ln cur).2]
theorem Kn [Gi] {ps:List (List Int)} {ln:List Int}(h:JY ps ln)(cur:Int)(R C:Nat)(hR:1≤R∧R≤500)(hC:2≤C∧C≤1000):
  CR Tryz.prog 11 [] [.p (zU za),.p (ZK ps ln cur),.p (.int .i64 R),.p (.int .i64 C)] [] (is (.p (zlS R C ps ln cur))):=by
 refine walk Tryz.func11 21 [] [21] [] ?_
 have hl:=h.l
 have hL:=Ln.mk' ln (by omega) h.r
 have hv:=zhw ln cur
 have hN:=h.n
 have hG:=zhc h
 have a1:¬((R:Int)<1):=by omega
 have a2:¬((500:Int)<R):=by omega
 have a3:¬((C:Int)<2):=by omega
 have a4:¬((1000:Int)<C):=by omega
 unfold ZK
 simp (maxSteps:=1000000) [go_sem,Tryz.f11,a1,a2,a3,a4]
 refine loop (fun i:Nat=>i≤ps.length) (fun i=>[(9,.os [9] 2 ((Zc (ps.take i)).map clP)),(10,.p (.int .i64 i))]) (fun _=>[]) (fun i=>ps.length-i) 0 (Nat.zero_le _) (fun i hi=>?_) (h0:=by simp[go_sem,LeS,leV,leR,leA,leL,Zc])
 by_cases hil:i<ps.length
 ·have hp:=h.p _ (List.getElem_mem hil)
  have hP:=Ln.mk' ps[i] (by omega) hp.2
  have lc:=zcR hP (by omega)
  rw[xy hP]at lc
  have em:=xh hil
  have st:=Kk hil
  have le:=vU hp.1 hp.2
  have le2:=wF (ps:=ps.take i) fun x hx=>h.p x (List.mem_of_mem_take hx)
  have le3:((Zc (ps.take i)).map clP).length≤10000:=by rw[List.length_map];rw[List.length_take]at le2;omega
  have w1:IntKind.i64.wrap ((i:Int)+1)=((i+1:Nat):Int):=zD (by omega)
  generalize ps[i]=y at hp hP lc em st le
  generalize uK y=gy at lc st le
  generalize (Zc (ps.take i)).map clP=A at st le3⊢
  generalize jN (zI za y) ((zI za y).length+1)=at_ at lc
  simp (maxSteps:=1000000) [go_sem,hil,em]
  refine zq lc ?_
  simp (maxSteps:=1000000) [go_sem,w1,st]
  refine⟨by omega,?_⟩
  exact next (i+1) hil (h3:=by show ps.length- (i+1)<ps.length-i;omega) (h2:=by simp[go_sem,LeS,leV,leR,leA,leL])
 ·obtain rfl:i=ps.length:=by omega
  rw[List.take_length]
  have lc:=zcR hL (by omega)
  rw[xy hL]at lc
  have g1:=zc5 hL
  have lh:=wF h.p
  have le:=vU hl h.r
  have e2:(Zc ps).map clP++(uK ln).map clP=(vwG ps ln).map clP:=by rw[vwG,List.map_append]
  have hinc:=zh7 hL.cl
  have hat:atG (zI za ln) (zI za ln).length=(uK ln).length:=by rw[ze9,xy hL]
  have hvn:vwN ln cur=cnt (pl (zI za ln)) cur:=rfl
  have e3:vwK ps ln cur=(Zc ps).length+atG (zI za ln) (vwN ln cur):=rfl
  have lk:∀k,atG (zI za ln) k≤100000:=fun k=>by
   have:=vf hL k
   omega
  have hCl:(zI za ln).length≤100000:=by
   have:=hL.cl.len
   rw[hL.sum]at this
   omega
  simp (maxSteps:=1000000) [go_sem]
  refine zq lc ?_
  simp (maxSteps:=1000000) [go_sem,e2]
  refine⟨by first|omega|(simp;omega),zq g1 ?_⟩
  have nl:(ZQ (pl (zI za ln))).length=(zI za ln).length:=by simp[ZQ,pl]
  have nl2:(ZQ (jN (zI za ln) ((zI za ln).length+1))).length=(zI za ln).length+1:=by simp[ZQ,jN]
  have wz:IntKind.i64.wrap (((zI za ln).length:Int)-1)=((zI za ln).length:Int)-1:=wrap64 (by omega) (by omega)
  have hvl:(vwG ps ln).length=(Zc ps).length+atG (zI za ln) (zI za ln).length:=by rw[hat,vwG,List.length_append]
  simp (maxSteps:=1000000) [go_sem,nl,wz]
  refine loop (fun j:Nat=>j≤(zI za ln).length) (fun j=>[(17,.p (.int .i64 ((Zc ps).length+atG (zI za ln) (max (vwN ln cur) ((zI za ln).length-j)):Nat))),(18,.p (.int .i64 (((zI za ln).length:Int)-1-j)))]) (fun _=>[]) (fun j=>(zI za ln).length-j) 0 (Nat.zero_le _) (fun j hj=>?_) (h0:=by simp[go_sem,LeS,leV,leR,leA,leL,Nat.max_eq_right hv,hvl])
  by_cases hjl:j< (zI za ln).length
  ·obtain⟨i,hi2⟩:∃i,i=(zI za ln).length-1-j:=⟨_,rfl⟩
   have hil2:i< (zI za ln).length:=by omega
   have ei:((zI za ln).length:Int)-1-j=(i:Int):=by omega
   have emS:=znx hil2
   have emA:=ze0 (L:=zI za ln) (n:=(zI za ln).length+1) (k:=i) (by omega)
   have hlt:=zig (a:=cur) hinc (i:=i) (by rw[QL];exact hil2)
   rw[jD,←hvn]at hlt
   have w1:IntKind.i64.wrap ((i:Int)-1)=((zI za ln).length:Int)-1- ((j+1:Nat):Int):=by rw[wrap64 (by omega) (by omega)];omega
   have hi3:(zI za ln).length-j=i+1:=by omega
   have hi4:(zI za ln).length- (j+1)=i:=by omega
   have hi5:(i:Int)< (zI za ln).length+1:=by omega
   have hi6:(i:Int)< (zI za ln).length:=by omega
   rw[ei,hi3]
   by_cases k:cur≤(plc (zI za ln) i:Int)
   ·have m1:max (vwN ln cur) i=i:=by omega
    have w2:IntKind.i64.wrap (((Zc ps).length:Int)+(atG (zI za ln) i:Nat))=(((Zc ps).length+atG (zI za ln) i:Nat):Int):=by
     have:=lk i
     rw[←Int.natCast_add];exact wrap64 (by omega) (by omega)
    simp (maxSteps:=1000000) [go_sem,nl,nl2,emS,emA,k,w1,w2,hi5,hi6]
    exact next (j+1) hjl (h3:=by show(zI za ln).length- (j+1)< (zI za ln).length-j;omega) (h2:=by simp[go_sem,LeS,leV,leR,leA,leL,hi4,m1])
   ·have m1:max (vwN ln cur) i=vwN ln cur:=by omega
    have m2:max (vwN ln cur) (i+1)=vwN ln cur:=by omega
    simp (maxSteps:=1000000) [go_sem,nl,emS,k,w1,hi6]
    exact next (j+1) hjl (h3:=by show(zI za ln).length- (j+1)< (zI za ln).length-j;omega) (h2:=by simp[go_sem,LeS,leV,leR,leA,leL,hi4,m1,m2])
  ·obtain rfl:j=(zI za ln).length:=by omega
   have ej:((zI za ln).length:Int)-1- (zI za ln).length= -1:=by omega
   rw[ej,Nat.sub_self,show max (vwN ln cur) 0=vwN ln cur by omega,←e3]
   have hO:=zi2 ps ln
   have hk:=zhj h cur
   have e1:=U7 (C:=C) (l:=vwG ps ln) (i:=(vwG ps ln).length) (by omega)
   have e2:=U7 (C:=C) (l:=vwG ps ln) (i:=vwK ps ln cur) (by omega)
   have b1:=vu (C:=C) (by omega) hO (vwG ps ln).length
   have b2:=vu (C:=C) (by omega) hO (vwK ps ln cur)
   have hs:((Qt C (vwG ps ln)).map Qk).length=(vwG ps ln).length+1:=by simp[Qt]
   have tp:=zj6 ((qp C (vwG ps ln) (vwG ps ln).length).1+1) R (qp C (vwG ps ln) (vwK ps ln cur)).1 (by omega) (by omega) (by omega)
   have tb:0≤xr ((qp C (vwG ps ln) (vwG ps ln).length).1+1) R (qp C (vwG ps ln) (vwK ps ln cur)).1∧xr ((qp C (vwG ps ln) (vwG ps ln).length).1+1) R (qp C (vwG ps ln) (vwK ps ln cur)).1≤1000000:=by
    unfold xr;omega
   have ly:=zjB (vwG ps ln) R C _ hR hC (by omega) hO tb
   have pl:=Yk (vwG ps ln) C (by omega) hC hO
   unfold zlS vwX vwT vwS
   have w1:IntKind.i64.wrap ((qp C (vwG ps ln) (vwG ps ln).length).1+1)=(qp C (vwG ps ln) (vwG ps ln).length).1+1:=wrap64 (by omega) (by omega)
   generalize xr ((qp C (vwG ps ln) (vwG ps ln).length).1+1) R (qp C (vwG ps ln) (vwK ps ln cur)).1=T at tp tb ly⊢
   have w2:IntKind.i64.wrap ((qp C (vwG ps ln) (vwK ps ln cur)).1-T)=(qp C (vwG ps ln) (vwK ps ln cur)).1-T:=wrap64 (by omega) (by omega)
   unfold uc at ly⊢
   generalize ((List.range R).map fun r=>y4 C R T (vwG ps ln) r (vwG ps ln).length).map Za=RD at ly⊢
   have hk2:(vwK ps ln cur:Int)< ((vwG ps ln).length:Int)+1:=by omega
   unfold jv at pl
   generalize vwK ps ln cur=kk at*
   generalize vwG ps ln=G at*
   generalize (Qt C G).map Qk=SP at*
   simp (maxSteps:=1000000) [go_sem]
   refine zq pl ?_
   simp (maxSteps:=1000000) [go_sem,hs,e1,e2,w1,hk2]
   refine⟨by omega,zq tp ?_⟩
   simp (maxSteps:=1000000) [go_sem]
   refine ZB 44 ly ?_
   simp (maxSteps:=1000000) [go_sem,hs,e2,w2,hk2]
   exact ret (hx:=by simp[go_sem,zf,leA,leT])
end Go.Proofs.YtcgfdhdcihmeeaaGreat
end
