/- A part of this seat's proofs, by an abstract machine. Conditions: each law's. -/
import Derived.Test.YtfjdbbpimklecaaGreatDoorT37
set_option maxHeartbeats 3200000
set_option maxRecDepth 10000
namespace Go.Proofs.YtfjdbbpimklecaaGreatDoor
section
open Go.AM
structure Chd where
 r:Int
 f:Int
 t:Int
 s:List UInt8
 e:Bool
 deriving Inhabited
def chP(c:Chd):PV:=.agg [.int .i64 c.r,.int .i64 c.f,.int .i64 c.t,.str c.s,.bool c.e]
def Chd.ok(c:Chd):Prop:=(0≤c.r∧c.r≤1000)∧(0≤c.f∧c.f≤1000)∧0≤c.t∧c.t≤1000
structure OSt where
 l:List AOp
 r:Int
 c:Int
 k:Bool
def vT(C:Int)(s:OSt)(h:Chd):OSt:=
 ⟨s.l++goA s.r s.c s.k h.r h.f++(if h.s=[]then []else [⟨1,0,0,h.s⟩])++(if h.e then [⟨3,0,0,[]⟩]else []),h.r,h.t,decide (h.t<C)⟩
def oSt(C r0 c0:Int)(k0:Bool)(chs:List Chd):Nat→OSt
 |0=>⟨[],r0,c0,k0⟩
 |k+1=>vT C (oSt C r0 c0 k0 chs k) (chs.getD k default)
theorem Ku {l b:List AOp} {n:Nat}(hl:l.length≤n)(hb:b.length≤n):(shorter l b).length≤n:=by
 rw[shorter];split<;>assumption
theorem uN(r c:Int)(k:Bool)(r' c':Int):(goA r c k r' c').length≤2:=by
 rw[goA]
 split
 ·have h1:(qF r r').length≤1:=by
   rw[qF];repeat' split
   all_goals simp
  have h2:(qN c c').length≤1:=by
   rw[qN];repeat' split
   all_goals simp
  have h3:(shorter (qF r r'++qN c c') [⟨2,r',c',[]⟩]).length≤2:=Ku (by simp;omega) (by simp)
  rw[ZG]
  split
  ·exact Ku (by simp;omega) h3
  ·exact h3
 ·simp
theorem za8(C r0 c0:Int)(k0:Bool)(chs:List Chd)(k:Nat):(oSt C r0 c0 k0 chs k).l.length≤4*k:=by
 induction k with
 |zero=>simp[oSt]
 |succ k ih=>
  rw[oSt,vT]
  generalize chs.getD k default=g
  have:=uN (oSt C r0 c0 k0 chs k).r (oSt C r0 c0 k0 chs k).c (oSt C r0 c0 k0 chs k).k g.r g.f
  simp only[List.length_append]
  split<;>split<;>simp<;>omega
theorem zn3(C r0 c0:Int)(k0:Bool)(chs:List Chd)(hr:0≤r0∧r0≤1000)(hc:0≤c0∧c0≤1000)(hn:chs.length≤1000)(hok:∀h∈chs,h.ok):
  CR Tryz.prog 45 [] [.p (.sl 5 (chs.map chP)),.p (.int .i64 C),.p (Zg r0 c0),.p (.bool k0)] []
   (is (.tup [.p (zk (oSt C r0 c0 k0 chs chs.length).l),.p (Zg (oSt C r0 c0 k0 chs chs.length).r (oSt C r0 c0 k0 chs chs.length).c),.p (.bool (oSt C r0 c0 k0 chs chs.length).k)])):=by
 have hst:∀k,k≤chs.length→(0≤(oSt C r0 c0 k0 chs k).r∧(oSt C r0 c0 k0 chs k).r≤1000)∧0≤(oSt C r0 c0 k0 chs k).c∧(oSt C r0 c0 k0 chs k).c≤1000:=fun k hk=>by
  cases k with
  |zero=>exact⟨hr,hc⟩
  |succ k=>
   have h:=hok (chs[k]'(by omega)) (List.getElem_mem _)
   have e:chs.getD k default=chs[k]'(by omega):=by rw[List.getD_eq_getElem?_getD,List.getElem?_eq_getElem (by omega)];rfl
   rw[oSt,vT,e]
   exact⟨h.1,h.2.2⟩
 refine zK [100010,100012] mixed 17 [17,32,40] Tryz.func45 rfl (by kernel_rfl) rfl (by simp) (by simp) ?_
 simp (maxSteps:=1000000) [go_sem,Tryz.f45,Zg]
 refine qM (fun k:Nat=>k≤chs.length) (fun k=>{n:=58,nv:=17,ex:=[17,32,40],vs:=[(0,.p (.sl 5 (chs.map chP))),(1,.p (.int .i64 C)),(3,.p (.bool (oSt C r0 c0 k0 chs k).k)),(6,.lp [6] 0),(8,.os [8] 4 []),(9,.lp [9] 0),(10,.p (.bool false)),(11,.os [11] 4 ((oSt C r0 c0 k0 chs k).l.map opP)),(14,.p (.sl 5 (chs.map chP))),(15,.p (.int .i64 chs.length)),(16,.p (.int .i64 k))],ts:=[],rs:=[([6],[.p (.int .i64 (oSt C r0 c0 k0 chs k).r),.p (.int .i64 (oSt C r0 c0 k0 chs k).c)]),([9],[.p (.int .i64 0),.p (.int .i64 0)])]}) (fun k=>chs.length-k) 0 (by simp) (by simp[go_sem,LeS,leV,leR,leA,leL,oSt]) ?_
 intro k hk
 have hs:=hst k hk
 have hl:=za8 C r0 c0 k0 chs k
 simp (maxSteps:=1000000) [go_sem]
 refine zh (fun h=>?_) (fun h=>?_)
 ·have e:chs.getD k default=chs[k]:=by rw[List.getD_eq_getElem?_getD,List.getElem?_eq_getElem h];rfl
  have hg:=hok chs[k] (List.getElem_mem h)
  have hS:oSt C r0 c0 k0 chs (k+1)=vT C (oSt C r0 c0 k0 chs k) chs[k]:=by rw[oSt,e]
  have m:=zp chP chs k h
  have e3:IntKind.i64.wrap ((k:Int)+1)=(k:Int)+1:=wrap64 (by omega) (by omega)
  generalize oSt C r0 c0 k0 chs k=s at*
  generalize chs[k]=g at*
  have hgo:=zjb s.r s.c s.k g.r g.f hs.1 hs.2 hg.1 hg.2.1
  have hgl:=uN s.r s.c s.k g.r g.f
  rw[vT]at hS
  generalize goA s.r s.c s.k g.r g.f=gl at*
  simp (maxSteps:=1000000) [go_sem,m,h,chP]
  refine⟨⟨rfl,by simp[Tryz.f64]⟩,zd [] hgo (by simp[go_sem]) ⟨by simp[go_sem],by simp[go_sem,Zg]⟩ (by simp[go_sem]) ?_⟩
  rintro y rs ⟨rfl,rfl⟩
  simp (maxSteps:=1000000) [go_sem,zk]
  refine⟨by omega,jy (fun hs1=>?_) (fun hs1=>?_)⟩
  ·simp (maxSteps:=1000000) [go_sem]
   refine⟨by omega,zN (fun he=>?_) (fun he=>?_)⟩
   ·simp (maxSteps:=1000000) [go_sem,e3]
    refine⟨by omega,zi (k+1) (by omega) (by simp[go_sem,LeS,leV,leR,leA,leL,hS,hs1,he,opP]) (by omega)⟩
   ·simp (maxSteps:=1000000) [go_sem,e3]
    refine zi (k+1) (by omega) (by simp[go_sem,LeS,leV,leR,leA,leL,hS,hs1,he,opP]) (by omega)
  ·simp (maxSteps:=1000000) [go_sem]
   refine zN (fun he=>?_) (fun he=>?_)
   ·simp (maxSteps:=1000000) [go_sem,e3]
    refine⟨by omega,zi (k+1) (by omega) (by simp[go_sem,LeS,leV,leR,leA,leL,hS,hs1,he,opP]) (by omega)⟩
   ·simp (maxSteps:=1000000) [go_sem,e3]
    refine zi (k+1) (by omega) (by simp[go_sem,LeS,leV,leR,leA,leL,hS,hs1,he]) (by omega)
 ·obtain rfl:k=chs.length:=by omega
  simp (maxSteps:=1000000) [go_sem]
  exact zg (.tup [.p (zk (oSt C r0 c0 k0 chs chs.length).l),.p (Zg (oSt C r0 c0 k0 chs chs.length).r (oSt C r0 c0 k0 chs chs.length).c),.p (.bool (oSt C r0 c0 k0 chs chs.length).k)]) rfl (by simp[go_sem,zf,leT,leP,leA,zk,Zg]) ⟨rfl,rfl⟩
theorem zlu(C r0 c0:Int)(k0:Bool)(chs:List Chd)(hr:0≤r0∧r0≤1000)(hc:0≤c0∧c0≤1000)(hn:chs.length≤1000)(hok:∀h∈chs,h.ok):
  CR Tryz.prog 70 [] [.p (.sl 5 (chs.map chP)),.p (.int .i64 C),.p (Zg r0 c0),.p (.bool k0)] []
   (is (.tup [.p (zk (oSt C r0 c0 k0 chs chs.length).l),.p (Zg (oSt C r0 c0 k0 chs chs.length).r (oSt C r0 c0 k0 chs chs.length).c),.p (.bool (oSt C r0 c0 k0 chs chs.length).k)])):=by
 have hst:∀k,k≤chs.length→(0≤(oSt C r0 c0 k0 chs k).r∧(oSt C r0 c0 k0 chs k).r≤1000)∧0≤(oSt C r0 c0 k0 chs k).c∧(oSt C r0 c0 k0 chs k).c≤1000:=fun k hk=>by
  cases k with
  |zero=>exact⟨hr,hc⟩
  |succ k=>
   have h:=hok (chs[k]'(by omega)) (List.getElem_mem _)
   have e:chs.getD k default=chs[k]'(by omega):=by rw[List.getD_eq_getElem?_getD,List.getElem?_eq_getElem (by omega)];rfl
   rw[oSt,vT,e]
   exact⟨h.1,h.2.2⟩
 refine zK [5,100012] mixed 13 [16,40,54] Tryz.func70 rfl (by kernel_rfl) rfl (by simp) (by simp) ?_
 simp (maxSteps:=1000000) [go_sem,Tryz.f70,Zg]
 refine qM (fun k:Nat=>k≤chs.length) (fun k=>{n:=80,nv:=13,ex:=[16,40,54],vs:=[(0,.p (.sl 5 (chs.map chP))),(1,.p (.int .i64 C)),(3,.p (.bool (oSt C r0 c0 k0 chs k).k)),(6,.lp [6] 0),(8,.os [8] 4 []),(9,.lp [9] 0),(10,.p (.bool false)),(11,.os [11] 4 ((oSt C r0 c0 k0 chs k).l.map opP)),(12,.p (.int .i64 k))],ts:=[],rs:=[([6],[.p (.int .i64 (oSt C r0 c0 k0 chs k).r),.p (.int .i64 (oSt C r0 c0 k0 chs k).c)]),([9],[.p (.int .i64 0),.p (.int .i64 0)])]}) (fun k=>chs.length-k) 0 (by simp) (by simp[go_sem,LeS,leV,leR,leA,leL,oSt]) ?_
 intro k hk
 have hs:=hst k hk
 have hl:=za8 C r0 c0 k0 chs k
 simp (maxSteps:=1000000) [go_sem]
 refine zh (fun h=>?_) (fun h=>?_)
 ·have e:chs.getD k default=chs[k]:=by rw[List.getD_eq_getElem?_getD,List.getElem?_eq_getElem h];rfl
  have hg:=hok chs[k] (List.getElem_mem h)
  have hS:oSt C r0 c0 k0 chs (k+1)=vT C (oSt C r0 c0 k0 chs k) chs[k]:=by rw[oSt,e]
  have m:=zp chP chs k h
  have e3:IntKind.i64.wrap ((k:Int)+1)=(k:Int)+1:=wrap64 (by omega) (by omega)
  generalize oSt C r0 c0 k0 chs k=s at*
  generalize chs[k]=g at*
  have hgo:=zka s.r s.c s.k g.r g.f hs.1 hs.2 hg.1 hg.2.1
  have hgl:=uN s.r s.c s.k g.r g.f
  rw[vT]at hS
  generalize goA s.r s.c s.k g.r g.f=gl at*
  simp (maxSteps:=1000000) [go_sem,m,h,chP]
  refine qm (.p (zk gl)) rfl rfl (fun _=>qk 72 hgo rfl ⟨rfl,by simp[Tryz.f72]⟩ ⟨by simp[go_sem],by simp[go_sem,Zg]⟩) ?_
  simp (maxSteps:=1000000) [go_sem,m,h,chP,zk]
  refine⟨by omega,jy (fun hs1=>?_) (fun hs1=>?_)⟩
  ·simp (maxSteps:=1000000) [go_sem,m,h,chP]
   refine⟨by omega,zN (fun he=>?_) (fun he=>?_)⟩
   ·simp (maxSteps:=1000000) [go_sem,m,h,chP,e3]
    refine⟨by omega,zi (k+1) (by omega) (by simp[go_sem,LeS,leV,leR,leA,leL,hS,hs1,he,opP]) (by omega)⟩
   ·simp (maxSteps:=1000000) [go_sem,m,h,chP,e3]
    refine zi (k+1) (by omega) (by simp[go_sem,LeS,leV,leR,leA,leL,hS,hs1,he,opP]) (by omega)
  ·simp (maxSteps:=1000000) [go_sem,m,h,chP]
   refine zN (fun he=>?_) (fun he=>?_)
   ·simp (maxSteps:=1000000) [go_sem,m,h,chP,e3]
    refine⟨by omega,zi (k+1) (by omega) (by simp[go_sem,LeS,leV,leR,leA,leL,hS,hs1,he,opP]) (by omega)⟩
   ·simp (maxSteps:=1000000) [go_sem,m,h,chP,e3]
    refine zi (k+1) (by omega) (by simp[go_sem,LeS,leV,leR,leA,leL,hS,hs1,he]) (by omega)
 ·obtain rfl:k=chs.length:=by omega
  simp (maxSteps:=1000000) [go_sem]
  exact zg (.tup [.p (zk (oSt C r0 c0 k0 chs chs.length).l),.p (Zg (oSt C r0 c0 k0 chs chs.length).r (oSt C r0 c0 k0 chs chs.length).c),.p (.bool (oSt C r0 c0 k0 chs chs.length).k)]) rfl (by simp[go_sem,zf,leT,leP,leA,zk,Zg]) ⟨rfl,rfl⟩
end
end Go.Proofs.YtfjdbbpimklecaaGreatDoor
