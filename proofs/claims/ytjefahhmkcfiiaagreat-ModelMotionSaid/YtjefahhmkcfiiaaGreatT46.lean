/- A part of the proof of this seat's statements, by an abstract machine: what each operation does to values, and what the law's functions compute. Conditions: as each law says. -/
import Derived.Test.YtjefahhmkcfiiaaGreatT35
section
namespace Go.Proofs.YtjefahhmkcfiiaaGreat
open Go.AM
set_option maxHeartbeats 8000000
set_option maxRecDepth 10000
attribute [local irreducible] za
theorem zmC [Gi](s:List Int)(es:List WW)(hs:∀x∈s,zB x)(he:∀e∈es,∀x∈e.k,zB x):CR Tryz.prog 3 [] [.p (ZR s),.p (Z9 es)] [] (is (.p (.bool true))):=by
 refine zS [18] mixed 16 [] Tryz.func3 rfl (by kernel_rfl) rfl (by simp) (by simp) ?_
 simp (maxSteps:=1000000) [go_sem,Tryz.f3,ZR]
 refine⟨⟨rfl,by simp[Tryz.f15]⟩,zb [] (zgo s 40 (by decide)) (by simp[go_sem]) ⟨by simp[go_sem],by simp[go_sem,ZR]⟩ (by simp[go_sem]) ?_⟩
 rintro _ rs ⟨rfl,rfl⟩
 have hl:(s.take 40).length≤40:=by rw[List.length_take];omega
 have hr:∀x∈s.take 40,zB x:=fun x hx=>hs x (List.mem_of_mem_take hx)
 generalize s.take 40=l at hl hr
 simp (maxSteps:=1000000) [go_sem,ZR]
 refine⟨⟨rfl,by simp[Tryz.f16]⟩,zb [] xV (by simp[go_sem]) ⟨by simp[go_sem],by simp[go_sem]⟩ (by simp[go_sem]) ?_⟩
 rintro _ rs ⟨rfl,rfl⟩
 simp (maxSteps:=1000000) [go_sem,zK]
 refine⟨⟨rfl,by simp[Tryz.f17]⟩,zb [] K4 (by simp[go_sem]) ⟨by simp[go_sem],by simp[go_sem,zK]⟩ (by simp[go_sem]) ?_⟩
 rintro _ rs ⟨rfl,e,rfl,c,b,j,f,p,hT,rfl⟩
 simp (maxSteps:=1000000) [go_sem,zF]
 refine⟨⟨rfl,by simp[Tryz.f18]⟩,zb [] (zcu hT (Zl M0.2) (qi M0.2) l (by omega) hr) (by simp[go_sem]) ⟨by simp[go_sem],by simp[go_sem,zF,zg,zu]⟩ (by simp[go_sem]) ?_⟩
 rintro _ rs ⟨rfl,rfl⟩
 have hO:=zm0 l (by omega) hr
 have hL0:=zio l hl hr
 generalize zL za (zZ za l)=L0 at hO hL0
 simp (maxSteps:=1000000) [go_sem,zG,zk]
 refine⟨rfl,⟨rfl,by simp[Tryz.f19]⟩,zb [] hO (by simp[go_sem]) ⟨by simp[go_sem],by simp[go_sem,zK,zg,zu]⟩ (by simp[go_sem]) ?_⟩
 rintro _ rs ⟨rfl,rfl⟩
 simp (maxSteps:=1000000) [go_sem,zG,zk]
 refine⟨rfl,?_⟩
 refine zj (fun r:Nat×List (List Int)×Nat=>r.1≤es.length∧r.1≤8∧xv r.2.1∧r.2.2≤r.2.1.length) (fun r=>[(9,.p (.int .i64 (r.1:Nat))),(10,.zW),(11,.zW),(12,.zW),(13,.zW),(14,.zW),(15,.zW)]) (fun r=>[([7],jS r.2.1 r.2.2),([8],jS r.2.1 r.2.2)]) (fun r=>8-r.1) (0,L0,0) ⟨by simp,by simp,hL0,by simp⟩ (by simp[go_sem,LeS,leV,leR,leA,leL,jS,zk]) (fun r hr2=>?_)
 obtain⟨i,L,a⟩:=r
 obtain⟨i1,i2,hL,ha⟩:=hr2
 simp only at i1 i2 hL ha
 by_cases c1:i<es.length
 ·by_cases c2:i<8
  ·have em:elemAt (es.map kj) i=kj es[i]:=zr kj es i c1
   have hk:=he es[i] (List.getElem_mem c1)
   generalize es[i]=x at em hk
   obtain⟨xf,xb,xk⟩:=x
   simp only at hk
   have c1':(i:Int)<es.length:=by omega
   have c2':(i:Int)<8:=by omega
   have lk:(xk.take 15).length≤15:=by rw[List.length_take];omega
   have rk:∀y∈xk.take 15,zB y:=fun y hy=>hk y (List.mem_of_mem_take hy)
   have hfew:=zgo xk 15 (by decide)
   generalize xk.take 15=ks at lk rk hfew
   have w3:IntKind.i64.wrap ((i:Int)+1)=((i+1:Nat):Int):=zI (by omega)
   simp (maxSteps:=1000000) [go_sem,Z9,kj,zg,jS,zk,c1',c2',em]
   refine⟨rfl,⟨rfl,by simp[Tryz.f15]⟩,zb [] hfew (by simp[go_sem]) ⟨by simp[go_sem],by simp[go_sem,ZR,zu]⟩ (by simp[go_sem]) ?_⟩
   rintro _ rs ⟨rfl,rfl⟩
   by_cases g1:0≤xb
   ·by_cases g2:xb<100
    ·by_cases g3:0≤xf
     ·by_cases g4:xf<1000
      ·have wE:IntKind.i64.wrap (xf+xb)=xf+xb:=wrap64 (by omega) (by omega)
       simp (maxSteps:=1000000) [go_sem,ZR,g1,g2,g3,g4,wE]
       have hp1:=xp hT (Zl M0.2) (qi M0.2) L hL a xf (xf+xb) ks (by omega) rk
       have hp2:=UT ZN Zr L hL a xf (xf+xb) ks (by omega) rk
       have hok:=UO Zr hL a xf (xf+xb) (show ks.length≤1000 by omega) rk
       obtain⟨a',ea,ha'⟩:=Ue (nfc:=zZ za) (clus:=zL za) L a ha xf (xf+xb) ks
       generalize Qt (zZ za) (zL za) L a xf (xf+xb) ks=r at hp1 hp2 hok ea ha'
       obtain⟨L',a2,ok⟩:=r
       simp only at ea ha' hok
       subst ea
       refine⟨⟨rfl,by simp[Tryz.f20]⟩,zb [] hp1 (by simp[go_sem]) ⟨by simp[go_sem],by simp[go_sem,zF,zg,zu,zG,zk]⟩ (by simp[go_sem]) ?_⟩
       rintro _ rs ⟨rfl,rfl⟩
       simp (maxSteps:=1000000) [go_sem,jt,zG,zk]
       refine⟨rfl,⟨rfl,by simp[Tryz.f21]⟩,zb [] hp2 (by simp[go_sem]) ⟨by simp[go_sem],by simp[go_sem,zK,zg,zu,zG,zk]⟩ (by simp[go_sem]) ?_⟩
       rintro _ rs ⟨rfl,rfl⟩
       simp (maxSteps:=1000000) [go_sem,jt,zG,zk]
       have hn1:=hok.num
       have hn2:=hok.len
       have cl:jr L' a'=a':=by unfold jr;omega
       have hfl:=z8 L'
       have hft:=z8 (L'.take a')
       have hst:=ZB L' a'
       have g26:=yJ L' a' (by omega) (by omega)
       rw[wy,cl]at g26
       refine⟨rfl,zN (.p (.bool true)) rfl rfl (fun _=>zM 22 (jz L' (by omega) (xz hok)) rfl ⟨rfl,by simp[Tryz.f22]⟩ ⟨by simp[go_sem],by simp[go_sem,zk]⟩) ?_⟩
       simp (maxSteps:=1000000) [go_sem]
       refine zN (.p (zg L'.flatten)) rfl rfl (fun _=>zM 24 (uJ L' a' (by omega) (by omega)) rfl ⟨rfl,by simp[Tryz.f24]⟩ ⟨by simp[go_sem],by simp[go_sem,zG,zk]⟩) ?_
       simp (maxSteps:=1000000) [go_sem,zg]
       refine zN (.p (zg L'.flatten)) rfl rfl (fun _=>zM 25 (ZC L' (by omega) (by omega)) rfl ⟨rfl,by simp[Tryz.f25]⟩ ⟨by simp[go_sem],by simp[go_sem,zk]⟩) ?_
       simp (maxSteps:=1000000) [go_sem,zg]
       refine zN (.p (.bool true)) rfl rfl (fun _=>zM 23 (jv L'.flatten (by omega)) rfl ⟨rfl,by simp[Tryz.f23]⟩ ⟨by simp[go_sem],by simp[go_sem,zg]⟩) ?_
       simp (maxSteps:=1000000) [go_sem]
       refine zN (.p (.int .i64 (qd (L'.take a'):Nat))) rfl rfl (fun _=>zM 26 (g26) rfl ⟨rfl,by simp[Tryz.f26]⟩ ⟨by simp[go_sem],by simp[go_sem,zG,zk]⟩) ?_
       simp (maxSteps:=1000000) [go_sem,zX,ZX]
       refine⟨ha',zN (.p (zg (L'.take a').flatten)) rfl rfl (fun _=>zM 25 (ZC (L'.take a') (by rw[List.length_take];omega) (by omega)) rfl ⟨rfl,by simp[Tryz.f25]⟩ ⟨by simp[go_sem],by simp[go_sem,zk]⟩) ?_⟩
       simp (maxSteps:=1000000) [go_sem,zg,zp,hft,w3]
       exact zf (i+1,L',a') ⟨by show i+1≤es.length;omega,by show i+1≤8;omega,hok,ha'⟩ (by simp[go_sem,LeS,leV,leR,leA,leL]) (by show 8- (i+1)<8-i;omega)
      ·simp (maxSteps:=1000000) [go_sem,ZR,g1,g2,g3,g4]
       have hp1:=xp hT (Zl M0.2) (qi M0.2) L hL a xf xf ks (by omega) rk
       have hp2:=UT ZN Zr L hL a xf xf ks (by omega) rk
       have hok:=UO Zr hL a xf xf (show ks.length≤1000 by omega) rk
       obtain⟨a',ea,ha'⟩:=Ue (nfc:=zZ za) (clus:=zL za) L a ha xf xf ks
       generalize Qt (zZ za) (zL za) L a xf xf ks=r at hp1 hp2 hok ea ha'
       obtain⟨L',a2,ok⟩:=r
       simp only at ea ha' hok
       subst ea
       refine⟨⟨rfl,by simp[Tryz.f20]⟩,zb [] hp1 (by simp[go_sem]) ⟨by simp[go_sem],by simp[go_sem,zF,zg,zu,zG,zk]⟩ (by simp[go_sem]) ?_⟩
       rintro _ rs ⟨rfl,rfl⟩
       simp (maxSteps:=1000000) [go_sem,jt,zG,zk]
       refine⟨rfl,⟨rfl,by simp[Tryz.f21]⟩,zb [] hp2 (by simp[go_sem]) ⟨by simp[go_sem],by simp[go_sem,zK,zg,zu,zG,zk]⟩ (by simp[go_sem]) ?_⟩
       rintro _ rs ⟨rfl,rfl⟩
       simp (maxSteps:=1000000) [go_sem,jt,zG,zk]
       have hn1:=hok.num
       have hn2:=hok.len
       have cl:jr L' a'=a':=by unfold jr;omega
       have hfl:=z8 L'
       have hft:=z8 (L'.take a')
       have hst:=ZB L' a'
       have g26:=yJ L' a' (by omega) (by omega)
       rw[wy,cl]at g26
       refine⟨rfl,zN (.p (.bool true)) rfl rfl (fun _=>zM 22 (jz L' (by omega) (xz hok)) rfl ⟨rfl,by simp[Tryz.f22]⟩ ⟨by simp[go_sem],by simp[go_sem,zk]⟩) ?_⟩
       simp (maxSteps:=1000000) [go_sem]
       refine zN (.p (zg L'.flatten)) rfl rfl (fun _=>zM 24 (uJ L' a' (by omega) (by omega)) rfl ⟨rfl,by simp[Tryz.f24]⟩ ⟨by simp[go_sem],by simp[go_sem,zG,zk]⟩) ?_
       simp (maxSteps:=1000000) [go_sem,zg]
       refine zN (.p (zg L'.flatten)) rfl rfl (fun _=>zM 25 (ZC L' (by omega) (by omega)) rfl ⟨rfl,by simp[Tryz.f25]⟩ ⟨by simp[go_sem],by simp[go_sem,zk]⟩) ?_
       simp (maxSteps:=1000000) [go_sem,zg]
       refine zN (.p (.bool true)) rfl rfl (fun _=>zM 23 (jv L'.flatten (by omega)) rfl ⟨rfl,by simp[Tryz.f23]⟩ ⟨by simp[go_sem],by simp[go_sem,zg]⟩) ?_
       simp (maxSteps:=1000000) [go_sem]
       refine zN (.p (.int .i64 (qd (L'.take a'):Nat))) rfl rfl (fun _=>zM 26 (g26) rfl ⟨rfl,by simp[Tryz.f26]⟩ ⟨by simp[go_sem],by simp[go_sem,zG,zk]⟩) ?_
       simp (maxSteps:=1000000) [go_sem,zX,ZX]
       refine⟨ha',zN (.p (zg (L'.take a').flatten)) rfl rfl (fun _=>zM 25 (ZC (L'.take a') (by rw[List.length_take];omega) (by omega)) rfl ⟨rfl,by simp[Tryz.f25]⟩ ⟨by simp[go_sem],by simp[go_sem,zk]⟩) ?_⟩
       simp (maxSteps:=1000000) [go_sem,zg,zp,hft,w3]
       exact zf (i+1,L',a') ⟨by show i+1≤es.length;omega,by show i+1≤8;omega,hok,ha'⟩ (by simp[go_sem,LeS,leV,leR,leA,leL]) (by show 8- (i+1)<8-i;omega)
     ·simp (maxSteps:=1000000) [go_sem,ZR,g1,g2,g3]
      have hp1:=xp hT (Zl M0.2) (qi M0.2) L hL a xf xf ks (by omega) rk
      have hp2:=UT ZN Zr L hL a xf xf ks (by omega) rk
      have hok:=UO Zr hL a xf xf (show ks.length≤1000 by omega) rk
      obtain⟨a',ea,ha'⟩:=Ue (nfc:=zZ za) (clus:=zL za) L a ha xf xf ks
      generalize Qt (zZ za) (zL za) L a xf xf ks=r at hp1 hp2 hok ea ha'
      obtain⟨L',a2,ok⟩:=r
      simp only at ea ha' hok
      subst ea
      refine⟨⟨rfl,by simp[Tryz.f20]⟩,zb [] hp1 (by simp[go_sem]) ⟨by simp[go_sem],by simp[go_sem,zF,zg,zu,zG,zk]⟩ (by simp[go_sem]) ?_⟩
      rintro _ rs ⟨rfl,rfl⟩
      simp (maxSteps:=1000000) [go_sem,jt,zG,zk]
      refine⟨rfl,⟨rfl,by simp[Tryz.f21]⟩,zb [] hp2 (by simp[go_sem]) ⟨by simp[go_sem],by simp[go_sem,zK,zg,zu,zG,zk]⟩ (by simp[go_sem]) ?_⟩
      rintro _ rs ⟨rfl,rfl⟩
      simp (maxSteps:=1000000) [go_sem,jt,zG,zk]
      have hn1:=hok.num
      have hn2:=hok.len
      have cl:jr L' a'=a':=by unfold jr;omega
      have hfl:=z8 L'
      have hft:=z8 (L'.take a')
      have hst:=ZB L' a'
      have g26:=yJ L' a' (by omega) (by omega)
      rw[wy,cl]at g26
      refine⟨rfl,zN (.p (.bool true)) rfl rfl (fun _=>zM 22 (jz L' (by omega) (xz hok)) rfl ⟨rfl,by simp[Tryz.f22]⟩ ⟨by simp[go_sem],by simp[go_sem,zk]⟩) ?_⟩
      simp (maxSteps:=1000000) [go_sem]
      refine zN (.p (zg L'.flatten)) rfl rfl (fun _=>zM 24 (uJ L' a' (by omega) (by omega)) rfl ⟨rfl,by simp[Tryz.f24]⟩ ⟨by simp[go_sem],by simp[go_sem,zG,zk]⟩) ?_
      simp (maxSteps:=1000000) [go_sem,zg]
      refine zN (.p (zg L'.flatten)) rfl rfl (fun _=>zM 25 (ZC L' (by omega) (by omega)) rfl ⟨rfl,by simp[Tryz.f25]⟩ ⟨by simp[go_sem],by simp[go_sem,zk]⟩) ?_
      simp (maxSteps:=1000000) [go_sem,zg]
      refine zN (.p (.bool true)) rfl rfl (fun _=>zM 23 (jv L'.flatten (by omega)) rfl ⟨rfl,by simp[Tryz.f23]⟩ ⟨by simp[go_sem],by simp[go_sem,zg]⟩) ?_
      simp (maxSteps:=1000000) [go_sem]
      refine zN (.p (.int .i64 (qd (L'.take a'):Nat))) rfl rfl (fun _=>zM 26 (g26) rfl ⟨rfl,by simp[Tryz.f26]⟩ ⟨by simp[go_sem],by simp[go_sem,zG,zk]⟩) ?_
      simp (maxSteps:=1000000) [go_sem,zX,ZX]
      refine⟨ha',zN (.p (zg (L'.take a').flatten)) rfl rfl (fun _=>zM 25 (ZC (L'.take a') (by rw[List.length_take];omega) (by omega)) rfl ⟨rfl,by simp[Tryz.f25]⟩ ⟨by simp[go_sem],by simp[go_sem,zk]⟩) ?_⟩
      simp (maxSteps:=1000000) [go_sem,zg,zp,hft,w3]
      exact zf (i+1,L',a') ⟨by show i+1≤es.length;omega,by show i+1≤8;omega,hok,ha'⟩ (by simp[go_sem,LeS,leV,leR,leA,leL]) (by show 8- (i+1)<8-i;omega)
    ·simp (maxSteps:=1000000) [go_sem,ZR,g1,g2]
     have hp1:=xp hT (Zl M0.2) (qi M0.2) L hL a xf xf ks (by omega) rk
     have hp2:=UT ZN Zr L hL a xf xf ks (by omega) rk
     have hok:=UO Zr hL a xf xf (show ks.length≤1000 by omega) rk
     obtain⟨a',ea,ha'⟩:=Ue (nfc:=zZ za) (clus:=zL za) L a ha xf xf ks
     generalize Qt (zZ za) (zL za) L a xf xf ks=r at hp1 hp2 hok ea ha'
     obtain⟨L',a2,ok⟩:=r
     simp only at ea ha' hok
     subst ea
     refine⟨⟨rfl,by simp[Tryz.f20]⟩,zb [] hp1 (by simp[go_sem]) ⟨by simp[go_sem],by simp[go_sem,zF,zg,zu,zG,zk]⟩ (by simp[go_sem]) ?_⟩
     rintro _ rs ⟨rfl,rfl⟩
     simp (maxSteps:=1000000) [go_sem,jt,zG,zk]
     refine⟨rfl,⟨rfl,by simp[Tryz.f21]⟩,zb [] hp2 (by simp[go_sem]) ⟨by simp[go_sem],by simp[go_sem,zK,zg,zu,zG,zk]⟩ (by simp[go_sem]) ?_⟩
     rintro _ rs ⟨rfl,rfl⟩
     simp (maxSteps:=1000000) [go_sem,jt,zG,zk]
     have hn1:=hok.num
     have hn2:=hok.len
     have cl:jr L' a'=a':=by unfold jr;omega
     have hfl:=z8 L'
     have hft:=z8 (L'.take a')
     have hst:=ZB L' a'
     have g26:=yJ L' a' (by omega) (by omega)
     rw[wy,cl]at g26
     refine⟨rfl,zN (.p (.bool true)) rfl rfl (fun _=>zM 22 (jz L' (by omega) (xz hok)) rfl ⟨rfl,by simp[Tryz.f22]⟩ ⟨by simp[go_sem],by simp[go_sem,zk]⟩) ?_⟩
     simp (maxSteps:=1000000) [go_sem]
     refine zN (.p (zg L'.flatten)) rfl rfl (fun _=>zM 24 (uJ L' a' (by omega) (by omega)) rfl ⟨rfl,by simp[Tryz.f24]⟩ ⟨by simp[go_sem],by simp[go_sem,zG,zk]⟩) ?_
     simp (maxSteps:=1000000) [go_sem,zg]
     refine zN (.p (zg L'.flatten)) rfl rfl (fun _=>zM 25 (ZC L' (by omega) (by omega)) rfl ⟨rfl,by simp[Tryz.f25]⟩ ⟨by simp[go_sem],by simp[go_sem,zk]⟩) ?_
     simp (maxSteps:=1000000) [go_sem,zg]
     refine zN (.p (.bool true)) rfl rfl (fun _=>zM 23 (jv L'.flatten (by omega)) rfl ⟨rfl,by simp[Tryz.f23]⟩ ⟨by simp[go_sem],by simp[go_sem,zg]⟩) ?_
     simp (maxSteps:=1000000) [go_sem]
     refine zN (.p (.int .i64 (qd (L'.take a'):Nat))) rfl rfl (fun _=>zM 26 (g26) rfl ⟨rfl,by simp[Tryz.f26]⟩ ⟨by simp[go_sem],by simp[go_sem,zG,zk]⟩) ?_
     simp (maxSteps:=1000000) [go_sem,zX,ZX]
     refine⟨ha',zN (.p (zg (L'.take a').flatten)) rfl rfl (fun _=>zM 25 (ZC (L'.take a') (by rw[List.length_take];omega) (by omega)) rfl ⟨rfl,by simp[Tryz.f25]⟩ ⟨by simp[go_sem],by simp[go_sem,zk]⟩) ?_⟩
     simp (maxSteps:=1000000) [go_sem,zg,zp,hft,w3]
     exact zf (i+1,L',a') ⟨by show i+1≤es.length;omega,by show i+1≤8;omega,hok,ha'⟩ (by simp[go_sem,LeS,leV,leR,leA,leL]) (by show 8- (i+1)<8-i;omega)
   ·simp (maxSteps:=1000000) [go_sem,ZR,g1]
    have hp1:=xp hT (Zl M0.2) (qi M0.2) L hL a xf xf ks (by omega) rk
    have hp2:=UT ZN Zr L hL a xf xf ks (by omega) rk
    have hok:=UO Zr hL a xf xf (show ks.length≤1000 by omega) rk
    obtain⟨a',ea,ha'⟩:=Ue (nfc:=zZ za) (clus:=zL za) L a ha xf xf ks
    generalize Qt (zZ za) (zL za) L a xf xf ks=r at hp1 hp2 hok ea ha'
    obtain⟨L',a2,ok⟩:=r
    simp only at ea ha' hok
    subst ea
    refine⟨⟨rfl,by simp[Tryz.f20]⟩,zb [] hp1 (by simp[go_sem]) ⟨by simp[go_sem],by simp[go_sem,zF,zg,zu,zG,zk]⟩ (by simp[go_sem]) ?_⟩
    rintro _ rs ⟨rfl,rfl⟩
    simp (maxSteps:=1000000) [go_sem,jt,zG,zk]
    refine⟨rfl,⟨rfl,by simp[Tryz.f21]⟩,zb [] hp2 (by simp[go_sem]) ⟨by simp[go_sem],by simp[go_sem,zK,zg,zu,zG,zk]⟩ (by simp[go_sem]) ?_⟩
    rintro _ rs ⟨rfl,rfl⟩
    simp (maxSteps:=1000000) [go_sem,jt,zG,zk]
    have hn1:=hok.num
    have hn2:=hok.len
    have cl:jr L' a'=a':=by unfold jr;omega
    have hfl:=z8 L'
    have hft:=z8 (L'.take a')
    have hst:=ZB L' a'
    have g26:=yJ L' a' (by omega) (by omega)
    rw[wy,cl]at g26
    refine⟨rfl,zN (.p (.bool true)) rfl rfl (fun _=>zM 22 (jz L' (by omega) (xz hok)) rfl ⟨rfl,by simp[Tryz.f22]⟩ ⟨by simp[go_sem],by simp[go_sem,zk]⟩) ?_⟩
    simp (maxSteps:=1000000) [go_sem]
    refine zN (.p (zg L'.flatten)) rfl rfl (fun _=>zM 24 (uJ L' a' (by omega) (by omega)) rfl ⟨rfl,by simp[Tryz.f24]⟩ ⟨by simp[go_sem],by simp[go_sem,zG,zk]⟩) ?_
    simp (maxSteps:=1000000) [go_sem,zg]
    refine zN (.p (zg L'.flatten)) rfl rfl (fun _=>zM 25 (ZC L' (by omega) (by omega)) rfl ⟨rfl,by simp[Tryz.f25]⟩ ⟨by simp[go_sem],by simp[go_sem,zk]⟩) ?_
    simp (maxSteps:=1000000) [go_sem,zg]
    refine zN (.p (.bool true)) rfl rfl (fun _=>zM 23 (jv L'.flatten (by omega)) rfl ⟨rfl,by simp[Tryz.f23]⟩ ⟨by simp[go_sem],by simp[go_sem,zg]⟩) ?_
    simp (maxSteps:=1000000) [go_sem]
    refine zN (.p (.int .i64 (qd (L'.take a'):Nat))) rfl rfl (fun _=>zM 26 (g26) rfl ⟨rfl,by simp[Tryz.f26]⟩ ⟨by simp[go_sem],by simp[go_sem,zG,zk]⟩) ?_
    simp (maxSteps:=1000000) [go_sem,zX,ZX]
    refine⟨ha',zN (.p (zg (L'.take a').flatten)) rfl rfl (fun _=>zM 25 (ZC (L'.take a') (by rw[List.length_take];omega) (by omega)) rfl ⟨rfl,by simp[Tryz.f25]⟩ ⟨by simp[go_sem],by simp[go_sem,zk]⟩) ?_⟩
    simp (maxSteps:=1000000) [go_sem,zg,zp,hft,w3]
    exact zf (i+1,L',a') ⟨by show i+1≤es.length;omega,by show i+1≤8;omega,hok,ha'⟩ (by simp[go_sem,LeS,leV,leR,leA,leL]) (by show 8- (i+1)<8-i;omega)
  ·have c1':(i:Int)<es.length:=by omega
   have c2':¬(i:Int)<8:=by omega
   simp (maxSteps:=1000000) [go_sem,Z9,c1',c2']
   refine⟨⟨rfl,by simp[Tryz.f27]⟩,zb [] xH (by simp[go_sem]) ⟨by simp[go_sem],by simp[go_sem]⟩ (by simp[go_sem]) ?_⟩
   rintro _ rs ⟨rfl,rfl⟩
   simp (maxSteps:=1000000) [go_sem]
   exact zh (.p (.bool true)) rfl (by simp[go_sem,zd,leA,leT]) ⟨rfl,rfl⟩
 ·have c1':¬(i:Int)<es.length:=by omega
  simp (maxSteps:=1000000) [go_sem,Z9,c1']
  refine⟨⟨rfl,by simp[Tryz.f27]⟩,zb [] xH (by simp[go_sem]) ⟨by simp[go_sem],by simp[go_sem]⟩ (by simp[go_sem]) ?_⟩
  rintro _ rs ⟨rfl,rfl⟩
  simp (maxSteps:=1000000) [go_sem]
  exact zh (.p (.bool true)) rfl (by simp[go_sem,zd,leA,leT]) ⟨rfl,rfl⟩
end Go.Proofs.YtjefahhmkcfiiaaGreat
end
