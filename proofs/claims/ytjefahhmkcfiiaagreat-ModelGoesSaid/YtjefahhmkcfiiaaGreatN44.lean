/- A part of the proof of this seat's statements, by an abstract machine: what each operation does to values, and what the law's functions compute. Conditions: as each law says. -/
import Derived.Test.YtjefahhmkcfiiaaGreatN43
import Derived.Test.YtjefahhmkcfiiaaGreatN42
import Derived.Test.YtjefahhmkcfiiaaGreatRows
section
namespace Go.Proofs.YtjefahhmkcfiiaaGreat
open Go.AM
set_option maxHeartbeats 4000000
set_option maxRecDepth 10000
attribute [local irreducible] za
theorem Z4(L:List (List Int))(n:Nat):(∃l,elemAt (zW L) n=zh l)∨∃k v,elemAt (zW L) n=.int k v:=by
 by_cases h:n<L.length
 ·exact .inl ⟨_,by rw[zW,zq zh L n h]⟩
 ·refine .inr ⟨default,default,?_⟩
  simp[elemAt,zW,List.getD,List.getElem?_eq_none (by simpa using h)];rfl
theorem zh1 [Gi](L:List (List Int))(hL:Ye L)(a:Int)(back:Bool):
  CR Tryz.prog 31 [] [.p (zC za),.p (zF L a),.p (.bool back)] [] (is (.p (.int .i64 (yp L a back:Nat)))):=by
 refine zm mixed 10 [] Tryz.func31 rfl (by kernel_rfl) rfl (by simp) (by simp) ?_
 have hk:=uQ L a
 have hat:=zir L a
 have hn:=hL.n
 rw[zgA]
 generalize j9 L a=k at hk hat
 simp (maxSteps:=1000000) [go_sem,Tryz.f31,zF,zr,zC]
 refine⟨⟨rfl,by simp[Tryz.f78]⟩,zb [] hat (by simp[go_sem]) ⟨by simp[go_sem],by simp[go_sem,zF,zr]⟩ (by simp[go_sem]) ?_⟩
 rintro _ rs ⟨rfl,rfl⟩
 simp (maxSteps:=1000000) [go_sem]
 have z1:IntKind.i64.wrap 1=1:=wrap64 (by omega) (by omega)
 have z2:IntKind.i64.wrap 2=2:=wrap64 (by omega) (by omega)
 refine zi (fun r:Nat×Nat=>r.2≤L.length∧((r.1=0∧r.2=k)∨(r.1=1∧r.2=zax L back false k)∨(r.1=2∧r.2=zax L back true (zax L back false k)))) (fun r=>[(7,.p (.int .i64 (r.2:Nat))),(8,.p (.int .i64 (r.1:Nat))),(9,.zZ)]) (fun _=>[]) (fun r=>2-r.1) (0,k) ⟨hk,.inl ⟨rfl,rfl⟩⟩ (by simp[go_sem,LeS,leV,leR,leA,leL]) (fun r hr=>?_)
 obtain⟨r,p⟩:=r
 obtain⟨h1,h2⟩:=hr
 simp only at h1 h2
 rcases h2 with ⟨rfl,e⟩|⟨rfl,e⟩|⟨rfl,e⟩
 ·cases back with
  |true=>
   have ef:zax L true false p=bkW L false p:=rfl
   skip
   simp (maxSteps:=1000000) [go_sem]
   refine zi (fun s:Nat=>s≤L.length∧bkW L false p=bkW L false s) (fun s=>[(7,.p (.int .i64 (s:Nat)))]) (fun _=>[]) (fun s=>s) p ⟨h1,rfl⟩ (by simp[go_sem,LeS,leV,leR,leA,leL]) (fun s hs=>?_)
   obtain⟨s1,s2⟩:=hs
   rcases s with _|j'
   ·have w0:IntKind.i64.wrap (-1)= -1:=wrap64 (by omega) (by omega)
    rcases Z4 L 0 with ⟨l0,e0⟩|⟨k0,v0,e0⟩
    ·obtain⟨k1,v1,e1⟩:=qJ l0 0
     simp (maxSteps:=1000000) [go_sem,zo,w0,e0,e1,zh]
     refine zi (fun _:Unit=>True) (fun _=>[]) (fun _=>[]) (fun _=>0) () trivial (by simp[go_sem,LeS,leV,leR,leA,leL]) (fun _ _=>?_)
     rcases Z4 L 0 with ⟨l0,e0⟩|⟨k0,v0,e0⟩
     ·obtain⟨k1,v1,e1⟩:=qJ l0 0
      simp (maxSteps:=1000000) [go_sem,zo,e0,e1,zh]
      exact zc (0+1,0) ⟨by show 0≤L.length;omega,.inr (.inl ⟨rfl,by rw[←e];exact(s2.symm.trans ef.symm)⟩)⟩ (by simp[go_sem,LeS,leV,leR,leA,leL,z1]) (by show 2- (0+1)<2-0;omega)
     ·simp (maxSteps:=1000000) [go_sem,zo,e0]
      exact zc (0+1,0) ⟨by show 0≤L.length;omega,.inr (.inl ⟨rfl,by rw[←e];exact(s2.symm.trans ef.symm)⟩)⟩ (by simp[go_sem,LeS,leV,leR,leA,leL,z1]) (by show 2- (0+1)<2-0;omega)
    ·simp (maxSteps:=1000000) [go_sem,zo,w0,e0]
     refine zi (fun _:Unit=>True) (fun _=>[]) (fun _=>[]) (fun _=>0) () trivial (by simp[go_sem,LeS,leV,leR,leA,leL]) (fun _ _=>?_)
     rcases Z4 L 0 with ⟨l0,e0⟩|⟨k0,v0,e0⟩
     ·obtain⟨k1,v1,e1⟩:=qJ l0 0
      simp (maxSteps:=1000000) [go_sem,zo,e0,e1,zh]
      exact zc (0+1,0) ⟨by show 0≤L.length;omega,.inr (.inl ⟨rfl,by rw[←e];exact(s2.symm.trans ef.symm)⟩)⟩ (by simp[go_sem,LeS,leV,leR,leA,leL,z1]) (by show 2- (0+1)<2-0;omega)
     ·simp (maxSteps:=1000000) [go_sem,zo,e0]
      exact zc (0+1,0) ⟨by show 0≤L.length;omega,.inr (.inl ⟨rfl,by rw[←e];exact(s2.symm.trans ef.symm)⟩)⟩ (by simp[go_sem,LeS,leV,leR,leA,leL,z1]) (by show 2- (0+1)<2-0;omega)
   ·have w1:IntKind.i64.wrap ((j':Nat):Int)=(j':Int):=wrap64 (by omega) (by omega)
    have w2:IntKind.i64.wrap (((j'+1:Nat):Int)-1)=((j':Nat):Int):=qC (by omega) (by omega)
    have g0:(0:Int)< ((j':Int)+1):=by omega
    rw[xR L false j']at s2
    obtain⟨x,c',ex,hx,hl⟩:=Uz hL (show j'<L.length by omega)
    have em:elemAt (zW L) j'=zh L[j']:=by rw[zW,zq zh L j' (by omega)]
    rw[ex]at em
    have em2:elemAt (zB (x::c')) 0=.int .i32 x:=rfl
    have g5:j'<L.length:=by omega
    have g6:((j':Nat):Int)<L.length:=by omega
    simp (maxSteps:=1000000) [go_sem,zo,w1,g0,em,em2,g6,zh,zp]
    refine⟨⟨rfl,by simp[Tryz.f80]⟩,zb [] (jf za 8 x zaI hx) (by simp[go_sem]) ⟨by simp[go_sem],by simp[go_sem,zC]⟩ (by simp[go_sem]) ?_⟩
    rintro _ rs ⟨rfl,rfl⟩
    rcases hl with ⟨hl,hb⟩|⟨hl,hb⟩
    ·simp (maxSteps:=1000000) [go_sem,hl,w1]
     rw[if_pos hb]at s2
     exact zc j' ⟨by omega,s2⟩ (by simp[go_sem,LeS,leV,leR,leA,leL]) (by omega)
    ·simp (maxSteps:=1000000) [go_sem,hl]
     rw[if_neg (by rw[hb];decide)]at s2
     refine zi (fun _:Unit=>True) (fun _=>[]) (fun _=>[]) (fun _=>0) () trivial (by simp[go_sem,LeS,leV,leR,leA,leL]) (fun _ _=>?_)
     rcases Z4 L (j'+1)with ⟨l0,e0⟩|⟨k0,v0,e0⟩
     ·obtain⟨k1,v1,e1⟩:=qJ l0 0
      simp (maxSteps:=1000000) [go_sem,zo,e0,e1,zh]
      exact zc (0+1,(j'+1)) ⟨by show(j'+1)≤L.length;omega,.inr (.inl ⟨rfl,by rw[←e];exact(s2.symm.trans ef.symm)⟩)⟩ (by simp[go_sem,LeS,leV,leR,leA,leL,z1]) (by show 2- (0+1)<2-0;omega)
     ·simp (maxSteps:=1000000) [go_sem,zo,e0]
      exact zc (0+1,(j'+1)) ⟨by show(j'+1)≤L.length;omega,.inr (.inl ⟨rfl,by rw[←e];exact(s2.symm.trans ef.symm)⟩)⟩ (by simp[go_sem,LeS,leV,leR,leA,leL,z1]) (by show 2- (0+1)<2-0;omega)
  |false=>
   have ef:zax L false false p=fwW L false (L.length-p) p:=rfl
   simp (maxSteps:=1000000) [go_sem]
   refine zi (fun _:Unit=>True) (fun _=>[]) (fun _=>[]) (fun _=>0) () trivial (by simp[go_sem,LeS,leV,leR,leA,leL]) (fun _ _=>?_)
   rcases Z4 L (IntKind.i64.wrap ((p:Int)-1)).toNat with ⟨l0,e0⟩|⟨k0,v0,e0⟩
   ·obtain⟨k1,v1,e1⟩:=qJ l0 0
    simp (maxSteps:=1000000) [go_sem,zo,e0,e1,zh]
    refine zi (fun s:Nat=>s≤L.length∧fwW L false (L.length-p) p=fwW L false (L.length-s) s) (fun s=>[(7,.p (.int .i64 (s:Nat)))]) (fun _=>[]) (fun s=>L.length-s) p ⟨h1,rfl⟩ (by simp[go_sem,LeS,leV,leR,leA,leL]) (fun s hs=>?_)
    obtain⟨s1,s2⟩:=hs
    by_cases hp:s<L.length
    ·have hp':(s:Int)<L.length:=by omega
     have w2:IntKind.i64.wrap ((s:Int)+1)=((s+1:Nat):Int):=zP (by omega)
     have en:L.length-s=(L.length- (s+1))+1:=by omega
     rw[en,kU L false]at s2
     obtain⟨x,c',ex,hx,hl⟩:=Uz hL (show s<L.length by omega)
     have em:elemAt (zW L) s=zh L[s]:=by rw[zW,zq zh L s (by omega)]
     rw[ex]at em
     have em2:elemAt (zB (x::c')) 0=.int .i32 x:=rfl
     have g5:s<L.length:=by omega
     have g6:((s:Nat):Int)<L.length:=by omega
     simp (maxSteps:=1000000) [go_sem,zo,hp',em,em2,zh,zp]
     refine⟨⟨rfl,by simp[Tryz.f80]⟩,zb [] (jf za 8 x zaI hx) (by simp[go_sem]) ⟨by simp[go_sem],by simp[go_sem,zC]⟩ (by simp[go_sem]) ?_⟩
     rintro _ rs ⟨rfl,rfl⟩
     rcases hl with ⟨hl,hb⟩|⟨hl,hb⟩
     ·simp (maxSteps:=1000000) [go_sem,hl,w2]
      rw[if_pos hb]at s2
      exact zc (s+1) ⟨by omega,s2⟩ (by simp[go_sem,LeS,leV,leR,leA,leL]) (by omega)
     ·simp (maxSteps:=1000000) [go_sem,hl]
      rw[if_neg (by rw[hb];decide)]at s2
      exact zc (0+1,s) ⟨by show s≤L.length;omega,.inr (.inl ⟨rfl,by rw[←e];exact(s2.symm.trans ef.symm)⟩)⟩ (by simp[go_sem,LeS,leV,leR,leA,leL,z1]) (by show 2- (0+1)<2-0;omega)
    ·have hp':¬(s:Int)<L.length:=by omega
     have en:L.length-s=0:=by omega
     rw[en,k9 L false s]at s2
     rcases Z4 L s with ⟨l0,e0⟩|⟨k0,v0,e0⟩
     ·obtain⟨k1,v1,e1⟩:=qJ l0 0
      simp (maxSteps:=1000000) [go_sem,zo,hp',e0,e1,zh]
      exact zc (0+1,s) ⟨by show s≤L.length;omega,.inr (.inl ⟨rfl,by rw[←e];exact(s2.symm.trans ef.symm)⟩)⟩ (by simp[go_sem,LeS,leV,leR,leA,leL,z1]) (by show 2- (0+1)<2-0;omega)
     ·simp (maxSteps:=1000000) [go_sem,zo,hp',e0]
      exact zc (0+1,s) ⟨by show s≤L.length;omega,.inr (.inl ⟨rfl,by rw[←e];exact(s2.symm.trans ef.symm)⟩)⟩ (by simp[go_sem,LeS,leV,leR,leA,leL,z1]) (by show 2- (0+1)<2-0;omega)
   ·simp (maxSteps:=1000000) [go_sem,zo,e0]
    refine zi (fun s:Nat=>s≤L.length∧fwW L false (L.length-p) p=fwW L false (L.length-s) s) (fun s=>[(7,.p (.int .i64 (s:Nat)))]) (fun _=>[]) (fun s=>L.length-s) p ⟨h1,rfl⟩ (by simp[go_sem,LeS,leV,leR,leA,leL]) (fun s hs=>?_)
    obtain⟨s1,s2⟩:=hs
    by_cases hp:s<L.length
    ·have hp':(s:Int)<L.length:=by omega
     have w2:IntKind.i64.wrap ((s:Int)+1)=((s+1:Nat):Int):=zP (by omega)
     have en:L.length-s=(L.length- (s+1))+1:=by omega
     rw[en,kU L false]at s2
     obtain⟨x,c',ex,hx,hl⟩:=Uz hL (show s<L.length by omega)
     have em:elemAt (zW L) s=zh L[s]:=by rw[zW,zq zh L s (by omega)]
     rw[ex]at em
     have em2:elemAt (zB (x::c')) 0=.int .i32 x:=rfl
     have g5:s<L.length:=by omega
     have g6:((s:Nat):Int)<L.length:=by omega
     simp (maxSteps:=1000000) [go_sem,zo,hp',em,em2,zh,zp]
     refine⟨⟨rfl,by simp[Tryz.f80]⟩,zb [] (jf za 8 x zaI hx) (by simp[go_sem]) ⟨by simp[go_sem],by simp[go_sem,zC]⟩ (by simp[go_sem]) ?_⟩
     rintro _ rs ⟨rfl,rfl⟩
     rcases hl with ⟨hl,hb⟩|⟨hl,hb⟩
     ·simp (maxSteps:=1000000) [go_sem,hl,w2]
      rw[if_pos hb]at s2
      exact zc (s+1) ⟨by omega,s2⟩ (by simp[go_sem,LeS,leV,leR,leA,leL]) (by omega)
     ·simp (maxSteps:=1000000) [go_sem,hl]
      rw[if_neg (by rw[hb];decide)]at s2
      exact zc (0+1,s) ⟨by show s≤L.length;omega,.inr (.inl ⟨rfl,by rw[←e];exact(s2.symm.trans ef.symm)⟩)⟩ (by simp[go_sem,LeS,leV,leR,leA,leL,z1]) (by show 2- (0+1)<2-0;omega)
    ·have hp':¬(s:Int)<L.length:=by omega
     have en:L.length-s=0:=by omega
     rw[en,k9 L false s]at s2
     rcases Z4 L s with ⟨l0,e0⟩|⟨k0,v0,e0⟩
     ·obtain⟨k1,v1,e1⟩:=qJ l0 0
      simp (maxSteps:=1000000) [go_sem,zo,hp',e0,e1,zh]
      exact zc (0+1,s) ⟨by show s≤L.length;omega,.inr (.inl ⟨rfl,by rw[←e];exact(s2.symm.trans ef.symm)⟩)⟩ (by simp[go_sem,LeS,leV,leR,leA,leL,z1]) (by show 2- (0+1)<2-0;omega)
     ·simp (maxSteps:=1000000) [go_sem,zo,hp',e0]
      exact zc (0+1,s) ⟨by show s≤L.length;omega,.inr (.inl ⟨rfl,by rw[←e];exact(s2.symm.trans ef.symm)⟩)⟩ (by simp[go_sem,LeS,leV,leR,leA,leL,z1]) (by show 2- (0+1)<2-0;omega)
 ·cases back with
  |true=>
   have ef:zax L true true p=bkW L true p:=rfl
   skip
   simp (maxSteps:=1000000) [go_sem]
   refine zi (fun s:Nat=>s≤L.length∧bkW L true p=bkW L true s) (fun s=>[(7,.p (.int .i64 (s:Nat)))]) (fun _=>[]) (fun s=>s) p ⟨h1,rfl⟩ (by simp[go_sem,LeS,leV,leR,leA,leL]) (fun s hs=>?_)
   obtain⟨s1,s2⟩:=hs
   rcases s with _|j'
   ·have w0:IntKind.i64.wrap (-1)= -1:=wrap64 (by omega) (by omega)
    rcases Z4 L 0 with ⟨l0,e0⟩|⟨k0,v0,e0⟩
    ·obtain⟨k1,v1,e1⟩:=qJ l0 0
     simp (maxSteps:=1000000) [go_sem,zo,w0,e0,e1,zh]
     refine zi (fun _:Unit=>True) (fun _=>[]) (fun _=>[]) (fun _=>0) () trivial (by simp[go_sem,LeS,leV,leR,leA,leL]) (fun _ _=>?_)
     rcases Z4 L 0 with ⟨l0,e0⟩|⟨k0,v0,e0⟩
     ·obtain⟨k1,v1,e1⟩:=qJ l0 0
      simp (maxSteps:=1000000) [go_sem,zo,e0,e1,zh]
      exact zc (1+1,0) ⟨by show 0≤L.length;omega,.inr (.inr ⟨rfl,by rw[←e];exact(s2.symm.trans ef.symm)⟩)⟩ (by simp[go_sem,LeS,leV,leR,leA,leL,z2]) (by show 2- (1+1)<2-1;omega)
     ·simp (maxSteps:=1000000) [go_sem,zo,e0]
      exact zc (1+1,0) ⟨by show 0≤L.length;omega,.inr (.inr ⟨rfl,by rw[←e];exact(s2.symm.trans ef.symm)⟩)⟩ (by simp[go_sem,LeS,leV,leR,leA,leL,z2]) (by show 2- (1+1)<2-1;omega)
    ·simp (maxSteps:=1000000) [go_sem,zo,w0,e0]
     refine zi (fun _:Unit=>True) (fun _=>[]) (fun _=>[]) (fun _=>0) () trivial (by simp[go_sem,LeS,leV,leR,leA,leL]) (fun _ _=>?_)
     rcases Z4 L 0 with ⟨l0,e0⟩|⟨k0,v0,e0⟩
     ·obtain⟨k1,v1,e1⟩:=qJ l0 0
      simp (maxSteps:=1000000) [go_sem,zo,e0,e1,zh]
      exact zc (1+1,0) ⟨by show 0≤L.length;omega,.inr (.inr ⟨rfl,by rw[←e];exact(s2.symm.trans ef.symm)⟩)⟩ (by simp[go_sem,LeS,leV,leR,leA,leL,z2]) (by show 2- (1+1)<2-1;omega)
     ·simp (maxSteps:=1000000) [go_sem,zo,e0]
      exact zc (1+1,0) ⟨by show 0≤L.length;omega,.inr (.inr ⟨rfl,by rw[←e];exact(s2.symm.trans ef.symm)⟩)⟩ (by simp[go_sem,LeS,leV,leR,leA,leL,z2]) (by show 2- (1+1)<2-1;omega)
   ·have w1:IntKind.i64.wrap ((j':Nat):Int)=(j':Int):=wrap64 (by omega) (by omega)
    have w2:IntKind.i64.wrap (((j'+1:Nat):Int)-1)=((j':Nat):Int):=qC (by omega) (by omega)
    have g0:(0:Int)< ((j':Int)+1):=by omega
    rw[xR L true j']at s2
    obtain⟨x,c',ex,hx,hl⟩:=Uz hL (show j'<L.length by omega)
    have em:elemAt (zW L) j'=zh L[j']:=by rw[zW,zq zh L j' (by omega)]
    rw[ex]at em
    have em2:elemAt (zB (x::c')) 0=.int .i32 x:=rfl
    have g5:j'<L.length:=by omega
    have g6:((j':Nat):Int)<L.length:=by omega
    simp (maxSteps:=1000000) [go_sem,zo,w1,g0,em,em2,g6,zh,zp]
    refine⟨⟨rfl,by simp[Tryz.f80]⟩,zb [] (jf za 8 x zaI hx) (by simp[go_sem]) ⟨by simp[go_sem],by simp[go_sem,zC]⟩ (by simp[go_sem]) ?_⟩
    rintro _ rs ⟨rfl,rfl⟩
    rcases hl with ⟨hl,hb⟩|⟨hl,hb⟩
    ·simp (maxSteps:=1000000) [go_sem,hl]
     rw[if_neg (by rw[hb];decide)]at s2
     refine zi (fun _:Unit=>True) (fun _=>[]) (fun _=>[]) (fun _=>0) () trivial (by simp[go_sem,LeS,leV,leR,leA,leL]) (fun _ _=>?_)
     rcases Z4 L (j'+1)with ⟨l0,e0⟩|⟨k0,v0,e0⟩
     ·obtain⟨k1,v1,e1⟩:=qJ l0 0
      simp (maxSteps:=1000000) [go_sem,zo,e0,e1,zh]
      exact zc (1+1,(j'+1)) ⟨by show(j'+1)≤L.length;omega,.inr (.inr ⟨rfl,by rw[←e];exact(s2.symm.trans ef.symm)⟩)⟩ (by simp[go_sem,LeS,leV,leR,leA,leL,z2]) (by show 2- (1+1)<2-1;omega)
     ·simp (maxSteps:=1000000) [go_sem,zo,e0]
      exact zc (1+1,(j'+1)) ⟨by show(j'+1)≤L.length;omega,.inr (.inr ⟨rfl,by rw[←e];exact(s2.symm.trans ef.symm)⟩)⟩ (by simp[go_sem,LeS,leV,leR,leA,leL,z2]) (by show 2- (1+1)<2-1;omega)
    ·simp (maxSteps:=1000000) [go_sem,hl,w1]
     rw[if_pos hb]at s2
     exact zc j' ⟨by omega,s2⟩ (by simp[go_sem,LeS,leV,leR,leA,leL]) (by omega)
  |false=>
   have ef:zax L false true p=fwW L true (L.length-p) p:=rfl
   simp (maxSteps:=1000000) [go_sem]
   refine zi (fun _:Unit=>True) (fun _=>[]) (fun _=>[]) (fun _=>0) () trivial (by simp[go_sem,LeS,leV,leR,leA,leL]) (fun _ _=>?_)
   rcases Z4 L (IntKind.i64.wrap ((p:Int)-1)).toNat with ⟨l0,e0⟩|⟨k0,v0,e0⟩
   ·obtain⟨k1,v1,e1⟩:=qJ l0 0
    simp (maxSteps:=1000000) [go_sem,zo,e0,e1,zh]
    refine zi (fun s:Nat=>s≤L.length∧fwW L true (L.length-p) p=fwW L true (L.length-s) s) (fun s=>[(7,.p (.int .i64 (s:Nat)))]) (fun _=>[]) (fun s=>L.length-s) p ⟨h1,rfl⟩ (by simp[go_sem,LeS,leV,leR,leA,leL]) (fun s hs=>?_)
    obtain⟨s1,s2⟩:=hs
    by_cases hp:s<L.length
    ·have hp':(s:Int)<L.length:=by omega
     have w2:IntKind.i64.wrap ((s:Int)+1)=((s+1:Nat):Int):=zP (by omega)
     have en:L.length-s=(L.length- (s+1))+1:=by omega
     rw[en,kU L true]at s2
     obtain⟨x,c',ex,hx,hl⟩:=Uz hL (show s<L.length by omega)
     have em:elemAt (zW L) s=zh L[s]:=by rw[zW,zq zh L s (by omega)]
     rw[ex]at em
     have em2:elemAt (zB (x::c')) 0=.int .i32 x:=rfl
     have g5:s<L.length:=by omega
     have g6:((s:Nat):Int)<L.length:=by omega
     simp (maxSteps:=1000000) [go_sem,zo,hp',em,em2,zh,zp]
     refine⟨⟨rfl,by simp[Tryz.f80]⟩,zb [] (jf za 8 x zaI hx) (by simp[go_sem]) ⟨by simp[go_sem],by simp[go_sem,zC]⟩ (by simp[go_sem]) ?_⟩
     rintro _ rs ⟨rfl,rfl⟩
     rcases hl with ⟨hl,hb⟩|⟨hl,hb⟩
     ·simp (maxSteps:=1000000) [go_sem,hl]
      rw[if_neg (by rw[hb];decide)]at s2
      exact zc (1+1,s) ⟨by show s≤L.length;omega,.inr (.inr ⟨rfl,by rw[←e];exact(s2.symm.trans ef.symm)⟩)⟩ (by simp[go_sem,LeS,leV,leR,leA,leL,z2]) (by show 2- (1+1)<2-1;omega)
     ·simp (maxSteps:=1000000) [go_sem,hl,w2]
      rw[if_pos hb]at s2
      exact zc (s+1) ⟨by omega,s2⟩ (by simp[go_sem,LeS,leV,leR,leA,leL]) (by omega)
    ·have hp':¬(s:Int)<L.length:=by omega
     have en:L.length-s=0:=by omega
     rw[en,k9 L true s]at s2
     rcases Z4 L s with ⟨l0,e0⟩|⟨k0,v0,e0⟩
     ·obtain⟨k1,v1,e1⟩:=qJ l0 0
      simp (maxSteps:=1000000) [go_sem,zo,hp',e0,e1,zh]
      exact zc (1+1,s) ⟨by show s≤L.length;omega,.inr (.inr ⟨rfl,by rw[←e];exact(s2.symm.trans ef.symm)⟩)⟩ (by simp[go_sem,LeS,leV,leR,leA,leL,z2]) (by show 2- (1+1)<2-1;omega)
     ·simp (maxSteps:=1000000) [go_sem,zo,hp',e0]
      exact zc (1+1,s) ⟨by show s≤L.length;omega,.inr (.inr ⟨rfl,by rw[←e];exact(s2.symm.trans ef.symm)⟩)⟩ (by simp[go_sem,LeS,leV,leR,leA,leL,z2]) (by show 2- (1+1)<2-1;omega)
   ·simp (maxSteps:=1000000) [go_sem,zo,e0]
    refine zi (fun s:Nat=>s≤L.length∧fwW L true (L.length-p) p=fwW L true (L.length-s) s) (fun s=>[(7,.p (.int .i64 (s:Nat)))]) (fun _=>[]) (fun s=>L.length-s) p ⟨h1,rfl⟩ (by simp[go_sem,LeS,leV,leR,leA,leL]) (fun s hs=>?_)
    obtain⟨s1,s2⟩:=hs
    by_cases hp:s<L.length
    ·have hp':(s:Int)<L.length:=by omega
     have w2:IntKind.i64.wrap ((s:Int)+1)=((s+1:Nat):Int):=zP (by omega)
     have en:L.length-s=(L.length- (s+1))+1:=by omega
     rw[en,kU L true]at s2
     obtain⟨x,c',ex,hx,hl⟩:=Uz hL (show s<L.length by omega)
     have em:elemAt (zW L) s=zh L[s]:=by rw[zW,zq zh L s (by omega)]
     rw[ex]at em
     have em2:elemAt (zB (x::c')) 0=.int .i32 x:=rfl
     have g5:s<L.length:=by omega
     have g6:((s:Nat):Int)<L.length:=by omega
     simp (maxSteps:=1000000) [go_sem,zo,hp',em,em2,zh,zp]
     refine⟨⟨rfl,by simp[Tryz.f80]⟩,zb [] (jf za 8 x zaI hx) (by simp[go_sem]) ⟨by simp[go_sem],by simp[go_sem,zC]⟩ (by simp[go_sem]) ?_⟩
     rintro _ rs ⟨rfl,rfl⟩
     rcases hl with ⟨hl,hb⟩|⟨hl,hb⟩
     ·simp (maxSteps:=1000000) [go_sem,hl]
      rw[if_neg (by rw[hb];decide)]at s2
      exact zc (1+1,s) ⟨by show s≤L.length;omega,.inr (.inr ⟨rfl,by rw[←e];exact(s2.symm.trans ef.symm)⟩)⟩ (by simp[go_sem,LeS,leV,leR,leA,leL,z2]) (by show 2- (1+1)<2-1;omega)
     ·simp (maxSteps:=1000000) [go_sem,hl,w2]
      rw[if_pos hb]at s2
      exact zc (s+1) ⟨by omega,s2⟩ (by simp[go_sem,LeS,leV,leR,leA,leL]) (by omega)
    ·have hp':¬(s:Int)<L.length:=by omega
     have en:L.length-s=0:=by omega
     rw[en,k9 L true s]at s2
     rcases Z4 L s with ⟨l0,e0⟩|⟨k0,v0,e0⟩
     ·obtain⟨k1,v1,e1⟩:=qJ l0 0
      simp (maxSteps:=1000000) [go_sem,zo,hp',e0,e1,zh]
      exact zc (1+1,s) ⟨by show s≤L.length;omega,.inr (.inr ⟨rfl,by rw[←e];exact(s2.symm.trans ef.symm)⟩)⟩ (by simp[go_sem,LeS,leV,leR,leA,leL,z2]) (by show 2- (1+1)<2-1;omega)
     ·simp (maxSteps:=1000000) [go_sem,zo,hp',e0]
      exact zc (1+1,s) ⟨by show s≤L.length;omega,.inr (.inr ⟨rfl,by rw[←e];exact(s2.symm.trans ef.symm)⟩)⟩ (by simp[go_sem,LeS,leV,leR,leA,leL,z2]) (by show 2- (1+1)<2-1;omega)
 ·rw[←e]
  simp (maxSteps:=1000000) [go_sem]
  exact zg (.p (.int .i64 (p:Nat))) rfl (by simp[go_sem,zf,leA,leT]) ⟨rfl,rfl⟩
end Go.Proofs.YtjefahhmkcfiiaaGreat
end
section
namespace Go.Proofs.YtjefahhmkcfiiaaGreat
open Go.AM
set_option maxHeartbeats 4000000
set_option maxRecDepth 10000
attribute [local irreducible] za
def Wk(n:Int):Int:=max (min n 200) (-200)
theorem zha(L:List (List Int))(a n:Int)(hL:L.length≤200):goL L a (Wk n)=goL L a n:=by
 have:=uQ L a
 unfold goL Wk
 omega
theorem zkn [Gi](s:List Int)(a n:Int)(back:Bool)(hs:∀x∈s,zL x):CR Tryz.prog 4 [] [.p (Z5 s),.p (.int .i64 a),.p (.int .i64 n),.p (.bool back)] [] (is (.p (.bool true))):=by
 refine zM [13] mixed 14 [] Tryz.func4 rfl (by kernel_rfl) rfl (by simp) (by simp) ?_
 simp (maxSteps:=1000000) [go_sem,Tryz.f4,Z5]
 refine⟨⟨rfl,by simp[Tryz.f15]⟩,zb [] (zi9 s 60 (by decide)) (by simp[go_sem]) ⟨by simp[go_sem],by simp[go_sem,Z5]⟩ (by simp[go_sem]) ?_⟩
 rintro _ rs ⟨rfl,rfl⟩
 have hl:(s.take 60).length≤60:=by rw[List.length_take];omega
 have hr:∀x∈s.take 60,zL x:=fun x hx=>hs x (List.mem_of_mem_take hx)
 generalize s.take 60=l at hl hr
 simp (maxSteps:=1000000) [go_sem,Z5]
 refine⟨⟨rfl,by simp[Tryz.f16]⟩,zb [] yy (by simp[go_sem]) ⟨by simp[go_sem],by simp[go_sem]⟩ (by simp[go_sem]) ?_⟩
 rintro _ rs ⟨rfl,rfl⟩
 simp (maxSteps:=1000000) [go_sem,zC]
 refine⟨⟨rfl,by simp[Tryz.f17]⟩,zb [] UG (by simp[go_sem]) ⟨by simp[go_sem],by simp[go_sem,zC]⟩ (by simp[go_sem]) ?_⟩
 rintro _ rs ⟨rfl,e,rfl,c,b,j,f,p,hT,rfl⟩
 simp (maxSteps:=1000000) [go_sem,zE]
 refine⟨⟨rfl,by simp[Tryz.f18]⟩,zb [] (zbi hT (Z9 M0.2) (qm M0.2) l (by omega) hr) (by simp[go_sem]) ⟨by simp[go_sem],by simp[go_sem,zE,zh,zB]⟩ (by simp[go_sem]) ?_⟩
 rintro _ rs ⟨rfl,rfl⟩
 have hO:=zkE l (by omega) hr
 have hsh:=JK l
 have hfl:=wh (Zu za l) (ju.len l (by omega)) (ju.rune l (by omega) hr)
 generalize qR za (Zu za l)=L at hO hsh hfl
 simp (maxSteps:=1000000) [go_sem,zF,zr]
 refine⟨rfl,⟨rfl,by simp[Tryz.f19]⟩,zb [] hO (by simp[go_sem]) ⟨by simp[go_sem],by simp[go_sem,zC,zh,zB]⟩ (by simp[go_sem]) ?_⟩
 rintro _ rs ⟨rfl,rfl⟩
 have g1:=zli L a n hfl.n
 have g2:=zmE L a (Wk n) hfl.n (by unfold Wk;omega)
 rw[zha L a n (by omega)]at g2
 have g3:=zf3 hT (ckP M0.1) (cxP M0.1) (Z9 M0.2) (qm M0.2) L hfl a back
 have g4:=zh1 L hfl a back
 by_cases c1:200<n
 ·have e:Wk n=200:=by unfold Wk;omega
  rw[e]at g2
  simp (maxSteps:=1000000) [go_sem,zF,zr,c1]
  refine⟨rfl,?_⟩
  refine z7 (.p (zF L (goL L a n))) rfl rfl (fun _=>z6 28 (g1) rfl ⟨rfl,by simp[Tryz.f28]⟩ ⟨by simp[go_sem],by simp[go_sem,zF,zr]⟩) ?_
  simp (maxSteps:=1000000) [go_sem,zF,zr]
  refine z7 (.p (.int .i64 (goL L a n))) rfl rfl (fun _=>z6 29 (g2) rfl ⟨rfl,by simp[Tryz.f29]⟩ ⟨by simp[go_sem],by simp[go_sem,zF,zr]⟩) ?_
  simp (maxSteps:=1000000) [go_sem]
  refine z7 (.p (zF L (yp L a back:Nat))) rfl rfl (fun _=>z6 30 (g3) rfl ⟨rfl,by simp[Tryz.f30]⟩ ⟨by simp[go_sem],by simp[go_sem,zF,zr,zE]⟩) ?_
  simp (maxSteps:=1000000) [go_sem,zF,zr]
  refine z7 (.p (.int .i64 (yp L a back:Nat))) rfl rfl (fun _=>z6 31 (g4) rfl ⟨rfl,by simp[Tryz.f31]⟩ ⟨by simp[go_sem],by simp[go_sem,zF,zr,zC]⟩) ?_
  simp (maxSteps:=1000000) [go_sem]
  refine z7 (.p (.bool true)) rfl rfl (fun _=>z6 27 (xH) rfl ⟨rfl,by simp[Tryz.f27]⟩ ⟨by simp[go_sem],by simp[go_sem]⟩) ?_
  simp (maxSteps:=1000000) [go_sem]
  exact zg (.p (.bool true)) rfl (by simp[go_sem,zf,leA,leT]) ⟨rfl,rfl⟩
 ·by_cases c2:n< -200
  ·have e:Wk n= -200:=by unfold Wk;omega
   rw[e]at g2
   simp (maxSteps:=1000000) [go_sem,zF,zr,c1,c2]
   refine⟨rfl,?_⟩
   refine z7 (.p (zF L (goL L a n))) rfl rfl (fun _=>z6 28 (g1) rfl ⟨rfl,by simp[Tryz.f28]⟩ ⟨by simp[go_sem],by simp[go_sem,zF,zr]⟩) ?_
   simp (maxSteps:=1000000) [go_sem,zF,zr]
   refine z7 (.p (.int .i64 (goL L a n))) rfl rfl (fun _=>z6 29 (g2) rfl ⟨rfl,by simp[Tryz.f29]⟩ ⟨by simp[go_sem],by simp[go_sem,zF,zr]⟩) ?_
   simp (maxSteps:=1000000) [go_sem]
   refine z7 (.p (zF L (yp L a back:Nat))) rfl rfl (fun _=>z6 30 (g3) rfl ⟨rfl,by simp[Tryz.f30]⟩ ⟨by simp[go_sem],by simp[go_sem,zF,zr,zE]⟩) ?_
   simp (maxSteps:=1000000) [go_sem,zF,zr]
   refine z7 (.p (.int .i64 (yp L a back:Nat))) rfl rfl (fun _=>z6 31 (g4) rfl ⟨rfl,by simp[Tryz.f31]⟩ ⟨by simp[go_sem],by simp[go_sem,zF,zr,zC]⟩) ?_
   simp (maxSteps:=1000000) [go_sem]
   refine z7 (.p (.bool true)) rfl rfl (fun _=>z6 27 (xH) rfl ⟨rfl,by simp[Tryz.f27]⟩ ⟨by simp[go_sem],by simp[go_sem]⟩) ?_
   simp (maxSteps:=1000000) [go_sem]
   exact zg (.p (.bool true)) rfl (by simp[go_sem,zf,leA,leT]) ⟨rfl,rfl⟩
  ·have e:Wk n=n:=by unfold Wk;omega
   rw[e]at g2
   simp (maxSteps:=1000000) [go_sem,zF,zr,c1,c2]
   refine⟨rfl,?_⟩
   refine z7 (.p (zF L (goL L a n))) rfl rfl (fun _=>z6 28 (g1) rfl ⟨rfl,by simp[Tryz.f28]⟩ ⟨by simp[go_sem],by simp[go_sem,zF,zr]⟩) ?_
   simp (maxSteps:=1000000) [go_sem,zF,zr]
   refine z7 (.p (.int .i64 (goL L a n))) rfl rfl (fun _=>z6 29 (g2) rfl ⟨rfl,by simp[Tryz.f29]⟩ ⟨by simp[go_sem],by simp[go_sem,zF,zr]⟩) ?_
   simp (maxSteps:=1000000) [go_sem]
   refine z7 (.p (zF L (yp L a back:Nat))) rfl rfl (fun _=>z6 30 (g3) rfl ⟨rfl,by simp[Tryz.f30]⟩ ⟨by simp[go_sem],by simp[go_sem,zF,zr,zE]⟩) ?_
   simp (maxSteps:=1000000) [go_sem,zF,zr]
   refine z7 (.p (.int .i64 (yp L a back:Nat))) rfl rfl (fun _=>z6 31 (g4) rfl ⟨rfl,by simp[Tryz.f31]⟩ ⟨by simp[go_sem],by simp[go_sem,zF,zr,zC]⟩) ?_
   simp (maxSteps:=1000000) [go_sem]
   refine z7 (.p (.bool true)) rfl rfl (fun _=>z6 27 (xH) rfl ⟨rfl,by simp[Tryz.f27]⟩ ⟨by simp[go_sem],by simp[go_sem]⟩) ?_
   simp (maxSteps:=1000000) [go_sem]
   exact zg (.p (.bool true)) rfl (by simp[go_sem,zf,leA,leT]) ⟨rfl,rfl⟩
end Go.Proofs.YtjefahhmkcfiiaaGreat
end
