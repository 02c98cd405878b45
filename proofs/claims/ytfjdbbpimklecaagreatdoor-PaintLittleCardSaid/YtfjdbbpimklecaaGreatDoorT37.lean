/- A part of this seat's proofs, by an abstract machine. Conditions: each law's. -/
import Derived.Test.YtfjdbbpimklecaaGreatDoorT36
set_option maxHeartbeats 3200000
set_option maxRecDepth 10000
namespace Go.Proofs.YtfjdbbpimklecaaGreatDoor
section
open Go.AM
theorem zlY(r c r' c':Int)(hr:0≤r∧r≤1000)(hc:0≤c∧c≤1000)(hr':0≤r'∧r'≤1000)(hc':0≤c'∧c'≤1000):CR Tryz.prog 125 [] [.p (Zg r c),.p (Zg r' c')] [] (is (.p (zk (ZG r c r' c')))):=by
 refine zx mixed 9 [13,27,50,64,80,100] Tryz.func125 rfl (by kernel_rfl) rfl (by simp) (by simp) ?_
 have w1:IntKind.i64.wrap (r'-r)=r'-r:=wrap64 (by omega) (by omega)
 have w2:IntKind.i64.wrap (c'-c)=c'-c:=wrap64 (by omega) (by omega)
 have w3:IntKind.i64.wrap (r-r')=r-r':=wrap64 (by omega) (by omega)
 have w4:IntKind.i64.wrap (c-c')=c-c':=wrap64 (by omega) (by omega)
 simp (maxSteps:=1000000) [go_sem,Tryz.f125,Zg]
 refine zh (fun h1=>?_) (fun h1=>?_)
 ·simp (maxSteps:=1000000) [go_sem,zk,w1]
  refine zh (fun h2=>absurd h2 (by omega)) (fun h2=>?_)
  simp (maxSteps:=1000000) [go_sem]
  refine zh (fun h3=>?_) (fun h3=>?_)
  ·simp (maxSteps:=1000000) [go_sem,w2]
   refine zh (fun h4=>absurd h4 (by omega)) (fun h4=>?_)
   have hw:ZG r c r' c'=if c'=0 then shorter [⟨11,r'-r,0,[]⟩,⟨6,0,0,[]⟩] (shorter [⟨11,r'-r,0,[]⟩,⟨8,c'-c,0,[]⟩] [⟨2,r',c',[]⟩])else shorter [⟨11,r'-r,0,[]⟩,⟨8,c'-c,0,[]⟩] [⟨2,r',c',[]⟩]:=by
    have e1:qF r r'=[⟨11,r'-r,0,[]⟩]:=by rw[qF];exact if_pos (by omega)
    have e2:qN c c'=[⟨8,c'-c,0,[]⟩]:=by rw[qN];exact(if_neg (by omega)).trans (if_pos (by omega))
    rw[ZG,e1,e2];rfl
   have o1:qd [⟨11,r'-r,0,[]⟩,⟨8,c'-c,0,[]⟩]:=zB _ (by simp[AOp.ok];try omega) (by simp)
   have o0:qd [⟨2,r',c',[]⟩]:=zB _ (by simp[AOp.ok];try omega) (by simp)
   have o2:qd [⟨11,r'-r,0,[]⟩,⟨6,0,0,[]⟩]:=zB _ (by simp[AOp.ok];try omega) (by simp)
   rw[hw]
   clear hw
   have a1:=z7 _ o1.1 o1.2.1 o1.2.2
   have a0:=z7 _ o0.1 o0.2.1 o0.2.2
   have a2:=z7 _ o2.1 o2.2.1 o2.2.2
   have ob:=zT o1 o0
   obtain⟨bb,hb⟩:∃bb,bb=shorter [⟨11,r'-r,0,[]⟩,⟨8,c'-c,0,[]⟩] [⟨2,r',c',[]⟩]:=⟨_,rfl⟩
   rw[←hb]at ob⊢
   rw[shorter]at hb
   have ab:=z7 _ ob.1 ob.2.1 ob.2.2
   simp (maxSteps:=1000000) [go_sem]
   refine⟨⟨rfl,by simp[Tryz.f73]⟩,zd [] (a1) (by simp[go_sem]) ⟨by simp[go_sem],by simp[go_sem,zk,opP]⟩ (by simp[go_sem]) ?_⟩
   rintro y rs ⟨rfl,rfl⟩
   simp (maxSteps:=1000000) [go_sem]
   refine⟨⟨rfl,by simp[Tryz.f73]⟩,zd [] (a0) (by simp[go_sem]) ⟨by simp[go_sem],by simp[go_sem,zk,opP]⟩ (by simp[go_sem]) ?_⟩
   rintro y rs ⟨rfl,rfl⟩
   simp (maxSteps:=1000000) [go_sem]
   refine zh (fun h5=>?_) (fun h5=>?_)
   ·rw[if_pos h5]at hb
    subst hb
    by_cases hz:c'=0
    ·rw[if_pos hz,shorter]
     have hd:decide (c'=0)=true:=decide_eq_true hz
     simp (maxSteps:=1000000) [go_sem,hd]
     refine⟨⟨rfl,by simp[Tryz.f73]⟩,zd [] (a2) (by simp[go_sem]) ⟨by simp[go_sem],by simp[go_sem,zk,opP]⟩ (by simp[go_sem]) ?_⟩
     rintro y rs ⟨rfl,rfl⟩
     simp (maxSteps:=1000000) [go_sem]
     refine⟨⟨rfl,by simp[Tryz.f73]⟩,zd [] (ab) (by simp[go_sem]) ⟨by simp[go_sem],by simp[go_sem,zk,opP]⟩ (by simp[go_sem]) ?_⟩
     rintro y rs ⟨rfl,rfl⟩
     simp (maxSteps:=1000000) [go_sem]
     refine zh (fun h6=>?_) (fun h6=>?_)
     ·rw[if_pos h6]
      simp (maxSteps:=1000000) [go_sem,opP]
      exact zg (.p (zk [⟨11,r'-r,0,[]⟩,⟨6,0,0,[]⟩])) rfl (by simp[go_sem,zf,leA,zk,opP]) ⟨rfl,rfl⟩
     ·rw[if_neg h6]
      simp (maxSteps:=1000000) [go_sem,opP]
      exact zg (.p (zk [⟨11,r'-r,0,[]⟩,⟨8,c'-c,0,[]⟩])) rfl (by simp[go_sem,zf,leA,zk,opP]) ⟨rfl,rfl⟩
    ·rw[if_neg hz]
     have hd:decide (c'=0)=false:=decide_eq_false hz
     simp (maxSteps:=1000000) [go_sem,opP,hd]
     exact zg (.p (zk [⟨11,r'-r,0,[]⟩,⟨8,c'-c,0,[]⟩])) rfl (by simp[go_sem,zf,leA,zk,opP]) ⟨rfl,rfl⟩
   ·rw[if_neg h5]at hb
    subst hb
    by_cases hz:c'=0
    ·rw[if_pos hz,shorter]
     have hd:decide (c'=0)=true:=decide_eq_true hz
     simp (maxSteps:=1000000) [go_sem,hd]
     refine⟨⟨rfl,by simp[Tryz.f73]⟩,zd [] (a2) (by simp[go_sem]) ⟨by simp[go_sem],by simp[go_sem,zk,opP]⟩ (by simp[go_sem]) ?_⟩
     rintro y rs ⟨rfl,rfl⟩
     simp (maxSteps:=1000000) [go_sem]
     refine⟨⟨rfl,by simp[Tryz.f73]⟩,zd [] (ab) (by simp[go_sem]) ⟨by simp[go_sem],by simp[go_sem,zk,opP]⟩ (by simp[go_sem]) ?_⟩
     rintro y rs ⟨rfl,rfl⟩
     simp (maxSteps:=1000000) [go_sem]
     refine zh (fun h6=>?_) (fun h6=>?_)
     ·rw[if_pos h6]
      simp (maxSteps:=1000000) [go_sem,opP]
      exact zg (.p (zk [⟨11,r'-r,0,[]⟩,⟨6,0,0,[]⟩])) rfl (by simp[go_sem,zf,leA,zk,opP]) ⟨rfl,rfl⟩
     ·rw[if_neg h6]
      simp (maxSteps:=1000000) [go_sem,opP]
      exact zg (.p (zk [⟨2,r',c',[]⟩])) rfl (by simp[go_sem,zf,leA,zk,opP]) ⟨rfl,rfl⟩
    ·rw[if_neg hz]
     have hd:decide (c'=0)=false:=decide_eq_false hz
     simp (maxSteps:=1000000) [go_sem,opP,hd]
     exact zg (.p (zk [⟨2,r',c',[]⟩])) rfl (by simp[go_sem,zf,leA,zk,opP]) ⟨rfl,rfl⟩
  ·simp (maxSteps:=1000000) [go_sem]
   refine zh (fun h4=>?_) (fun h4=>?_)
   ·have hw:ZG r c r' c'=if c'=0 then shorter [⟨11,r'-r,0,[]⟩,⟨6,0,0,[]⟩] (shorter [⟨11,r'-r,0,[]⟩,⟨9,c-c',0,[]⟩] [⟨2,r',c',[]⟩])else shorter [⟨11,r'-r,0,[]⟩,⟨9,c-c',0,[]⟩] [⟨2,r',c',[]⟩]:=by
     have e1:qF r r'=[⟨11,r'-r,0,[]⟩]:=by rw[qF];exact if_pos (by omega)
     have e2:qN c c'=[⟨9,c-c',0,[]⟩]:=by rw[qN];rw[show c-c'= -(c'-c) by omega];exact(if_neg (by omega)).trans (if_neg (by omega))
     rw[ZG,e1,e2];rfl
    have o1:qd [⟨11,r'-r,0,[]⟩,⟨9,c-c',0,[]⟩]:=zB _ (by simp[AOp.ok];try omega) (by simp)
    have o0:qd [⟨2,r',c',[]⟩]:=zB _ (by simp[AOp.ok];try omega) (by simp)
    have o2:qd [⟨11,r'-r,0,[]⟩,⟨6,0,0,[]⟩]:=zB _ (by simp[AOp.ok];try omega) (by simp)
    rw[hw]
    clear hw
    have a1:=z7 _ o1.1 o1.2.1 o1.2.2
    have a0:=z7 _ o0.1 o0.2.1 o0.2.2
    have a2:=z7 _ o2.1 o2.2.1 o2.2.2
    have ob:=zT o1 o0
    obtain⟨bb,hb⟩:∃bb,bb=shorter [⟨11,r'-r,0,[]⟩,⟨9,c-c',0,[]⟩] [⟨2,r',c',[]⟩]:=⟨_,rfl⟩
    rw[←hb]at ob⊢
    rw[shorter]at hb
    have ab:=z7 _ ob.1 ob.2.1 ob.2.2
    simp (maxSteps:=1000000) [go_sem,w4]
    refine⟨⟨rfl,by simp[Tryz.f73]⟩,zd [] (a1) (by simp[go_sem]) ⟨by simp[go_sem],by simp[go_sem,zk,opP]⟩ (by simp[go_sem]) ?_⟩
    rintro y rs ⟨rfl,rfl⟩
    simp (maxSteps:=1000000) [go_sem]
    refine⟨⟨rfl,by simp[Tryz.f73]⟩,zd [] (a0) (by simp[go_sem]) ⟨by simp[go_sem],by simp[go_sem,zk,opP]⟩ (by simp[go_sem]) ?_⟩
    rintro y rs ⟨rfl,rfl⟩
    simp (maxSteps:=1000000) [go_sem]
    refine zh (fun h5=>?_) (fun h5=>?_)
    ·rw[if_pos h5]at hb
     subst hb
     by_cases hz:c'=0
     ·rw[if_pos hz,shorter]
      have hd:decide (c'=0)=true:=decide_eq_true hz
      simp (maxSteps:=1000000) [go_sem,hd]
      refine⟨⟨rfl,by simp[Tryz.f73]⟩,zd [] (a2) (by simp[go_sem]) ⟨by simp[go_sem],by simp[go_sem,zk,opP]⟩ (by simp[go_sem]) ?_⟩
      rintro y rs ⟨rfl,rfl⟩
      simp (maxSteps:=1000000) [go_sem]
      refine⟨⟨rfl,by simp[Tryz.f73]⟩,zd [] (ab) (by simp[go_sem]) ⟨by simp[go_sem],by simp[go_sem,zk,opP]⟩ (by simp[go_sem]) ?_⟩
      rintro y rs ⟨rfl,rfl⟩
      simp (maxSteps:=1000000) [go_sem]
      refine zh (fun h6=>?_) (fun h6=>?_)
      ·rw[if_pos h6]
       simp (maxSteps:=1000000) [go_sem,opP]
       exact zg (.p (zk [⟨11,r'-r,0,[]⟩,⟨6,0,0,[]⟩])) rfl (by simp[go_sem,zf,leA,zk,opP]) ⟨rfl,rfl⟩
      ·rw[if_neg h6]
       simp (maxSteps:=1000000) [go_sem,opP]
       exact zg (.p (zk [⟨11,r'-r,0,[]⟩,⟨9,c-c',0,[]⟩])) rfl (by simp[go_sem,zf,leA,zk,opP]) ⟨rfl,rfl⟩
     ·rw[if_neg hz]
      have hd:decide (c'=0)=false:=decide_eq_false hz
      simp (maxSteps:=1000000) [go_sem,opP,hd]
      exact zg (.p (zk [⟨11,r'-r,0,[]⟩,⟨9,c-c',0,[]⟩])) rfl (by simp[go_sem,zf,leA,zk,opP]) ⟨rfl,rfl⟩
    ·rw[if_neg h5]at hb
     subst hb
     by_cases hz:c'=0
     ·rw[if_pos hz,shorter]
      have hd:decide (c'=0)=true:=decide_eq_true hz
      simp (maxSteps:=1000000) [go_sem,hd]
      refine⟨⟨rfl,by simp[Tryz.f73]⟩,zd [] (a2) (by simp[go_sem]) ⟨by simp[go_sem],by simp[go_sem,zk,opP]⟩ (by simp[go_sem]) ?_⟩
      rintro y rs ⟨rfl,rfl⟩
      simp (maxSteps:=1000000) [go_sem]
      refine⟨⟨rfl,by simp[Tryz.f73]⟩,zd [] (ab) (by simp[go_sem]) ⟨by simp[go_sem],by simp[go_sem,zk,opP]⟩ (by simp[go_sem]) ?_⟩
      rintro y rs ⟨rfl,rfl⟩
      simp (maxSteps:=1000000) [go_sem]
      refine zh (fun h6=>?_) (fun h6=>?_)
      ·rw[if_pos h6]
       simp (maxSteps:=1000000) [go_sem,opP]
       exact zg (.p (zk [⟨11,r'-r,0,[]⟩,⟨6,0,0,[]⟩])) rfl (by simp[go_sem,zf,leA,zk,opP]) ⟨rfl,rfl⟩
      ·rw[if_neg h6]
       simp (maxSteps:=1000000) [go_sem,opP]
       exact zg (.p (zk [⟨2,r',c',[]⟩])) rfl (by simp[go_sem,zf,leA,zk,opP]) ⟨rfl,rfl⟩
     ·rw[if_neg hz]
      have hd:decide (c'=0)=false:=decide_eq_false hz
      simp (maxSteps:=1000000) [go_sem,opP,hd]
      exact zg (.p (zk [⟨2,r',c',[]⟩])) rfl (by simp[go_sem,zf,leA,zk,opP]) ⟨rfl,rfl⟩
   ·have hw:ZG r c r' c'=if c'=0 then shorter [⟨11,r'-r,0,[]⟩,⟨6,0,0,[]⟩] (shorter [⟨11,r'-r,0,[]⟩] [⟨2,r',c',[]⟩])else shorter [⟨11,r'-r,0,[]⟩] [⟨2,r',c',[]⟩]:=by
     have e1:qF r r'=[⟨11,r'-r,0,[]⟩]:=by rw[qF];exact if_pos (by omega)
     have e2:qN c c'=[]:=by rw[qN];exact if_pos (by omega)
     rw[ZG,e1,e2];rfl
    have o1:qd [⟨11,r'-r,0,[]⟩]:=zB _ (by simp[AOp.ok];try omega) (by simp)
    have o0:qd [⟨2,r',c',[]⟩]:=zB _ (by simp[AOp.ok];try omega) (by simp)
    have o2:qd [⟨11,r'-r,0,[]⟩,⟨6,0,0,[]⟩]:=zB _ (by simp[AOp.ok];try omega) (by simp)
    rw[hw]
    clear hw
    have a1:=z7 _ o1.1 o1.2.1 o1.2.2
    have a0:=z7 _ o0.1 o0.2.1 o0.2.2
    have a2:=z7 _ o2.1 o2.2.1 o2.2.2
    have ob:=zT o1 o0
    obtain⟨bb,hb⟩:∃bb,bb=shorter [⟨11,r'-r,0,[]⟩] [⟨2,r',c',[]⟩]:=⟨_,rfl⟩
    rw[←hb]at ob⊢
    rw[shorter]at hb
    have ab:=z7 _ ob.1 ob.2.1 ob.2.2
    simp (maxSteps:=1000000) [go_sem]
    refine⟨⟨rfl,by simp[Tryz.f73]⟩,zd [] (a1) (by simp[go_sem]) ⟨by simp[go_sem],by simp[go_sem,zk,opP]⟩ (by simp[go_sem]) ?_⟩
    rintro y rs ⟨rfl,rfl⟩
    simp (maxSteps:=1000000) [go_sem]
    refine⟨⟨rfl,by simp[Tryz.f73]⟩,zd [] (a0) (by simp[go_sem]) ⟨by simp[go_sem],by simp[go_sem,zk,opP]⟩ (by simp[go_sem]) ?_⟩
    rintro y rs ⟨rfl,rfl⟩
    simp (maxSteps:=1000000) [go_sem]
    refine zh (fun h5=>?_) (fun h5=>?_)
    ·rw[if_pos h5]at hb
     subst hb
     by_cases hz:c'=0
     ·rw[if_pos hz,shorter]
      have hd:decide (c'=0)=true:=decide_eq_true hz
      simp (maxSteps:=1000000) [go_sem,hd]
      refine⟨⟨rfl,by simp[Tryz.f73]⟩,zd [] (a2) (by simp[go_sem]) ⟨by simp[go_sem],by simp[go_sem,zk,opP]⟩ (by simp[go_sem]) ?_⟩
      rintro y rs ⟨rfl,rfl⟩
      simp (maxSteps:=1000000) [go_sem]
      refine⟨⟨rfl,by simp[Tryz.f73]⟩,zd [] (ab) (by simp[go_sem]) ⟨by simp[go_sem],by simp[go_sem,zk,opP]⟩ (by simp[go_sem]) ?_⟩
      rintro y rs ⟨rfl,rfl⟩
      simp (maxSteps:=1000000) [go_sem]
      refine zh (fun h6=>?_) (fun h6=>?_)
      ·rw[if_pos h6]
       simp (maxSteps:=1000000) [go_sem,opP]
       exact zg (.p (zk [⟨11,r'-r,0,[]⟩,⟨6,0,0,[]⟩])) rfl (by simp[go_sem,zf,leA,zk,opP]) ⟨rfl,rfl⟩
      ·rw[if_neg h6]
       simp (maxSteps:=1000000) [go_sem,opP]
       exact zg (.p (zk [⟨11,r'-r,0,[]⟩])) rfl (by simp[go_sem,zf,leA,zk,opP]) ⟨rfl,rfl⟩
     ·rw[if_neg hz]
      have hd:decide (c'=0)=false:=decide_eq_false hz
      simp (maxSteps:=1000000) [go_sem,opP,hd]
      exact zg (.p (zk [⟨11,r'-r,0,[]⟩])) rfl (by simp[go_sem,zf,leA,zk,opP]) ⟨rfl,rfl⟩
    ·rw[if_neg h5]at hb
     subst hb
     by_cases hz:c'=0
     ·rw[if_pos hz,shorter]
      have hd:decide (c'=0)=true:=decide_eq_true hz
      simp (maxSteps:=1000000) [go_sem,hd]
      refine⟨⟨rfl,by simp[Tryz.f73]⟩,zd [] (a2) (by simp[go_sem]) ⟨by simp[go_sem],by simp[go_sem,zk,opP]⟩ (by simp[go_sem]) ?_⟩
      rintro y rs ⟨rfl,rfl⟩
      simp (maxSteps:=1000000) [go_sem]
      refine⟨⟨rfl,by simp[Tryz.f73]⟩,zd [] (ab) (by simp[go_sem]) ⟨by simp[go_sem],by simp[go_sem,zk,opP]⟩ (by simp[go_sem]) ?_⟩
      rintro y rs ⟨rfl,rfl⟩
      simp (maxSteps:=1000000) [go_sem]
      refine zh (fun h6=>?_) (fun h6=>?_)
      ·rw[if_pos h6]
       simp (maxSteps:=1000000) [go_sem,opP]
       exact zg (.p (zk [⟨11,r'-r,0,[]⟩,⟨6,0,0,[]⟩])) rfl (by simp[go_sem,zf,leA,zk,opP]) ⟨rfl,rfl⟩
      ·rw[if_neg h6]
       simp (maxSteps:=1000000) [go_sem,opP]
       exact zg (.p (zk [⟨2,r',c',[]⟩])) rfl (by simp[go_sem,zf,leA,zk,opP]) ⟨rfl,rfl⟩
     ·rw[if_neg hz]
      have hd:decide (c'=0)=false:=decide_eq_false hz
      simp (maxSteps:=1000000) [go_sem,opP,hd]
      exact zg (.p (zk [⟨2,r',c',[]⟩])) rfl (by simp[go_sem,zf,leA,zk,opP]) ⟨rfl,rfl⟩
 ·simp (maxSteps:=1000000) [go_sem,zk]
  refine zh (fun h2=>?_) (fun h2=>?_)
  ·simp (maxSteps:=1000000) [go_sem,w3]
   refine zh (fun h3=>?_) (fun h3=>?_)
   ·simp (maxSteps:=1000000) [go_sem,w2]
    refine zh (fun h4=>absurd h4 (by omega)) (fun h4=>?_)
    have hw:ZG r c r' c'=if c'=0 then shorter [⟨10,r-r',0,[]⟩,⟨6,0,0,[]⟩] (shorter [⟨10,r-r',0,[]⟩,⟨8,c'-c,0,[]⟩] [⟨2,r',c',[]⟩])else shorter [⟨10,r-r',0,[]⟩,⟨8,c'-c,0,[]⟩] [⟨2,r',c',[]⟩]:=by
     have e1:qF r r'=[⟨10,r-r',0,[]⟩]:=by rw[qF];rw[show r-r'= -(r'-r) by omega];exact(if_neg (by omega)).trans (if_pos (by omega))
     have e2:qN c c'=[⟨8,c'-c,0,[]⟩]:=by rw[qN];exact(if_neg (by omega)).trans (if_pos (by omega))
     rw[ZG,e1,e2];rfl
    have o1:qd [⟨10,r-r',0,[]⟩,⟨8,c'-c,0,[]⟩]:=zB _ (by simp[AOp.ok];try omega) (by simp)
    have o0:qd [⟨2,r',c',[]⟩]:=zB _ (by simp[AOp.ok];try omega) (by simp)
    have o2:qd [⟨10,r-r',0,[]⟩,⟨6,0,0,[]⟩]:=zB _ (by simp[AOp.ok];try omega) (by simp)
    rw[hw]
    clear hw
    have a1:=z7 _ o1.1 o1.2.1 o1.2.2
    have a0:=z7 _ o0.1 o0.2.1 o0.2.2
    have a2:=z7 _ o2.1 o2.2.1 o2.2.2
    have ob:=zT o1 o0
    obtain⟨bb,hb⟩:∃bb,bb=shorter [⟨10,r-r',0,[]⟩,⟨8,c'-c,0,[]⟩] [⟨2,r',c',[]⟩]:=⟨_,rfl⟩
    rw[←hb]at ob⊢
    rw[shorter]at hb
    have ab:=z7 _ ob.1 ob.2.1 ob.2.2
    simp (maxSteps:=1000000) [go_sem]
    refine⟨⟨rfl,by simp[Tryz.f73]⟩,zd [] (a1) (by simp[go_sem]) ⟨by simp[go_sem],by simp[go_sem,zk,opP]⟩ (by simp[go_sem]) ?_⟩
    rintro y rs ⟨rfl,rfl⟩
    simp (maxSteps:=1000000) [go_sem]
    refine⟨⟨rfl,by simp[Tryz.f73]⟩,zd [] (a0) (by simp[go_sem]) ⟨by simp[go_sem],by simp[go_sem,zk,opP]⟩ (by simp[go_sem]) ?_⟩
    rintro y rs ⟨rfl,rfl⟩
    simp (maxSteps:=1000000) [go_sem]
    refine zh (fun h5=>?_) (fun h5=>?_)
    ·rw[if_pos h5]at hb
     subst hb
     by_cases hz:c'=0
     ·rw[if_pos hz,shorter]
      have hd:decide (c'=0)=true:=decide_eq_true hz
      simp (maxSteps:=1000000) [go_sem,hd]
      refine⟨⟨rfl,by simp[Tryz.f73]⟩,zd [] (a2) (by simp[go_sem]) ⟨by simp[go_sem],by simp[go_sem,zk,opP]⟩ (by simp[go_sem]) ?_⟩
      rintro y rs ⟨rfl,rfl⟩
      simp (maxSteps:=1000000) [go_sem]
      refine⟨⟨rfl,by simp[Tryz.f73]⟩,zd [] (ab) (by simp[go_sem]) ⟨by simp[go_sem],by simp[go_sem,zk,opP]⟩ (by simp[go_sem]) ?_⟩
      rintro y rs ⟨rfl,rfl⟩
      simp (maxSteps:=1000000) [go_sem]
      refine zh (fun h6=>?_) (fun h6=>?_)
      ·rw[if_pos h6]
       simp (maxSteps:=1000000) [go_sem,opP]
       exact zg (.p (zk [⟨10,r-r',0,[]⟩,⟨6,0,0,[]⟩])) rfl (by simp[go_sem,zf,leA,zk,opP]) ⟨rfl,rfl⟩
      ·rw[if_neg h6]
       simp (maxSteps:=1000000) [go_sem,opP]
       exact zg (.p (zk [⟨10,r-r',0,[]⟩,⟨8,c'-c,0,[]⟩])) rfl (by simp[go_sem,zf,leA,zk,opP]) ⟨rfl,rfl⟩
     ·rw[if_neg hz]
      have hd:decide (c'=0)=false:=decide_eq_false hz
      simp (maxSteps:=1000000) [go_sem,opP,hd]
      exact zg (.p (zk [⟨10,r-r',0,[]⟩,⟨8,c'-c,0,[]⟩])) rfl (by simp[go_sem,zf,leA,zk,opP]) ⟨rfl,rfl⟩
    ·rw[if_neg h5]at hb
     subst hb
     by_cases hz:c'=0
     ·rw[if_pos hz,shorter]
      have hd:decide (c'=0)=true:=decide_eq_true hz
      simp (maxSteps:=1000000) [go_sem,hd]
      refine⟨⟨rfl,by simp[Tryz.f73]⟩,zd [] (a2) (by simp[go_sem]) ⟨by simp[go_sem],by simp[go_sem,zk,opP]⟩ (by simp[go_sem]) ?_⟩
      rintro y rs ⟨rfl,rfl⟩
      simp (maxSteps:=1000000) [go_sem]
      refine⟨⟨rfl,by simp[Tryz.f73]⟩,zd [] (ab) (by simp[go_sem]) ⟨by simp[go_sem],by simp[go_sem,zk,opP]⟩ (by simp[go_sem]) ?_⟩
      rintro y rs ⟨rfl,rfl⟩
      simp (maxSteps:=1000000) [go_sem]
      refine zh (fun h6=>?_) (fun h6=>?_)
      ·rw[if_pos h6]
       simp (maxSteps:=1000000) [go_sem,opP]
       exact zg (.p (zk [⟨10,r-r',0,[]⟩,⟨6,0,0,[]⟩])) rfl (by simp[go_sem,zf,leA,zk,opP]) ⟨rfl,rfl⟩
      ·rw[if_neg h6]
       simp (maxSteps:=1000000) [go_sem,opP]
       exact zg (.p (zk [⟨2,r',c',[]⟩])) rfl (by simp[go_sem,zf,leA,zk,opP]) ⟨rfl,rfl⟩
     ·rw[if_neg hz]
      have hd:decide (c'=0)=false:=decide_eq_false hz
      simp (maxSteps:=1000000) [go_sem,opP,hd]
      exact zg (.p (zk [⟨2,r',c',[]⟩])) rfl (by simp[go_sem,zf,leA,zk,opP]) ⟨rfl,rfl⟩
   ·simp (maxSteps:=1000000) [go_sem]
    refine zh (fun h4=>?_) (fun h4=>?_)
    ·have hw:ZG r c r' c'=if c'=0 then shorter [⟨10,r-r',0,[]⟩,⟨6,0,0,[]⟩] (shorter [⟨10,r-r',0,[]⟩,⟨9,c-c',0,[]⟩] [⟨2,r',c',[]⟩])else shorter [⟨10,r-r',0,[]⟩,⟨9,c-c',0,[]⟩] [⟨2,r',c',[]⟩]:=by
      have e1:qF r r'=[⟨10,r-r',0,[]⟩]:=by rw[qF];rw[show r-r'= -(r'-r) by omega];exact(if_neg (by omega)).trans (if_pos (by omega))
      have e2:qN c c'=[⟨9,c-c',0,[]⟩]:=by rw[qN];rw[show c-c'= -(c'-c) by omega];exact(if_neg (by omega)).trans (if_neg (by omega))
      rw[ZG,e1,e2];rfl
     have o1:qd [⟨10,r-r',0,[]⟩,⟨9,c-c',0,[]⟩]:=zB _ (by simp[AOp.ok];try omega) (by simp)
     have o0:qd [⟨2,r',c',[]⟩]:=zB _ (by simp[AOp.ok];try omega) (by simp)
     have o2:qd [⟨10,r-r',0,[]⟩,⟨6,0,0,[]⟩]:=zB _ (by simp[AOp.ok];try omega) (by simp)
     rw[hw]
     clear hw
     have a1:=z7 _ o1.1 o1.2.1 o1.2.2
     have a0:=z7 _ o0.1 o0.2.1 o0.2.2
     have a2:=z7 _ o2.1 o2.2.1 o2.2.2
     have ob:=zT o1 o0
     obtain⟨bb,hb⟩:∃bb,bb=shorter [⟨10,r-r',0,[]⟩,⟨9,c-c',0,[]⟩] [⟨2,r',c',[]⟩]:=⟨_,rfl⟩
     rw[←hb]at ob⊢
     rw[shorter]at hb
     have ab:=z7 _ ob.1 ob.2.1 ob.2.2
     simp (maxSteps:=1000000) [go_sem,w4]
     refine⟨⟨rfl,by simp[Tryz.f73]⟩,zd [] (a1) (by simp[go_sem]) ⟨by simp[go_sem],by simp[go_sem,zk,opP]⟩ (by simp[go_sem]) ?_⟩
     rintro y rs ⟨rfl,rfl⟩
     simp (maxSteps:=1000000) [go_sem]
     refine⟨⟨rfl,by simp[Tryz.f73]⟩,zd [] (a0) (by simp[go_sem]) ⟨by simp[go_sem],by simp[go_sem,zk,opP]⟩ (by simp[go_sem]) ?_⟩
     rintro y rs ⟨rfl,rfl⟩
     simp (maxSteps:=1000000) [go_sem]
     refine zh (fun h5=>?_) (fun h5=>?_)
     ·rw[if_pos h5]at hb
      subst hb
      by_cases hz:c'=0
      ·rw[if_pos hz,shorter]
       have hd:decide (c'=0)=true:=decide_eq_true hz
       simp (maxSteps:=1000000) [go_sem,hd]
       refine⟨⟨rfl,by simp[Tryz.f73]⟩,zd [] (a2) (by simp[go_sem]) ⟨by simp[go_sem],by simp[go_sem,zk,opP]⟩ (by simp[go_sem]) ?_⟩
       rintro y rs ⟨rfl,rfl⟩
       simp (maxSteps:=1000000) [go_sem]
       refine⟨⟨rfl,by simp[Tryz.f73]⟩,zd [] (ab) (by simp[go_sem]) ⟨by simp[go_sem],by simp[go_sem,zk,opP]⟩ (by simp[go_sem]) ?_⟩
       rintro y rs ⟨rfl,rfl⟩
       simp (maxSteps:=1000000) [go_sem]
       refine zh (fun h6=>?_) (fun h6=>?_)
       ·rw[if_pos h6]
        simp (maxSteps:=1000000) [go_sem,opP]
        exact zg (.p (zk [⟨10,r-r',0,[]⟩,⟨6,0,0,[]⟩])) rfl (by simp[go_sem,zf,leA,zk,opP]) ⟨rfl,rfl⟩
       ·rw[if_neg h6]
        simp (maxSteps:=1000000) [go_sem,opP]
        exact zg (.p (zk [⟨10,r-r',0,[]⟩,⟨9,c-c',0,[]⟩])) rfl (by simp[go_sem,zf,leA,zk,opP]) ⟨rfl,rfl⟩
      ·rw[if_neg hz]
       have hd:decide (c'=0)=false:=decide_eq_false hz
       simp (maxSteps:=1000000) [go_sem,opP,hd]
       exact zg (.p (zk [⟨10,r-r',0,[]⟩,⟨9,c-c',0,[]⟩])) rfl (by simp[go_sem,zf,leA,zk,opP]) ⟨rfl,rfl⟩
     ·rw[if_neg h5]at hb
      subst hb
      by_cases hz:c'=0
      ·rw[if_pos hz,shorter]
       have hd:decide (c'=0)=true:=decide_eq_true hz
       simp (maxSteps:=1000000) [go_sem,hd]
       refine⟨⟨rfl,by simp[Tryz.f73]⟩,zd [] (a2) (by simp[go_sem]) ⟨by simp[go_sem],by simp[go_sem,zk,opP]⟩ (by simp[go_sem]) ?_⟩
       rintro y rs ⟨rfl,rfl⟩
       simp (maxSteps:=1000000) [go_sem]
       refine⟨⟨rfl,by simp[Tryz.f73]⟩,zd [] (ab) (by simp[go_sem]) ⟨by simp[go_sem],by simp[go_sem,zk,opP]⟩ (by simp[go_sem]) ?_⟩
       rintro y rs ⟨rfl,rfl⟩
       simp (maxSteps:=1000000) [go_sem]
       refine zh (fun h6=>?_) (fun h6=>?_)
       ·rw[if_pos h6]
        simp (maxSteps:=1000000) [go_sem,opP]
        exact zg (.p (zk [⟨10,r-r',0,[]⟩,⟨6,0,0,[]⟩])) rfl (by simp[go_sem,zf,leA,zk,opP]) ⟨rfl,rfl⟩
       ·rw[if_neg h6]
        simp (maxSteps:=1000000) [go_sem,opP]
        exact zg (.p (zk [⟨2,r',c',[]⟩])) rfl (by simp[go_sem,zf,leA,zk,opP]) ⟨rfl,rfl⟩
      ·rw[if_neg hz]
       have hd:decide (c'=0)=false:=decide_eq_false hz
       simp (maxSteps:=1000000) [go_sem,opP,hd]
       exact zg (.p (zk [⟨2,r',c',[]⟩])) rfl (by simp[go_sem,zf,leA,zk,opP]) ⟨rfl,rfl⟩
    ·have hw:ZG r c r' c'=if c'=0 then shorter [⟨10,r-r',0,[]⟩,⟨6,0,0,[]⟩] (shorter [⟨10,r-r',0,[]⟩] [⟨2,r',c',[]⟩])else shorter [⟨10,r-r',0,[]⟩] [⟨2,r',c',[]⟩]:=by
      have e1:qF r r'=[⟨10,r-r',0,[]⟩]:=by rw[qF];rw[show r-r'= -(r'-r) by omega];exact(if_neg (by omega)).trans (if_pos (by omega))
      have e2:qN c c'=[]:=by rw[qN];exact if_pos (by omega)
      rw[ZG,e1,e2];rfl
     have o1:qd [⟨10,r-r',0,[]⟩]:=zB _ (by simp[AOp.ok];try omega) (by simp)
     have o0:qd [⟨2,r',c',[]⟩]:=zB _ (by simp[AOp.ok];try omega) (by simp)
     have o2:qd [⟨10,r-r',0,[]⟩,⟨6,0,0,[]⟩]:=zB _ (by simp[AOp.ok];try omega) (by simp)
     rw[hw]
     clear hw
     have a1:=z7 _ o1.1 o1.2.1 o1.2.2
     have a0:=z7 _ o0.1 o0.2.1 o0.2.2
     have a2:=z7 _ o2.1 o2.2.1 o2.2.2
     have ob:=zT o1 o0
     obtain⟨bb,hb⟩:∃bb,bb=shorter [⟨10,r-r',0,[]⟩] [⟨2,r',c',[]⟩]:=⟨_,rfl⟩
     rw[←hb]at ob⊢
     rw[shorter]at hb
     have ab:=z7 _ ob.1 ob.2.1 ob.2.2
     simp (maxSteps:=1000000) [go_sem]
     refine⟨⟨rfl,by simp[Tryz.f73]⟩,zd [] (a1) (by simp[go_sem]) ⟨by simp[go_sem],by simp[go_sem,zk,opP]⟩ (by simp[go_sem]) ?_⟩
     rintro y rs ⟨rfl,rfl⟩
     simp (maxSteps:=1000000) [go_sem]
     refine⟨⟨rfl,by simp[Tryz.f73]⟩,zd [] (a0) (by simp[go_sem]) ⟨by simp[go_sem],by simp[go_sem,zk,opP]⟩ (by simp[go_sem]) ?_⟩
     rintro y rs ⟨rfl,rfl⟩
     simp (maxSteps:=1000000) [go_sem]
     refine zh (fun h5=>?_) (fun h5=>?_)
     ·rw[if_pos h5]at hb
      subst hb
      by_cases hz:c'=0
      ·rw[if_pos hz,shorter]
       have hd:decide (c'=0)=true:=decide_eq_true hz
       simp (maxSteps:=1000000) [go_sem,hd]
       refine⟨⟨rfl,by simp[Tryz.f73]⟩,zd [] (a2) (by simp[go_sem]) ⟨by simp[go_sem],by simp[go_sem,zk,opP]⟩ (by simp[go_sem]) ?_⟩
       rintro y rs ⟨rfl,rfl⟩
       simp (maxSteps:=1000000) [go_sem]
       refine⟨⟨rfl,by simp[Tryz.f73]⟩,zd [] (ab) (by simp[go_sem]) ⟨by simp[go_sem],by simp[go_sem,zk,opP]⟩ (by simp[go_sem]) ?_⟩
       rintro y rs ⟨rfl,rfl⟩
       simp (maxSteps:=1000000) [go_sem]
       refine zh (fun h6=>?_) (fun h6=>?_)
       ·rw[if_pos h6]
        simp (maxSteps:=1000000) [go_sem,opP]
        exact zg (.p (zk [⟨10,r-r',0,[]⟩,⟨6,0,0,[]⟩])) rfl (by simp[go_sem,zf,leA,zk,opP]) ⟨rfl,rfl⟩
       ·rw[if_neg h6]
        simp (maxSteps:=1000000) [go_sem,opP]
        exact zg (.p (zk [⟨10,r-r',0,[]⟩])) rfl (by simp[go_sem,zf,leA,zk,opP]) ⟨rfl,rfl⟩
      ·rw[if_neg hz]
       have hd:decide (c'=0)=false:=decide_eq_false hz
       simp (maxSteps:=1000000) [go_sem,opP,hd]
       exact zg (.p (zk [⟨10,r-r',0,[]⟩])) rfl (by simp[go_sem,zf,leA,zk,opP]) ⟨rfl,rfl⟩
     ·rw[if_neg h5]at hb
      subst hb
      by_cases hz:c'=0
      ·rw[if_pos hz,shorter]
       have hd:decide (c'=0)=true:=decide_eq_true hz
       simp (maxSteps:=1000000) [go_sem,hd]
       refine⟨⟨rfl,by simp[Tryz.f73]⟩,zd [] (a2) (by simp[go_sem]) ⟨by simp[go_sem],by simp[go_sem,zk,opP]⟩ (by simp[go_sem]) ?_⟩
       rintro y rs ⟨rfl,rfl⟩
       simp (maxSteps:=1000000) [go_sem]
       refine⟨⟨rfl,by simp[Tryz.f73]⟩,zd [] (ab) (by simp[go_sem]) ⟨by simp[go_sem],by simp[go_sem,zk,opP]⟩ (by simp[go_sem]) ?_⟩
       rintro y rs ⟨rfl,rfl⟩
       simp (maxSteps:=1000000) [go_sem]
       refine zh (fun h6=>?_) (fun h6=>?_)
       ·rw[if_pos h6]
        simp (maxSteps:=1000000) [go_sem,opP]
        exact zg (.p (zk [⟨10,r-r',0,[]⟩,⟨6,0,0,[]⟩])) rfl (by simp[go_sem,zf,leA,zk,opP]) ⟨rfl,rfl⟩
       ·rw[if_neg h6]
        simp (maxSteps:=1000000) [go_sem,opP]
        exact zg (.p (zk [⟨2,r',c',[]⟩])) rfl (by simp[go_sem,zf,leA,zk,opP]) ⟨rfl,rfl⟩
      ·rw[if_neg hz]
       have hd:decide (c'=0)=false:=decide_eq_false hz
       simp (maxSteps:=1000000) [go_sem,opP,hd]
       exact zg (.p (zk [⟨2,r',c',[]⟩])) rfl (by simp[go_sem,zf,leA,zk,opP]) ⟨rfl,rfl⟩
  ·simp (maxSteps:=1000000) [go_sem]
   refine zh (fun h3=>?_) (fun h3=>?_)
   ·simp (maxSteps:=1000000) [go_sem,w2]
    refine zh (fun h4=>absurd h4 (by omega)) (fun h4=>?_)
    have hw:ZG r c r' c'=if c'=0 then shorter [⟨6,0,0,[]⟩] (shorter [⟨8,c'-c,0,[]⟩] [⟨2,r',c',[]⟩])else shorter [⟨8,c'-c,0,[]⟩] [⟨2,r',c',[]⟩]:=by
     have e1:qF r r'=[]:=by rw[qF];exact(if_neg (by omega)).trans (if_neg (by omega))
     have e2:qN c c'=[⟨8,c'-c,0,[]⟩]:=by rw[qN];exact(if_neg (by omega)).trans (if_pos (by omega))
     rw[ZG,e1,e2];rfl
    have o1:qd [⟨8,c'-c,0,[]⟩]:=zB _ (by simp[AOp.ok];try omega) (by simp)
    have o0:qd [⟨2,r',c',[]⟩]:=zB _ (by simp[AOp.ok];try omega) (by simp)
    have o2:qd [⟨6,0,0,[]⟩]:=zB _ (by simp[AOp.ok];try omega) (by simp)
    rw[hw]
    clear hw
    have a1:=z7 _ o1.1 o1.2.1 o1.2.2
    have a0:=z7 _ o0.1 o0.2.1 o0.2.2
    have a2:=z7 _ o2.1 o2.2.1 o2.2.2
    have ob:=zT o1 o0
    obtain⟨bb,hb⟩:∃bb,bb=shorter [⟨8,c'-c,0,[]⟩] [⟨2,r',c',[]⟩]:=⟨_,rfl⟩
    rw[←hb]at ob⊢
    rw[shorter]at hb
    have ab:=z7 _ ob.1 ob.2.1 ob.2.2
    simp (maxSteps:=1000000) [go_sem]
    refine⟨⟨rfl,by simp[Tryz.f73]⟩,zd [] (a1) (by simp[go_sem]) ⟨by simp[go_sem],by simp[go_sem,zk,opP]⟩ (by simp[go_sem]) ?_⟩
    rintro y rs ⟨rfl,rfl⟩
    simp (maxSteps:=1000000) [go_sem]
    refine⟨⟨rfl,by simp[Tryz.f73]⟩,zd [] (a0) (by simp[go_sem]) ⟨by simp[go_sem],by simp[go_sem,zk,opP]⟩ (by simp[go_sem]) ?_⟩
    rintro y rs ⟨rfl,rfl⟩
    simp (maxSteps:=1000000) [go_sem]
    refine zh (fun h5=>?_) (fun h5=>?_)
    ·rw[if_pos h5]at hb
     subst hb
     by_cases hz:c'=0
     ·rw[if_pos hz,shorter]
      have hd:decide (c'=0)=true:=decide_eq_true hz
      simp (maxSteps:=1000000) [go_sem,hd]
      refine⟨⟨rfl,by simp[Tryz.f73]⟩,zd [] (a2) (by simp[go_sem]) ⟨by simp[go_sem],by simp[go_sem,zk,opP]⟩ (by simp[go_sem]) ?_⟩
      rintro y rs ⟨rfl,rfl⟩
      simp (maxSteps:=1000000) [go_sem]
      refine⟨⟨rfl,by simp[Tryz.f73]⟩,zd [] (ab) (by simp[go_sem]) ⟨by simp[go_sem],by simp[go_sem,zk,opP]⟩ (by simp[go_sem]) ?_⟩
      rintro y rs ⟨rfl,rfl⟩
      simp (maxSteps:=1000000) [go_sem]
      refine zh (fun h6=>?_) (fun h6=>?_)
      ·rw[if_pos h6]
       simp (maxSteps:=1000000) [go_sem,opP]
       exact zg (.p (zk [⟨6,0,0,[]⟩])) rfl (by simp[go_sem,zf,leA,zk,opP]) ⟨rfl,rfl⟩
      ·rw[if_neg h6]
       simp (maxSteps:=1000000) [go_sem,opP]
       exact zg (.p (zk [⟨8,c'-c,0,[]⟩])) rfl (by simp[go_sem,zf,leA,zk,opP]) ⟨rfl,rfl⟩
     ·rw[if_neg hz]
      have hd:decide (c'=0)=false:=decide_eq_false hz
      simp (maxSteps:=1000000) [go_sem,opP,hd]
      exact zg (.p (zk [⟨8,c'-c,0,[]⟩])) rfl (by simp[go_sem,zf,leA,zk,opP]) ⟨rfl,rfl⟩
    ·rw[if_neg h5]at hb
     subst hb
     by_cases hz:c'=0
     ·rw[if_pos hz,shorter]
      have hd:decide (c'=0)=true:=decide_eq_true hz
      simp (maxSteps:=1000000) [go_sem,hd]
      refine⟨⟨rfl,by simp[Tryz.f73]⟩,zd [] (a2) (by simp[go_sem]) ⟨by simp[go_sem],by simp[go_sem,zk,opP]⟩ (by simp[go_sem]) ?_⟩
      rintro y rs ⟨rfl,rfl⟩
      simp (maxSteps:=1000000) [go_sem]
      refine⟨⟨rfl,by simp[Tryz.f73]⟩,zd [] (ab) (by simp[go_sem]) ⟨by simp[go_sem],by simp[go_sem,zk,opP]⟩ (by simp[go_sem]) ?_⟩
      rintro y rs ⟨rfl,rfl⟩
      simp (maxSteps:=1000000) [go_sem]
      refine zh (fun h6=>?_) (fun h6=>?_)
      ·rw[if_pos h6]
       simp (maxSteps:=1000000) [go_sem,opP]
       exact zg (.p (zk [⟨6,0,0,[]⟩])) rfl (by simp[go_sem,zf,leA,zk,opP]) ⟨rfl,rfl⟩
      ·rw[if_neg h6]
       simp (maxSteps:=1000000) [go_sem,opP]
       exact zg (.p (zk [⟨2,r',c',[]⟩])) rfl (by simp[go_sem,zf,leA,zk,opP]) ⟨rfl,rfl⟩
     ·rw[if_neg hz]
      have hd:decide (c'=0)=false:=decide_eq_false hz
      simp (maxSteps:=1000000) [go_sem,opP,hd]
      exact zg (.p (zk [⟨2,r',c',[]⟩])) rfl (by simp[go_sem,zf,leA,zk,opP]) ⟨rfl,rfl⟩
   ·simp (maxSteps:=1000000) [go_sem]
    refine zh (fun h4=>?_) (fun h4=>?_)
    ·have hw:ZG r c r' c'=if c'=0 then shorter [⟨6,0,0,[]⟩] (shorter [⟨9,c-c',0,[]⟩] [⟨2,r',c',[]⟩])else shorter [⟨9,c-c',0,[]⟩] [⟨2,r',c',[]⟩]:=by
      have e1:qF r r'=[]:=by rw[qF];exact(if_neg (by omega)).trans (if_neg (by omega))
      have e2:qN c c'=[⟨9,c-c',0,[]⟩]:=by rw[qN];rw[show c-c'= -(c'-c) by omega];exact(if_neg (by omega)).trans (if_neg (by omega))
      rw[ZG,e1,e2];rfl
     have o1:qd [⟨9,c-c',0,[]⟩]:=zB _ (by simp[AOp.ok];try omega) (by simp)
     have o0:qd [⟨2,r',c',[]⟩]:=zB _ (by simp[AOp.ok];try omega) (by simp)
     have o2:qd [⟨6,0,0,[]⟩]:=zB _ (by simp[AOp.ok];try omega) (by simp)
     rw[hw]
     clear hw
     have a1:=z7 _ o1.1 o1.2.1 o1.2.2
     have a0:=z7 _ o0.1 o0.2.1 o0.2.2
     have a2:=z7 _ o2.1 o2.2.1 o2.2.2
     have ob:=zT o1 o0
     obtain⟨bb,hb⟩:∃bb,bb=shorter [⟨9,c-c',0,[]⟩] [⟨2,r',c',[]⟩]:=⟨_,rfl⟩
     rw[←hb]at ob⊢
     rw[shorter]at hb
     have ab:=z7 _ ob.1 ob.2.1 ob.2.2
     simp (maxSteps:=1000000) [go_sem,w4]
     refine⟨⟨rfl,by simp[Tryz.f73]⟩,zd [] (a1) (by simp[go_sem]) ⟨by simp[go_sem],by simp[go_sem,zk,opP]⟩ (by simp[go_sem]) ?_⟩
     rintro y rs ⟨rfl,rfl⟩
     simp (maxSteps:=1000000) [go_sem]
     refine⟨⟨rfl,by simp[Tryz.f73]⟩,zd [] (a0) (by simp[go_sem]) ⟨by simp[go_sem],by simp[go_sem,zk,opP]⟩ (by simp[go_sem]) ?_⟩
     rintro y rs ⟨rfl,rfl⟩
     simp (maxSteps:=1000000) [go_sem]
     refine zh (fun h5=>?_) (fun h5=>?_)
     ·rw[if_pos h5]at hb
      subst hb
      by_cases hz:c'=0
      ·rw[if_pos hz,shorter]
       have hd:decide (c'=0)=true:=decide_eq_true hz
       simp (maxSteps:=1000000) [go_sem,hd]
       refine⟨⟨rfl,by simp[Tryz.f73]⟩,zd [] (a2) (by simp[go_sem]) ⟨by simp[go_sem],by simp[go_sem,zk,opP]⟩ (by simp[go_sem]) ?_⟩
       rintro y rs ⟨rfl,rfl⟩
       simp (maxSteps:=1000000) [go_sem]
       refine⟨⟨rfl,by simp[Tryz.f73]⟩,zd [] (ab) (by simp[go_sem]) ⟨by simp[go_sem],by simp[go_sem,zk,opP]⟩ (by simp[go_sem]) ?_⟩
       rintro y rs ⟨rfl,rfl⟩
       simp (maxSteps:=1000000) [go_sem]
       refine zh (fun h6=>?_) (fun h6=>?_)
       ·rw[if_pos h6]
        simp (maxSteps:=1000000) [go_sem,opP]
        exact zg (.p (zk [⟨6,0,0,[]⟩])) rfl (by simp[go_sem,zf,leA,zk,opP]) ⟨rfl,rfl⟩
       ·rw[if_neg h6]
        simp (maxSteps:=1000000) [go_sem,opP]
        exact zg (.p (zk [⟨9,c-c',0,[]⟩])) rfl (by simp[go_sem,zf,leA,zk,opP]) ⟨rfl,rfl⟩
      ·rw[if_neg hz]
       have hd:decide (c'=0)=false:=decide_eq_false hz
       simp (maxSteps:=1000000) [go_sem,opP,hd]
       exact zg (.p (zk [⟨9,c-c',0,[]⟩])) rfl (by simp[go_sem,zf,leA,zk,opP]) ⟨rfl,rfl⟩
     ·rw[if_neg h5]at hb
      subst hb
      by_cases hz:c'=0
      ·rw[if_pos hz,shorter]
       have hd:decide (c'=0)=true:=decide_eq_true hz
       simp (maxSteps:=1000000) [go_sem,hd]
       refine⟨⟨rfl,by simp[Tryz.f73]⟩,zd [] (a2) (by simp[go_sem]) ⟨by simp[go_sem],by simp[go_sem,zk,opP]⟩ (by simp[go_sem]) ?_⟩
       rintro y rs ⟨rfl,rfl⟩
       simp (maxSteps:=1000000) [go_sem]
       refine⟨⟨rfl,by simp[Tryz.f73]⟩,zd [] (ab) (by simp[go_sem]) ⟨by simp[go_sem],by simp[go_sem,zk,opP]⟩ (by simp[go_sem]) ?_⟩
       rintro y rs ⟨rfl,rfl⟩
       simp (maxSteps:=1000000) [go_sem]
       refine zh (fun h6=>?_) (fun h6=>?_)
       ·rw[if_pos h6]
        simp (maxSteps:=1000000) [go_sem,opP]
        exact zg (.p (zk [⟨6,0,0,[]⟩])) rfl (by simp[go_sem,zf,leA,zk,opP]) ⟨rfl,rfl⟩
       ·rw[if_neg h6]
        simp (maxSteps:=1000000) [go_sem,opP]
        exact zg (.p (zk [⟨2,r',c',[]⟩])) rfl (by simp[go_sem,zf,leA,zk,opP]) ⟨rfl,rfl⟩
      ·rw[if_neg hz]
       have hd:decide (c'=0)=false:=decide_eq_false hz
       simp (maxSteps:=1000000) [go_sem,opP,hd]
       exact zg (.p (zk [⟨2,r',c',[]⟩])) rfl (by simp[go_sem,zf,leA,zk,opP]) ⟨rfl,rfl⟩
    ·have hw:ZG r c r' c'=if c'=0 then shorter [⟨6,0,0,[]⟩] (shorter [] [⟨2,r',c',[]⟩])else shorter [] [⟨2,r',c',[]⟩]:=by
      have e1:qF r r'=[]:=by rw[qF];exact(if_neg (by omega)).trans (if_neg (by omega))
      have e2:qN c c'=[]:=by rw[qN];exact if_pos (by omega)
      rw[ZG,e1,e2];rfl
     have o1:qd []:=zB _ (by simp[AOp.ok];try omega) (by simp)
     have o0:qd [⟨2,r',c',[]⟩]:=zB _ (by simp[AOp.ok];try omega) (by simp)
     have o2:qd [⟨6,0,0,[]⟩]:=zB _ (by simp[AOp.ok];try omega) (by simp)
     rw[hw]
     clear hw
     have a1:=z7 _ o1.1 o1.2.1 o1.2.2
     have a0:=z7 _ o0.1 o0.2.1 o0.2.2
     have a2:=z7 _ o2.1 o2.2.1 o2.2.2
     have ob:=zT o1 o0
     obtain⟨bb,hb⟩:∃bb,bb=shorter [] [⟨2,r',c',[]⟩]:=⟨_,rfl⟩
     rw[←hb]at ob⊢
     rw[shorter]at hb
     have ab:=z7 _ ob.1 ob.2.1 ob.2.2
     simp (maxSteps:=1000000) [go_sem]
     refine⟨⟨rfl,by simp[Tryz.f73]⟩,zd [] (a1) (by simp[go_sem]) ⟨by simp[go_sem],by simp[go_sem,zk]⟩ (by simp[go_sem]) ?_⟩
     rintro y rs ⟨rfl,rfl⟩
     simp (maxSteps:=1000000) [go_sem]
     refine⟨⟨rfl,by simp[Tryz.f73]⟩,zd [] (a0) (by simp[go_sem]) ⟨by simp[go_sem],by simp[go_sem,zk,opP]⟩ (by simp[go_sem]) ?_⟩
     rintro y rs ⟨rfl,rfl⟩
     simp (maxSteps:=1000000) [go_sem]
     refine zh (fun h5=>?_) (fun h5=>?_)
     ·rw[if_pos h5]at hb
      subst hb
      by_cases hz:c'=0
      ·rw[if_pos hz,shorter]
       have hd:decide (c'=0)=true:=decide_eq_true hz
       simp (maxSteps:=1000000) [go_sem,hd]
       refine⟨⟨rfl,by simp[Tryz.f73]⟩,zd [] (a2) (by simp[go_sem]) ⟨by simp[go_sem],by simp[go_sem,zk,opP]⟩ (by simp[go_sem]) ?_⟩
       rintro y rs ⟨rfl,rfl⟩
       simp (maxSteps:=1000000) [go_sem]
       refine⟨⟨rfl,by simp[Tryz.f73]⟩,zd [] (ab) (by simp[go_sem]) ⟨by simp[go_sem],by simp[go_sem,zk]⟩ (by simp[go_sem]) ?_⟩
       rintro y rs ⟨rfl,rfl⟩
       simp (maxSteps:=1000000) [go_sem]
       refine zh (fun h6=>?_) (fun h6=>?_)
       ·rw[if_pos h6]
        simp (maxSteps:=1000000) [go_sem,opP]
        exact zg (.p (zk [⟨6,0,0,[]⟩])) rfl (by simp[go_sem,zf,leA,zk,opP]) ⟨rfl,rfl⟩
       ·rw[if_neg h6]
        simp (maxSteps:=1000000) [go_sem]
        exact zg (.p (zk [])) rfl (by simp[go_sem,zf,leA,zk]) ⟨rfl,rfl⟩
      ·rw[if_neg hz]
       have hd:decide (c'=0)=false:=decide_eq_false hz
       simp (maxSteps:=1000000) [go_sem,hd]
       exact zg (.p (zk [])) rfl (by simp[go_sem,zf,leA,zk]) ⟨rfl,rfl⟩
     ·rw[if_neg h5]at hb
      subst hb
      by_cases hz:c'=0
      ·rw[if_pos hz,shorter]
       have hd:decide (c'=0)=true:=decide_eq_true hz
       simp (maxSteps:=1000000) [go_sem,hd]
       refine⟨⟨rfl,by simp[Tryz.f73]⟩,zd [] (a2) (by simp[go_sem]) ⟨by simp[go_sem],by simp[go_sem,zk,opP]⟩ (by simp[go_sem]) ?_⟩
       rintro y rs ⟨rfl,rfl⟩
       simp (maxSteps:=1000000) [go_sem]
       refine⟨⟨rfl,by simp[Tryz.f73]⟩,zd [] (ab) (by simp[go_sem]) ⟨by simp[go_sem],by simp[go_sem,zk,opP]⟩ (by simp[go_sem]) ?_⟩
       rintro y rs ⟨rfl,rfl⟩
       simp (maxSteps:=1000000) [go_sem]
       refine zh (fun h6=>?_) (fun h6=>?_)
       ·rw[if_pos h6]
        simp (maxSteps:=1000000) [go_sem,opP]
        exact zg (.p (zk [⟨6,0,0,[]⟩])) rfl (by simp[go_sem,zf,leA,zk,opP]) ⟨rfl,rfl⟩
       ·rw[if_neg h6]
        simp (maxSteps:=1000000) [go_sem,opP]
        exact zg (.p (zk [⟨2,r',c',[]⟩])) rfl (by simp[go_sem,zf,leA,zk,opP]) ⟨rfl,rfl⟩
      ·rw[if_neg hz]
       have hd:decide (c'=0)=false:=decide_eq_false hz
       simp (maxSteps:=1000000) [go_sem,opP,hd]
       exact zg (.p (zk [⟨2,r',c',[]⟩])) rfl (by simp[go_sem,zf,leA,zk,opP]) ⟨rfl,rfl⟩
def goA(r c:Int)(known:Bool)(r' c':Int):List AOp:=if known then ZG r c r' c' else [⟨2,r',c',[]⟩]
theorem zjb(r c:Int)(known:Bool)(r' c':Int)(hr:0≤r∧r≤1000)(hc:0≤c∧c≤1000)(hr':0≤r'∧r'≤1000)(hc':0≤c'∧c'≤1000):
  CR Tryz.prog 64 [] [.p (Zg r c),.p (.bool known),.p (Zg r' c')] [] (is (.p (zk (goA r c known r' c')))):=by
 have hw:=zoG r c r' c' hr hc hr' hc'
 refine zx mixed 7 [8] Tryz.func64 rfl (by kernel_rfl) rfl (by simp) (by simp) ?_
 cases known with
 |false=>
  simp (maxSteps:=1000000) [go_sem,Tryz.f64,Zg]
  exact zg (.p (zk [⟨2,r',c',[]⟩])) rfl (by simp[go_sem,zf,leA,zk,opP]) ⟨rfl,rfl⟩
 |true=>
  simp (maxSteps:=1000000) [go_sem,Tryz.f64,Zg]
  refine⟨⟨rfl,by simp[Tryz.f118]⟩,zd [] hw (by simp[go_sem]) ⟨by simp[go_sem],by simp[go_sem,Zg]⟩ (by simp[go_sem]) ?_⟩
  rintro y rs ⟨rfl,rfl⟩
  simp (maxSteps:=1000000) [go_sem,zk]
  exact zg (.p (zk (ZG r c r' c'))) rfl (by simp[go_sem,zf,leA,zk]) ⟨rfl,rfl⟩
theorem zka(r c:Int)(known:Bool)(r' c':Int)(hr:0≤r∧r≤1000)(hc:0≤c∧c≤1000)(hr':0≤r'∧r'≤1000)(hc':0≤c'∧c'≤1000):
  CR Tryz.prog 72 [] [.p (Zg r c),.p (.bool known),.p (Zg r' c')] [] (is (.p (zk (goA r c known r' c')))):=by
 have hw:=zlY r c r' c' hr hc hr' hc'
 refine zx mixed 7 [7] Tryz.func72 rfl (by kernel_rfl) rfl (by simp) (by simp) ?_
 cases known with
 |false=>
  simp (maxSteps:=1000000) [go_sem,Tryz.f72,Zg]
  exact zg (.p (zk [⟨2,r',c',[]⟩])) rfl (by simp[go_sem,zf,leA,zk,opP]) ⟨rfl,rfl⟩
 |true=>
  simp (maxSteps:=1000000) [go_sem,Tryz.f72,Zg]
  refine⟨⟨rfl,by simp[Tryz.f125]⟩,zd [] hw (by simp[go_sem]) ⟨by simp[go_sem],by simp[go_sem,Zg]⟩ (by simp[go_sem]) ?_⟩
  rintro y rs ⟨rfl,rfl⟩
  simp (maxSteps:=1000000) [go_sem,zk]
  exact zg (.p (zk (ZG r c r' c'))) rfl (by simp[go_sem,zf,leA,zk]) ⟨rfl,rfl⟩
end
end Go.Proofs.YtfjdbbpimklecaaGreatDoor
