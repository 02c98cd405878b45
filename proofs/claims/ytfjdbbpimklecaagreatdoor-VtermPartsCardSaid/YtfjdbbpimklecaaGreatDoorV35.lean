/- A part of this seat's proofs, by an abstract machine. Conditions: each law's. -/
import Derived.Test.YtfjdbbpimklecaaGreatDoorV33
import Derived.Test.YtfjdbbpimklecaaGreatDoorV17
import Derived.Test.YtfjdbbpimklecaaGreatDoorV28
import Derived.Test.YtfjdbbpimklecaaGreatDoorV34
set_option maxHeartbeats 4000000
set_option maxRecDepth 10000
namespace Go.Proofs.YtfjdbbpimklecaaGreatDoor
section
open Go.AM
attribute [local irreducible] zb
def dkV(d:Dk):PV:=.agg [.int .i64 d.need,.int .i64 d.hv,.int .u8 d.lo,.int .u8 d.hi,.int .i32 d.v]
theorem zld:∀b:Fin 256,(IntKind.i32.wrap (IntKind.u8.wrap ((BitVec.ofNat 8 b.1&&& 31#8).toNat:Int))=(b.1:Int)%32)∧(IntKind.i32.wrap (IntKind.u8.wrap ((BitVec.ofNat 8 b.1&&& 15#8).toNat:Int))=(b.1:Int)%16)∧(IntKind.i32.wrap (IntKind.u8.wrap ((BitVec.ofNat 8 b.1&&& 7#8).toNat:Int))=(b.1:Int)%8):=by decide+kernel
theorem wq0:IntKind.i32.wrap (IntKind.u8.wrap 0)=0:=by decide
theorem X9:IntKind.i32.wrap (IntKind.u8.wrap 13)=13:=by decide
theorem wq4:IntKind.i32.wrap (IntKind.u8.wrap 4)=4:=by decide
theorem zfR [Gi] (b : Nat) (hb : b < 256) : CR Tryz.prog 186 [] [.p (.int .u8 b)] [] (is (.tup [.p (dkV (q0 b).1), .p (q9 (q0 b).2)])) := by
  refine walk Tryz.func186 5 [43] [] [] ?_
  obtain ⟨a1, a2, a3⟩ := zld ⟨b, hb⟩
  simp only at a1 a2 a3
  have w1 : IntKind.i32.wrap (b : Int) = b := by have : (b : Int) < 256 := by omega
                                                 exact wrap32 (by omega) (by omega)
  by_cases h1 : b < 128
  · have e : q0 b = (dz, [(b : Int)]) := by unfold q0; rw [if_pos h1]
    have h1' : (b : Int) < 128 := by omega
    rw [e]
    simp (maxSteps := 1000000) [go_sem, Tryz.f186, h1', w1]
    exact ret (hx := by simp [go_sem, zg, leA, leT, leP, qO, dkV, dz])
  · have h1' : ¬ (b : Int) < 128 := by omega
    by_cases h2 : b < 194
    · have e : q0 b = (dz, [vA]) := by unfold q0; rw [if_neg h1, if_pos (.inl h2)]
      have h2' : (b : Int) < 194 := by omega
      rw [e]
      simp (maxSteps := 1000000) [go_sem, Tryz.f186, h1', h2']
      exact ret (hx := by simp [go_sem, zg, leA, leT, leP, qO, dkV, dz, vA])
    · have h2' : ¬ (b : Int) < 194 := by omega
      by_cases h3 : 244 < b
      · have e : q0 b = (dz, [vA]) := by unfold q0; rw [if_neg h1, if_pos (.inr h3)]
        have h3' : 244 < (b : Int) := by omega
        rw [e]
        simp (maxSteps := 1000000) [go_sem, Tryz.f186, h1', h2', h3']
        exact ret (hx := by simp [go_sem, zg, leA, leT, leP, qO, dkV, dz, vA])
      · have h3' : ¬ 244 < (b : Int) := by omega
        have e : q0 b = (⟨ya b, 1, loD b, hiD b, Wr b⟩, []) := by unfold q0; rw [if_neg h1, if_neg (by omega)]
        rw [e]
        clear e
        by_cases s1 : b = 224
        · subst s1
          simp (maxSteps := 1000000) [go_sem, Tryz.f186]
          exact ret (hx := by simp [go_sem, zg, leA, leT, leP, qO, wq0, dkV, ya, loD, hiD, Wr])
        by_cases s2 : b = 237
        · subst s2
          simp (maxSteps := 1000000) [go_sem, Tryz.f186]
          exact ret (hx := by simp [go_sem, zg, leA, leT, leP, qO, X9, dkV, ya, loD, hiD, Wr])
        by_cases s3 : b = 240
        · subst s3
          simp (maxSteps := 1000000) [go_sem, Tryz.f186]
          exact ret (hx := by simp [go_sem, zg, leA, leT, leP, qO, wq0, dkV, ya, loD, hiD, Wr])
        by_cases s4 : b = 244
        · subst s4
          simp (maxSteps := 1000000) [go_sem, Tryz.f186]
          exact ret (hx := by simp [go_sem, zg, leA, leT, leP, qO, wq4, dkV, ya, loD, hiD, Wr])
        have s1' : ¬ (b : Int) = 224 := by omega
        have s2' : ¬ (b : Int) = 237 := by omega
        have s3' : ¬ (b : Int) = 240 := by omega
        have s4' : ¬ (b : Int) = 244 := by omega
        have hl : loD b = 128 := by unfold loD; rw [if_neg s1, if_neg s3]
        have hh : hiD b = 191 := by unfold hiD; rw [if_neg s2, if_neg s4]
        rw [hl, hh]
        by_cases h4 : b < 224
        · have h4' : (b : Int) < 224 := by omega
          have e1 : ya b = 1 := by unfold ya; rw [if_pos h4]
          have e2 : Wr b = b % 32 := by unfold Wr; rw [if_pos h4]
          rw [e1, e2]
          simp (maxSteps := 1000000) [go_sem, Tryz.f186, h1', h2', h3', h4', s1', s2', s3', s4']
          exact ret (hx := by simp [go_sem, zg, leA, leT, leP, qO, dkV]; exact a1)
        · have h4' : ¬ (b : Int) < 224 := by omega
          by_cases h5 : b < 240
          · have h5' : (b : Int) < 240 := by omega
            have e1 : ya b = 2 := by unfold ya; rw [if_neg h4, if_pos h5]
            have e2 : Wr b = b % 16 := by unfold Wr; rw [if_neg h4, if_pos h5]
            rw [e1, e2]
            simp (maxSteps := 1000000) [go_sem, Tryz.f186, h1', h2', h3', h4', h5', s1', s2', s3', s4']
            exact ret (hx := by simp [go_sem, zg, leA, leT, leP, qO, dkV]; exact a2)
          · have h5' : ¬ (b : Int) < 240 := by omega
            have e1 : ya b = 3 := by unfold ya; rw [if_neg h4, if_neg h5]
            have e2 : Wr b = b % 8 := by unfold Wr; rw [if_neg h4, if_neg h5]
            rw [e1, e2]
            simp (maxSteps := 1000000) [go_sem, Tryz.f186, h1', h2', h3', h4', h5', s1', s2', s3', s4']
            exact ret (hx := by simp [go_sem, zg, leA, leT, leP, qO, dkV]; exact a3)
structure zkz(d:Dk):Prop where
 n:d.need≤3
 h:d.hv≤4
 l:d.lo<256
 u:d.hi<256
 v:d.v<32768
def Jr:OT:=.now 2 1 (.mk [(0,.mk [(1,.mk [(3,.mk [(4,.mk [(5,.mk [])])])])]),(1,.mk [(0,.mk [(3,.mk [(4,.mk [(5,.mk [])])])]),(3,.mk [(0,.mk [(4,.mk [(5,.mk [])])])])])])
def zfi:OT:=.now 1 2 (.mk [(0,.mk [(2,.mk [(3,.mk [(4,.mk [(5,.mk [])])]),(4,.mk [(3,.mk [(5,.mk [])])])]),(4,.mk [(2,.mk [(3,.mk [(5,.mk [])])])])]),(2,.mk [(0,.mk [(3,.mk [(4,.mk [(5,.mk [])])]),(4,.mk [(3,.mk [(5,.mk [])])])]),(3,.mk [(0,.mk [(4,.mk [(5,.mk [])])])])])])
theorem zjW:∀b:Fin 256,IntKind.i32.wrap (IntKind.u8.wrap ((BitVec.ofNat 8 b.1&&& 63#8).toNat:Int))=((b.1%64:Nat):Int):=by decide+kernel
theorem ziu(v:Nat)(hv:v<32768)(b:Nat)(hb:b<256):IntKind.i32.wrap ((BitVec.ofInt 32 (IntKind.i32.wrap ((v:Int)*64)) |||BitVec.ofInt 32 (IntKind.i32.wrap (IntKind.u8.wrap ((BitVec.ofNat 8 b&&& 63#8).toNat:Int)))).toNat:Int)=((v*64+b%64:Nat):Int):=by
 rw[zjW ⟨b,hb⟩]
 have e0:((v:Int)*64)=((v*64:Nat):Int):=by rw[Int.natCast_mul];rfl
 have e4:IntKind.i32.wrap ((v*64:Nat):Int)=((v*64:Nat):Int):=wrap32 (by omega) (by omega)
 rw[e0,e4]
 have e1:BitVec.ofInt 32 ((v*64:Nat):Int)=BitVec.ofNat 32 (v*64):=BitVec.ofInt_natCast ..
 have e2:BitVec.ofInt 32 ((b%64:Nat):Int)=BitVec.ofNat 32 (b%64):=BitVec.ofInt_natCast ..
 simp only[e1,e2,BitVec.toNat_or,BitVec.toNat_ofNat]
 rw[Nat.mod_eq_of_lt (show v*64<2^32 by omega),Nat.mod_eq_of_lt (show b%64<2^32 by omega)]
 have e3:v*64 |||b%64=v*64+b%64:=by
  have:=Nat.two_pow_add_eq_or_of_lt (i:=6) (b:=b%64) (by omega) v
  rw[show 2^6*v=v*64 by omega]at this
  exact this.symm
 rw[e3]
 exact wrap32 (by omega) (by omega)
theorem vg(b:Nat):(q0 b).2.length≤1:=by unfold q0;split<;>(try split)<;>simp
theorem zhr [Gi](d:Dk)(hd:zkz d)(b:Nat)(hb:b<256):CR Tryz.prog 133 [] [.p (dkV d),.p (.int .u8 b)] [] (is (.tup [.p (dkV (Qf d b).1),.p (q9 (Qf d b).2)])):=by
 have fc:=zfR b hb
 refine KX 8 [] Tryz.func133 rfl rfl (by simp) (by simp) ?_
 refine jJ.seq (D:=[]) mixed (by kernel_rfl) ?_
 simp (maxSteps:=1000000) [go_sem,dkV]
 by_cases h0:d.need=0
 ·have e:Qf d b=q0 b:=by unfold Qf;rw[if_pos h0]
  rw[e]
  refine jJ.seq (D:=[]) mixed (by kernel_rfl) ?_
  simp (maxSteps:=1000000) [go_sem,h0]
  generalize q0 b=q at fc⊢
  obtain⟨q1,q2⟩:=q
  unfold dkV at fc
  refine zD fc ?_
  simp (maxSteps:=1000000) [go_sem]
  exact ret (hx:=by simp[go_sem,zg,leA,leT,leP])
 ·have h0':¬(d.need:Int)=0:=by omega
  refine jJ.seq (D:=[]) mixed (by kernel_rfl) ?_
  simp (maxSteps:=1000000) [go_sem,h0]
  by_cases h1:b<d.lo∨d.hi<b
  ·have e:Qf d b=((q0 b).1,vA::(q0 b).2):=by unfold Qf;rw[if_neg h0,if_pos h1]
   rw[e]
   refine jJ.zeq fun E=>qL.Vj (D:=[]) mixed (by kernel_rfl) ?_
   by_cases h2:b<d.lo
   ·have h2':(b:Int)<d.lo:=by omega
    simp (maxSteps:=1000000) [go_sem,h2']
    refine qL.zfS (by simp[go_sem]) ?_
    have hq:=vg b
    generalize q0 b=q at fc hq⊢
    obtain⟨q1,q2⟩:=q
    simp only at hq
    unfold dkV at fc
    refine qL.Vj (D:=[]) mixed (by kernel_rfl) ?_
    simp (maxSteps:=1000000) [go_sem]
    refine zD fc ?_
    simp (maxSteps:=1000000) [go_sem]
    refine qL.seq (qL.tree mixed Jr (by kernel_rfl) ?_)
    have hb:(1+q2.length)*4≤140737488355328:=by omega
    simp (maxSteps:=1000000) [go_sem,Jr,hb]
    repeat'(first|exact True.intro|apply And.intro)
    all_goals
     refine qL.kG (D:=[]) mixed (by kernel_rfl) ?_
     simp (maxSteps:=1000000) [go_sem]
     exact ret (hx:=by simp[go_sem,zg,leA,leT,leP,qO,vA])
   ·have h2':¬(b:Int)<d.lo:=by omega
    have h3:d.hi<b:=by omega
    have h3':(d.hi:Int)<b:=by omega
    simp (maxSteps:=1000000) [go_sem,h2',h3']
    refine qL.zfS (by simp[go_sem]) ?_
    have hq:=vg b
    generalize q0 b=q at fc hq⊢
    obtain⟨q1,q2⟩:=q
    simp only at hq
    unfold dkV at fc
    refine qL.Vj (D:=[]) mixed (by kernel_rfl) ?_
    simp (maxSteps:=1000000) [go_sem]
    refine zD fc ?_
    simp (maxSteps:=1000000) [go_sem]
    refine qL.seq (qL.tree mixed Jr (by kernel_rfl) ?_)
    have hb:(1+q2.length)*4≤140737488355328:=by omega
    simp (maxSteps:=1000000) [go_sem,Jr,hb]
    repeat'(first|exact True.intro|apply And.intro)
    all_goals
     refine qL.kG (D:=[]) mixed (by kernel_rfl) ?_
     simp (maxSteps:=1000000) [go_sem]
     exact ret (hx:=by simp[go_sem,zg,leA,leT,leP,qO,vA])
  ·have h2:¬b<d.lo:=by omega
   have h3:¬d.hi<b:=by omega
   have h2':¬(b:Int)<d.lo:=by omega
   have h3':¬(d.hi:Int)<b:=by omega
   refine jJ.zeq fun E=>qL.Vj (D:=[]) mixed (by kernel_rfl) ?_
   simp (maxSteps:=1000000) [go_sem,h2',h3']
   refine qL.zhA (by simp[go_sem]) ?_
   refine qL.kG (D:=[]) mixed (by kernel_rfl) ?_
   simp (maxSteps:=1000000) [go_sem]
   refine jJ.seq (D:=[]) mixed (by kernel_rfl) ?_
   simp (maxSteps:=1000000) [go_sem]
   have ol:=ziu d.v hd.v b hb
   conv in (occs:= *) IntKind.i32.wrap (Nat.cast (BitVec.toNat _))=>all_goals tactic'=>exact ol
   have w1:IntKind.i64.wrap ((d.need:Int)-1)=(d.need:Int)-1:=by have:=hd.n;exact wrap64 (by omega) (by omega)
   have w2:IntKind.i64.wrap ((d.hv:Int)+1)=(d.hv:Int)+1:=by have:=hd.h;exact wrap64 (by omega) (by omega)
   generalize hv':d.v*64+b%64=v'
   refine jJ.seq (D:=[]) mixed (by kernel_rfl) ?_
   simp (maxSteps:=1000000) [go_sem,w1,w2]
   by_cases h4:d.need=1
   ·have h4':(d.need:Int)-1=0:=by omega
    have e:Qf d b=(dz,[(v':Int)]):=by unfold Qf;rw[if_neg h0,if_neg h1,if_pos h4,hv']
    rw[e]
    refine jJ.zeq fun E=>qL.Vj (D:=[]) mixed (by kernel_rfl) ?_
    simp (maxSteps:=1000000) [go_sem,h4']
    refine qL.zfS (by simp[go_sem]) ?_
    refine qL.seq (qL.tree mixed zfi (by kernel_rfl) ?_)
    simp (maxSteps:=1000000) [go_sem,zfi]
    repeat'(first|exact True.intro|apply And.intro)
    all_goals
     refine qL.kG (D:=[]) mixed (by kernel_rfl) ?_
     simp (maxSteps:=1000000) [go_sem]
     exact ret (hx:=by simp[go_sem,zg,leA,leT,leP,qO,dz])
   ·have h4':¬(d.need:Int)-1=0:=by omega
    have e:Qf d b=(⟨d.need-1,d.hv+1,128,191,v'⟩,[]):=by unfold Qf;rw[if_neg h0,if_neg h1,if_neg h4,hv']
    have e2:((d.need-1:Nat):Int)=(d.need:Int)-1:=by omega
    rw[e]
    refine jJ.zeq fun E=>qL.Vj (D:=[]) mixed (by kernel_rfl) ?_
    simp (maxSteps:=1000000) [go_sem,h4']
    refine qL.zhA (by simp[go_sem]) ?_
    refine qL.kG (D:=[]) mixed (by kernel_rfl) ?_
    simp (maxSteps:=1000000) [go_sem]
    refine jJ.kG (D:=[]) mixed (by kernel_rfl) ?_
    simp (maxSteps:=1000000) [go_sem]
    exact ret (hx:=by simp[go_sem,zg,leA,leT,leP,qO,e2])
structure DkI(d:Dk):Prop where
 n:d.need≤3
 h:d.hv+d.need≤4
 l:d.lo<256
 u:d.hi<256
 v1:d.v<32768
 v2:d.need=2→d.v<512
 v3:d.need=3→d.v<8
theorem DkI.ok {d:Dk}(h:DkI d):zkz d:=⟨h.n,by have:=h.h;omega,h.l,h.u,h.v1⟩
theorem DkI.z:DkI dz:=⟨by simp[dz],by simp[dz],by simp[dz],by simp[dz],by simp[dz],by simp[dz],by simp[dz]⟩
theorem DkI.first(b:Nat)(_:b<256):DkI (q0 b).1:=by
 unfold q0
 split
 ·exact DkI.z
 split
 ·exact DkI.z
 ·refine⟨?_,?_,?_,?_,?_,?_,?_⟩<;>simp only[ya,loD,hiD,Wr]<;>(repeat' split)<;>omega
theorem DkI.feed {d:Dk}(h:DkI d)(b:Nat)(hb:b<256):DkI (Qf d b).1:=by
 have hf:=DkI.first b hb
 obtain⟨a1,a2,a3,a4,a5,a6,a7⟩:=h
 unfold Qf
 split
 ·exact hf
 split
 ·exact hf
 split
 ·exact DkI.z
 ·refine⟨?_,?_,?_,?_,?_,?_,?_⟩<;>simp only<;>omega
theorem XZ(d:Dk)(b:Nat):(Qf d b).2.length≤2:=by
 have h:=vg b
 unfold Qf
 split
 ·omega
 split
 ·simp;omega
 split<;>simp
def nb(s:List UInt8):List Nat:=s.map UInt8.toNat
theorem zjd [Gi](d:Dk):CR Tryz.prog 134 [] [.p (dkV d)] [] (is (.p (q9 (jv d [])))):=by
 refine walk Tryz.func134 3 [] [] [] ?_
 by_cases h:d.need=0
 ·have e:jv d []=[]:=by unfold jv;rw[if_pos h]
  rw[e]
  simp (maxSteps:=1000000) [go_sem,Tryz.f134,dkV,h]
  exact ret (hx:=by simp[go_sem,zg,leA,leT,qO])
 ·have e:jv d []=[vA]:=by unfold jv;rw[if_neg h]
  have h':¬(d.need:Int)=0:=by omega
  rw[e]
  simp (maxSteps:=1000000) [go_sem,Tryz.f134,dkV,h]
  exact ret (hx:=by simp[go_sem,zg,leA,leT,qO,vA])
def zeg:OT:=.now 1 0 (.now 2 0 (.mk [(0,.mk [(3,.mk [(4,.mk [(5,.mk [])])])]),(3,.mk [(0,.mk [(4,.mk [(5,.mk [])])])])]))
structure DcI(s:List UInt8)(r:Nat×Dk×List Int):Prop where
 i:r.1≤s.length
 d:DkI r.2.1
 o:r.2.2++jv r.2.1 ((nb s).drop r.1)=jv dz (nb s)
 l:r.2.2.length≤2*r.1
def dkC(d:Dk):List AV:=[.p (.int .i64 d.need),.p (.int .i64 d.hv),.p (.int .u8 d.lo),.p (.int .u8 d.hi),.p (.int .i32 d.v)]
def zhl(s:List UInt8)(r:Nat×Dk×List Int):St:=
 {n:=31,nv:=9,vs:=[(0,.p (.str s)),(2,.os [2] 1 []),(3,.lp [3] 0),(4,.os [4] 1 (qO r.2.2)),(10,.p (.sl 1 (jW s))),(11,.p (.int .i64 s.length)),(12,.p (.int .i64 r.1))],ts:=[],rs:=[([3],dkC r.2.1)],ex:=[10,11,12]}
theorem zcP [Gi](s:List UInt8)(hs:s.length≤100000):CR Tryz.prog 85 [] [.p (.str s)] [] (is (.p (q9 (jv dz (nb s))))):=by
 refine KX 9 [10,11,12] Tryz.func85 rfl rfl (by simp) (by simp) ?_
 refine jJ.seq (D:=[]) mixed (by kernel_rfl) ?_
 simp (maxSteps:=1000000) [go_sem]
 refine jJ.seq (D:=[]) mixed (by kernel_rfl) ?_
 simp (maxSteps:=1000000) [go_sem]
 refine jJ.seq (D:=[]) mixed (by kernel_rfl) ?_
 simp (maxSteps:=1000000) [go_sem]
 have bl:(jW s).length=s.length:=by simp[jW]
 refine jJ.zeq fun E=>qL.Vj (D:=[]) mixed (by kernel_rfl) ?_
 simp (maxSteps:=1000000) [go_sem,bl]
 refine qL.block ?_
 refine qL.loop (DcI s) (zhl s) (fun r=>s.length-r.1) (0,dz,[]) ⟨Nat.zero_le _,DkI.z,by simp,by simp⟩ (by simp[go_sem,LeS,leV,leR,leA,leL,zhl,dkC,dz,qO]) (fun r hr=>?_)
 obtain⟨i,d,out⟩:=r
 obtain⟨p1,p2,p3,p4⟩:=hr
 simp only at p1 p2 p3 p4
 refine qL.Vj (D:=[]) mixed (by kernel_rfl) ?_
 simp (maxSteps:=1000000) [go_sem,zhl,dkC]
 by_cases hil:i<s.length
 ·have em:elemAt (jW s) i=.int .u8 (s[i].toNat:Nat):=by
   unfold jW
   rw[zu _ s i hil]
  have hb:s[i].toNat<256:=s[i].toNat_lt
  have dr:(nb s).drop i=s[i].toNat::(nb s).drop (i+1):=by
   unfold nb
   rw[List.drop_eq_getElem_cons (by simpa using hil)]
   simp
  rw[dr,Wj]at p3
  generalize s[i].toNat=b at em hb p3
  have fc:=zhr d p2.ok b hb
  have q1:=p2.feed b hb
  have q2:=XZ d b
  generalize Qf d b=q at p3 fc q1 q2
  obtain⟨d',l⟩:=q
  simp only at p3 q1 q2
  unfold dkV at fc
  simp only at fc
  have w1:IntKind.i64.wrap ((i:Int)+1)=((i+1:Nat):Int):=qD (by omega)
  refine qL.Vj (D:=[]) mixed (by kernel_rfl) ?_
  simp (maxSteps:=1000000) [go_sem,hil]
  refine qL.seq (qL.block ?_)
  refine qL.Vj (D:=[]) mixed (by kernel_rfl) ?_
  simp (maxSteps:=1000000) [go_sem,em,bl,hil]
  refine qL.Vj (D:=[]) mixed (by kernel_rfl) ?_
  simp (maxSteps:=1000000) [go_sem]
  refine zD fc ?_
  simp (maxSteps:=1000000) [go_sem]
  refine qL.tree mixed zeg (by kernel_rfl) ?_
  have hb4:(out.length+l.length)*4≤140737488355328:=by omega
  have ei:qO out++qO l=qO (out++l):=by simp[qO]
  simp (maxSteps:=1000000) [go_sem,zeg,hb4,ei]
  repeat'(first|exact True.intro|apply And.intro)
  all_goals
   refine qL.kG (D:=[]) mixed (by kernel_rfl) ?_
   simp (maxSteps:=1000000) [go_sem,w1]
   exact za7 (i+1,d',out++l) ⟨hil,q1,by simpa[List.append_assoc]using p3,by simp only[List.length_append];omega⟩ (by simp[go_sem,LeS,leV,leR,leA,leL,zhl,dkC]) (by show s.length- (i+1)<s.length-i;omega)
 ·obtain rfl:i=s.length:=by omega
  refine qL.Vj (D:=[]) mixed (by kernel_rfl) ?_
  simp (maxSteps:=1000000) [go_sem]
  have ed:(nb s).drop s.length=[]:=List.drop_eq_nil_of_le (by simp[nb])
  rw[ed]at p3
  have ec:=zjd d
  have el:(jv d []).length≤1:=by unfold jv;split<;>simp
  generalize jv d []=l at p3 ec el
  have ei:qO out++qO l=qO (out++l):=by simp[qO]
  rw[p3]at ei
  refine jJ.kG (D:=[]) mixed (by kernel_rfl) ?_
  unfold dkV at ec
  simp (maxSteps:=1000000) [go_sem]
  refine zD ec ?_
  simp (maxSteps:=1000000) [go_sem,ei]
  refine⟨by omega,?_⟩
  exact ret (hx:=by simp[go_sem,zg,leA,leT])
theorem Xl [Gi](R C:Nat)(l:zQ):CR Tryz.prog 38 [] [.p (ZJ R C l)] [] (is (.tup [.p (.int .i64 R),.p (.int .i64 C)])):=by
 refine walk Tryz.func38 4 [] [3] [] ?_
 simp (maxSteps:=1000000) [go_sem,Tryz.f38,ZJ]
 exact ret
theorem ziD [Gi](R C:Nat)(l:zQ)(r c:Int):CR Tryz.prog 132 [] [.p (ZJ R C l),.p (.int .i64 r),.p (.int .i64 c)] [] (is (.p (.bool (inB R C r c)))):=by
 refine walk Tryz.func132 7 [] [] [] ?_
 unfold inB
 by_cases h1:0≤r<;>by_cases h2:r< (R:Int)<;>by_cases h3:0≤c<;>by_cases h4:c< (C:Int)<;>
 ·simp (maxSteps:=1000000) [go_sem,Tryz.f132,ZJ,h1,h2,h3,h4]
  exact ret
theorem Jy [Gi](l:zQ)(h0:l≠ [])(hn:l.length≤1000000):CR Tryz.prog 119 [] [.p (qQ l)] [] (is (.p (qQ l))):=by
 cases l with
 |nil=>exact absurd rfl h0
 |cons x l=>
  refine walk Tryz.func119 3 [] [] [] ?_
  simp only[List.length_cons]at hn
  simp (maxSteps:=1000000) [go_sem,Tryz.f119,qQ]
  refine⟨by omega,?_⟩
  exact ret (hx:=by simp[go_sem,zg,leA,leT])
theorem zhu [Gi](R C:Nat)(l:zQ)(r:Nat)(hR:R≤500)(hC:1≤C∧C≤1000)(hl:l.length=R*C)(hr:r<R):CR Tryz.prog 84 [] [.p (ZJ R C l),.p (.int .i64 r)] [] (is (.p (qQ (Qp C l r)))):=by
 have hin:=ziD R C l r 0
 have hb:inB R C r 0=true:=by unfold inB;simp;omega
 rw[hb]at hin
 have hlen:=wV hl hr
 have hcl:=Jy (Qp C l r) (fun e=>by rw[e]at hlen;simp at hlen;omega) (by omega)
 have hm:(r+1)*C≤R*C:=Nat.mul_le_mul_right C hr
 have hRC:R*C≤500000:=Nat.mul_le_mul hR hC.2
 have hrC:(r+1)*C=r*C+C:=by rw[Nat.add_mul];omega
 have w1:IntKind.i64.wrap ((r:Int)*C)=((r*C:Nat):Int):=by rw[Int.natCast_mul];exact wrap64 (by rw[←Int.natCast_mul];omega) (by rw[←Int.natCast_mul];omega)
 have w2:IntKind.i64.wrap ((r:Int)+1)=((r+1:Nat):Int):=qD (by omega)
 have e3:((r:Int)+1)*C=(((r+1)*C:Nat):Int):=by rw[Int.natCast_mul];rfl
 have e1:(r:Int)*C=((r*C:Nat):Int):=(Int.natCast_mul _ _).symm
 have w3:IntKind.i64.wrap (((r:Int)+1)*C)=((r:Int)+1)*C:=wrap64 (by omega) (by omega)
 have hcut:cut (l.map clP) ((r:Int)*C) (((r:Int)+1)*C)=(Qp C l r).map clP:=by
  rw[e1,e3,cut,Qp,List.map_take,List.map_drop]
  simp only[Int.toNat_natCast]
  try rw[List.drop_take]
  rw[show(r+1)*C-r*C=C by omega]
 refine walk Tryz.func84 5 [] [] [] ?_
 unfold ZJ at hin⊢
 simp (maxSteps:=1000000) [go_sem,Tryz.f84]
 refine zD hin ?_
 simp (maxSteps:=1000000) [go_sem,w1,w2,w3,hcut]
 refine⟨⟨by omega,by omega,by omega⟩,zD hcl ?_⟩
 simp (maxSteps:=1000000) [go_sem]
 exact ret
def dF(a b:zQ):Nat→Int
 |0=> -1
 |i+1=>if dF a b i<0∧a.getD i blk≠b.getD i blk then i else dF a b i
theorem zlo {l:zQ} {i:Nat}(h:i<l.length):(l.map clP)[i]?=some (.agg [.str l[i].t,.int .i64 l[i].w]):=by
 rw[List.getElem?_map,List.getElem?_eq_getElem h];rfl
theorem XW {l:zQ} {i:Nat}(h:i<l.length):elemAt (l.map clP) i=.agg [.str l[i].t,.int .i64 l[i].w]:=by
 rw[elemAt,List.getD_eq_getElem?_getD,zlo h];rfl
theorem YI:∀(s:List Nat) (d:Dk),(jv d s).length≤2*s.length+1
 | [],d=>by unfold jv;split<;>simp
 |b::s,d=>by
  have h1:=XZ d b
  have h2:=YI s (Qf d b).1
  rw[Wj,List.length_append,List.length_cons];omega
theorem zkb(c:Nat):((c:Int)<128)↔c<128:=by omega
theorem zjY(c:Nat):((c:Int)<224)↔c<224:=by omega
theorem zj0(c:Nat):((c:Int)<240)↔c<240:=by omega
theorem zkH(c:Nat):((194:Int)≤c)↔194≤c:=by omega
theorem zkh(c:Nat):((160:Int)≤c)↔160≤c:=by omega
theorem zkq(c:Nat):((128:Int)≤c)↔128≤c:=by omega
theorem zkL(c:Nat):((144:Int)≤c)↔144≤c:=by omega
theorem zkX(c:Nat):((c:Int)≤244)↔c≤244:=by omega
theorem zjR(c:Nat):((c:Int)≤191)↔c≤191:=by omega
theorem zkP(c:Nat):((c:Int)≤159)↔c≤159:=by omega
theorem zjZ(c:Nat):((c:Int)≤143)↔c≤143:=by omega
theorem zkV(c:Nat):((c:Int)=224)↔c=224:=by omega
theorem zkG(c:Nat):((c:Int)=237)↔c=237:=by omega
theorem zkw(c:Nat):((c:Int)=240)↔c=240:=by omega
theorem zjV(c:Nat):((c:Int)=244)↔c=244:=by omega
theorem je1(c:Nat):((c:Int)=1)↔c=1:=by omega
theorem je0(c:Nat):((c:Int)=0)↔c=0:=by omega
attribute [local go_sem] zkb zjY zj0 zkH zkh zkq zkL zkX zjR zkP zjZ zkV zkG zkw zjV je1 je0
end
section
open Go.AM
attribute [local irreducible] zb vwL
end
end Go.Proofs.YtfjdbbpimklecaaGreatDoor
