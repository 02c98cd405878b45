/- A part of the proof of this seat's statements, by an abstract machine: what each operation does to values, and what the law's functions compute. Conditions: as each law says. -/
import Derived.Test.YtjefahhmkcfiiaaGreatM29
import Derived.Test.YtjefahhmkcfiiaaGreatM22
import Derived.Test.YtjefahhmkcfiiaaGreatM19
import Derived.Test.YtjefahhmkcfiiaaGreatM21
section
namespace Go.Proofs.YtjefahhmkcfiiaaGreat
open Go.AM
set_option maxHeartbeats 4000000
set_option maxRecDepth 10000
theorem wpA_joinU [Gi] {P:Program} {D:List Nat} {c y:Code} {Q:Exit→St→Prop} {S:St} {ι:Type}(inv:ι→Prop)(V:ι→List (Nat×AV))(R:ι→List (Tok×List AV))(h:wpA P D c (JoinU S inv V R Q) S)
  (hr:∀i ts,inv i→wpA P D y Q (S.upd3 (V i) (R i) ts)):wpA P D c (SeqK P D y Q) S:=
 wpA_mono c (fun e S' h=>by
  cases e with
  |normal=>obtain⟨i,ts,hi,rfl⟩:=h;exact hr i ts hi
  |_=>exact h) h
theorem OpsK_joinU [Gi] {P:Program} {ops:Array Oper} {rest:List Oper} {K:St→Prop} {S:St} {ι:Type}(inv:ι→Prop)(V:ι→List (Nat×AV))(R:ι→List (Tok×List AV))(h:opsA P ops rest S (fun S'=>∃i ts,inv i∧S'=S.upd3 (V i) (R i) ts))
  (hk:∀i ts,inv i→K (S.upd3 (V i) (R i) ts)):OpsK P ops rest K S:=
 opsA_mono (fun S' hx=>by obtain⟨i,ts,hi,e⟩:=hx;rw[e];exact hk i ts hi) h
def sticksB(a b:Int):Bool:=
 if a=1 then decide (b=2)
 else if a=2∨a=3 then false
 else if b=1∨b=2∨b=3 then false
 else if b=4∨b=5∨b=8 then true
 else if a=7 then true
 else if a=9 then decide (b=9) || decide (b=10) || decide (b=12) || decide (b=13)
 else if a=12∨a=10 then decide (b=10) || decide (b=11)
 else if a=13∨a=11 then decide (b=11)
 else false
theorem sticks_cr [Gi](a b:Int):CR Tryz.prog 205 [] [.p (.int .i64 a),.p (.int .i64 b)] [] (is (.p (.bool (sticksB a b)))):=by
 refine CR_of_wp mixed 55 [] Tryz.func205 rfl (by kernel_rfl) rfl (by simp) (by simp) ?_
 by_cases a1:a=1
 ·simp (maxSteps:=1000000) [go_sem,Tryz.f205,a1]
  exact ret_is (.p (.bool (sticksB a b))) rfl (by simp[go_sem,resOf,leA,leT,leP,sticksB,a1]) ⟨rfl,by first|rfl|simp[a1]⟩
 by_cases a2:a=2
 ·simp (maxSteps:=1000000) [go_sem,Tryz.f205,a1,a2]
  exact ret_is (.p (.bool (sticksB a b))) rfl (by simp[go_sem,resOf,leA,leT,leP,sticksB,a1,a2]) ⟨rfl,by first|rfl|simp[a1,a2]⟩
 by_cases a3:a=3
 ·simp (maxSteps:=1000000) [go_sem,Tryz.f205,a1,a2,a3]
  exact ret_is (.p (.bool (sticksB a b))) rfl (by simp[go_sem,resOf,leA,leT,leP,sticksB,a1,a2,a3]) ⟨rfl,by first|rfl|simp[a1,a2,a3]⟩
 by_cases b1:b=1
 ·simp (maxSteps:=1000000) [go_sem,Tryz.f205,a1,a2,a3,b1]
  exact ret_is (.p (.bool (sticksB a b))) rfl (by simp[go_sem,resOf,leA,leT,leP,sticksB,a1,a2,a3,b1]) ⟨rfl,by first|rfl|simp[a1,a2,a3,b1]⟩
 by_cases b2:b=2
 ·simp (maxSteps:=1000000) [go_sem,Tryz.f205,a1,a2,a3,b1,b2]
  exact ret_is (.p (.bool (sticksB a b))) rfl (by simp[go_sem,resOf,leA,leT,leP,sticksB,a1,a2,a3,b1,b2]) ⟨rfl,by first|rfl|simp[a1,a2,a3,b1,b2]⟩
 by_cases b3:b=3
 ·simp (maxSteps:=1000000) [go_sem,Tryz.f205,a1,a2,a3,b1,b2,b3]
  exact ret_is (.p (.bool (sticksB a b))) rfl (by simp[go_sem,resOf,leA,leT,leP,sticksB,a1,a2,a3,b1,b2,b3]) ⟨rfl,by first|rfl|simp[a1,a2,a3,b1,b2,b3]⟩
 by_cases b4:b=4
 ·simp (maxSteps:=1000000) [go_sem,Tryz.f205,a1,a2,a3,b1,b2,b3,b4]
  exact ret_is (.p (.bool (sticksB a b))) rfl (by simp[go_sem,resOf,leA,leT,leP,sticksB,a1,a2,a3,b1,b2,b3,b4]) ⟨rfl,by first|rfl|simp[a1,a2,a3,b1,b2,b3,b4]⟩
 by_cases b5:b=5
 ·simp (maxSteps:=1000000) [go_sem,Tryz.f205,a1,a2,a3,b1,b2,b3,b4,b5]
  exact ret_is (.p (.bool (sticksB a b))) rfl (by simp[go_sem,resOf,leA,leT,leP,sticksB,a1,a2,a3,b1,b2,b3,b4,b5]) ⟨rfl,by first|rfl|simp[a1,a2,a3,b1,b2,b3,b4,b5]⟩
 by_cases b8:b=8
 ·simp (maxSteps:=1000000) [go_sem,Tryz.f205,a1,a2,a3,b1,b2,b3,b4,b5,b8]
  exact ret_is (.p (.bool (sticksB a b))) rfl (by simp[go_sem,resOf,leA,leT,leP,sticksB,a1,a2,a3,b1,b2,b3,b4,b5,b8]) ⟨rfl,by first|rfl|simp[a1,a2,a3,b1,b2,b3,b4,b5,b8]⟩
 by_cases a7:a=7
 ·simp (maxSteps:=1000000) [go_sem,Tryz.f205,a1,a2,a3,b1,b2,b3,b4,b5,b8,a7]
  exact ret_is (.p (.bool (sticksB a b))) rfl (by simp[go_sem,resOf,leA,leT,leP,sticksB,a1,a2,a3,b1,b2,b3,b4,b5,b8,a7]) ⟨rfl,by first|rfl|simp[a1,a2,a3,b1,b2,b3,b4,b5,b8,a7]⟩
 by_cases a9:a=9
 ·by_cases b9:b=9
  ·simp (maxSteps:=1000000) [go_sem,Tryz.f205,a1,a2,a3,b1,b2,b3,b4,b5,b8,a7,a9,b9]
   exact ret_is (.p (.bool (sticksB a b))) rfl (by simp[go_sem,resOf,leA,leT,leP,sticksB,a1,a2,a3,b1,b2,b3,b4,b5,b8,a7,a9,b9]) ⟨rfl,by first|rfl|simp[a1,a2,a3,b1,b2,b3,b4,b5,b8,a7,a9,b9]⟩
  by_cases b10:b=10
  ·simp (maxSteps:=1000000) [go_sem,Tryz.f205,a1,a2,a3,b1,b2,b3,b4,b5,b8,a7,a9,b9,b10]
   exact ret_is (.p (.bool (sticksB a b))) rfl (by simp[go_sem,resOf,leA,leT,leP,sticksB,a1,a2,a3,b1,b2,b3,b4,b5,b8,a7,a9,b9,b10]) ⟨rfl,by first|rfl|simp[a1,a2,a3,b1,b2,b3,b4,b5,b8,a7,a9,b9,b10]⟩
  by_cases b12:b=12
  ·simp (maxSteps:=1000000) [go_sem,Tryz.f205,a1,a2,a3,b1,b2,b3,b4,b5,b8,a7,a9,b9,b10,b12]
   exact ret_is (.p (.bool (sticksB a b))) rfl (by simp[go_sem,resOf,leA,leT,leP,sticksB,a1,a2,a3,b1,b2,b3,b4,b5,b8,a7,a9,b9,b10,b12]) ⟨rfl,by first|rfl|simp[a1,a2,a3,b1,b2,b3,b4,b5,b8,a7,a9,b9,b10,b12]⟩
  by_cases b13:b=13
  ·simp (maxSteps:=1000000) [go_sem,Tryz.f205,a1,a2,a3,b1,b2,b3,b4,b5,b8,a7,a9,b9,b10,b12,b13]
   exact ret_is (.p (.bool (sticksB a b))) rfl (by simp[go_sem,resOf,leA,leT,leP,sticksB,a1,a2,a3,b1,b2,b3,b4,b5,b8,a7,a9,b9,b10,b12,b13]) ⟨rfl,by first|rfl|simp[a1,a2,a3,b1,b2,b3,b4,b5,b8,a7,a9,b9,b10,b12,b13]⟩
  simp (maxSteps:=1000000) [go_sem,Tryz.f205,a1,a2,a3,b1,b2,b3,b4,b5,b8,a7,a9,b9,b10,b12,b13]
  exact ret_is (.p (.bool (sticksB a b))) rfl (by simp[go_sem,resOf,leA,leT,leP,sticksB,a1,a2,a3,b1,b2,b3,b4,b5,b8,a7,a9,b9,b10,b12,b13]) ⟨rfl,by first|rfl|simp[a1,a2,a3,b1,b2,b3,b4,b5,b8,a7,a9,b9,b10,b12,b13]⟩
 by_cases a12:a=12
 ·by_cases b10:b=10
  ·simp (maxSteps:=1000000) [go_sem,Tryz.f205,a1,a2,a3,b1,b2,b3,b4,b5,b8,a7,a9,a12,b10]
   exact ret_is (.p (.bool (sticksB a b))) rfl (by simp[go_sem,resOf,leA,leT,leP,sticksB,a1,a2,a3,b1,b2,b3,b4,b5,b8,a7,a9,a12,b10]) ⟨rfl,by first|rfl|simp[a1,a2,a3,b1,b2,b3,b4,b5,b8,a7,a9,a12,b10]⟩
  by_cases b11:b=11
  ·simp (maxSteps:=1000000) [go_sem,Tryz.f205,a1,a2,a3,b1,b2,b3,b4,b5,b8,a7,a9,a12,b10,b11]
   exact ret_is (.p (.bool (sticksB a b))) rfl (by simp[go_sem,resOf,leA,leT,leP,sticksB,a1,a2,a3,b1,b2,b3,b4,b5,b8,a7,a9,a12,b10,b11]) ⟨rfl,by first|rfl|simp[a1,a2,a3,b1,b2,b3,b4,b5,b8,a7,a9,a12,b10,b11]⟩
  simp (maxSteps:=1000000) [go_sem,Tryz.f205,a1,a2,a3,b1,b2,b3,b4,b5,b8,a7,a9,a12,b10,b11]
  exact ret_is (.p (.bool (sticksB a b))) rfl (by simp[go_sem,resOf,leA,leT,leP,sticksB,a1,a2,a3,b1,b2,b3,b4,b5,b8,a7,a9,a12,b10,b11]) ⟨rfl,by first|rfl|simp[a1,a2,a3,b1,b2,b3,b4,b5,b8,a7,a9,a12,b10,b11]⟩
 by_cases a10:a=10
 ·by_cases b10:b=10
  ·simp (maxSteps:=1000000) [go_sem,Tryz.f205,a1,a2,a3,b1,b2,b3,b4,b5,b8,a7,a9,a12,a10,b10]
   exact ret_is (.p (.bool (sticksB a b))) rfl (by simp[go_sem,resOf,leA,leT,leP,sticksB,a1,a2,a3,b1,b2,b3,b4,b5,b8,a7,a9,a12,a10,b10]) ⟨rfl,by first|rfl|simp[a1,a2,a3,b1,b2,b3,b4,b5,b8,a7,a9,a12,a10,b10]⟩
  by_cases b11:b=11
  ·simp (maxSteps:=1000000) [go_sem,Tryz.f205,a1,a2,a3,b1,b2,b3,b4,b5,b8,a7,a9,a12,a10,b10,b11]
   exact ret_is (.p (.bool (sticksB a b))) rfl (by simp[go_sem,resOf,leA,leT,leP,sticksB,a1,a2,a3,b1,b2,b3,b4,b5,b8,a7,a9,a12,a10,b10,b11]) ⟨rfl,by first|rfl|simp[a1,a2,a3,b1,b2,b3,b4,b5,b8,a7,a9,a12,a10,b10,b11]⟩
  simp (maxSteps:=1000000) [go_sem,Tryz.f205,a1,a2,a3,b1,b2,b3,b4,b5,b8,a7,a9,a12,a10,b10,b11]
  exact ret_is (.p (.bool (sticksB a b))) rfl (by simp[go_sem,resOf,leA,leT,leP,sticksB,a1,a2,a3,b1,b2,b3,b4,b5,b8,a7,a9,a12,a10,b10,b11]) ⟨rfl,by first|rfl|simp[a1,a2,a3,b1,b2,b3,b4,b5,b8,a7,a9,a12,a10,b10,b11]⟩
 by_cases a13:a=13
 ·simp (maxSteps:=1000000) [go_sem,Tryz.f205,a1,a2,a3,b1,b2,b3,b4,b5,b8,a7,a9,a12,a10,a13]
  exact ret_is (.p (.bool (sticksB a b))) rfl (by simp[go_sem,resOf,leA,leT,leP,sticksB,a1,a2,a3,b1,b2,b3,b4,b5,b8,a7,a9,a12,a10,a13]) ⟨rfl,by first|rfl|simp[a1,a2,a3,b1,b2,b3,b4,b5,b8,a7,a9,a12,a10,a13]⟩
 by_cases a11:a=11
 ·simp (maxSteps:=1000000) [go_sem,Tryz.f205,a1,a2,a3,b1,b2,b3,b4,b5,b8,a7,a9,a12,a10,a13,a11]
  exact ret_is (.p (.bool (sticksB a b))) rfl (by simp[go_sem,resOf,leA,leT,leP,sticksB,a1,a2,a3,b1,b2,b3,b4,b5,b8,a7,a9,a12,a10,a13,a11]) ⟨rfl,by first|rfl|simp[a1,a2,a3,b1,b2,b3,b4,b5,b8,a7,a9,a12,a10,a13,a11]⟩
 simp (maxSteps:=1000000) [go_sem,Tryz.f205,a1,a2,a3,b1,b2,b3,b4,b5,b8,a7,a9,a12,a10,a13,a11]
 exact ret_is (.p (.bool (sticksB a b))) rfl (by simp[go_sem,resOf,leA,leT,leP,sticksB,a1,a2,a3,b1,b2,b3,b4,b5,b8,a7,a9,a12,a10,a13,a11]) ⟨rfl,by first|rfl|simp[a1,a2,a3,b1,b2,b3,b4,b5,b8,a7,a9,a12,a10,a13,a11]⟩
structure SegS where
 some:Bool
 last:Int
 pict:Int
 conj:Int
 odd:Bool
def segV(s:SegS):PV:=.agg [.bool s.some,.int .i64 s.last,.int .i64 s.pict,.int .i64 s.conj,.bool s.odd]
def cutB(s:SegS)(b:Int)(p:Bool)(c:Int):Bool:=!sticksB s.last b&& !(decide (s.pict=2)&&p)&& !(decide (s.conj=2)&&decide (c=2))&& !(s.odd&&decide (b=6))
def nextS(s:SegS)(b:Int)(p:Bool)(c:Int):SegS where
 some:=true
 last:=b
 pict:=if p then 1 else if s.pict=1∧b=4 then 1 else if s.pict=1∧b=5 then 2 else 0
 conj:=if c=2 then 1 else if s.conj≠0∧c=1 then 2 else if s.conj≠0∧c=3 then s.conj else 0
 odd:=decide (b=6)&&!s.odd
def stepS(t:Tells4)(s:SegS)(r:Int):SegS×Bool:=(nextS s (brkI t r) (t.flg (rn r)).p (cnjI t r),!s.some || cutB s (brkI t r) (t.flg (rn r)).p (cnjI t r))
theorem step_cr [Gi] {t:Tells4} {c b j f p:PV}(h:TabV t c b j f p)(hz:ZeroT t)(ck cx sk sx:List PV)(s:SegS)(r:Int)(hr:Rune r):
  CR Tryz.prog 171 [] [.p (segV s),.p (tabP c b j f p ck cx sk sx),.p (.int .i32 r)] [] (is (.tup [.p (segV (stepS t s r).1),.p (.bool (stepS t s r).2)])):=by
 refine CR_of_wp mixed 14 [] Tryz.func171 rfl (by kernel_rfl) rfl (by simp) (by simp) ?_
 simp (maxSteps:=1000000) [go_sem,Tryz.f171,segV,tabP]
 refine⟨⟨rfl,by simp[Tryz.f202]⟩,CallK_of [] (breakN_cr h ck cx sk sx hz hr) (by simp[go_sem,notHead]) ⟨by simp[go_sem],by simp[go_sem,tabP]⟩ (by simp[go_sem]) ?_⟩
 rintro _ rs ⟨rfl,rfl⟩
 simp (maxSteps:=1000000) [go_sem]
 refine⟨⟨rfl,by simp[Tryz.f203]⟩,CallK_of [] (pictN_cr h ck cx sk sx hz hr) (by simp[go_sem,notHead]) ⟨by simp[go_sem],by simp[go_sem,tabP]⟩ (by simp[go_sem]) ?_⟩
 rintro _ rs ⟨rfl,rfl⟩
 simp (maxSteps:=1000000) [go_sem]
 refine⟨⟨rfl,by simp[Tryz.f204]⟩,CallK_of [] (conjN_cr h ck cx sk sx hz hr) (by simp[go_sem,notHead]) ⟨by simp[go_sem],by simp[go_sem,tabP]⟩ (by simp[go_sem]) ?_⟩
 rintro _ rs ⟨rfl,rfl⟩
 simp (maxSteps:=1000000) [go_sem]
 have hres:stepS t s r=(nextS s (brkI t r) (t.flg (rn r)).p (cnjI t r),!s.some || cutB s (brkI t r) (t.flg (rn r)).p (cnjI t r)):=rfl
 rw[hres]
 generalize brkI t r=bk
 generalize (t.flg (rn r)).p=pi
 generalize cnjI t r=cj
 refine⟨⟨rfl,by simp[Tryz.f205]⟩,CallK_of [] (sticks_cr s.last bk) (by simp[go_sem,notHead]) ⟨by simp[go_sem],by simp[go_sem]⟩ (by simp[go_sem]) ?_⟩
 rintro _ rs ⟨rfl,rfl⟩
 refine OpsK_joinU (fun _:Unit=>True) (fun _=>[(11,.p (.bool (cutB s bk pi cj)))]) (fun _=>[]) ?_ ?_
 ·cases hst:sticksB s.last bk with
  |true=>
   simp (maxSteps:=1000000) [go_sem,hst]
   try simp[cutB,hst]
  |false=>
   by_cases hp:s.pict=2
   ·cases hpi:pi with
    |true=>
     simp (maxSteps:=1000000) [go_sem,hst,hp,hpi]
     try simp[cutB,hst,hp,hpi]
    |false=>
     by_cases hc:s.conj=2
     ·by_cases hc2:cj=2
      ·simp (maxSteps:=1000000) [go_sem,hst,hp,hpi,hc,hc2]
       try simp[cutB,hst,hp,hpi,hc,hc2]
      ·cases ho:s.odd with
       |false=>
        simp (maxSteps:=1000000) [go_sem,hst,hp,hpi,hc,hc2,ho]
        try simp[cutB,hst,hp,hpi,hc,hc2,ho]
       |true=>
        by_cases hb:bk=6
        ·simp (maxSteps:=1000000) [go_sem,hst,hp,hpi,hc,hc2,ho,hb]
         try simp[cutB,hst,hp,hpi,hc,hc2,ho,hb]
        ·simp (maxSteps:=1000000) [go_sem,hst,hp,hpi,hc,hc2,ho,hb]
         try simp[cutB,hst,hp,hpi,hc,hc2,ho,hb]
     ·cases ho:s.odd with
      |false=>
       simp (maxSteps:=1000000) [go_sem,hst,hp,hpi,hc,ho]
       try simp[cutB,hst,hp,hpi,hc,ho]
      |true=>
       by_cases hb:bk=6
       ·simp (maxSteps:=1000000) [go_sem,hst,hp,hpi,hc,ho,hb]
        try simp[cutB,hst,hp,hpi,hc,ho,hb]
       ·simp (maxSteps:=1000000) [go_sem,hst,hp,hpi,hc,ho,hb]
        try simp[cutB,hst,hp,hpi,hc,ho,hb]
   ·by_cases hc:s.conj=2
    ·by_cases hc2:cj=2
     ·simp (maxSteps:=1000000) [go_sem,hst,hp,hc,hc2]
      try simp[cutB,hst,hp,hc,hc2]
     ·cases ho:s.odd with
      |false=>
       simp (maxSteps:=1000000) [go_sem,hst,hp,hc,hc2,ho]
       try simp[cutB,hst,hp,hc,hc2,ho]
      |true=>
       by_cases hb:bk=6
       ·simp (maxSteps:=1000000) [go_sem,hst,hp,hc,hc2,ho,hb]
        try simp[cutB,hst,hp,hc,hc2,ho,hb]
       ·simp (maxSteps:=1000000) [go_sem,hst,hp,hc,hc2,ho,hb]
        try simp[cutB,hst,hp,hc,hc2,ho,hb]
    ·cases ho:s.odd with
     |false=>
      simp (maxSteps:=1000000) [go_sem,hst,hp,hc,ho]
      try simp[cutB,hst,hp,hc,ho]
     |true=>
      by_cases hb:bk=6
      ·simp (maxSteps:=1000000) [go_sem,hst,hp,hc,ho,hb]
       try simp[cutB,hst,hp,hc,ho,hb]
      ·simp (maxSteps:=1000000) [go_sem,hst,hp,hc,ho,hb]
       try simp[cutB,hst,hp,hc,ho,hb]
 ·rintro _ ts _
  simp only[SeqK_normal]
  rw[wpA_seq]
  refine wpA_joinU (fun _:Unit=>True) (fun _=>[(12,.lp [12] 0)]) (fun _=>[([12],[.p (.bool true),.p (.int .i64 bk),.p (.int .i64 0),.p (.int .i64 0),.p (.bool (decide (bk=6)&&!s.odd))])]) ?_ ?_
  ·by_cases hb:bk=6
   ·cases ho:s.odd with
    |true=>
     simp (maxSteps:=1000000) [go_sem,hb,ho]
     exact JoinU_in () trivial (by simp[go_sem,hb,ho])
    |false=>
     simp (maxSteps:=1000000) [go_sem,hb,ho]
     exact JoinU_in () trivial (by simp[go_sem,hb,ho])
   ·simp (maxSteps:=1000000) [go_sem,hb]
    exact JoinU_in () trivial (by simp[go_sem,hb])
  ·rintro _ ts2 _
   rw[wpA_seq]
   obtain⟨np,hnp⟩:∃np,np=(nextS s bk pi cj).pict:=⟨_,rfl⟩
   refine wpA_joinU (fun _:Unit=>True) (fun _=>[]) (fun _=>[([12],[.p (.bool true),.p (.int .i64 bk),.p (.int .i64 np),.p (.int .i64 0),.p (.bool (decide (bk=6)&&!s.odd))])]) ?_ ?_
   ·cases hpi:pi with
    |true=>
     have e:np=1:=by rw[hnp];simp[nextS,hpi]
     simp (maxSteps:=1000000) [go_sem,hpi]
     exact JoinU_in () trivial (by simp[go_sem,hpi,e])
    |false=>
     by_cases hp:s.pict=1
     ·by_cases hb4:bk=4
      ·have e:np=1:=by rw[hnp];simp[nextS,hpi,hp,hb4]
       simp (maxSteps:=1000000) [go_sem,hpi,hp,hb4]
       exact JoinU_in () trivial (by simp[go_sem,hpi,hp,hb4,e])
      ·by_cases hb5:bk=5
       ·have e:np=2:=by rw[hnp];simp[nextS,hpi,hp,hb4,hb5]
        simp (maxSteps:=1000000) [go_sem,hpi,hp,hb4,hb5]
        exact JoinU_in () trivial (by simp[go_sem,hpi,hp,hb4,hb5,e])
       ·have e:np=0:=by rw[hnp];simp[nextS,hpi,hp,hb4,hb5]
        simp (maxSteps:=1000000) [go_sem,hpi,hp,hb4,hb5]
        exact JoinU_in () trivial (by simp[go_sem,hpi,hp,hb4,hb5,e])
     ·have e:np=0:=by rw[hnp];simp[nextS,hpi,hp]
      simp (maxSteps:=1000000) [go_sem,hpi,hp]
      exact JoinU_in () trivial (by simp[go_sem,hpi,hp,e])
   ·rintro _ ts3 _
    rw[wpA_seq]
    obtain⟨nc,hnc⟩:∃nc,nc=(nextS s bk pi cj).conj:=⟨_,rfl⟩
    refine wpA_joinU (fun _:Unit=>True) (fun _=>[]) (fun _=>[([12],[.p (.bool true),.p (.int .i64 bk),.p (.int .i64 np),.p (.int .i64 nc),.p (.bool (decide (bk=6)&&!s.odd))])]) ?_ ?_
    ·by_cases hc:cj=2
     ·have e:nc=1:=by rw[hnc];simp[nextS,hc]
      simp (maxSteps:=1000000) [go_sem,hc]
      exact JoinU_in () trivial (by simp[go_sem,hc,e])
     ·by_cases hz0:s.conj=0
      ·have e:nc=0:=by rw[hnc];simp[nextS,hc,hz0]
       simp (maxSteps:=1000000) [go_sem,hc,hz0]
       exact JoinU_in () trivial (by simp[go_sem,hc,hz0,e])
      ·by_cases hc1:cj=1
       ·have e:nc=2:=by rw[hnc];simp[nextS,hc,hz0,hc1]
        simp (maxSteps:=1000000) [go_sem,hc,hz0,hc1]
        exact JoinU_in () trivial (by simp[go_sem,hc,hz0,hc1,e])
       ·by_cases hc3:cj=3
        ·have e:nc=s.conj:=by rw[hnc];simp[nextS,hc,hz0,hc1,hc3]
         simp (maxSteps:=1000000) [go_sem,hc,hz0,hc1,hc3]
         exact JoinU_in () trivial (by simp[go_sem,hc,hz0,hc1,hc3,e])
        ·have e:nc=0:=by rw[hnc];simp[nextS,hc,hz0,hc1,hc3]
         simp (maxSteps:=1000000) [go_sem,hc,hz0,hc1,hc3]
         exact JoinU_in () trivial (by simp[go_sem,hc,hz0,hc1,hc3,e])
    ·rintro _ ts4 _
     have hno:(nextS s bk pi cj).odd=(decide (bk=6)&&!s.odd):=rfl
     have hns:(nextS s bk pi cj).some=true:=rfl
     have hnl:(nextS s bk pi cj).last=bk:=rfl
     cases hso:s.some with
     |true=>
      simp (maxSteps:=1000000) [go_sem,hso]
      exact ret_is (.tup [.p (segV (nextS s bk pi cj)),.p (.bool (!s.some || cutB s bk pi cj))]) rfl (by simp[go_sem,resOf,leA,leT,leP,segV,hso,hno,hns,hnl,←hnp,←hnc]) ⟨rfl,by simp[segV,hso]⟩
     |false=>
      simp (maxSteps:=1000000) [go_sem,hso]
      exact ret_is (.tup [.p (segV (nextS s bk pi cj)),.p (.bool (!s.some || cutB s bk pi cj))]) rfl (by simp[go_sem,resOf,leA,leT,leP,segV,hso,hno,hns,hnl,←hnp,←hnc]) ⟨rfl,by simp[segV,hso]⟩
end Go.Proofs.YtjefahhmkcfiiaaGreat
end
section
namespace Go.Proofs.YtjefahhmkcfiiaaGreat
open Go.AM
set_option maxHeartbeats 4000000
set_option maxRecDepth 10000
def cellsR(M:List Int):List AV:=(M.map fun r=>PV.int .i32 r).map .p
@[go_sem] theorem upd_cellsR (rt tt : Tok → Bool) (M : List Int) : (cellsR M).map (AV.upd (fil rt tt)) = cellsR M := by simp [cellsR, AV.upd, fil, fil1]
@[go_sem] theorem ren_cellsR (f : Tok → Option Tok) (M : List Int) : (cellsR M).map (AV.ren f) = cellsR M := by rw [cellsR, List.map_map, ren_p]
@[go_sem] theorem len_cellsR (M : List Int) : (cellsR M).length = M.length := by simp [cellsR]
theorem get_cellsR {M:List Int} {i:Nat}(h:i<M.length):(cellsR M)[i]?=some (.p (.int .i32 (M[i]?.getD 0))):=by
 simp[cellsR,List.getElem?_eq_getElem h]
theorem put_cellsR {M:List Int} {i:Nat}(v:Int)(h:i<M.length):(cellsR M).take i++AV.p (.int .i32 v)::(cellsR M).drop (i+1)=cellsR (M.set i v):=by
 have:cellsR (M.set i v)=(cellsR M).set i (.p (.int .i32 v)):=by simp[cellsR,List.map_set]
 rw[this,List.set_eq_take_append_cons_drop,if_pos (by simpa[cellsR]using h)]
def swapAt(M:List Int)(i j:Nat):List Int:=(M.set i (M[j]?.getD 0)).set j (M[i]?.getD 0)
def swapN(M:List Int)(a b:Nat):Nat→List Int
 |0=>M
 |n+1=>swapAt (swapN M a b n) (a+n) (b+n)
theorem swapN_len(M:List Int)(a b:Nat):∀n,(swapN M a b n).length=M.length
 |0=>rfl
 |n+1=>by simp[swapN,swapAt,swapN_len M a b n]
def swapT:OT:=.now 0 0 (.now 1 0 (.now 2 0 (.now 3 0 (.now 4 2 (.now 5 2 (.now 6 2 (.now 7 2 (.now 8 0 (.now 9 0 (.now 10 0 (.now 11 0 (.now 12 0 (.now 13 0 (.now 14 0 (.now 15 0 (.now 16 0 (.now 17 0 (.now 18 0 (.now 19 0 (.now 20 0 (.mk [(21,.now 22 0 (.mk [(23,.mk [])]))])))))))))))))))))))))
def cmpA:AV:=.fn 211 [.lp [1] 0]
theorem swapRange_cr [Gi](M:List Int)(tab:PV)(o n a b m:Nat)(hM:o+n≤M.length)(ha:a+m≤n)(hb:b+m≤n)(hn:M.length<2^40):
  CR Tryz.prog 239 [[0],[1]] [.la [0] 1 o n,.p (.int .i64 a),.p (.int .i64 b),.p (.int .i64 m),cmpA] [([0],cellsR M),([1],[.p tab])] (fun x rs=>x=.tup []∧rs=[([0],cellsR (swapN M (o+a) (o+b) m)),([1],[.p tab])]):=by
 refine CR_of_wpD [200003] mixed 11 [] Tryz.func239 rfl (by kernel_rfl) rfl (by simp) (by simp) ?_
 simp (maxSteps:=1000000) [go_sem,Tryz.f239,cmpA]
 refine wpA_loopU (fun i:Nat=>i≤m) (fun i=>[(10,.p (.int .i64 (i:Nat)))]) (fun i=>[([0],cellsR (swapN M (o+a) (o+b) i))]) (fun i=>m-i) 0 (by omega) (by simp[go_sem,LeS,leV,leR,leA,leL,leL_refl,cmpA,swapN]) (fun i hi=>?_)
 simp (maxSteps:=1000000) [go_sem]
 refine condK_if (fun h=>?_) (fun h=>?_)
 ·have him:i<m:=by omega
  have w1:IntKind.i64.wrap ((i:Int)+1)=((i+1:Nat):Int):=by rw[wrap64 (by omega) (by omega)];rfl
  obtain⟨x,hx⟩:∃x,x=a+i:=⟨_,rfl⟩
  obtain⟨y,hy⟩:∃y,y=b+i:=⟨_,rfl⟩
  have w2:IntKind.i64.wrap ((a:Int)+i)=(x:Int):=by rw[wrap64 (by omega) (by omega)];omega
  have w3:IntKind.i64.wrap ((b:Int)+i)=(y:Int):=by rw[wrap64 (by omega) (by omega)];omega
  have hs:=swapN_len M (o+a) (o+b) i
  have hnext:swapN M (o+a) (o+b) (i+1)=swapAt (swapN M (o+a) (o+b) i) (o+x) (o+y):=by rw[hx,hy,←Nat.add_assoc,←Nat.add_assoc];rfl
  generalize swapN M (o+a) (o+b) i=Mi at hs hnext
  have hxn:x<n:=by omega
  have hyn:y<n:=by omega
  have gx:=get_cellsR (M:=Mi) (i:=o+x) (by omega)
  have gy:=get_cellsR (M:=Mi) (i:=o+y) (by omega)
  have px:=put_cellsR (M:=Mi) (i:=o+x) (Mi[o+y]?.getD 0) (by omega)
  have py:=put_cellsR (M:=Mi.set (o+x) (Mi[o+y]?.getD 0)) (i:=o+y) (Mi[o+x]?.getD 0) (by simp;omega)
  simp (maxSteps:=1000000) [go_sem]
  refine TreeK_of swapT (by kernel_rfl) ?_
  simp (maxSteps:=1000000) [go_sem,swapT,w1,w2,w3,hxn,hyn,gx,gy,px,py]
  exact⟨by omega,by omega,LoopK_next (i+1) (by omega) (by simp[go_sem,LeS,leV,leR,leA,leL,leL_refl,cmpA,hnext,swapAt]) (by omega)⟩
 ·obtain rfl:i=m:=by omega
  simp (maxSteps:=1000000) [go_sem]
  exact ret_keep [[0],[1]] (.tup []) ⟨rfl,by simp⟩ (by simp[go_sem,resOf,leA,leT]) ⟨rfl,by simp[go_sem]⟩
theorem swapN_get(M:List Int)(a b:Nat):∀n,a+n≤b→b+n≤M.length→∀k,(swapN M a b n)[k]?=if a≤k∧k<a+n then M[k-a+b]? else if b≤k∧k<b+n then M[k-b+a]? else M[k]?
 |0,_,_,k=>by
  rw[if_neg (by omega),if_neg (by omega)];rfl
 |n+1,h1,h2,k=>by
  have ih:=swapN_get M a b n (by omega) (by omega)
  have hl:=swapN_len M a b n
  have e1:(swapN M a b n)[a+n]?=M[a+n]?:=by rw[ih,if_neg (by omega),if_neg (by omega)]
  have e2:(swapN M a b n)[b+n]?=M[b+n]?:=by rw[ih,if_neg (by omega),if_neg (by omega)]
  simp only[swapN,swapAt,e1,e2]
  have g1:M[a+n]?=some (M[a+n]?.getD 0):=by rw[List.getElem?_eq_getElem (by omega)];rfl
  have g2:M[b+n]?=some (M[b+n]?.getD 0):=by rw[List.getElem?_eq_getElem (by omega)];rfl
  rw[List.getElem?_set,List.getElem?_set]
  by_cases hk1:b+n=k
  ·subst hk1
   rw[if_pos rfl,if_pos (by simp;omega),if_neg (by omega),if_pos (by omega)]
   rw[←g1];congr 1;omega
  ·rw[if_neg hk1]
   by_cases hk2:a+n=k
   ·subst hk2
    rw[if_pos rfl,if_pos (by omega),if_pos (by omega)]
    rw[←g2];congr 1;omega
   ·rw[if_neg hk2,ih]
    by_cases c1:a≤k∧k<a+n
    ·rw[if_pos c1,if_pos (by omega)]
    ·rw[if_neg c1,if_neg (by omega:¬(a≤k∧k<a+(n+1)))]
     by_cases c2:b≤k∧k<b+n
     ·rw[if_pos c2,if_pos (by omega)]
     ·rw[if_neg c2,if_neg (by omega)]
end Go.Proofs.YtjefahhmkcfiiaaGreat
end
section
namespace Go.Proofs.YtjefahhmkcfiiaaGreat
open Go.AM
set_option maxHeartbeats 4000000
set_option maxRecDepth 10000
theorem swapN_blocks(P X Y Z W:List Int)(h:X.length=Z.length):swapN (P++(X++(Y++(Z++W)))) P.length (P.length+X.length+Y.length) X.length=P++(Z++(Y++(X++W))):=by
 apply List.ext_getElem?
 intro k
 rw[swapN_get _ _ _ _ (by omega) (by simp;omega)]
 simp only[List.getElem?_append]
 by_cases h1:k<P.length
 ·rw[if_neg (by omega),if_neg (by omega),if_pos h1,if_pos h1]
 ·by_cases h2:k<P.length+X.length
  ·rw[if_pos (by omega),if_neg (by omega),if_neg (by omega),if_neg (by omega),if_pos (by omega),if_neg (by omega),if_pos (by omega)]
   congr 1;omega
  ·by_cases h3:k<P.length+X.length+Y.length
   ·rw[if_neg (by omega),if_neg (by omega),if_neg (by omega),if_neg (by omega),if_pos (by omega),if_neg (by omega),if_neg (by omega),if_pos (by omega)]
    congr 1;omega
   ·by_cases h4:k<P.length+X.length+Y.length+X.length
    ·rw[if_neg (by omega),if_pos (by omega),if_neg (by omega),if_pos (by omega),if_neg (by omega),if_neg (by omega),if_neg (by omega),if_pos (by omega)]
     congr 1;omega
    ·rw[if_neg (by omega),if_neg (by omega),if_neg (by omega),if_neg (by omega),if_neg (by omega),if_neg (by omega),if_neg (by omega),if_neg (by omega),if_neg (by omega),if_neg (by omega)]
     congr 1;omega
theorem rotate_cr [Gi](P U V S:List Int)(tab:PV)(o n a m b:Nat)(hP:P.length=o+a)(hU:U.length=m-a)(hV:V.length=b-m)(ham:a<m)(hmb:m<b)(hbn:b≤n)(hn:(P++(U++(V++S))).length<2^40)(hS:o+n≤(P++(U++(V++S))).length):
  CR Tryz.prog 238 [[0],[1]] [.la [0] 1 o n,.p (.int .i64 a),.p (.int .i64 m),.p (.int .i64 b),cmpA] [([0],cellsR (P++(U++(V++S)))),([1],[.p tab])] (fun x rs=>x=.tup []∧rs=[([0],cellsR (P++(V++(U++S)))),([1],[.p tab])]):=by
 refine CR_of_wp mixed 12 [] Tryz.func238 rfl (by kernel_rfl) rfl (by simp) (by simp) ?_
 have w1:IntKind.i64.wrap ((m:Int)-a)=((m-a:Nat):Int):=by rw[wrap64 (by simp at hS hn;omega) (by simp at hS hn;omega)];omega
 have w2:IntKind.i64.wrap ((b:Int)-m)=((b-m:Nat):Int):=by rw[wrap64 (by simp at hS hn;omega) (by simp at hS hn;omega)];omega
 simp (maxSteps:=1000000) [go_sem,Tryz.f238,w1,w2,cmpA]
 have hlen:(P++(U++(V++S))).length=P.length+U.length+V.length+S.length:=by simp;omega
 rw[hlen]at hn hS
 refine wpA_loopU (fun r:List Int×List Int×List Int×List Int=>r.1.length+r.2.1.length=o+m∧0<r.2.1.length∧0<r.2.2.1.length∧r.2.1.length≤m∧m+r.2.2.1.length≤n∧r.1.length+r.2.1.length+r.2.2.1.length+r.2.2.2.length=P.length+U.length+V.length+S.length∧r.1++(r.2.2.1++(r.2.1++r.2.2.2))=P++(V++(U++S)))
  (fun r=>[(10,.p (.int .i64 (r.2.1.length:Nat))),(11,.p (.int .i64 (r.2.2.1.length:Nat)))]) (fun r=>[([0],cellsR (r.1++(r.2.1++(r.2.2.1++r.2.2.2))))]) (fun r=>r.2.1.length+r.2.2.1.length) (P,U,V,S) ⟨by simp only;omega,by simp only;omega,by simp only;omega,by simp only;omega,by simp only;omega,rfl,rfl⟩ (by simp[go_sem,LeS,leV,leR,leA,leL,leL_refl,hU,hV]) (fun r hr=>?_)
 obtain⟨P',U',V',S'⟩:=r
 obtain⟨q1,q2,q3,q4,q5,q6,q7⟩:=hr
 simp only at q1 q2 q3 q4 q5 q6 q7
 have hM:(P'++(U'++(V'++S'))).length=P.length+U.length+V.length+S.length:=by simp;omega
 obtain⟨i,hi⟩:∃i,i=U'.length:=⟨_,rfl⟩
 obtain⟨j,hj⟩:∃j,j=V'.length:=⟨_,rfl⟩
 rw[←hi]at q1 q2 q4 q6
 rw[←hj]at q3 q5 q6
 have w3:IntKind.i64.wrap ((m:Int)-i)=((m-i:Nat):Int):=by rw[wrap64 (by omega) (by omega)];omega
 have w4:IntKind.i64.wrap ((m:Int)+j)=((m+j:Nat):Int):=by rw[wrap64 (by omega) (by omega)];omega
 have w5:j<i→IntKind.i64.wrap ((i:Int)-j)=((i-j:Nat):Int):=fun h=>by rw[wrap64 (by omega) (by omega)];omega
 have w6:i<j→IntKind.i64.wrap ((j:Int)-i)=((j-i:Nat):Int):=fun h=>by rw[wrap64 (by omega) (by omega)];omega
 have w7:i<j→IntKind.i64.wrap ((m:Int)+j-i)=((m+j-i:Nat):Int):=fun h=>by rw[wrap64 (by omega) (by omega)];omega
 simp only[←hi,←hj]
 simp (maxSteps:=1000000) [go_sem]
 refine condK_ifn (fun h=>?_) (fun h=>?_)
 ·have hij:i≠j:=fun e=>by simp[e]at h
  simp (maxSteps:=1000000) [go_sem]
  refine condK_if (fun h2=>?_) (fun h2=>?_)
  ·have hji:j<i:=by omega
   have w5':=w5 hji
   simp (maxSteps:=1000000) [go_sem,w3,w5']
   refine⟨⟨rfl,by simp[Tryz.f239]⟩,CallK_of [([0],[0]),([1],[1])] (swapRange_cr (P'++(U'++(V'++S'))) tab o n (m-i) (m) j (by omega) (by omega) (by omega) (by omega)) (by simp[go_sem,notHead]) ⟨by simp[go_sem],by simp[go_sem,cmpA]⟩ (by simp[go_sem]) ?_⟩
   rintro _ _ ⟨rfl,rfl⟩
   obtain⟨U1,U2,rfl,hu⟩:∃U1 U2,U'=U1++U2∧U1.length=j:=⟨U'.take j,U'.drop j,(List.take_append_drop _ _).symm,by simp;omega⟩
   have hu2:U2.length=i-j:=by simp at hi;omega
   have hsw:swapN (P'++(U1++U2++(V'++S'))) (o+(m-i)) (o+m) j=(P'++V')++(U2++(U1++S')):=by
    have e:=swapN_blocks P' U1 U2 V' S' (by omega)
    have e1:o+(m-i)=P'.length:=by omega
    have e2:o+m=P'.length+U1.length+U2.length:=by omega
    rw[e1,e2,←hu]
    simp only[List.append_assoc]at e⊢
    exact e
   rw[hsw]
   simp (maxSteps:=1000000) [go_sem,w5']
   refine LoopK_next (P'++V',U2,U1,S') ⟨by simp;omega,by simp only;omega,by simp only;omega,by simp only;omega,by simp only;omega,by simp;omega,by rw[←q7];simp⟩ (by simp[go_sem,LeS,leV,leR,leA,leL,leL_refl,hu,hu2,cmpA]) (by simp only[List.length_append];omega)
  ·have hji:i<j:=by omega
   have w6':=w6 hji
   have w7':=w7 hji
   simp (maxSteps:=1000000) [go_sem,w3,w4,w6',w7']
   refine⟨⟨rfl,by simp[Tryz.f239]⟩,CallK_of [([0],[0]),([1],[1])] (swapRange_cr (P'++(U'++(V'++S'))) tab o n (m-i) (m+j-i) i (by omega) (by omega) (by omega) (by omega)) (by simp[go_sem,notHead]) ⟨by simp[go_sem],by simp[go_sem,cmpA]⟩ (by simp[go_sem]) ?_⟩
   rintro _ _ ⟨rfl,rfl⟩
   obtain⟨V1,V2,rfl,hv⟩:∃V1 V2,V'=V1++V2∧V1.length=j-i:=⟨V'.take (j-i),V'.drop (j-i),(List.take_append_drop _ _).symm,by simp;omega⟩
   have hv2:V2.length=i:=by simp at hj;omega
   have hsw:swapN (P'++(U'++(V1++V2++S'))) (o+(m-i)) (o+(m+j-i)) i=P'++(V2++(V1++(U'++S'))):=by
    have e:=swapN_blocks P' U' V1 V2 S' (by omega)
    have e1:o+(m-i)=P'.length:=by omega
    have e2:o+(m+j-i)=P'.length+U'.length+V1.length:=by omega
    rw[e1,e2,hi]
    simp only[List.append_assoc]at e⊢
    exact e
   rw[hsw]
   simp (maxSteps:=1000000) [go_sem,w6']
   refine LoopK_next (P',V2,V1,U'++S') ⟨by simp only;omega,by simp only;omega,by simp only;omega,by simp only;omega,by simp only;omega,by simp;omega,by rw[←q7];simp⟩ (by simp[go_sem,LeS,leV,leR,leA,leL,leL_refl,hv,hv2,cmpA]) (by simp only;omega)
 ·have hij:i=j:=by
   have:(i:Int)=j:=by simpa using h
   omega
  simp (maxSteps:=1000000) [go_sem,w3]
  refine⟨⟨rfl,by simp[Tryz.f239]⟩,CallK_of [([0],[0]),([1],[1])] (swapRange_cr (P'++(U'++(V'++S'))) tab o n (m-i) (m) i (by omega) (by omega) (by omega) (by omega)) (by simp[go_sem,notHead]) ⟨by simp[go_sem],by simp[go_sem,cmpA]⟩ (by simp[go_sem]) ?_⟩
  rintro _ _ ⟨rfl,rfl⟩
  have hsw:swapN (P'++(U'++(V'++S'))) (o+(m-i)) (o+m) i=P'++(V'++(U'++S')):=by
   have e:=swapN_blocks P' U' [] V' S' (by omega)
   have e1:o+(m-i)=P'.length:=by omega
   have e2:o+m=P'.length+U'.length+([]:List Int).length:=by simp;omega
   rw[e1,e2,hi]
   exact e
  rw[hsw,q7]
  simp (maxSteps:=1000000) [go_sem]
  exact ret_keep [[0],[1]] (.tup []) ⟨rfl,by simp⟩ (by simp[go_sem,resOf,leA,leT]) ⟨rfl,by simp[go_sem]⟩
end Go.Proofs.YtjefahhmkcfiiaaGreat
end
section
namespace Go.Proofs.YtjefahhmkcfiiaaGreat
open Go.AM
set_option maxHeartbeats 4000000
set_option maxRecDepth 10000
theorem order_cr [Gi] {t:Tells4} {c b j f p:PV}(h:TabV t c b j f p)(hz:ZeroT t)(ck cx sk sx:List PV)(x y:Int)(hx: -2147483648≤x∧x<2147483648)(hy: -2147483648≤y∧y<2147483648):
  CR Tryz.prog 211 [[0]] [.p (.int .i32 x),.p (.int .i32 y),.lp [0] 0] [([0],[.p (tabP c b j f p ck cx sk sx)])] (fun r rs=>r=.p (.int .i64 (cmpI (t.cls (rn x)) (t.cls (rn y))))∧rs=[([0],[.p (tabP c b j f p ck cx sk sx)])]):=by
 refine CR_of_wpD [1] mixed 6 [] Tryz.func211 rfl (by kernel_rfl) rfl (by simp) (by simp) ?_
 simp[go_sem,Tryz.f211]
 refine HCallK_of (.p (.int .i64 (t.cls (rn x)))) rfl rfl (fun _=>pcallA_of 124 (classN_cr h ck cx sk sx hz hx) rfl ⟨rfl,by simp[Tryz.f124]⟩ ⟨by simp[go_sem],by simp[go_sem]⟩) ?_
 simp[go_sem]
 refine HCallK_of (.p (.int .i64 (t.cls (rn y)))) rfl rfl (fun _=>pcallA_of 124 (classN_cr h ck cx sk sx hz hy) rfl ⟨rfl,by simp[Tryz.f124]⟩ ⟨by simp[go_sem],by simp[go_sem]⟩) ?_
 simp[go_sem]
 refine HCallK_of (.p (.int .i64 (cmpI (t.cls (rn x)) (t.cls (rn y))))) rfl rfl (fun _=>pcallA_of 115 (compare_cr _ _) rfl ⟨rfl,by simp[Tryz.f115]⟩ ⟨by simp[go_sem],by simp[go_sem]⟩) ?_
 simp[go_sem]
 exact ret_keep [[0]] (.p (.int .i64 (cmpI (t.cls (rn x)) (t.cls (rn y))))) ⟨rfl,by simp⟩ (by simp[go_sem,resOf,leA,leT,leP]) ⟨rfl,by simp[go_sem]⟩
end Go.Proofs.YtjefahhmkcfiiaaGreat
end
