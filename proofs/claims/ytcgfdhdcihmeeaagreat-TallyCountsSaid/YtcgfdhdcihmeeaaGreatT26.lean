/- A part of the proof of this seat's statements, by an abstract machine: what each operation does to values, and what the law's functions compute. Conditions: as each law says. -/
import Derived.Test.YtcgfdhdcihmeeaaGreatT25
import Derived.Test.YtcgfdhdcihmeeaaGreatT18
section
namespace Go.Proofs.YtcgfdhdcihmeeaaGreat
open Go.AM
set_option maxHeartbeats 4000000
set_option maxRecDepth 10000
theorem Vt [Gi] {P:Program} {D:List Nat} {c y:Code} {Q:Exit→St→Prop} {S:St} {ι:Type}(inv:ι→Prop)(V:ι→List (Nat×AV))(R:ι→List (Tok×List AV))(h:wpA P D c (Yj S inv V R Q) S)
  (hr:∀i ts,inv i→wpA P D y Q (S.Ja (V i) (R i) ts)):wpA P D c (zab P D y Q) S:=
 Z6 c (fun e S' h=>by
  cases e with
  |normal=>obtain⟨i,ts,hi,rfl⟩:=h;exact hr i ts hi
  |_=>exact h) h
theorem zd6 [Gi] {P:Program} {ops:Array Oper} {rest:List Oper} {K:St→Prop} {S:St} {ι:Type}(inv:ι→Prop)(V:ι→List (Nat×AV))(R:ι→List (Tok×List AV))(h:Ze P ops rest S (fun S'=>∃i ts,inv i∧S'=S.Ja (V i) (R i) ts))
  (hk:∀i ts,inv i→K (S.Ja (V i) (R i) ts)):zld P ops rest K S:=
 vt (fun S' hx=>by obtain⟨i,ts,hi,e⟩:=hx;rw[e];exact hk i ts hi) h
def zF(a b:Int):Bool:=
 if a=1 then decide (b=2)
 else if a=2∨a=3 then false
 else if b=1∨b=2∨b=3 then false
 else if b=4∨b=5∨b=8 then true
 else if a=7 then true
 else if a=9 then decide (b=9) || decide (b=10) || decide (b=12) || decide (b=13)
 else if a=12∨a=10 then decide (b=10) || decide (b=11)
 else if a=13∨a=11 then decide (b=11)
 else false
theorem zgS [Gi](a b:Int):CR Tryz.prog 134 [] [.p (.int .i64 a),.p (.int .i64 b)] [] (is (.p (.bool (zF a b)))):=by
 refine zC mixed 55 [] Tryz.func134 rfl (by kernel_rfl) rfl (by simp) (by simp) ?_
 by_cases a1:a=1
 ·simp (maxSteps:=1000000) [go_sem,Tryz.f134,a1]
  exact zh (.p (.bool (zF a b))) rfl (by simp[go_sem,zf,leA,leT,zF,a1]) ⟨rfl,by first|rfl|simp[a1]⟩
 by_cases a2:a=2
 ·simp (maxSteps:=1000000) [go_sem,Tryz.f134,a2]
  exact zh (.p (.bool (zF a b))) rfl (by simp[go_sem,zf,leA,leT,zF,a2]) ⟨rfl,by first|rfl|simp[a2]⟩
 by_cases a3:a=3
 ·simp (maxSteps:=1000000) [go_sem,Tryz.f134,a3]
  exact zh (.p (.bool (zF a b))) rfl (by simp[go_sem,zf,leA,leT,zF,a3]) ⟨rfl,by first|rfl|simp[a3]⟩
 by_cases b1:b=1
 ·simp (maxSteps:=1000000) [go_sem,Tryz.f134,a1,a2,a3,b1]
  exact zh (.p (.bool (zF a b))) rfl (by simp[go_sem,zf,leA,leT,zF,a1,a2,a3,b1]) ⟨rfl,by first|rfl|simp[b1]⟩
 by_cases b2:b=2
 ·simp (maxSteps:=1000000) [go_sem,Tryz.f134,a1,a2,a3,b2]
  exact zh (.p (.bool (zF a b))) rfl (by simp[go_sem,zf,leA,leT,zF,a1,a2,a3,b2]) ⟨rfl,by first|rfl|simp[b2]⟩
 by_cases b3:b=3
 ·simp (maxSteps:=1000000) [go_sem,Tryz.f134,a1,a2,a3,b3]
  exact zh (.p (.bool (zF a b))) rfl (by simp[go_sem,zf,leA,leT,zF,a1,a2,a3,b3]) ⟨rfl,by first|rfl|simp[b3]⟩
 by_cases b4:b=4
 ·simp (maxSteps:=1000000) [go_sem,Tryz.f134,a1,a2,a3,b4]
  exact zh (.p (.bool (zF a b))) rfl (by simp[go_sem,zf,leA,leT,zF,a1,a2,a3,b4]) ⟨rfl,by first|rfl|simp[b4]⟩
 by_cases b5:b=5
 ·simp (maxSteps:=1000000) [go_sem,Tryz.f134,a1,a2,a3,b5]
  exact zh (.p (.bool (zF a b))) rfl (by simp[go_sem,zf,leA,leT,zF,a1,a2,a3,b5]) ⟨rfl,by first|rfl|simp[b5]⟩
 by_cases b8:b=8
 ·simp (maxSteps:=1000000) [go_sem,Tryz.f134,a1,a2,a3,b8]
  exact zh (.p (.bool (zF a b))) rfl (by simp[go_sem,zf,leA,leT,zF,a1,a2,a3,b8]) ⟨rfl,by first|rfl|simp[b8]⟩
 by_cases a7:a=7
 ·simp (maxSteps:=1000000) [go_sem,Tryz.f134,b1,b2,b3,b4,b5,b8,a7]
  exact zh (.p (.bool (zF a b))) rfl (by simp[go_sem,zf,leA,leT,zF,b1,b2,b3,b4,b5,b8,a7]) ⟨rfl,by first|rfl|simp[a7]⟩
 by_cases a9:a=9
 ·by_cases b9:b=9
  ·simp (maxSteps:=1000000) [go_sem,Tryz.f134,a9,b9]
   exact zh (.p (.bool (zF a b))) rfl (by simp[go_sem,zf,leA,leT,zF,a9,b9]) ⟨rfl,by first|rfl|simp[a9,b9]⟩
  by_cases b10:b=10
  ·simp (maxSteps:=1000000) [go_sem,Tryz.f134,a9,b10]
   exact zh (.p (.bool (zF a b))) rfl (by simp[go_sem,zf,leA,leT,zF,a9,b10]) ⟨rfl,by first|rfl|simp[a9,b10]⟩
  by_cases b12:b=12
  ·simp (maxSteps:=1000000) [go_sem,Tryz.f134,a9,b12]
   exact zh (.p (.bool (zF a b))) rfl (by simp[go_sem,zf,leA,leT,zF,a9,b12]) ⟨rfl,by first|rfl|simp[a9,b12]⟩
  by_cases b13:b=13
  ·simp (maxSteps:=1000000) [go_sem,Tryz.f134,a9,b13]
   exact zh (.p (.bool (zF a b))) rfl (by simp[go_sem,zf,leA,leT,zF,a9,b13]) ⟨rfl,by first|rfl|simp[a9,b13]⟩
  simp (maxSteps:=1000000) [go_sem,Tryz.f134,b1,b2,b3,b4,b5,b8,a9,b9,b10,b12,b13]
  exact zh (.p (.bool (zF a b))) rfl (by simp[go_sem,zf,leA,leT,zF,b1,b2,b3,b4,b5,b8,a9,b9,b10,b12,b13]) ⟨rfl,by first|rfl|simp[a9]⟩
 by_cases a12:a=12
 ·by_cases b10:b=10
  ·simp (maxSteps:=1000000) [go_sem,Tryz.f134,a12,b10]
   exact zh (.p (.bool (zF a b))) rfl (by simp[go_sem,zf,leA,leT,zF,a12,b10]) ⟨rfl,by first|rfl|simp[a12,b10]⟩
  by_cases b11:b=11
  ·simp (maxSteps:=1000000) [go_sem,Tryz.f134,a12,b11]
   exact zh (.p (.bool (zF a b))) rfl (by simp[go_sem,zf,leA,leT,zF,a12,b11]) ⟨rfl,by first|rfl|simp[a12,b11]⟩
  simp (maxSteps:=1000000) [go_sem,Tryz.f134,b1,b2,b3,b4,b5,b8,a12,b10,b11]
  exact zh (.p (.bool (zF a b))) rfl (by simp[go_sem,zf,leA,leT,zF,b1,b2,b3,b4,b5,b8,a12,b10,b11]) ⟨rfl,by first|rfl|simp[a12]⟩
 by_cases a10:a=10
 ·by_cases b10:b=10
  ·simp (maxSteps:=1000000) [go_sem,Tryz.f134,a10,b10]
   exact zh (.p (.bool (zF a b))) rfl (by simp[go_sem,zf,leA,leT,zF,a10,b10]) ⟨rfl,by first|rfl|simp[a10,b10]⟩
  by_cases b11:b=11
  ·simp (maxSteps:=1000000) [go_sem,Tryz.f134,a10,b11]
   exact zh (.p (.bool (zF a b))) rfl (by simp[go_sem,zf,leA,leT,zF,a10,b11]) ⟨rfl,by first|rfl|simp[a10,b11]⟩
  simp (maxSteps:=1000000) [go_sem,Tryz.f134,b1,b2,b3,b4,b5,b8,a10,b10,b11]
  exact zh (.p (.bool (zF a b))) rfl (by simp[go_sem,zf,leA,leT,zF,b1,b2,b3,b4,b5,b8,a10,b10,b11]) ⟨rfl,by first|rfl|simp[a10]⟩
 by_cases a13:a=13
 ·simp (maxSteps:=1000000) [go_sem,Tryz.f134,b1,b2,b3,b4,b5,b8,a13]
  exact zh (.p (.bool (zF a b))) rfl (by simp[go_sem,zf,leA,leT,zF,b1,b2,b3,b4,b5,b8,a13]) ⟨rfl,by first|rfl|simp[a13]⟩
 by_cases a11:a=11
 ·simp (maxSteps:=1000000) [go_sem,Tryz.f134,b1,b2,b3,b4,b5,b8,a11]
  exact zh (.p (.bool (zF a b))) rfl (by simp[go_sem,zf,leA,leT,zF,b1,b2,b3,b4,b5,b8,a11]) ⟨rfl,by first|rfl|simp[a11]⟩
 simp (maxSteps:=1000000) [go_sem,Tryz.f134,a1,a2,a3,b1,b2,b3,b4,b5,b8,a7,a9,a12,a10,a13,a11]
 exact zh (.p (.bool (zF a b))) rfl (by simp[go_sem,zf,leA,leT,zF,a1,a2,a3,b1,b2,b3,b4,b5,b8,a7,a9,a12,a10,a13,a11]) ⟨rfl,by first|rfl|simp[a1,a2,a3,b1,b2,b3,b4,b5,b8,a7,a9,a12,a10,a13,a11]⟩
structure yW where
 some:Bool
 last:Int
 pict:Int
 conj:Int
 odd:Bool
def yu(s:yW):PV:=.agg [.bool s.some,.int .i64 s.last,.int .i64 s.pict,.int .i64 s.conj,.bool s.odd]
def kl(s:yW)(b:Int)(p:Bool)(c:Int):Bool:=!zF s.last b&& !(decide (s.pict=2)&&p)&& !(decide (s.conj=2)&&decide (c=2))&& !(s.odd&&decide (b=6))
def qW(s:yW)(b:Int)(p:Bool)(c:Int):yW where
 some:=true
 last:=b
 pict:=if p then 1 else if s.pict=1∧b=4 then 1 else if s.pict=1∧b=5 then 2 else 0
 conj:=if c=2 then 1 else if s.conj≠0∧c=1 then 2 else if s.conj≠0∧c=3 then s.conj else 0
 odd:=decide (b=6)&&!s.odd
def Zf(t:qV)(s:yW)(r:Int):yW×Bool:=(qW s (xX t r) (t.flg (rn r)).p (UR t r),!s.some || kl s (xX t r) (t.flg (rn r)).p (UR t r))
theorem Ke [Gi] {t:qV} {c b j f p:PV}(h:WO t c b j f p)(hz:Uo t)(ck cx sk sx:List PV)(s:yW)(r:Int)(hr:zY r):
  CR Tryz.prog 100 [] [.p (yu s),.p (jE c b j f p ck cx sk sx),.p (.int .i32 r)] [] (is (.tup [.p (yu (Zf t s r).1),.p (.bool (Zf t s r).2)])):=by
 refine zC mixed 14 [] Tryz.func100 rfl (by kernel_rfl) rfl (by simp) (by simp) ?_
 simp (maxSteps:=1000000) [go_sem,Tryz.f100,yu,jE]
 refine⟨⟨rfl,by simp[Tryz.f128]⟩,zd [] (Vy h ck cx sk sx hz hr) (by simp[go_sem]) ⟨by simp[go_sem],by simp[go_sem,jE]⟩ (by simp[go_sem]) ?_⟩
 rintro _ rs ⟨rfl,rfl⟩
 simp (maxSteps:=1000000) [go_sem]
 refine⟨⟨rfl,by simp[Tryz.f132]⟩,zd [] (zcm h ck cx sk sx hz hr) (by simp[go_sem]) ⟨by simp[go_sem],by simp[go_sem,jE]⟩ (by simp[go_sem]) ?_⟩
 rintro _ rs ⟨rfl,rfl⟩
 simp (maxSteps:=1000000) [go_sem]
 refine⟨⟨rfl,by simp[Tryz.f133]⟩,zd [] (zh1 h ck cx sk sx hz hr) (by simp[go_sem]) ⟨by simp[go_sem],by simp[go_sem,jE]⟩ (by simp[go_sem]) ?_⟩
 rintro _ rs ⟨rfl,rfl⟩
 simp (maxSteps:=1000000) [go_sem]
 have hres:Zf t s r=(qW s (xX t r) (t.flg (rn r)).p (UR t r),!s.some || kl s (xX t r) (t.flg (rn r)).p (UR t r)):=rfl
 rw[hres]
 generalize xX t r=bk
 generalize (t.flg (rn r)).p=pi
 generalize UR t r=cj
 refine⟨⟨rfl,by simp[Tryz.f134]⟩,zd [] (zgS s.last bk) (by simp[go_sem]) ⟨by simp[go_sem],by simp[go_sem]⟩ (by simp[go_sem]) ?_⟩
 rintro _ rs ⟨rfl,rfl⟩
 refine zd6 (fun _:Unit=>True) (fun _=>[(11,.p (.bool (kl s bk pi cj)))]) (fun _=>[]) ?_ ?_
 ·cases hst:zF s.last bk with
  |true=>
   simp (maxSteps:=1000000) [go_sem]
   try simp[kl,hst]
  |false=>
   by_cases hp:s.pict=2
   ·cases hpi:pi with
    |true=>
     simp (maxSteps:=1000000) [go_sem,hp]
     try simp[kl,hst,hp]
    |false=>
     by_cases hc:s.conj=2
     ·by_cases hc2:cj=2
      ·simp (maxSteps:=1000000) [go_sem,hp,hc,hc2]
       try simp[kl,hst,hp,hc]
      ·cases ho:s.odd with
       |false=>
        simp (maxSteps:=1000000) [go_sem,hp,hc,hc2]
        try simp[kl,hst,hp,hc,hc2,ho]
       |true=>
        by_cases hb:bk=6
        ·simp (maxSteps:=1000000) [go_sem,hp,hc,hc2,hb]
         try simp[kl,hp,hc,hc2,ho]
        ·simp (maxSteps:=1000000) [go_sem,hp,hc,hc2,hb]
         try simp[kl,hst,hp,hc,hc2,ho,hb]
     ·cases ho:s.odd with
      |false=>
       simp (maxSteps:=1000000) [go_sem,hp,hc]
       try simp[kl,hst,hp,hc,ho]
      |true=>
       by_cases hb:bk=6
       ·simp (maxSteps:=1000000) [go_sem,hp,hc,hb]
        try simp[kl,hp,hc,ho]
       ·simp (maxSteps:=1000000) [go_sem,hp,hc,hb]
        try simp[kl,hst,hp,hc,ho,hb]
   ·by_cases hc:s.conj=2
    ·by_cases hc2:cj=2
     ·simp (maxSteps:=1000000) [go_sem,hp,hc,hc2]
      try simp[kl,hst,hp,hc]
     ·cases ho:s.odd with
      |false=>
       simp (maxSteps:=1000000) [go_sem,hp,hc,hc2]
       try simp[kl,hst,hp,hc,hc2,ho]
      |true=>
       by_cases hb:bk=6
       ·simp (maxSteps:=1000000) [go_sem,hp,hc,hc2,hb]
        try simp[kl,hp,hc,hc2,ho]
       ·simp (maxSteps:=1000000) [go_sem,hp,hc,hc2,hb]
        try simp[kl,hst,hp,hc,hc2,ho,hb]
    ·cases ho:s.odd with
     |false=>
      simp (maxSteps:=1000000) [go_sem,hp,hc]
      try simp[kl,hst,hp,hc,ho]
     |true=>
      by_cases hb:bk=6
      ·simp (maxSteps:=1000000) [go_sem,hp,hc,hb]
       try simp[kl,hp,hc,ho]
      ·simp (maxSteps:=1000000) [go_sem,hp,hc,hb]
       try simp[kl,hst,hp,hc,ho,hb]
 ·rintro _ ts _
  simp only[zb8]
  rw[XA]
  refine Vt (fun _:Unit=>True) (fun _=>[(12,.lp [12] 0)]) (fun _=>[([12],[.p (.bool true),.p (.int .i64 bk),.p (.int .i64 0),.p (.int .i64 0),.p (.bool (decide (bk=6)&&!s.odd))])]) ?_ ?_
  ·by_cases hb:bk=6
   ·cases ho:s.odd with
    |true=>
     simp (maxSteps:=1000000) [go_sem,hb]
     exact zP () trivial (by simp[go_sem])
    |false=>
     simp (maxSteps:=1000000) [go_sem,hb]
     exact zP () trivial (by simp[go_sem])
   ·simp (maxSteps:=1000000) [go_sem,hb]
    exact zP () trivial (by simp[go_sem])
  ·rintro _ ts2 _
   rw[XA]
   obtain⟨np,hnp⟩:∃np,np=(qW s bk pi cj).pict:=⟨_,rfl⟩
   refine Vt (fun _:Unit=>True) (fun _=>[]) (fun _=>[([12],[.p (.bool true),.p (.int .i64 bk),.p (.int .i64 np),.p (.int .i64 0),.p (.bool (decide (bk=6)&&!s.odd))])]) ?_ ?_
   ·cases hpi:pi with
    |true=>
     have e:np=1:=by rw[hnp];simp[qW,hpi]
     simp (maxSteps:=1000000) [go_sem]
     exact zP () trivial (by simp[go_sem,e])
    |false=>
     by_cases hp:s.pict=1
     ·by_cases hb4:bk=4
      ·have e:np=1:=by rw[hnp];simp[qW,hpi,hp,hb4]
       simp (maxSteps:=1000000) [go_sem,hp,hb4]
       exact zP () trivial (by simp[go_sem,e])
      ·by_cases hb5:bk=5
       ·have e:np=2:=by rw[hnp];simp[qW,hpi,hp,hb5]
        simp (maxSteps:=1000000) [go_sem,hp,hb5]
        exact zP () trivial (by simp[go_sem,e])
       ·have e:np=0:=by rw[hnp];simp[qW,hpi,hp,hb4,hb5]
        simp (maxSteps:=1000000) [go_sem,hp,hb4,hb5]
        exact zP () trivial (by simp[go_sem,e])
     ·have e:np=0:=by rw[hnp];simp[qW,hpi,hp]
      simp (maxSteps:=1000000) [go_sem,hp]
      exact zP () trivial (by simp[go_sem,e])
   ·rintro _ ts3 _
    rw[XA]
    obtain⟨nc,hnc⟩:∃nc,nc=(qW s bk pi cj).conj:=⟨_,rfl⟩
    refine Vt (fun _:Unit=>True) (fun _=>[]) (fun _=>[([12],[.p (.bool true),.p (.int .i64 bk),.p (.int .i64 np),.p (.int .i64 nc),.p (.bool (decide (bk=6)&&!s.odd))])]) ?_ ?_
    ·by_cases hc:cj=2
     ·have e:nc=1:=by rw[hnc];simp[qW,hc]
      simp (maxSteps:=1000000) [go_sem,hc]
      exact zP () trivial (by simp[go_sem,e])
     ·by_cases hz0:s.conj=0
      ·have e:nc=0:=by rw[hnc];simp[qW,hc,hz0]
       simp (maxSteps:=1000000) [go_sem,hc,hz0]
       exact zP () trivial (by simp[go_sem,e])
      ·by_cases hc1:cj=1
       ·have e:nc=2:=by rw[hnc];simp[qW,hz0,hc1]
        simp (maxSteps:=1000000) [go_sem,hz0,hc1]
        exact zP () trivial (by simp[go_sem,e])
       ·by_cases hc3:cj=3
        ·have e:nc=s.conj:=by rw[hnc];simp[qW,hz0,hc3]
         simp (maxSteps:=1000000) [go_sem,hz0,hc3]
         exact zP () trivial (by simp[go_sem,e])
        ·have e:nc=0:=by rw[hnc];simp[qW,hc,hz0,hc1,hc3]
         simp (maxSteps:=1000000) [go_sem,hc,hz0,hc1,hc3]
         exact zP () trivial (by simp[go_sem,e])
    ·rintro _ ts4 _
     have hno:(qW s bk pi cj).odd=(decide (bk=6)&&!s.odd):=rfl
     have hns:(qW s bk pi cj).some=true:=rfl
     have hnl:(qW s bk pi cj).last=bk:=rfl
     cases hso:s.some with
     |true=>
      simp (maxSteps:=1000000) [go_sem]
      exact zh (.tup [.p (yu (qW s bk pi cj)),.p (.bool (!s.some || kl s bk pi cj))]) rfl (by simp[go_sem,zf,leA,leT,leP,yu,hso,hno,hns,hnl,←hnp,←hnc]) ⟨rfl,by simp[yu,hso]⟩
     |false=>
      simp (maxSteps:=1000000) [go_sem]
      exact zh (.tup [.p (yu (qW s bk pi cj)),.p (.bool (!s.some || kl s bk pi cj))]) rfl (by simp[go_sem,zf,leA,leT,leP,yu,hso,hno,hns,hnl,←hnp,←hnc]) ⟨rfl,by simp[yu,hso]⟩
end Go.Proofs.YtcgfdhdcihmeeaaGreat
end
