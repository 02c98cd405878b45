/- A part of this seat's proofs, by an abstract machine. Conditions: each law's. -/
import Derived.Test.YtfjdbbpimklecaaGreatDoorT26
import Derived.Test.YtfjdbbpimklecaaGreatDoorT19
import Derived.Test.YtfjdbbpimklecaaGreatDoorT16
import Derived.Test.YtfjdbbpimklecaaGreatDoorT18
import Derived.Test.YtfjdbbpimklecaaGreatDoorT17
set_option maxHeartbeats 4000000
set_option maxRecDepth 10000
namespace Go.Proofs.YtfjdbbpimklecaaGreatDoor
section
open Go.AM
theorem Uo [Gi] {P:Program} {D:List Nat} {c y:Code} {Q:Exit→St→Prop} {S:St} {ι:Type}(inv:ι→Prop)(V:ι→List (Nat×AV))(R:ι→List (Tok×List AV))(h:wpA P D c (Kt S inv V R Q) S)
  (hr:∀i ts,inv i→wpA P D y Q (S.KA (V i) (R i) ts)):wpA P D c (zbK P D y Q) S:=
 ZO c (fun e S' h=>by
  cases e with
  |normal=>obtain⟨i,ts,hi,rfl⟩:=h;exact hr i ts hi
  |_=>exact h) h
theorem zfj [Gi] {P:Program} {ops:Array Oper} {rest:List Oper} {K:St→Prop} {S:St} {ι:Type}(inv:ι→Prop)(V:ι→List (Nat×AV))(R:ι→List (Tok×List AV))(h:Zu P ops rest S (fun S'=>∃i ts,inv i∧S'=S.KA (V i) (R i) ts))
  (hk:∀i ts,inv i→K (S.KA (V i) (R i) ts)):zoj P ops rest K S:=
 uy (fun S' hx=>by obtain⟨i,ts,hi,e⟩:=hx;rw[e];exact hk i ts hi) h
def zI(a b:Int):Bool:=
 if a=1 then decide (b=2)
 else if a=2∨a=3 then false
 else if b=1∨b=2∨b=3 then false
 else if b=4∨b=5∨b=8 then true
 else if a=7 then true
 else if a=9 then decide (b=9) || decide (b=10) || decide (b=12) || decide (b=13)
 else if a=12∨a=10 then decide (b=10) || decide (b=11)
 else if a=13∨a=11 then decide (b=11)
 else false
theorem zhF [Gi](a b:Int):CR Tryz.prog 213 [] [.p (.int .i64 a),.p (.int .i64 b)] [] (is (.p (.bool (zI a b)))):=by
 refine zx mixed 55 [] Tryz.func213 rfl (by kernel_rfl) rfl (by simp) (by simp) ?_
 by_cases a1:a=1
 ·simp (maxSteps:=1000000) [go_sem,Tryz.f213,a1]
  exact zg (.p (.bool (zI a b))) rfl (by simp[go_sem,zf,leA,leT,zI,a1]) ⟨rfl,by first|rfl|simp[a1]⟩
 by_cases a2:a=2
 ·simp (maxSteps:=1000000) [go_sem,Tryz.f213,a2]
  exact zg (.p (.bool (zI a b))) rfl (by simp[go_sem,zf,leA,leT,zI,a2]) ⟨rfl,by first|rfl|simp[a2]⟩
 by_cases a3:a=3
 ·simp (maxSteps:=1000000) [go_sem,Tryz.f213,a3]
  exact zg (.p (.bool (zI a b))) rfl (by simp[go_sem,zf,leA,leT,zI,a3]) ⟨rfl,by first|rfl|simp[a3]⟩
 by_cases b1:b=1
 ·simp (maxSteps:=1000000) [go_sem,Tryz.f213,a1,a2,a3,b1]
  exact zg (.p (.bool (zI a b))) rfl (by simp[go_sem,zf,leA,leT,zI,a1,a2,a3,b1]) ⟨rfl,by first|rfl|simp[b1]⟩
 by_cases b2:b=2
 ·simp (maxSteps:=1000000) [go_sem,Tryz.f213,a1,a2,a3,b2]
  exact zg (.p (.bool (zI a b))) rfl (by simp[go_sem,zf,leA,leT,zI,a1,a2,a3,b2]) ⟨rfl,by first|rfl|simp[b2]⟩
 by_cases b3:b=3
 ·simp (maxSteps:=1000000) [go_sem,Tryz.f213,a1,a2,a3,b3]
  exact zg (.p (.bool (zI a b))) rfl (by simp[go_sem,zf,leA,leT,zI,a1,a2,a3,b3]) ⟨rfl,by first|rfl|simp[b3]⟩
 by_cases b4:b=4
 ·simp (maxSteps:=1000000) [go_sem,Tryz.f213,a1,a2,a3,b4]
  exact zg (.p (.bool (zI a b))) rfl (by simp[go_sem,zf,leA,leT,zI,a1,a2,a3,b4]) ⟨rfl,by first|rfl|simp[b4]⟩
 by_cases b5:b=5
 ·simp (maxSteps:=1000000) [go_sem,Tryz.f213,a1,a2,a3,b5]
  exact zg (.p (.bool (zI a b))) rfl (by simp[go_sem,zf,leA,leT,zI,a1,a2,a3,b5]) ⟨rfl,by first|rfl|simp[b5]⟩
 by_cases b8:b=8
 ·simp (maxSteps:=1000000) [go_sem,Tryz.f213,a1,a2,a3,b8]
  exact zg (.p (.bool (zI a b))) rfl (by simp[go_sem,zf,leA,leT,zI,a1,a2,a3,b8]) ⟨rfl,by first|rfl|simp[b8]⟩
 by_cases a7:a=7
 ·simp (maxSteps:=1000000) [go_sem,Tryz.f213,b1,b2,b3,b4,b5,b8,a7]
  exact zg (.p (.bool (zI a b))) rfl (by simp[go_sem,zf,leA,leT,zI,b1,b2,b3,b4,b5,b8,a7]) ⟨rfl,by first|rfl|simp[a7]⟩
 by_cases a9:a=9
 ·by_cases b9:b=9
  ·simp (maxSteps:=1000000) [go_sem,Tryz.f213,a9,b9]
   exact zg (.p (.bool (zI a b))) rfl (by simp[go_sem,zf,leA,leT,zI,a9,b9]) ⟨rfl,by first|rfl|simp[a9,b9]⟩
  by_cases b10:b=10
  ·simp (maxSteps:=1000000) [go_sem,Tryz.f213,a9,b10]
   exact zg (.p (.bool (zI a b))) rfl (by simp[go_sem,zf,leA,leT,zI,a9,b10]) ⟨rfl,by first|rfl|simp[a9,b10]⟩
  by_cases b12:b=12
  ·simp (maxSteps:=1000000) [go_sem,Tryz.f213,a9,b12]
   exact zg (.p (.bool (zI a b))) rfl (by simp[go_sem,zf,leA,leT,zI,a9,b12]) ⟨rfl,by first|rfl|simp[a9,b12]⟩
  by_cases b13:b=13
  ·simp (maxSteps:=1000000) [go_sem,Tryz.f213,a9,b13]
   exact zg (.p (.bool (zI a b))) rfl (by simp[go_sem,zf,leA,leT,zI,a9,b13]) ⟨rfl,by first|rfl|simp[a9,b13]⟩
  simp (maxSteps:=1000000) [go_sem,Tryz.f213,b1,b2,b3,b4,b5,b8,a9,b9,b10,b12,b13]
  exact zg (.p (.bool (zI a b))) rfl (by simp[go_sem,zf,leA,leT,zI,b1,b2,b3,b4,b5,b8,a9,b9,b10,b12,b13]) ⟨rfl,by first|rfl|simp[a9]⟩
 by_cases a12:a=12
 ·by_cases b10:b=10
  ·simp (maxSteps:=1000000) [go_sem,Tryz.f213,a12,b10]
   exact zg (.p (.bool (zI a b))) rfl (by simp[go_sem,zf,leA,leT,zI,a12,b10]) ⟨rfl,by first|rfl|simp[a12,b10]⟩
  by_cases b11:b=11
  ·simp (maxSteps:=1000000) [go_sem,Tryz.f213,a12,b11]
   exact zg (.p (.bool (zI a b))) rfl (by simp[go_sem,zf,leA,leT,zI,a12,b11]) ⟨rfl,by first|rfl|simp[a12,b11]⟩
  simp (maxSteps:=1000000) [go_sem,Tryz.f213,b1,b2,b3,b4,b5,b8,a12,b10,b11]
  exact zg (.p (.bool (zI a b))) rfl (by simp[go_sem,zf,leA,leT,zI,b1,b2,b3,b4,b5,b8,a12,b10,b11]) ⟨rfl,by first|rfl|simp[a12]⟩
 by_cases a10:a=10
 ·by_cases b10:b=10
  ·simp (maxSteps:=1000000) [go_sem,Tryz.f213,a10,b10]
   exact zg (.p (.bool (zI a b))) rfl (by simp[go_sem,zf,leA,leT,zI,a10,b10]) ⟨rfl,by first|rfl|simp[a10,b10]⟩
  by_cases b11:b=11
  ·simp (maxSteps:=1000000) [go_sem,Tryz.f213,a10,b11]
   exact zg (.p (.bool (zI a b))) rfl (by simp[go_sem,zf,leA,leT,zI,a10,b11]) ⟨rfl,by first|rfl|simp[a10,b11]⟩
  simp (maxSteps:=1000000) [go_sem,Tryz.f213,b1,b2,b3,b4,b5,b8,a10,b10,b11]
  exact zg (.p (.bool (zI a b))) rfl (by simp[go_sem,zf,leA,leT,zI,b1,b2,b3,b4,b5,b8,a10,b10,b11]) ⟨rfl,by first|rfl|simp[a10]⟩
 by_cases a13:a=13
 ·simp (maxSteps:=1000000) [go_sem,Tryz.f213,b1,b2,b3,b4,b5,b8,a13]
  exact zg (.p (.bool (zI a b))) rfl (by simp[go_sem,zf,leA,leT,zI,b1,b2,b3,b4,b5,b8,a13]) ⟨rfl,by first|rfl|simp[a13]⟩
 by_cases a11:a=11
 ·simp (maxSteps:=1000000) [go_sem,Tryz.f213,b1,b2,b3,b4,b5,b8,a11]
  exact zg (.p (.bool (zI a b))) rfl (by simp[go_sem,zf,leA,leT,zI,b1,b2,b3,b4,b5,b8,a11]) ⟨rfl,by first|rfl|simp[a11]⟩
 simp (maxSteps:=1000000) [go_sem,Tryz.f213,a1,a2,a3,b1,b2,b3,b4,b5,b8,a7,a9,a12,a10,a13,a11]
 exact zg (.p (.bool (zI a b))) rfl (by simp[go_sem,zf,leA,leT,zI,a1,a2,a3,b1,b2,b3,b4,b5,b8,a7,a9,a12,a10,a13,a11]) ⟨rfl,by first|rfl|simp[a1,a2,a3,b1,b2,b3,b4,b5,b8,a7,a9,a12,a10,a13,a11]⟩
structure xD where
 some:Bool
 last:Int
 pict:Int
 conj:Int
 odd:Bool
def yZ(s:xD):PV:=.agg [.bool s.some,.int .i64 s.last,.int .i64 s.pict,.int .i64 s.conj,.bool s.odd]
def kY(s:xD)(b:Int)(p:Bool)(c:Int):Bool:=!zI s.last b&& !(decide (s.pict=2)&&p)&& !(decide (s.conj=2)&&decide (c=2))&& !(s.odd&&decide (b=6))
def Zn(s:xD)(b:Int)(p:Bool)(c:Int):xD where
 some:=true
 last:=b
 pict:=if p then 1 else if s.pict=1∧b=4 then 1 else if s.pict=1∧b=5 then 2 else 0
 conj:=if c=2 then 1 else if s.conj≠0∧c=1 then 2 else if s.conj≠0∧c=3 then s.conj else 0
 odd:=decide (b=6)&&!s.odd
def ZC(t:Zm)(s:xD)(r:Int):xD×Bool:=(Zn s (wO t r) (t.flg (rn r)).p (KG t r),!s.some || kY s (wO t r) (t.flg (rn r)).p (KG t r))
theorem K4 [Gi] {t:Zm} {c b j f p:PV}(h:VL t c b j f p)(hz:Kp t)(ck cx sk sx:List PV)(s:xD)(r:Int)(hr:qg r):
  CR Tryz.prog 171 [] [.p (yZ s),.p (kd c b j f p ck cx sk sx),.p (.int .i32 r)] [] (is (.tup [.p (yZ (ZC t s r).1),.p (.bool (ZC t s r).2)])):=by
 refine zx mixed 14 [] Tryz.func171 rfl (by kernel_rfl) rfl (by simp) (by simp) ?_
 simp (maxSteps:=1000000) [go_sem,Tryz.f171,yZ,kd]
 refine⟨⟨rfl,by simp[Tryz.f209]⟩,zd [] (VZ h ck cx sk sx hz hr) (by simp[go_sem]) ⟨by simp[go_sem],by simp[go_sem,kd]⟩ (by simp[go_sem]) ?_⟩
 rintro _ rs ⟨rfl,rfl⟩
 simp (maxSteps:=1000000) [go_sem]
 refine⟨⟨rfl,by simp[Tryz.f211]⟩,zd [] (zd0 h ck cx sk sx hz hr) (by simp[go_sem]) ⟨by simp[go_sem],by simp[go_sem,kd]⟩ (by simp[go_sem]) ?_⟩
 rintro _ rs ⟨rfl,rfl⟩
 simp (maxSteps:=1000000) [go_sem]
 refine⟨⟨rfl,by simp[Tryz.f212]⟩,zd [] (zja h ck cx sk sx hz hr) (by simp[go_sem]) ⟨by simp[go_sem],by simp[go_sem,kd]⟩ (by simp[go_sem]) ?_⟩
 rintro _ rs ⟨rfl,rfl⟩
 simp (maxSteps:=1000000) [go_sem]
 have hres:ZC t s r=(Zn s (wO t r) (t.flg (rn r)).p (KG t r),!s.some || kY s (wO t r) (t.flg (rn r)).p (KG t r)):=rfl
 rw[hres]
 generalize wO t r=bk
 generalize (t.flg (rn r)).p=pi
 generalize KG t r=cj
 refine⟨⟨rfl,by simp[Tryz.f213]⟩,zd [] (zhF s.last bk) (by simp[go_sem]) ⟨by simp[go_sem],by simp[go_sem]⟩ (by simp[go_sem]) ?_⟩
 rintro _ rs ⟨rfl,rfl⟩
 refine zfj (fun _:Unit=>True) (fun _=>[(11,.p (.bool (kY s bk pi cj)))]) (fun _=>[]) ?_ ?_
 ·cases hst:zI s.last bk with
  |true=>
   simp (maxSteps:=1000000) [go_sem]
   try simp[kY,hst]
  |false=>
   by_cases hp:s.pict=2
   ·cases hpi:pi with
    |true=>
     simp (maxSteps:=1000000) [go_sem,hp]
     try simp[kY,hst,hp]
    |false=>
     by_cases hc:s.conj=2
     ·by_cases hc2:cj=2
      ·simp (maxSteps:=1000000) [go_sem,hp,hc,hc2]
       try simp[kY,hst,hp,hc]
      ·cases ho:s.odd with
       |false=>
        simp (maxSteps:=1000000) [go_sem,hp,hc,hc2]
        try simp[kY,hst,hp,hc,hc2,ho]
       |true=>
        by_cases hb:bk=6
        ·simp (maxSteps:=1000000) [go_sem,hp,hc,hc2,hb]
         try simp[kY,hp,hc,hc2,ho]
        ·simp (maxSteps:=1000000) [go_sem,hp,hc,hc2,hb]
         try simp[kY,hst,hp,hc,hc2,ho,hb]
     ·cases ho:s.odd with
      |false=>
       simp (maxSteps:=1000000) [go_sem,hp,hc]
       try simp[kY,hst,hp,hc,ho]
      |true=>
       by_cases hb:bk=6
       ·simp (maxSteps:=1000000) [go_sem,hp,hc,hb]
        try simp[kY,hp,hc,ho]
       ·simp (maxSteps:=1000000) [go_sem,hp,hc,hb]
        try simp[kY,hst,hp,hc,ho,hb]
   ·by_cases hc:s.conj=2
    ·by_cases hc2:cj=2
     ·simp (maxSteps:=1000000) [go_sem,hp,hc,hc2]
      try simp[kY,hst,hp,hc]
     ·cases ho:s.odd with
      |false=>
       simp (maxSteps:=1000000) [go_sem,hp,hc,hc2]
       try simp[kY,hst,hp,hc,hc2,ho]
      |true=>
       by_cases hb:bk=6
       ·simp (maxSteps:=1000000) [go_sem,hp,hc,hc2,hb]
        try simp[kY,hp,hc,hc2,ho]
       ·simp (maxSteps:=1000000) [go_sem,hp,hc,hc2,hb]
        try simp[kY,hst,hp,hc,hc2,ho,hb]
    ·cases ho:s.odd with
     |false=>
      simp (maxSteps:=1000000) [go_sem,hp,hc]
      try simp[kY,hst,hp,hc,ho]
     |true=>
      by_cases hb:bk=6
      ·simp (maxSteps:=1000000) [go_sem,hp,hc,hb]
       try simp[kY,hp,hc,ho]
      ·simp (maxSteps:=1000000) [go_sem,hp,hc,hb]
       try simp[kY,hst,hp,hc,ho,hb]
 ·rintro _ ts _
  simp only[zcc]
  rw[za7]
  refine Uo (fun _:Unit=>True) (fun _=>[(12,.lp [12] 0)]) (fun _=>[([12],[.p (.bool true),.p (.int .i64 bk),.p (.int .i64 0),.p (.int .i64 0),.p (.bool (decide (bk=6)&&!s.odd))])]) ?_ ?_
  ·by_cases hb:bk=6
   ·cases ho:s.odd with
    |true=>
     simp (maxSteps:=1000000) [go_sem,hb]
     exact zO () trivial (by simp[go_sem])
    |false=>
     simp (maxSteps:=1000000) [go_sem,hb]
     exact zO () trivial (by simp[go_sem])
   ·simp (maxSteps:=1000000) [go_sem,hb]
    exact zO () trivial (by simp[go_sem])
  ·rintro _ ts2 _
   rw[za7]
   obtain⟨np,hnp⟩:∃np,np=(Zn s bk pi cj).pict:=⟨_,rfl⟩
   refine Uo (fun _:Unit=>True) (fun _=>[]) (fun _=>[([12],[.p (.bool true),.p (.int .i64 bk),.p (.int .i64 np),.p (.int .i64 0),.p (.bool (decide (bk=6)&&!s.odd))])]) ?_ ?_
   ·cases hpi:pi with
    |true=>
     have e:np=1:=by rw[hnp];simp[Zn,hpi]
     simp (maxSteps:=1000000) [go_sem]
     exact zO () trivial (by simp[go_sem,e])
    |false=>
     by_cases hp:s.pict=1
     ·by_cases hb4:bk=4
      ·have e:np=1:=by rw[hnp];simp[Zn,hpi,hp,hb4]
       simp (maxSteps:=1000000) [go_sem,hp,hb4]
       exact zO () trivial (by simp[go_sem,e])
      ·by_cases hb5:bk=5
       ·have e:np=2:=by rw[hnp];simp[Zn,hpi,hp,hb5]
        simp (maxSteps:=1000000) [go_sem,hp,hb5]
        exact zO () trivial (by simp[go_sem,e])
       ·have e:np=0:=by rw[hnp];simp[Zn,hpi,hp,hb4,hb5]
        simp (maxSteps:=1000000) [go_sem,hp,hb4,hb5]
        exact zO () trivial (by simp[go_sem,e])
     ·have e:np=0:=by rw[hnp];simp[Zn,hpi,hp]
      simp (maxSteps:=1000000) [go_sem,hp]
      exact zO () trivial (by simp[go_sem,e])
   ·rintro _ ts3 _
    rw[za7]
    obtain⟨nc,hnc⟩:∃nc,nc=(Zn s bk pi cj).conj:=⟨_,rfl⟩
    refine Uo (fun _:Unit=>True) (fun _=>[]) (fun _=>[([12],[.p (.bool true),.p (.int .i64 bk),.p (.int .i64 np),.p (.int .i64 nc),.p (.bool (decide (bk=6)&&!s.odd))])]) ?_ ?_
    ·by_cases hc:cj=2
     ·have e:nc=1:=by rw[hnc];simp[Zn,hc]
      simp (maxSteps:=1000000) [go_sem,hc]
      exact zO () trivial (by simp[go_sem,e])
     ·by_cases hz0:s.conj=0
      ·have e:nc=0:=by rw[hnc];simp[Zn,hc,hz0]
       simp (maxSteps:=1000000) [go_sem,hc,hz0]
       exact zO () trivial (by simp[go_sem,e])
      ·by_cases hc1:cj=1
       ·have e:nc=2:=by rw[hnc];simp[Zn,hz0,hc1]
        simp (maxSteps:=1000000) [go_sem,hz0,hc1]
        exact zO () trivial (by simp[go_sem,e])
       ·by_cases hc3:cj=3
        ·have e:nc=s.conj:=by rw[hnc];simp[Zn,hz0,hc3]
         simp (maxSteps:=1000000) [go_sem,hz0,hc3]
         exact zO () trivial (by simp[go_sem,e])
        ·have e:nc=0:=by rw[hnc];simp[Zn,hc,hz0,hc1,hc3]
         simp (maxSteps:=1000000) [go_sem,hc,hz0,hc1,hc3]
         exact zO () trivial (by simp[go_sem,e])
    ·rintro _ ts4 _
     have hno:(Zn s bk pi cj).odd=(decide (bk=6)&&!s.odd):=rfl
     have hns:(Zn s bk pi cj).some=true:=rfl
     have hnl:(Zn s bk pi cj).last=bk:=rfl
     cases hso:s.some with
     |true=>
      simp (maxSteps:=1000000) [go_sem]
      exact zg (.tup [.p (yZ (Zn s bk pi cj)),.p (.bool (!s.some || kY s bk pi cj))]) rfl (by simp[go_sem,zf,leA,leT,leP,yZ,hso,hno,hns,hnl,←hnp,←hnc]) ⟨rfl,by simp[yZ,hso]⟩
     |false=>
      simp (maxSteps:=1000000) [go_sem]
      exact zg (.tup [.p (yZ (Zn s bk pi cj)),.p (.bool (!s.some || kY s bk pi cj))]) rfl (by simp[go_sem,zf,leA,leT,leP,yZ,hso,hno,hns,hnl,←hnp,←hnc]) ⟨rfl,by simp[yZ,hso]⟩
def zbi(M:List Int):List AV:=(M.map fun r=>PV.int .i32 r).map .p
end
section
end
section
open Go.AM
end
section
end
section
open Go.AM
structure zrn(a m e mid z s0 r0:Nat):Prop where
 lo:a≤s0
 hi:z≤s0+e
 le:s0≤r0
 lm:r0≤m
 lmid:r0≤mid
 first:∀i,s0≤i→a<i→mid+m<i+e→s0<i
 last:∀i,i≤r0→i<m→i<mid→i<r0
structure zro(a m e mid z s0 r0 i k g g2:Nat):Prop where
 ig:i≤g
 gk:g<k
 ag:a≤g
 gm:g<m
 gmid:g<mid
 mg:m≤g2
 ge:g2<e
 eq:z-1=g2+g
 e1:mid-1-g=g2-m
 e2:mid- (g+1)=g2-m
end
end Go.Proofs.YtfjdbbpimklecaaGreatDoor
