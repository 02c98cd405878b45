/- A part of this seat's proofs, by an abstract machine. Conditions: each law's. -/
import Derived.Test.YtfjdbbpimklecaaGreatDoorV24
import Derived.Test.YtfjdbbpimklecaaGreatDoorV18
import Derived.Test.YtfjdbbpimklecaaGreatDoorV16
import Derived.Test.YtfjdbbpimklecaaGreatDoorV17
set_option maxHeartbeats 4000000
set_option maxRecDepth 10000
namespace Go.Proofs.YtfjdbbpimklecaaGreatDoor
section
open Go.AM
theorem Wl [Gi] {P:Program} {D:List Nat} {c y:Code} {Q:Exit→St→Prop} {S:St} {ι:Type}(inv:ι→Prop)(V:ι→List (Nat×AV))(R:ι→List (Tok×List AV))(h:wpA P D c (KW S inv V R Q) S)
  (hr:∀i ts,inv i→wpA P D y Q (S.UC (V i) (R i) ts)):wpA P D c (zbo P D y Q) S:=
 Qi c (fun e S' h=>by
  cases e with
  |normal=>obtain⟨i,ts,hi,rfl⟩:=h;exact hr i ts hi
  |_=>exact h) h
theorem zaG [Gi] {P:Program} {ops:Array Oper} {rest:List Oper} {K:St→Prop} {S:St} {ι:Type}(inv:ι→Prop)(V:ι→List (Nat×AV))(R:ι→List (Tok×List AV))(h:ZW P ops rest S (fun S'=>∃i ts,inv i∧S'=S.UC (V i) (R i) ts))
  (hk:∀i ts,inv i→K (S.UC (V i) (R i) ts)):zi0 P ops rest K S:=
 wh (fun S' hx=>by obtain⟨i,ts,hi,e⟩:=hx;rw[e];exact hk i ts hi) h
def zC(a b:Int):Bool:=
 if a=1 then decide (b=2)
 else if a=2∨a=3 then false
 else if b=1∨b=2∨b=3 then false
 else if b=4∨b=5∨b=8 then true
 else if a=7 then true
 else if a=9 then decide (b=9) || decide (b=10) || decide (b=12) || decide (b=13)
 else if a=12∨a=10 then decide (b=10) || decide (b=11)
 else if a=13∨a=11 then decide (b=11)
 else false
theorem zdo [Gi](a b:Int):CR Tryz.prog 213 [] [.p (.int .i64 a),.p (.int .i64 b)] [] (is (.p (.bool (zC a b)))):=by
 refine zH mixed 55 [] Tryz.func213 rfl (by kernel_rfl) rfl (by simp) (by simp) ?_
 by_cases a1:a=1
 ·simp (maxSteps:=1000000) [go_sem,Tryz.f213,a1]
  exact zn (.p (.bool (zC a b))) rfl (by simp[go_sem,zg,leA,leT,zC,a1]) ⟨rfl,by first|rfl|simp[a1]⟩
 by_cases a2:a=2
 ·simp (maxSteps:=1000000) [go_sem,Tryz.f213,a2]
  exact zn (.p (.bool (zC a b))) rfl (by simp[go_sem,zg,leA,leT,zC,a2]) ⟨rfl,by first|rfl|simp[a2]⟩
 by_cases a3:a=3
 ·simp (maxSteps:=1000000) [go_sem,Tryz.f213,a3]
  exact zn (.p (.bool (zC a b))) rfl (by simp[go_sem,zg,leA,leT,zC,a3]) ⟨rfl,by first|rfl|simp[a3]⟩
 by_cases b1:b=1
 ·simp (maxSteps:=1000000) [go_sem,Tryz.f213,a1,a2,a3,b1]
  exact zn (.p (.bool (zC a b))) rfl (by simp[go_sem,zg,leA,leT,zC,a1,a2,a3,b1]) ⟨rfl,by first|rfl|simp[b1]⟩
 by_cases b2:b=2
 ·simp (maxSteps:=1000000) [go_sem,Tryz.f213,a1,a2,a3,b2]
  exact zn (.p (.bool (zC a b))) rfl (by simp[go_sem,zg,leA,leT,zC,a1,a2,a3,b2]) ⟨rfl,by first|rfl|simp[b2]⟩
 by_cases b3:b=3
 ·simp (maxSteps:=1000000) [go_sem,Tryz.f213,a1,a2,a3,b3]
  exact zn (.p (.bool (zC a b))) rfl (by simp[go_sem,zg,leA,leT,zC,a1,a2,a3,b3]) ⟨rfl,by first|rfl|simp[b3]⟩
 by_cases b4:b=4
 ·simp (maxSteps:=1000000) [go_sem,Tryz.f213,a1,a2,a3,b4]
  exact zn (.p (.bool (zC a b))) rfl (by simp[go_sem,zg,leA,leT,zC,a1,a2,a3,b4]) ⟨rfl,by first|rfl|simp[b4]⟩
 by_cases b5:b=5
 ·simp (maxSteps:=1000000) [go_sem,Tryz.f213,a1,a2,a3,b5]
  exact zn (.p (.bool (zC a b))) rfl (by simp[go_sem,zg,leA,leT,zC,a1,a2,a3,b5]) ⟨rfl,by first|rfl|simp[b5]⟩
 by_cases b8:b=8
 ·simp (maxSteps:=1000000) [go_sem,Tryz.f213,a1,a2,a3,b8]
  exact zn (.p (.bool (zC a b))) rfl (by simp[go_sem,zg,leA,leT,zC,a1,a2,a3,b8]) ⟨rfl,by first|rfl|simp[b8]⟩
 by_cases a7:a=7
 ·simp (maxSteps:=1000000) [go_sem,Tryz.f213,b1,b2,b3,b4,b5,b8,a7]
  exact zn (.p (.bool (zC a b))) rfl (by simp[go_sem,zg,leA,leT,zC,b1,b2,b3,b4,b5,b8,a7]) ⟨rfl,by first|rfl|simp[a7]⟩
 by_cases a9:a=9
 ·by_cases b9:b=9
  ·simp (maxSteps:=1000000) [go_sem,Tryz.f213,a9,b9]
   exact zn (.p (.bool (zC a b))) rfl (by simp[go_sem,zg,leA,leT,zC,a9,b9]) ⟨rfl,by first|rfl|simp[a9,b9]⟩
  by_cases b10:b=10
  ·simp (maxSteps:=1000000) [go_sem,Tryz.f213,a9,b10]
   exact zn (.p (.bool (zC a b))) rfl (by simp[go_sem,zg,leA,leT,zC,a9,b10]) ⟨rfl,by first|rfl|simp[a9,b10]⟩
  by_cases b12:b=12
  ·simp (maxSteps:=1000000) [go_sem,Tryz.f213,a9,b12]
   exact zn (.p (.bool (zC a b))) rfl (by simp[go_sem,zg,leA,leT,zC,a9,b12]) ⟨rfl,by first|rfl|simp[a9,b12]⟩
  by_cases b13:b=13
  ·simp (maxSteps:=1000000) [go_sem,Tryz.f213,a9,b13]
   exact zn (.p (.bool (zC a b))) rfl (by simp[go_sem,zg,leA,leT,zC,a9,b13]) ⟨rfl,by first|rfl|simp[a9,b13]⟩
  simp (maxSteps:=1000000) [go_sem,Tryz.f213,b1,b2,b3,b4,b5,b8,a9,b9,b10,b12,b13]
  exact zn (.p (.bool (zC a b))) rfl (by simp[go_sem,zg,leA,leT,zC,b1,b2,b3,b4,b5,b8,a9,b9,b10,b12,b13]) ⟨rfl,by first|rfl|simp[a9]⟩
 by_cases a12:a=12
 ·by_cases b10:b=10
  ·simp (maxSteps:=1000000) [go_sem,Tryz.f213,a12,b10]
   exact zn (.p (.bool (zC a b))) rfl (by simp[go_sem,zg,leA,leT,zC,a12,b10]) ⟨rfl,by first|rfl|simp[a12,b10]⟩
  by_cases b11:b=11
  ·simp (maxSteps:=1000000) [go_sem,Tryz.f213,a12,b11]
   exact zn (.p (.bool (zC a b))) rfl (by simp[go_sem,zg,leA,leT,zC,a12,b11]) ⟨rfl,by first|rfl|simp[a12,b11]⟩
  simp (maxSteps:=1000000) [go_sem,Tryz.f213,b1,b2,b3,b4,b5,b8,a12,b10,b11]
  exact zn (.p (.bool (zC a b))) rfl (by simp[go_sem,zg,leA,leT,zC,b1,b2,b3,b4,b5,b8,a12,b10,b11]) ⟨rfl,by first|rfl|simp[a12]⟩
 by_cases a10:a=10
 ·by_cases b10:b=10
  ·simp (maxSteps:=1000000) [go_sem,Tryz.f213,a10,b10]
   exact zn (.p (.bool (zC a b))) rfl (by simp[go_sem,zg,leA,leT,zC,a10,b10]) ⟨rfl,by first|rfl|simp[a10,b10]⟩
  by_cases b11:b=11
  ·simp (maxSteps:=1000000) [go_sem,Tryz.f213,a10,b11]
   exact zn (.p (.bool (zC a b))) rfl (by simp[go_sem,zg,leA,leT,zC,a10,b11]) ⟨rfl,by first|rfl|simp[a10,b11]⟩
  simp (maxSteps:=1000000) [go_sem,Tryz.f213,b1,b2,b3,b4,b5,b8,a10,b10,b11]
  exact zn (.p (.bool (zC a b))) rfl (by simp[go_sem,zg,leA,leT,zC,b1,b2,b3,b4,b5,b8,a10,b10,b11]) ⟨rfl,by first|rfl|simp[a10]⟩
 by_cases a13:a=13
 ·simp (maxSteps:=1000000) [go_sem,Tryz.f213,b1,b2,b3,b4,b5,b8,a13]
  exact zn (.p (.bool (zC a b))) rfl (by simp[go_sem,zg,leA,leT,zC,b1,b2,b3,b4,b5,b8,a13]) ⟨rfl,by first|rfl|simp[a13]⟩
 by_cases a11:a=11
 ·simp (maxSteps:=1000000) [go_sem,Tryz.f213,b1,b2,b3,b4,b5,b8,a11]
  exact zn (.p (.bool (zC a b))) rfl (by simp[go_sem,zg,leA,leT,zC,b1,b2,b3,b4,b5,b8,a11]) ⟨rfl,by first|rfl|simp[a11]⟩
 simp (maxSteps:=1000000) [go_sem,Tryz.f213,a1,a2,a3,b1,b2,b3,b4,b5,b8,a7,a9,a12,a10,a13,a11]
 exact zn (.p (.bool (zC a b))) rfl (by simp[go_sem,zg,leA,leT,zC,a1,a2,a3,b1,b2,b3,b4,b5,b8,a7,a9,a12,a10,a13,a11]) ⟨rfl,by first|rfl|simp[a1,a2,a3,b1,b2,b3,b4,b5,b8,a7,a9,a12,a10,a13,a11]⟩
structure xi where
 some:Bool
 last:Int
 pict:Int
 conj:Int
 odd:Bool
def xz(s:xi):PV:=.agg [.bool s.some,.int .i64 s.last,.int .i64 s.pict,.int .i64 s.conj,.bool s.odd]
def jE(s:xi)(b:Int)(p:Bool)(c:Int):Bool:=!zC s.last b&& !(decide (s.pict=2)&&p)&& !(decide (s.conj=2)&&decide (c=2))&& !(s.odd&&decide (b=6))
def qS(s:xi)(b:Int)(p:Bool)(c:Int):xi where
 some:=true
 last:=b
 pict:=if p then 1 else if s.pict=1∧b=4 then 1 else if s.pict=1∧b=5 then 2 else 0
 conj:=if c=2 then 1 else if s.conj≠0∧c=1 then 2 else if s.conj≠0∧c=3 then s.conj else 0
 odd:=decide (b=6)&&!s.odd
def ZK(t:qX)(s:xi)(r:Int):xi×Bool:=(qS s (yR t r) (t.flg (rn r)).p (Vg t r),!s.some || jE s (yR t r) (t.flg (rn r)).p (Vg t r))
theorem JP [Gi] {t:qX} {c b j f p:PV}(h:uv t c b j f p)(hz:W0 t)(ck cx sk sx:List PV)(s:xi)(r:Int)(hr:Zd r):
  CR Tryz.prog 171 [] [.p (xz s),.p (Q0 c b j f p ck cx sk sx),.p (.int .i32 r)] [] (is (.tup [.p (xz (ZK t s r).1),.p (.bool (ZK t s r).2)])):=by
 refine zH mixed 14 [] Tryz.func171 rfl (by kernel_rfl) rfl (by simp) (by simp) ?_
 simp (maxSteps:=1000000) [go_sem,Tryz.f171,xz,Q0]
 refine⟨⟨rfl,by simp[Tryz.f209]⟩,zh [] (Wg h ck cx sk sx hz hr) (by simp[go_sem]) ⟨by simp[go_sem],by simp[go_sem,Q0]⟩ (by simp[go_sem]) ?_⟩
 rintro _ rs ⟨rfl,rfl⟩
 simp (maxSteps:=1000000) [go_sem]
 refine⟨⟨rfl,by simp[Tryz.f211]⟩,zh [] (Xk h ck cx sk sx hz hr) (by simp[go_sem]) ⟨by simp[go_sem],by simp[go_sem,Q0]⟩ (by simp[go_sem]) ?_⟩
 rintro _ rs ⟨rfl,rfl⟩
 simp (maxSteps:=1000000) [go_sem]
 refine⟨⟨rfl,by simp[Tryz.f212]⟩,zh [] (zfY h ck cx sk sx hz hr) (by simp[go_sem]) ⟨by simp[go_sem],by simp[go_sem,Q0]⟩ (by simp[go_sem]) ?_⟩
 rintro _ rs ⟨rfl,rfl⟩
 simp (maxSteps:=1000000) [go_sem]
 have hres:ZK t s r=(qS s (yR t r) (t.flg (rn r)).p (Vg t r),!s.some || jE s (yR t r) (t.flg (rn r)).p (Vg t r)):=rfl
 rw[hres]
 generalize yR t r=bk
 generalize (t.flg (rn r)).p=pi
 generalize Vg t r=cj
 refine⟨⟨rfl,by simp[Tryz.f213]⟩,zh [] (zdo s.last bk) (by simp[go_sem]) ⟨by simp[go_sem],by simp[go_sem]⟩ (by simp[go_sem]) ?_⟩
 rintro _ rs ⟨rfl,rfl⟩
 refine zaG (fun _:Unit=>True) (fun _=>[(11,.p (.bool (jE s bk pi cj)))]) (fun _=>[]) ?_ ?_
 ·cases hst:zC s.last bk with
  |true=>
   simp (maxSteps:=1000000) [go_sem]
   try simp[jE,hst]
  |false=>
   by_cases hp:s.pict=2
   ·cases hpi:pi with
    |true=>
     simp (maxSteps:=1000000) [go_sem,hp]
     try simp[jE,hst,hp]
    |false=>
     by_cases hc:s.conj=2
     ·by_cases hc2:cj=2
      ·simp (maxSteps:=1000000) [go_sem,hp,hc,hc2]
       try simp[jE,hst,hp,hc]
      ·cases ho:s.odd with
       |false=>
        simp (maxSteps:=1000000) [go_sem,hp,hc,hc2]
        try simp[jE,hst,hp,hc,hc2,ho]
       |true=>
        by_cases hb:bk=6
        ·simp (maxSteps:=1000000) [go_sem,hp,hc,hc2,hb]
         try simp[jE,hp,hc,hc2,ho]
        ·simp (maxSteps:=1000000) [go_sem,hp,hc,hc2,hb]
         try simp[jE,hst,hp,hc,hc2,ho,hb]
     ·cases ho:s.odd with
      |false=>
       simp (maxSteps:=1000000) [go_sem,hp,hc]
       try simp[jE,hst,hp,hc,ho]
      |true=>
       by_cases hb:bk=6
       ·simp (maxSteps:=1000000) [go_sem,hp,hc,hb]
        try simp[jE,hp,hc,ho]
       ·simp (maxSteps:=1000000) [go_sem,hp,hc,hb]
        try simp[jE,hst,hp,hc,ho,hb]
   ·by_cases hc:s.conj=2
    ·by_cases hc2:cj=2
     ·simp (maxSteps:=1000000) [go_sem,hp,hc,hc2]
      try simp[jE,hst,hp,hc]
     ·cases ho:s.odd with
      |false=>
       simp (maxSteps:=1000000) [go_sem,hp,hc,hc2]
       try simp[jE,hst,hp,hc,hc2,ho]
      |true=>
       by_cases hb:bk=6
       ·simp (maxSteps:=1000000) [go_sem,hp,hc,hc2,hb]
        try simp[jE,hp,hc,hc2,ho]
       ·simp (maxSteps:=1000000) [go_sem,hp,hc,hc2,hb]
        try simp[jE,hst,hp,hc,hc2,ho,hb]
    ·cases ho:s.odd with
     |false=>
      simp (maxSteps:=1000000) [go_sem,hp,hc]
      try simp[jE,hst,hp,hc,ho]
     |true=>
      by_cases hb:bk=6
      ·simp (maxSteps:=1000000) [go_sem,hp,hc,hb]
       try simp[jE,hp,hc,ho]
      ·simp (maxSteps:=1000000) [go_sem,hp,hc,hb]
       try simp[jE,hst,hp,hc,ho,hb]
 ·rintro _ ts _
  simp only[Xn]
  rw[JW]
  refine Wl (fun _:Unit=>True) (fun _=>[(12,.lp [12] 0)]) (fun _=>[([12],[.p (.bool true),.p (.int .i64 bk),.p (.int .i64 0),.p (.int .i64 0),.p (.bool (decide (bk=6)&&!s.odd))])]) ?_ ?_
  ·by_cases hb:bk=6
   ·cases ho:s.odd with
    |true=>
     simp (maxSteps:=1000000) [go_sem,hb]
     exact zR () trivial (by simp[go_sem])
    |false=>
     simp (maxSteps:=1000000) [go_sem,hb]
     exact zR () trivial (by simp[go_sem])
   ·simp (maxSteps:=1000000) [go_sem,hb]
    exact zR () trivial (by simp[go_sem])
  ·rintro _ ts2 _
   rw[JW]
   obtain⟨np,hnp⟩:∃np,np=(qS s bk pi cj).pict:=⟨_,rfl⟩
   refine Wl (fun _:Unit=>True) (fun _=>[]) (fun _=>[([12],[.p (.bool true),.p (.int .i64 bk),.p (.int .i64 np),.p (.int .i64 0),.p (.bool (decide (bk=6)&&!s.odd))])]) ?_ ?_
   ·cases hpi:pi with
    |true=>
     have e:np=1:=by rw[hnp];simp[qS,hpi]
     simp (maxSteps:=1000000) [go_sem]
     exact zR () trivial (by simp[go_sem,e])
    |false=>
     by_cases hp:s.pict=1
     ·by_cases hb4:bk=4
      ·have e:np=1:=by rw[hnp];simp[qS,hpi,hp,hb4]
       simp (maxSteps:=1000000) [go_sem,hp,hb4]
       exact zR () trivial (by simp[go_sem,e])
      ·by_cases hb5:bk=5
       ·have e:np=2:=by rw[hnp];simp[qS,hpi,hp,hb5]
        simp (maxSteps:=1000000) [go_sem,hp,hb5]
        exact zR () trivial (by simp[go_sem,e])
       ·have e:np=0:=by rw[hnp];simp[qS,hpi,hp,hb4,hb5]
        simp (maxSteps:=1000000) [go_sem,hp,hb4,hb5]
        exact zR () trivial (by simp[go_sem,e])
     ·have e:np=0:=by rw[hnp];simp[qS,hpi,hp]
      simp (maxSteps:=1000000) [go_sem,hp]
      exact zR () trivial (by simp[go_sem,e])
   ·rintro _ ts3 _
    rw[JW]
    obtain⟨nc,hnc⟩:∃nc,nc=(qS s bk pi cj).conj:=⟨_,rfl⟩
    refine Wl (fun _:Unit=>True) (fun _=>[]) (fun _=>[([12],[.p (.bool true),.p (.int .i64 bk),.p (.int .i64 np),.p (.int .i64 nc),.p (.bool (decide (bk=6)&&!s.odd))])]) ?_ ?_
    ·by_cases hc:cj=2
     ·have e:nc=1:=by rw[hnc];simp[qS,hc]
      simp (maxSteps:=1000000) [go_sem,hc]
      exact zR () trivial (by simp[go_sem,e])
     ·by_cases hz0:s.conj=0
      ·have e:nc=0:=by rw[hnc];simp[qS,hc,hz0]
       simp (maxSteps:=1000000) [go_sem,hc,hz0]
       exact zR () trivial (by simp[go_sem,e])
      ·by_cases hc1:cj=1
       ·have e:nc=2:=by rw[hnc];simp[qS,hz0,hc1]
        simp (maxSteps:=1000000) [go_sem,hz0,hc1]
        exact zR () trivial (by simp[go_sem,e])
       ·by_cases hc3:cj=3
        ·have e:nc=s.conj:=by rw[hnc];simp[qS,hz0,hc3]
         simp (maxSteps:=1000000) [go_sem,hz0,hc3]
         exact zR () trivial (by simp[go_sem,e])
        ·have e:nc=0:=by rw[hnc];simp[qS,hc,hz0,hc1,hc3]
         simp (maxSteps:=1000000) [go_sem,hc,hz0,hc1,hc3]
         exact zR () trivial (by simp[go_sem,e])
    ·rintro _ ts4 _
     have hno:(qS s bk pi cj).odd=(decide (bk=6)&&!s.odd):=rfl
     have hns:(qS s bk pi cj).some=true:=rfl
     have hnl:(qS s bk pi cj).last=bk:=rfl
     cases hso:s.some with
     |true=>
      simp (maxSteps:=1000000) [go_sem]
      exact zn (.tup [.p (xz (qS s bk pi cj)),.p (.bool (!s.some || jE s bk pi cj))]) rfl (by simp[go_sem,zg,leA,leT,leP,xz,hso,hno,hns,hnl,←hnp,←hnc]) ⟨rfl,by simp[xz,hso]⟩
     |false=>
      simp (maxSteps:=1000000) [go_sem]
      exact zn (.tup [.p (xz (qS s bk pi cj)),.p (.bool (!s.some || jE s bk pi cj))]) rfl (by simp[go_sem,zg,leA,leT,leP,xz,hso,hno,hns,hnl,←hnp,←hnc]) ⟨rfl,by simp[xz,hso]⟩
def Yj(M:List Int):List AV:=(M.map fun r=>PV.int .i32 r).map .p
end
section
def zb3(k:Int→Int)(l:List Int):Prop:=l.Pairwise fun a b=>k a≤k b
def ua(k:Int→Int)(l m:List Int):Prop:=∀c,l.filter (fun x=>k x==c)=m.filter (fun x=>k x==c)
theorem ua.symm {k:Int→Int} {l m:List Int}(h:ua k l m):ua k m l:=fun c=>(h c).symm
theorem ua.trans {k:Int→Int} {l m n:List Int}(h:ua k l m)(h':ua k m n):ua k l n:=fun c=>(h c).trans (h' c)
def zi5(k:Int→Int)(l m:List Int):Prop:=zb3 k m∧ua k m l
theorem zi5.trans {k:Int→Int} {l m n:List Int}(h:ua k m l)(h':zi5 k m n):zi5 k l n:=⟨h'.1,h'.2.trans h⟩
end
section
open Go.AM
end
section
end
section
open Go.AM
structure zlK(a m e mid z s0 r0:Nat):Prop where
 lo:a≤s0
 hi:z≤s0+e
 le:s0≤r0
 lm:r0≤m
 lmid:r0≤mid
 first:∀i,s0≤i→a<i→mid+m<i+e→s0<i
 last:∀i,i≤r0→i<m→i<mid→i<r0
structure zlH(a m e mid z s0 r0 i k g g2:Nat):Prop where
 ig:i≤g
 gk:g<k
 ag:a≤g
 gm:g<m
 gmid:g<mid
 mg:m≤g2
 ge:g2<e
 eq:z-1=g2+g
 e1:mid-1-g=g2-m
 e2:mid- (g+1)=g2-m
def zgJ(k:Int→Int)(z:Nat)(l:List Int):Prop:=∀j,zb3 k ((l.drop (j*z)).take z)
theorem zgJ.head {k:Int→Int} {z:Nat} {l:List Int}(h:zgJ k z l):zb3 k (l.take z):=by
 have:=h 0
 simpa using this
theorem zgJ.all {k:Int→Int} {z:Nat} {l:List Int}(h:zgJ k z l)(hl:l.length≤z):zb3 k l:=by
 have:=h.head
 rwa[List.take_of_length_le hl]at this
end
end Go.Proofs.YtfjdbbpimklecaaGreatDoor
