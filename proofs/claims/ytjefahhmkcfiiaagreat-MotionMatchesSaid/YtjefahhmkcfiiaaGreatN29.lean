/- A part of the proof of this seat's statements, by an abstract machine: what each operation does to values, and what the law's functions compute. Conditions: as each law says. -/
import Derived.Test.YtjefahhmkcfiiaaGreatN28
import Derived.Test.YtjefahhmkcfiiaaGreatN21
import Derived.Test.YtjefahhmkcfiiaaGreatN18
import Derived.Test.YtjefahhmkcfiiaaGreatN20
import Derived.Test.YtjefahhmkcfiiaaGreatN19
section
namespace Go.Proofs.YtjefahhmkcfiiaaGreat
open Go.AM
set_option maxHeartbeats 4000000
set_option maxRecDepth 10000
theorem Uf [Gi] {P:Program} {D:List Nat} {c y:Code} {Q:Exit→St→Prop} {S:St} {ι:Type}(inv:ι→Prop)(V:ι→List (Nat×AV))(R:ι→List (Tok×List AV))(h:wpA P D c (Yc S inv V R Q) S)
  (hr:∀i ts,inv i→wpA P D y Q (S.zcW (V i) (R i) ts)):wpA P D c (zeB P D y Q) S:=
 jt c (fun e S' h=>by
  cases e with
  |normal=>obtain⟨i,ts,hi,rfl⟩:=h;exact hr i ts hi
  |_=>exact h) h
theorem ze0 [Gi] {P:Program} {ops:Array Oper} {rest:List Oper} {K:St→Prop} {S:St} {ι:Type}(inv:ι→Prop)(V:ι→List (Nat×AV))(R:ι→List (Tok×List AV))(h:Z6 P ops rest S (fun S'=>∃i ts,inv i∧S'=S.zcW (V i) (R i) ts))
  (hk:∀i ts,inv i→K (S.zcW (V i) (R i) ts)):zlJ P ops rest K S:=
 uJ (fun S' hx=>by obtain⟨i,ts,hi,e⟩:=hx;rw[e];exact hk i ts hi) h
def zN(a b:Int):Bool:=
 if a=1 then decide (b=2)
 else if a=2∨a=3 then false
 else if b=1∨b=2∨b=3 then false
 else if b=4∨b=5∨b=8 then true
 else if a=7 then true
 else if a=9 then decide (b=9) || decide (b=10) || decide (b=12) || decide (b=13)
 else if a=12∨a=10 then decide (b=10) || decide (b=11)
 else if a=13∨a=11 then decide (b=11)
 else false
theorem zgN [Gi](a b:Int):CR Tryz.prog 205 [] [.p (.int .i64 a),.p (.int .i64 b)] [] (is (.p (.bool (zN a b)))):=by
 refine zm mixed 55 [] Tryz.func205 rfl (by kernel_rfl) rfl (by simp) (by simp) ?_
 by_cases a1:a=1
 ·simp (maxSteps:=1000000) [go_sem,Tryz.f205,a1]
  exact zg (.p (.bool (zN a b))) rfl (by simp[go_sem,zf,leA,leT,zN,a1]) ⟨rfl,by first|rfl|simp[a1]⟩
 by_cases a2:a=2
 ·simp (maxSteps:=1000000) [go_sem,Tryz.f205,a2]
  exact zg (.p (.bool (zN a b))) rfl (by simp[go_sem,zf,leA,leT,zN,a2]) ⟨rfl,by first|rfl|simp[a2]⟩
 by_cases a3:a=3
 ·simp (maxSteps:=1000000) [go_sem,Tryz.f205,a3]
  exact zg (.p (.bool (zN a b))) rfl (by simp[go_sem,zf,leA,leT,zN,a3]) ⟨rfl,by first|rfl|simp[a3]⟩
 by_cases b1:b=1
 ·simp (maxSteps:=1000000) [go_sem,Tryz.f205,a1,a2,a3,b1]
  exact zg (.p (.bool (zN a b))) rfl (by simp[go_sem,zf,leA,leT,zN,a1,a2,a3,b1]) ⟨rfl,by first|rfl|simp[b1]⟩
 by_cases b2:b=2
 ·simp (maxSteps:=1000000) [go_sem,Tryz.f205,a1,a2,a3,b2]
  exact zg (.p (.bool (zN a b))) rfl (by simp[go_sem,zf,leA,leT,zN,a1,a2,a3,b2]) ⟨rfl,by first|rfl|simp[b2]⟩
 by_cases b3:b=3
 ·simp (maxSteps:=1000000) [go_sem,Tryz.f205,a1,a2,a3,b3]
  exact zg (.p (.bool (zN a b))) rfl (by simp[go_sem,zf,leA,leT,zN,a1,a2,a3,b3]) ⟨rfl,by first|rfl|simp[b3]⟩
 by_cases b4:b=4
 ·simp (maxSteps:=1000000) [go_sem,Tryz.f205,a1,a2,a3,b4]
  exact zg (.p (.bool (zN a b))) rfl (by simp[go_sem,zf,leA,leT,zN,a1,a2,a3,b4]) ⟨rfl,by first|rfl|simp[b4]⟩
 by_cases b5:b=5
 ·simp (maxSteps:=1000000) [go_sem,Tryz.f205,a1,a2,a3,b5]
  exact zg (.p (.bool (zN a b))) rfl (by simp[go_sem,zf,leA,leT,zN,a1,a2,a3,b5]) ⟨rfl,by first|rfl|simp[b5]⟩
 by_cases b8:b=8
 ·simp (maxSteps:=1000000) [go_sem,Tryz.f205,a1,a2,a3,b8]
  exact zg (.p (.bool (zN a b))) rfl (by simp[go_sem,zf,leA,leT,zN,a1,a2,a3,b8]) ⟨rfl,by first|rfl|simp[b8]⟩
 by_cases a7:a=7
 ·simp (maxSteps:=1000000) [go_sem,Tryz.f205,b1,b2,b3,b4,b5,b8,a7]
  exact zg (.p (.bool (zN a b))) rfl (by simp[go_sem,zf,leA,leT,zN,b1,b2,b3,b4,b5,b8,a7]) ⟨rfl,by first|rfl|simp[a7]⟩
 by_cases a9:a=9
 ·by_cases b9:b=9
  ·simp (maxSteps:=1000000) [go_sem,Tryz.f205,a9,b9]
   exact zg (.p (.bool (zN a b))) rfl (by simp[go_sem,zf,leA,leT,zN,a9,b9]) ⟨rfl,by first|rfl|simp[a9,b9]⟩
  by_cases b10:b=10
  ·simp (maxSteps:=1000000) [go_sem,Tryz.f205,a9,b10]
   exact zg (.p (.bool (zN a b))) rfl (by simp[go_sem,zf,leA,leT,zN,a9,b10]) ⟨rfl,by first|rfl|simp[a9,b10]⟩
  by_cases b12:b=12
  ·simp (maxSteps:=1000000) [go_sem,Tryz.f205,a9,b12]
   exact zg (.p (.bool (zN a b))) rfl (by simp[go_sem,zf,leA,leT,zN,a9,b12]) ⟨rfl,by first|rfl|simp[a9,b12]⟩
  by_cases b13:b=13
  ·simp (maxSteps:=1000000) [go_sem,Tryz.f205,a9,b13]
   exact zg (.p (.bool (zN a b))) rfl (by simp[go_sem,zf,leA,leT,zN,a9,b13]) ⟨rfl,by first|rfl|simp[a9,b13]⟩
  simp (maxSteps:=1000000) [go_sem,Tryz.f205,b1,b2,b3,b4,b5,b8,a9,b9,b10,b12,b13]
  exact zg (.p (.bool (zN a b))) rfl (by simp[go_sem,zf,leA,leT,zN,b1,b2,b3,b4,b5,b8,a9,b9,b10,b12,b13]) ⟨rfl,by first|rfl|simp[a9]⟩
 by_cases a12:a=12
 ·by_cases b10:b=10
  ·simp (maxSteps:=1000000) [go_sem,Tryz.f205,a12,b10]
   exact zg (.p (.bool (zN a b))) rfl (by simp[go_sem,zf,leA,leT,zN,a12,b10]) ⟨rfl,by first|rfl|simp[a12,b10]⟩
  by_cases b11:b=11
  ·simp (maxSteps:=1000000) [go_sem,Tryz.f205,a12,b11]
   exact zg (.p (.bool (zN a b))) rfl (by simp[go_sem,zf,leA,leT,zN,a12,b11]) ⟨rfl,by first|rfl|simp[a12,b11]⟩
  simp (maxSteps:=1000000) [go_sem,Tryz.f205,b1,b2,b3,b4,b5,b8,a12,b10,b11]
  exact zg (.p (.bool (zN a b))) rfl (by simp[go_sem,zf,leA,leT,zN,b1,b2,b3,b4,b5,b8,a12,b10,b11]) ⟨rfl,by first|rfl|simp[a12]⟩
 by_cases a10:a=10
 ·by_cases b10:b=10
  ·simp (maxSteps:=1000000) [go_sem,Tryz.f205,a10,b10]
   exact zg (.p (.bool (zN a b))) rfl (by simp[go_sem,zf,leA,leT,zN,a10,b10]) ⟨rfl,by first|rfl|simp[a10,b10]⟩
  by_cases b11:b=11
  ·simp (maxSteps:=1000000) [go_sem,Tryz.f205,a10,b11]
   exact zg (.p (.bool (zN a b))) rfl (by simp[go_sem,zf,leA,leT,zN,a10,b11]) ⟨rfl,by first|rfl|simp[a10,b11]⟩
  simp (maxSteps:=1000000) [go_sem,Tryz.f205,b1,b2,b3,b4,b5,b8,a10,b10,b11]
  exact zg (.p (.bool (zN a b))) rfl (by simp[go_sem,zf,leA,leT,zN,b1,b2,b3,b4,b5,b8,a10,b10,b11]) ⟨rfl,by first|rfl|simp[a10]⟩
 by_cases a13:a=13
 ·simp (maxSteps:=1000000) [go_sem,Tryz.f205,b1,b2,b3,b4,b5,b8,a13]
  exact zg (.p (.bool (zN a b))) rfl (by simp[go_sem,zf,leA,leT,zN,b1,b2,b3,b4,b5,b8,a13]) ⟨rfl,by first|rfl|simp[a13]⟩
 by_cases a11:a=11
 ·simp (maxSteps:=1000000) [go_sem,Tryz.f205,b1,b2,b3,b4,b5,b8,a11]
  exact zg (.p (.bool (zN a b))) rfl (by simp[go_sem,zf,leA,leT,zN,b1,b2,b3,b4,b5,b8,a11]) ⟨rfl,by first|rfl|simp[a11]⟩
 simp (maxSteps:=1000000) [go_sem,Tryz.f205,a1,a2,a3,b1,b2,b3,b4,b5,b8,a7,a9,a12,a10,a13,a11]
 exact zg (.p (.bool (zN a b))) rfl (by simp[go_sem,zf,leA,leT,zN,a1,a2,a3,b1,b2,b3,b4,b5,b8,a7,a9,a12,a10,a13,a11]) ⟨rfl,by first|rfl|simp[a1,a2,a3,b1,b2,b3,b4,b5,b8,a7,a9,a12,a10,a13,a11]⟩
structure xr where
 some:Bool
 last:Int
 pict:Int
 conj:Int
 odd:Bool
def jT(s:xr):PV:=.agg [.bool s.some,.int .i64 s.last,.int .i64 s.pict,.int .i64 s.conj,.bool s.odd]
def yh(s:xr)(b:Int)(p:Bool)(c:Int):Bool:=!zN s.last b&& !(decide (s.pict=2)&&p)&& !(decide (s.conj=2)&&decide (c=2))&& !(s.odd&&decide (b=6))
def Zk(s:xr)(b:Int)(p:Bool)(c:Int):xr where
 some:=true
 last:=b
 pict:=if p then 1 else if s.pict=1∧b=4 then 1 else if s.pict=1∧b=5 then 2 else 0
 conj:=if c=2 then 1 else if s.conj≠0∧c=1 then 2 else if s.conj≠0∧c=3 then s.conj else 0
 odd:=decide (b=6)&&!s.odd
def Zo(t:zR)(s:xr)(r:Int):xr×Bool:=(Zk s (wo t r) (t.flg (rn r)).p (KL t r),!s.some || yh s (wo t r) (t.flg (rn r)).p (KL t r))
theorem KZ [Gi] {t:zR} {c b j f p:PV}(h:Qp t c b j f p)(hz:Z3 t)(ck cx sk sx:List PV)(s:xr)(r:Int)(hr:zL r):
  CR Tryz.prog 171 [] [.p (jT s),.p (zE c b j f p ck cx sk sx),.p (.int .i32 r)] [] (is (.tup [.p (jT (Zo t s r).1),.p (.bool (Zo t s r).2)])):=by
 refine zm mixed 14 [] Tryz.func171 rfl (by kernel_rfl) rfl (by simp) (by simp) ?_
 simp (maxSteps:=1000000) [go_sem,Tryz.f171,jT,zE]
 refine⟨⟨rfl,by simp[Tryz.f202]⟩,zb [] (Uu h ck cx sk sx hz hr) (by simp[go_sem]) ⟨by simp[go_sem],by simp[go_sem,zE]⟩ (by simp[go_sem]) ?_⟩
 rintro _ rs ⟨rfl,rfl⟩
 simp (maxSteps:=1000000) [go_sem]
 refine⟨⟨rfl,by simp[Tryz.f203]⟩,zb [] (zdv h ck cx sk sx hz hr) (by simp[go_sem]) ⟨by simp[go_sem],by simp[go_sem,zE]⟩ (by simp[go_sem]) ?_⟩
 rintro _ rs ⟨rfl,rfl⟩
 simp (maxSteps:=1000000) [go_sem]
 refine⟨⟨rfl,by simp[Tryz.f204]⟩,zb [] (zdW h ck cx sk sx hz hr) (by simp[go_sem]) ⟨by simp[go_sem],by simp[go_sem,zE]⟩ (by simp[go_sem]) ?_⟩
 rintro _ rs ⟨rfl,rfl⟩
 simp (maxSteps:=1000000) [go_sem]
 have hres:Zo t s r=(Zk s (wo t r) (t.flg (rn r)).p (KL t r),!s.some || yh s (wo t r) (t.flg (rn r)).p (KL t r)):=rfl
 rw[hres]
 generalize wo t r=bk
 generalize (t.flg (rn r)).p=pi
 generalize KL t r=cj
 refine⟨⟨rfl,by simp[Tryz.f205]⟩,zb [] (zgN s.last bk) (by simp[go_sem]) ⟨by simp[go_sem],by simp[go_sem]⟩ (by simp[go_sem]) ?_⟩
 rintro _ rs ⟨rfl,rfl⟩
 refine ze0 (fun _:Unit=>True) (fun _=>[(11,.p (.bool (yh s bk pi cj)))]) (fun _=>[]) ?_ ?_
 ·cases hst:zN s.last bk with
  |true=>
   simp (maxSteps:=1000000) [go_sem]
   try simp[yh,hst]
  |false=>
   by_cases hp:s.pict=2
   ·cases hpi:pi with
    |true=>
     simp (maxSteps:=1000000) [go_sem,hp]
     try simp[yh,hst,hp]
    |false=>
     by_cases hc:s.conj=2
     ·by_cases hc2:cj=2
      ·simp (maxSteps:=1000000) [go_sem,hp,hc,hc2]
       try simp[yh,hst,hp,hc]
      ·cases ho:s.odd with
       |false=>
        simp (maxSteps:=1000000) [go_sem,hp,hc,hc2]
        try simp[yh,hst,hp,hc,hc2,ho]
       |true=>
        by_cases hb:bk=6
        ·simp (maxSteps:=1000000) [go_sem,hp,hc,hc2,hb]
         try simp[yh,hp,hc,hc2,ho]
        ·simp (maxSteps:=1000000) [go_sem,hp,hc,hc2,hb]
         try simp[yh,hst,hp,hc,hc2,ho,hb]
     ·cases ho:s.odd with
      |false=>
       simp (maxSteps:=1000000) [go_sem,hp,hc]
       try simp[yh,hst,hp,hc,ho]
      |true=>
       by_cases hb:bk=6
       ·simp (maxSteps:=1000000) [go_sem,hp,hc,hb]
        try simp[yh,hp,hc,ho]
       ·simp (maxSteps:=1000000) [go_sem,hp,hc,hb]
        try simp[yh,hst,hp,hc,ho,hb]
   ·by_cases hc:s.conj=2
    ·by_cases hc2:cj=2
     ·simp (maxSteps:=1000000) [go_sem,hp,hc,hc2]
      try simp[yh,hst,hp,hc]
     ·cases ho:s.odd with
      |false=>
       simp (maxSteps:=1000000) [go_sem,hp,hc,hc2]
       try simp[yh,hst,hp,hc,hc2,ho]
      |true=>
       by_cases hb:bk=6
       ·simp (maxSteps:=1000000) [go_sem,hp,hc,hc2,hb]
        try simp[yh,hp,hc,hc2,ho]
       ·simp (maxSteps:=1000000) [go_sem,hp,hc,hc2,hb]
        try simp[yh,hst,hp,hc,hc2,ho,hb]
    ·cases ho:s.odd with
     |false=>
      simp (maxSteps:=1000000) [go_sem,hp,hc]
      try simp[yh,hst,hp,hc,ho]
     |true=>
      by_cases hb:bk=6
      ·simp (maxSteps:=1000000) [go_sem,hp,hc,hb]
       try simp[yh,hp,hc,ho]
      ·simp (maxSteps:=1000000) [go_sem,hp,hc,hb]
       try simp[yh,hst,hp,hc,ho,hb]
 ·rintro _ ts _
  simp only[zdr]
  rw[zaN]
  refine Uf (fun _:Unit=>True) (fun _=>[(12,.lp [12] 0)]) (fun _=>[([12],[.p (.bool true),.p (.int .i64 bk),.p (.int .i64 0),.p (.int .i64 0),.p (.bool (decide (bk=6)&&!s.odd))])]) ?_ ?_
  ·by_cases hb:bk=6
   ·cases ho:s.odd with
    |true=>
     simp (maxSteps:=1000000) [go_sem,hb]
     exact zU () trivial (by simp[go_sem])
    |false=>
     simp (maxSteps:=1000000) [go_sem,hb]
     exact zU () trivial (by simp[go_sem])
   ·simp (maxSteps:=1000000) [go_sem,hb]
    exact zU () trivial (by simp[go_sem])
  ·rintro _ ts2 _
   rw[zaN]
   obtain⟨np,hnp⟩:∃np,np=(Zk s bk pi cj).pict:=⟨_,rfl⟩
   refine Uf (fun _:Unit=>True) (fun _=>[]) (fun _=>[([12],[.p (.bool true),.p (.int .i64 bk),.p (.int .i64 np),.p (.int .i64 0),.p (.bool (decide (bk=6)&&!s.odd))])]) ?_ ?_
   ·cases hpi:pi with
    |true=>
     have e:np=1:=by rw[hnp];simp[Zk,hpi]
     simp (maxSteps:=1000000) [go_sem]
     exact zU () trivial (by simp[go_sem,e])
    |false=>
     by_cases hp:s.pict=1
     ·by_cases hb4:bk=4
      ·have e:np=1:=by rw[hnp];simp[Zk,hpi,hp,hb4]
       simp (maxSteps:=1000000) [go_sem,hp,hb4]
       exact zU () trivial (by simp[go_sem,e])
      ·by_cases hb5:bk=5
       ·have e:np=2:=by rw[hnp];simp[Zk,hpi,hp,hb5]
        simp (maxSteps:=1000000) [go_sem,hp,hb5]
        exact zU () trivial (by simp[go_sem,e])
       ·have e:np=0:=by rw[hnp];simp[Zk,hpi,hp,hb4,hb5]
        simp (maxSteps:=1000000) [go_sem,hp,hb4,hb5]
        exact zU () trivial (by simp[go_sem,e])
     ·have e:np=0:=by rw[hnp];simp[Zk,hpi,hp]
      simp (maxSteps:=1000000) [go_sem,hp]
      exact zU () trivial (by simp[go_sem,e])
   ·rintro _ ts3 _
    rw[zaN]
    obtain⟨nc,hnc⟩:∃nc,nc=(Zk s bk pi cj).conj:=⟨_,rfl⟩
    refine Uf (fun _:Unit=>True) (fun _=>[]) (fun _=>[([12],[.p (.bool true),.p (.int .i64 bk),.p (.int .i64 np),.p (.int .i64 nc),.p (.bool (decide (bk=6)&&!s.odd))])]) ?_ ?_
    ·by_cases hc:cj=2
     ·have e:nc=1:=by rw[hnc];simp[Zk,hc]
      simp (maxSteps:=1000000) [go_sem,hc]
      exact zU () trivial (by simp[go_sem,e])
     ·by_cases hz0:s.conj=0
      ·have e:nc=0:=by rw[hnc];simp[Zk,hc,hz0]
       simp (maxSteps:=1000000) [go_sem,hc,hz0]
       exact zU () trivial (by simp[go_sem,e])
      ·by_cases hc1:cj=1
       ·have e:nc=2:=by rw[hnc];simp[Zk,hz0,hc1]
        simp (maxSteps:=1000000) [go_sem,hz0,hc1]
        exact zU () trivial (by simp[go_sem,e])
       ·by_cases hc3:cj=3
        ·have e:nc=s.conj:=by rw[hnc];simp[Zk,hz0,hc3]
         simp (maxSteps:=1000000) [go_sem,hz0,hc3]
         exact zU () trivial (by simp[go_sem,e])
        ·have e:nc=0:=by rw[hnc];simp[Zk,hc,hz0,hc1,hc3]
         simp (maxSteps:=1000000) [go_sem,hc,hz0,hc1,hc3]
         exact zU () trivial (by simp[go_sem,e])
    ·rintro _ ts4 _
     have hno:(Zk s bk pi cj).odd=(decide (bk=6)&&!s.odd):=rfl
     have hns:(Zk s bk pi cj).some=true:=rfl
     have hnl:(Zk s bk pi cj).last=bk:=rfl
     cases hso:s.some with
     |true=>
      simp (maxSteps:=1000000) [go_sem]
      exact zg (.tup [.p (jT (Zk s bk pi cj)),.p (.bool (!s.some || yh s bk pi cj))]) rfl (by simp[go_sem,zf,leA,leT,leP,jT,hso,hno,hns,hnl,←hnp,←hnc]) ⟨rfl,by simp[jT,hso]⟩
     |false=>
      simp (maxSteps:=1000000) [go_sem]
      exact zg (.tup [.p (jT (Zk s bk pi cj)),.p (.bool (!s.some || yh s bk pi cj))]) rfl (by simp[go_sem,zf,leA,leT,leP,jT,hso,hno,hns,hnl,←hnp,←hnc]) ⟨rfl,by simp[jT,hso]⟩
end Go.Proofs.YtjefahhmkcfiiaaGreat
end
section
namespace Go.Proofs.YtjefahhmkcfiiaaGreat
open Go.AM
set_option maxHeartbeats 4000000
set_option maxRecDepth 10000
def zu(M:List Int):List AV:=(M.map fun r=>PV.int .i32 r).map .p
@[go_sem] theorem zlw (rt tt : Tok → Bool) (M : List Int) : (zu M).map (AV.upd (fil rt tt)) = zu M := by simp [zu, AV.upd, fil, QB]
@[go_sem] theorem zmt (f : Tok → Option Tok) (M : List Int) : (zu M).map (AV.ren f) = zu M := by rw [zu, List.map_map, znp]
@[go_sem] theorem WH (M : List Int) : (zu M).length = M.length := by simp [zu]
theorem YO {M:List Int} {i:Nat}(h:i<M.length):(zu M)[i]?=some (.p (.int .i32 (M[i]?.getD 0))):=by
 simp[zu,List.getElem?_eq_getElem h]
theorem Zn {M:List Int} {i:Nat}(v:Int)(h:i<M.length):(zu M).take i++AV.p (.int .i32 v)::(zu M).drop (i+1)=zu (M.set i v):=by
 have:zu (M.set i v)=(zu M).set i (.p (.int .i32 v)):=by simp[zu,List.map_set]
 rw[this,List.set_eq_take_append_cons_drop,if_pos (by simpa[zu]using h)]
def swapAt(M:List Int)(i j:Nat):List Int:=(M.set i (M[j]?.getD 0)).set j (M[i]?.getD 0)
def kR(M:List Int)(a b:Nat):Nat→List Int
 |0=>M
 |n+1=>swapAt (kR M a b n) (a+n) (b+n)
theorem UH(M:List Int)(a b:Nat):∀n,(kR M a b n).length=M.length
 |0=>rfl
 |n+1=>by simp[kR,swapAt,UH M a b n]
def swapT:OT:=.now 0 0 (.now 1 0 (.now 2 0 (.now 3 0 (.now 4 2 (.now 5 2 (.now 6 2 (.now 7 2 (.now 8 0 (.now 9 0 (.now 10 0 (.now 11 0 (.now 12 0 (.now 13 0 (.now 14 0 (.now 15 0 (.now 16 0 (.now 17 0 (.now 18 0 (.now 19 0 (.now 20 0 (.mk [(21,.now 22 0 (.mk [(23,.mk [])]))])))))))))))))))))))))
def jy:AV:=.fn 211 [.lp [1] 0]
theorem wN [Gi](M:List Int)(tab:PV)(o n a b m:Nat)(hM:o+n≤M.length)(ha:a+m≤n)(hb:b+m≤n)(hn:M.length<2^40):
  CR Tryz.prog 239 [[0],[1]] [.la [0] 1 o n,.p (.int .i64 a),.p (.int .i64 b),.p (.int .i64 m),jy] [([0],zu M),([1],[.p tab])] (fun x rs=>x=.tup []∧rs=[([0],zu (kR M (o+a) (o+b) m)),([1],[.p tab])]):=by
 refine zM [200003] mixed 11 [] Tryz.func239 rfl (by kernel_rfl) rfl (by simp) (by simp) ?_
 simp (maxSteps:=1000000) [go_sem,Tryz.f239,jy]
 refine zi (fun i:Nat=>i≤m) (fun i=>[(10,.p (.int .i64 (i:Nat)))]) (fun i=>[([0],zu (kR M (o+a) (o+b) i))]) (fun i=>m-i) 0 (by omega) (by simp[go_sem,LeS,leV,leR,leA,leL,zj,kR]) (fun i hi=>?_)
 simp (maxSteps:=1000000) [go_sem]
 refine zx (fun h=>?_) (fun h=>?_)
 ·have him:i<m:=by omega
  have w1:IntKind.i64.wrap ((i:Int)+1)=((i+1:Nat):Int):=by rw[wrap64 (by omega) (by omega)];rfl
  obtain⟨x,hx⟩:∃x,x=a+i:=⟨_,rfl⟩
  obtain⟨y,hy⟩:∃y,y=b+i:=⟨_,rfl⟩
  have w2:IntKind.i64.wrap ((a:Int)+i)=(x:Int):=by rw[wrap64 (by omega) (by omega)];omega
  have w3:IntKind.i64.wrap ((b:Int)+i)=(y:Int):=by rw[wrap64 (by omega) (by omega)];omega
  have hs:=UH M (o+a) (o+b) i
  have hnext:kR M (o+a) (o+b) (i+1)=swapAt (kR M (o+a) (o+b) i) (o+x) (o+y):=by rw[hx,hy,←Nat.add_assoc,←Nat.add_assoc];rfl
  generalize kR M (o+a) (o+b) i=Mi at hs hnext
  have hxn:x<n:=by omega
  have hyn:y<n:=by omega
  have gx:=YO (M:=Mi) (i:=o+x) (by omega)
  have gy:=YO (M:=Mi) (i:=o+y) (by omega)
  have px:=Zn (M:=Mi) (i:=o+x) (Mi[o+y]?.getD 0) (by omega)
  have py:=Zn (M:=Mi.set (o+x) (Mi[o+y]?.getD 0)) (i:=o+y) (Mi[o+x]?.getD 0) (by simp;omega)
  simp (maxSteps:=1000000) [go_sem]
  refine Zg swapT (by kernel_rfl) ?_
  simp (maxSteps:=1000000) [go_sem,swapT,w1,w2,w3,hxn,hyn,gx,gy,px,py]
  exact⟨by omega,by omega,zc (i+1) (by omega) (by simp[go_sem,LeS,leV,leR,leA,leL,zj,hnext,swapAt]) (by omega)⟩
 ·obtain rfl:i=m:=by omega
  simp (maxSteps:=1000000) [go_sem]
  exact zl [[0],[1]] (.tup []) ⟨rfl,by simp⟩ (by simp[go_sem,zf,leT]) ⟨rfl,by simp[go_sem]⟩
theorem XT(M:List Int)(a b:Nat):∀n,a+n≤b→b+n≤M.length→∀k,(kR M a b n)[k]?=if a≤k∧k<a+n then M[k-a+b]? else if b≤k∧k<b+n then M[k-b+a]? else M[k]?
 |0,_,_,k=>by
  rw[if_neg (by omega),if_neg (by omega)];rfl
 |n+1,h1,h2,k=>by
  have ih:=XT M a b n (by omega) (by omega)
  have hl:=UH M a b n
  have e1:(kR M a b n)[a+n]?=M[a+n]?:=by rw[ih,if_neg (by omega),if_neg (by omega)]
  have e2:(kR M a b n)[b+n]?=M[b+n]?:=by rw[ih,if_neg (by omega),if_neg (by omega)]
  simp only[kR,swapAt,e1,e2]
  have g1:M[a+n]?=some (M[a+n]?.getD 0):=by rw[List.getElem?_eq_getElem (by omega)];rfl
  have g2:M[b+n]?=some (M[b+n]?.getD 0):=by rw[List.getElem?_eq_getElem (by omega)];rfl
  rw[List.getElem?_set,List.getElem?_set]
  by_cases hk1:b+n=k
  ·subst hk1
   rw[if_pos rfl,if_pos (by simp;omega),if_neg (by omega),if_pos (by omega)]
   rw[←g1];congr 1;omega
  ·rw[if_neg hk1]
   by_cases hk2:a+n=k
   ·subst hk2
    rw[if_pos rfl,if_pos (by omega),if_pos (by omega)]
    rw[←g2];congr 1;omega
   ·rw[if_neg hk2,ih]
    by_cases c1:a≤k∧k<a+n
    ·rw[if_pos c1,if_pos (by omega)]
    ·rw[if_neg c1,if_neg (by omega:¬(a≤k∧k<a+(n+1)))]
     by_cases c2:b≤k∧k<b+n
     ·rw[if_pos c2,if_pos (by omega)]
     ·rw[if_neg c2,if_neg (by omega)]
end Go.Proofs.YtjefahhmkcfiiaaGreat
end
section
namespace Go.Proofs.YtjefahhmkcfiiaaGreat
open Go.AM
set_option maxHeartbeats 4000000
set_option maxRecDepth 10000
theorem w9(P X Y Z W:List Int)(h:X.length=Z.length):kR (P++(X++(Y++(Z++W)))) P.length (P.length+X.length+Y.length) X.length=P++(Z++(Y++(X++W))):=by
 apply List.ext_getElem?
 intro k
 rw[XT _ _ _ _ (by omega) (by simp;omega)]
 simp only[List.getElem?_append]
 by_cases h1:k<P.length
 ·rw[if_neg (by omega),if_neg (by omega),if_pos h1,if_pos h1]
 ·by_cases h2:k<P.length+X.length
  ·rw[if_pos (by omega),if_neg (by omega),if_neg (by omega),if_neg (by omega),if_pos (by omega),if_neg (by omega),if_pos (by omega)]
   congr 1;omega
  ·by_cases h3:k<P.length+X.length+Y.length
   ·rw[if_neg (by omega),if_neg (by omega),if_neg (by omega),if_neg (by omega),if_pos (by omega),if_neg (by omega),if_neg (by omega),if_pos (by omega)]
    congr 1;omega
   ·by_cases h4:k<P.length+X.length+Y.length+X.length
    ·rw[if_neg (by omega),if_pos (by omega),if_neg (by omega),if_pos (by omega),if_neg (by omega),if_neg (by omega),if_neg (by omega),if_pos (by omega)]
     congr 1;omega
    ·rw[if_neg (by omega),if_neg (by omega),if_neg (by omega),if_neg (by omega),if_neg (by omega),if_neg (by omega),if_neg (by omega),if_neg (by omega),if_neg (by omega),if_neg (by omega)]
     congr 1;omega
theorem zgX [Gi](P U V S:List Int)(tab:PV)(o n a m b:Nat)(hP:P.length=o+a)(hU:U.length=m-a)(hV:V.length=b-m)(ham:a<m)(hmb:m<b)(hbn:b≤n)(hn:(P++(U++(V++S))).length<2^40)(hS:o+n≤(P++(U++(V++S))).length):
  CR Tryz.prog 238 [[0],[1]] [.la [0] 1 o n,.p (.int .i64 a),.p (.int .i64 m),.p (.int .i64 b),jy] [([0],zu (P++(U++(V++S)))),([1],[.p tab])] (fun x rs=>x=.tup []∧rs=[([0],zu (P++(V++(U++S)))),([1],[.p tab])]):=by
 refine zm mixed 12 [] Tryz.func238 rfl (by kernel_rfl) rfl (by simp) (by simp) ?_
 have w1:IntKind.i64.wrap ((m:Int)-a)=((m-a:Nat):Int):=by rw[wrap64 (by simp at hS hn;omega) (by simp at hS hn;omega)];omega
 have w2:IntKind.i64.wrap ((b:Int)-m)=((b-m:Nat):Int):=by rw[wrap64 (by simp at hS hn;omega) (by simp at hS hn;omega)];omega
 simp (maxSteps:=1000000) [go_sem,Tryz.f238,w1,w2,jy]
 have hlen:(P++(U++(V++S))).length=P.length+U.length+V.length+S.length:=by simp;omega
 rw[hlen]at hn hS
 refine zi (fun r:List Int×List Int×List Int×List Int=>r.1.length+r.2.1.length=o+m∧0<r.2.1.length∧0<r.2.2.1.length∧r.2.1.length≤m∧m+r.2.2.1.length≤n∧r.1.length+r.2.1.length+r.2.2.1.length+r.2.2.2.length=P.length+U.length+V.length+S.length∧r.1++(r.2.2.1++(r.2.1++r.2.2.2))=P++(V++(U++S)))
  (fun r=>[(10,.p (.int .i64 (r.2.1.length:Nat))),(11,.p (.int .i64 (r.2.2.1.length:Nat)))]) (fun r=>[([0],zu (r.1++(r.2.1++(r.2.2.1++r.2.2.2))))]) (fun r=>r.2.1.length+r.2.2.1.length) (P,U,V,S) ⟨by simp only;omega,by simp only;omega,by simp only;omega,by simp only;omega,by simp only;omega,rfl,rfl⟩ (by simp[go_sem,LeS,leV,leR,leA,leL,zj,hU,hV]) (fun r hr=>?_)
 obtain⟨P',U',V',S'⟩:=r
 obtain⟨q1,q2,q3,q4,q5,q6,q7⟩:=hr
 simp only at q1 q2 q3 q4 q5 q6 q7
 have hM:(P'++(U'++(V'++S'))).length=P.length+U.length+V.length+S.length:=by simp;omega
 obtain⟨i,hi⟩:∃i,i=U'.length:=⟨_,rfl⟩
 obtain⟨j,hj⟩:∃j,j=V'.length:=⟨_,rfl⟩
 rw[←hi]at q1 q2 q4 q6
 rw[←hj]at q3 q5 q6
 have w3:IntKind.i64.wrap ((m:Int)-i)=((m-i:Nat):Int):=by rw[wrap64 (by omega) (by omega)];omega
 have w4:IntKind.i64.wrap ((m:Int)+j)=((m+j:Nat):Int):=by rw[wrap64 (by omega) (by omega)];omega
 have w5:j<i→IntKind.i64.wrap ((i:Int)-j)=((i-j:Nat):Int):=fun h=>by rw[wrap64 (by omega) (by omega)];omega
 have w6:i<j→IntKind.i64.wrap ((j:Int)-i)=((j-i:Nat):Int):=fun h=>by rw[wrap64 (by omega) (by omega)];omega
 have w7:i<j→IntKind.i64.wrap ((m:Int)+j-i)=((m+j-i:Nat):Int):=fun h=>by rw[wrap64 (by omega) (by omega)];omega
 simp only[←hi,←hj]
 simp (maxSteps:=1000000) [go_sem]
 refine xD (fun h=>?_) (fun h=>?_)
 ·have hij:i≠j:=fun e=>by simp[e]at h
  simp (maxSteps:=1000000) [go_sem]
  refine zx (fun h2=>?_) (fun h2=>?_)
  ·have hji:j<i:=by omega
   have w5':=w5 hji
   simp (maxSteps:=1000000) [go_sem,w3]
   refine⟨⟨rfl,by simp[Tryz.f239]⟩,zb [([0],[0]),([1],[1])] (wN (P'++(U'++(V'++S'))) tab o n (m-i) (m) j (by omega) (by omega) (by omega) (by omega)) (by simp[go_sem,zD]) ⟨by simp[go_sem],by simp[go_sem,jy]⟩ (by simp[go_sem]) ?_⟩
   rintro _ _ ⟨rfl,rfl⟩
   obtain⟨U1,U2,rfl,hu⟩:∃U1 U2,U'=U1++U2∧U1.length=j:=⟨U'.take j,U'.drop j,(List.take_append_drop _ _).symm,by simp;omega⟩
   have hu2:U2.length=i-j:=by simp at hi;omega
   have hsw:kR (P'++(U1++U2++(V'++S'))) (o+(m-i)) (o+m) j=(P'++V')++(U2++(U1++S')):=by
    have e:=w9 P' U1 U2 V' S' (by omega)
    have e1:o+(m-i)=P'.length:=by omega
    have e2:o+m=P'.length+U1.length+U2.length:=by omega
    rw[e1,e2,←hu]
    simp only[List.append_assoc]at e⊢
    exact e
   rw[hsw]
   simp (maxSteps:=1000000) [go_sem,w5']
   refine zc (P'++V',U2,U1,S') ⟨by simp;omega,by simp only;omega,by simp only;omega,by simp only;omega,by simp only;omega,by simp;omega,by rw[←q7];simp⟩ (by simp[go_sem,LeS,leV,leR,leA,leL,zj,hu,hu2]) (by simp only[List.length_append];omega)
  ·have hji:i<j:=by omega
   have w6':=w6 hji
   have w7':=w7 hji
   simp (maxSteps:=1000000) [go_sem,w3,w4,w7']
   refine⟨⟨rfl,by simp[Tryz.f239]⟩,zb [([0],[0]),([1],[1])] (wN (P'++(U'++(V'++S'))) tab o n (m-i) (m+j-i) i (by omega) (by omega) (by omega) (by omega)) (by simp[go_sem,zD]) ⟨by simp[go_sem],by simp[go_sem,jy]⟩ (by simp[go_sem]) ?_⟩
   rintro _ _ ⟨rfl,rfl⟩
   obtain⟨V1,V2,rfl,hv⟩:∃V1 V2,V'=V1++V2∧V1.length=j-i:=⟨V'.take (j-i),V'.drop (j-i),(List.take_append_drop _ _).symm,by simp;omega⟩
   have hv2:V2.length=i:=by simp at hj;omega
   have hsw:kR (P'++(U'++(V1++V2++S'))) (o+(m-i)) (o+(m+j-i)) i=P'++(V2++(V1++(U'++S'))):=by
    have e:=w9 P' U' V1 V2 S' (by omega)
    have e1:o+(m-i)=P'.length:=by omega
    have e2:o+(m+j-i)=P'.length+U'.length+V1.length:=by omega
    rw[e1,e2,hi]
    simp only[List.append_assoc]at e⊢
    exact e
   rw[hsw]
   simp (maxSteps:=1000000) [go_sem,w6']
   refine zc (P',V2,V1,U'++S') ⟨by simp only;omega,by simp only;omega,by simp only;omega,by simp only;omega,by simp only;omega,by simp;omega,by rw[←q7];simp⟩ (by simp[go_sem,LeS,leV,leR,leA,leL,zj,hv,hv2]) (by simp only;omega)
 ·have hij:i=j:=by
   have:(i:Int)=j:=by simpa using h
   omega
  simp (maxSteps:=1000000) [go_sem,w3]
  refine⟨⟨rfl,by simp[Tryz.f239]⟩,zb [([0],[0]),([1],[1])] (wN (P'++(U'++(V'++S'))) tab o n (m-i) (m) i (by omega) (by omega) (by omega) (by omega)) (by simp[go_sem,zD]) ⟨by simp[go_sem],by simp[go_sem,jy]⟩ (by simp[go_sem]) ?_⟩
  rintro _ _ ⟨rfl,rfl⟩
  have hsw:kR (P'++(U'++(V'++S'))) (o+(m-i)) (o+m) i=P'++(V'++(U'++S')):=by
   have e:=w9 P' U' [] V' S' (by omega)
   have e1:o+(m-i)=P'.length:=by omega
   have e2:o+m=P'.length+U'.length+([]:List Int).length:=by simp;omega
   rw[e1,e2,hi]
   exact e
  rw[hsw,q7]
  simp (maxSteps:=1000000) [go_sem]
  exact zl [[0],[1]] (.tup []) ⟨rfl,by simp⟩ (by simp[go_sem,zf,leT]) ⟨rfl,by simp[go_sem]⟩
end Go.Proofs.YtjefahhmkcfiiaaGreat
end
section
namespace Go.Proofs.YtjefahhmkcfiiaaGreat
open Go.AM
set_option maxHeartbeats 4000000
set_option maxRecDepth 10000
theorem WZ [Gi] {t:zR} {c b j f p:PV}(h:Qp t c b j f p)(hz:Z3 t)(ck cx sk sx:List PV)(x y:Int)(hx: -2147483648≤x∧x<2147483648)(hy: -2147483648≤y∧y<2147483648):
  CR Tryz.prog 211 [[0]] [.p (.int .i32 x),.p (.int .i32 y),.lp [0] 0] [([0],[.p (zE c b j f p ck cx sk sx)])] (fun r rs=>r=.p (.int .i64 (Wx (t.cls (rn x)) (t.cls (rn y))))∧rs=[([0],[.p (zE c b j f p ck cx sk sx)])]):=by
 refine zM [1] mixed 6 [] Tryz.func211 rfl (by kernel_rfl) rfl (by simp) (by simp) ?_
 simp[go_sem,Tryz.f211]
 refine z7 (.p (.int .i64 (t.cls (rn x)))) rfl rfl (fun _=>z6 124 (Q9 h ck cx sk sx hz hx) rfl ⟨rfl,by simp[Tryz.f124]⟩ ⟨by simp[go_sem],by simp[go_sem]⟩) ?_
 simp[go_sem]
 refine z7 (.p (.int .i64 (t.cls (rn y)))) rfl rfl (fun _=>z6 124 (Q9 h ck cx sk sx hz hy) rfl ⟨rfl,by simp[Tryz.f124]⟩ ⟨by simp[go_sem],by simp[go_sem]⟩) ?_
 simp[go_sem]
 refine z7 (.p (.int .i64 (Wx (t.cls (rn x)) (t.cls (rn y))))) rfl rfl (fun _=>z6 115 (YM _ _) rfl ⟨rfl,by simp[Tryz.f115]⟩ ⟨by simp[go_sem],by simp[go_sem]⟩) ?_
 simp[go_sem]
 exact zl [[0]] (.p (.int .i64 (Wx (t.cls (rn x)) (t.cls (rn y))))) ⟨rfl,by simp⟩ (by simp[go_sem,zf,leA,leT]) ⟨rfl,by simp[go_sem]⟩
end Go.Proofs.YtjefahhmkcfiiaaGreat
end
section
namespace Go.Proofs.YtjefahhmkcfiiaaGreat
def qn(k:Int→Int)(l:List Int):Prop:=l.Pairwise fun a b=>k a≤k b
def qw(k:Int→Int)(l m:List Int):Prop:=∀c,l.filter (fun x=>k x==c)=m.filter (fun x=>k x==c)
theorem qw.refl(k:Int→Int)(l:List Int):qw k l l:=fun _=>rfl
theorem qw.symm {k:Int→Int} {l m:List Int}(h:qw k l m):qw k m l:=fun c=>(h c).symm
theorem qw.trans {k:Int→Int} {l m n:List Int}(h:qw k l m)(h':qw k m n):qw k l n:=fun c=>(h c).trans (h' c)
theorem qw.app {k:Int→Int} {a b c d:List Int}(h:qw k a b)(h':qw k c d):qw k (a++c) (b++d):=fun e=>by
 rw[List.filter_append,List.filter_append,h e,h' e]
theorem qw.mem {k:Int→Int} {l m:List Int}(h:qw k l m) {x:Int}(hx:x∈l):x∈m:=by
 have:x∈l.filter (fun y=>k y==k x):=List.mem_filter.2 ⟨hx,by simp⟩
 rw[h (k x)]at this
 exact(List.mem_filter.1 this).1
theorem qw.uniq {k:Int→Int}:∀{l m:List Int},qn k l→qn k m→qw k l m→l=m
 | [],[],_,_,_=>rfl
 | [],y::m,_,_,h=>by have:=h.symm.mem (x:=y) (by simp);simp at this
 |x::l,[],_,_,h=>by have:=h.mem (x:=x) (by simp);simp at this
 |x::l,y::m,h1,h2,h=>by
  have hx:k x≤k y:=by
   have:=h.symm.mem (x:=y) (by simp)
   rcases List.mem_cons.1 this with e|e
   ·rw[e];exact Int.le_refl _
   ·exact(List.pairwise_cons.1 h1).1 y e
  have hy:k y≤k x:=by
   have:=h.mem (x:=x) (by simp)
   rcases List.mem_cons.1 this with e|e
   ·rw[e];exact Int.le_refl _
   ·exact(List.pairwise_cons.1 h2).1 x e
  have hk:k x=k y:=by omega
  have hc:=h (k x)
  rw[List.filter_cons_of_pos (by simp),List.filter_cons_of_pos (by simp[hk])]at hc
  injection hc with e1 e2
  subst e1
  rw[qw.uniq (List.pairwise_cons.1 h1).2 (List.pairwise_cons.1 h2).2 (fun c=>by
   have:=h c
   by_cases hcx:k x=c
   ·rw[List.filter_cons_of_pos (by simp[hcx]),List.filter_cons_of_pos (by simp[hcx])]at this
    injection this
   ·rw[List.filter_cons_of_neg (by simp[hcx]),List.filter_cons_of_neg (by simp[hcx])]at this
    exact this)]
theorem qw.swap {k:Int→Int} {a b:List Int}(h:∀x∈a,∀y∈b,k x≠k y):qw k (a++b) (b++a):=fun c=>by
 rw[List.filter_append,List.filter_append]
 by_cases ha:∃x∈a,k x=c
 ·obtain⟨x,hx,rfl⟩:=ha
  have:b.filter (fun y=>k y==k x)=[]:=List.filter_eq_nil_iff.2 fun y hy=>by
   have:=h x hx y hy
   simpa using fun e=>this e.symm
  rw[this];simp
 ·have:a.filter (fun y=>k y==c)=[]:=List.filter_eq_nil_iff.2 fun y hy=>by
   simpa using fun e=>ha ⟨y,hy,e⟩
  rw[this];simp
theorem qn.app {k:Int→Int} {a b:List Int}(h1:qn k a)(h2:qn k b)(h:∀x∈a,∀y∈b,k x≤k y):qn k (a++b):=List.pairwise_append.2 ⟨h1,h2,h⟩
theorem qn.left {k:Int→Int} {a b:List Int}(h:qn k (a++b)):qn k a:=(List.pairwise_append.1 h).1
theorem qn.right {k:Int→Int} {a b:List Int}(h:qn k (a++b)):qn k b:=(List.pairwise_append.1 h).2.1
theorem qn.UY {k:Int→Int} {a b:List Int}(h:qn k (a++b)):∀x∈a,∀y∈b,k x≤k y:=(List.pairwise_append.1 h).2.2
def Qn(k:Int→Int)(l m:List Int):Prop:=qn k m∧qw k m l
theorem zjq {k:Int→Int} {a1 a2 b1 b2 r1 r2:List Int}(hA:qn k (a1++a2))(hB:qn k (b1++b2))(h1:∀x∈a1,∀y∈b2,k x≤k y)(h2:∀x∈a2,∀y∈b1,k y<k x)
  (hr1:Qn k (a1++b1) r1) (hr2:Qn k (a2++b2) r2):Qn k (a1++a2++(b1++b2)) (r1++r2):=by
 refine⟨qn.app hr1.1 hr2.1 fun x hx y hy=>?_,?_⟩
 ·have hx':=hr1.2.mem hx
  have hy':=hr2.2.mem hy
  rcases List.mem_append.1 hx' with hx'|hx'<;>rcases List.mem_append.1 hy' with hy'|hy'
  ·exact hA.UY x hx' y hy'
  ·exact h1 x hx' y hy'
  ·have:=h2 y hy' x hx';omega
  ·exact hB.UY x hx' y hy'
 ·have hs:qw k (b1++a2) (a2++b1):=qw.swap fun x hx y hy=>by have:=h2 y hy x hx;omega
  have:=(qw.refl k a1).app (hs.app (qw.refl k b2))
  have h3:=hr1.2.app hr2.2
  refine h3.trans ?_
  simpa[List.append_assoc]using this
theorem Qn.refl {k:Int→Int} {l:List Int}(h:qn k l):Qn k l l:=⟨h,qw.refl k l⟩
theorem Qn.uniq {k:Int→Int} {l m n:List Int}(h:Qn k l m)(h':Qn k l n):m=n:=qw.uniq h.1 h'.1 (h.2.trans h'.2.symm)
theorem Qn.trans {k:Int→Int} {l m n:List Int}(h:qw k m l)(h':Qn k m n):Qn k l n:=⟨h'.1,h'.2.trans h⟩
theorem qw.perm {k:Int→Int} {l m:List Int}(h:qw k l m):l.Perm m:=by
 rw[List.perm_iff_count]
 intro x
 have hc:∀n:List Int,n.count x=(n.filter (fun y=>k y==k x)).count x:=fun n=>by
  induction n with
  |nil=>rfl
  |cons y n ih=>
   by_cases e:y=x
   ·subst e;rw[List.filter_cons_of_pos (by simp),List.count_cons_self,List.count_cons_self,ih]
   ·rw[List.count_cons_of_ne e,ih]
    by_cases e2:k y=k x
    ·rw[List.filter_cons_of_pos (by simp[e2]),List.count_cons_of_ne e]
    ·rw[List.filter_cons_of_neg (by simp[e2])]
 rw[hc l,hc m,h (k x)]
end Go.Proofs.YtjefahhmkcfiiaaGreat
end
