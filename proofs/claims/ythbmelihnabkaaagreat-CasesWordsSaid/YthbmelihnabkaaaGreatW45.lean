/- A part of the proof of this seat's statements, by an abstract machine: what each operation does to values, and what the law's functions compute. Conditions: as each law says. -/
import Derived.Test.YthbmelihnabkaaaGreatW41
import Derived.Test.YthbmelihnabkaaaGreatW44
import Derived.Test.YthbmelihnabkaaaGreatW39
import Derived.Test.YthbmelihnabkaaaGreatW43
section
namespace Go.Proofs.YthbmelihnabkaaaGreat
open Go.AM
set_option maxHeartbeats 4000000
set_option maxRecDepth 10000
attribute [local irreducible] za
def Zb:List (Int×Int×Int):=[(97,122,32),(230,230,32),(240,240,32),(248,248,32),(254,254,32),(945,969,32),(1072,1103,32),(1104,1119,80)]
def za4:PV:=.agg [.int .i32 97,.int .i32 122,.int .i32 32,.int .i32 230,.int .i32 230,.int .i32 32,.int .i32 240,.int .i32 240,.int .i32 32,.int .i32 248,.int .i32 248,.int .i32 32,.int .i32 254,.int .i32 254,.int .i32 32,.int .i32 945,.int .i32 969,.int .i32 32,.int .i32 1072,.int .i32 1103,.int .i32 32,.int .i32 1104,.int .i32 1119,.int .i32 80]
theorem zdp [Gi]:CR Tryz.prog 112 [] [] [] (is (.p za4)):=by
 refine walk Tryz.func112 1 [] [] [] ?_
 simp (maxSteps:=1000000) [go_sem,Tryz.f112]
 exact ret (hx:=by simp[go_sem,zd,leA,leT,za4])
def Qg:List (Int×Int×Int)→Int→Int
 | [],r=>r
 |b::bs,r=>if b.1≤r∧r≤b.2.1 then r-b.2.2 else Qg bs r
def Qd:List (Int×Int×Int)→Int→Int
 | [],r=>r
 |b::bs,r=>if b.1-b.2.2≤r∧r≤b.2.1-b.2.2 then r+b.2.2 else Qd bs r
theorem zhK {r:Int}(h:r≠962):Qg Zb r=zA r:=by
 unfold zA Zb
 simp only[Qg]
 repeat' split
 all_goals omega
theorem zh2 {r:Int}(h:r≠930):Qd Zb r=zG r:=by
 unfold zG Zb
 simp only[Qd]
 repeat' split
 all_goals omega
theorem Yy [Gi] {r:Int}(hr:zu r):CR Tryz.prog 55 [] [.p (.int .i32 r)] [] (is (.p (.int .i32 (zA r)))):=by
 refine walk Tryz.func55 5 [7,8] [] [] ?_
 have hr1:=hr.1
 have hr2:=hr.2
 by_cases c0:r=962
 ·subst c0
  have e:zA 962=931:=by decide
  rw[e]
  simp (maxSteps:=1000000) [go_sem,Tryz.f55]
  exact ret
 ·have hF:=zhK c0
  simp (maxSteps:=1000000) [go_sem,Tryz.f55,c0]
  refine zk zdp ?_
  simp (maxSteps:=1000000) [go_sem,za4]
  refine loop (fun i:Nat=>i≤8∧Qg (Zb.drop i) r=zA r) (fun i=>[(8,.p (.int .i64 i)),(4,.zU)]) (fun _=>[]) (fun i=>8-i) 0 ⟨by omega,hF⟩ (fun i hi=>?_)
  obtain⟨h1,h2⟩:=hi
  rcases(show i=0∨i=1∨i=2∨i=3∨i=4∨i=5∨i=6∨i=7∨i=8 by omega)with rfl|rfl|rfl|rfl|rfl|rfl|rfl|rfl|rfl
  ·have hs:Qg (Zb.drop 0) r=if 97≤r∧r≤122 then r-32 else Qg (Zb.drop 1) r:=rfl
   rw[hs]at h2
   have wk:IntKind.i64.wrap 1=1:=wrap64 (by omega) (by omega)
   by_cases p1:97≤r
   ·by_cases p2:r≤122
    ·rw[if_pos ⟨p1,p2⟩]at h2
     have w:IntKind.i32.wrap (r-32)=r-32:=wrap32 (by omega) (by omega)
     rw[←h2]
     simp (maxSteps:=1000000) [go_sem,p1,p2,w]
     exact ret
    ·rw[if_neg (fun h=>p2 h.2)]at h2
     simp (maxSteps:=1000000) [go_sem,p1,p2,wk]
     exact next 1 ⟨by omega,h2⟩ (h3:=by decide)
   ·rw[if_neg (fun h=>p1 h.1)]at h2
    simp (maxSteps:=1000000) [go_sem,p1,wk]
    exact next 1 ⟨by omega,h2⟩ (h3:=by decide)
  ·have hs:Qg (Zb.drop 1) r=if 230≤r∧r≤230 then r-32 else Qg (Zb.drop 2) r:=rfl
   rw[hs]at h2
   have wk:IntKind.i64.wrap 2=2:=wrap64 (by omega) (by omega)
   by_cases p1:230≤r
   ·by_cases p2:r≤230
    ·rw[if_pos ⟨p1,p2⟩]at h2
     have w:IntKind.i32.wrap (r-32)=r-32:=wrap32 (by omega) (by omega)
     rw[←h2]
     simp (maxSteps:=1000000) [go_sem,p1,p2,w]
     exact ret
    ·rw[if_neg (fun h=>p2 h.2)]at h2
     simp (maxSteps:=1000000) [go_sem,p1,p2,wk]
     exact next 2 ⟨by omega,h2⟩ (h3:=by decide)
   ·rw[if_neg (fun h=>p1 h.1)]at h2
    simp (maxSteps:=1000000) [go_sem,p1,wk]
    exact next 2 ⟨by omega,h2⟩ (h3:=by decide)
  ·have hs:Qg (Zb.drop 2) r=if 240≤r∧r≤240 then r-32 else Qg (Zb.drop 3) r:=rfl
   rw[hs]at h2
   have wk:IntKind.i64.wrap 3=3:=wrap64 (by omega) (by omega)
   by_cases p1:240≤r
   ·by_cases p2:r≤240
    ·rw[if_pos ⟨p1,p2⟩]at h2
     have w:IntKind.i32.wrap (r-32)=r-32:=wrap32 (by omega) (by omega)
     rw[←h2]
     simp (maxSteps:=1000000) [go_sem,p1,p2,w]
     exact ret
    ·rw[if_neg (fun h=>p2 h.2)]at h2
     simp (maxSteps:=1000000) [go_sem,p1,p2,wk]
     exact next 3 ⟨by omega,h2⟩ (h3:=by decide)
   ·rw[if_neg (fun h=>p1 h.1)]at h2
    simp (maxSteps:=1000000) [go_sem,p1,wk]
    exact next 3 ⟨by omega,h2⟩ (h3:=by decide)
  ·have hs:Qg (Zb.drop 3) r=if 248≤r∧r≤248 then r-32 else Qg (Zb.drop 4) r:=rfl
   rw[hs]at h2
   have wk:IntKind.i64.wrap 4=4:=wrap64 (by omega) (by omega)
   by_cases p1:248≤r
   ·by_cases p2:r≤248
    ·rw[if_pos ⟨p1,p2⟩]at h2
     have w:IntKind.i32.wrap (r-32)=r-32:=wrap32 (by omega) (by omega)
     rw[←h2]
     simp (maxSteps:=1000000) [go_sem,p1,p2,w]
     exact ret
    ·rw[if_neg (fun h=>p2 h.2)]at h2
     simp (maxSteps:=1000000) [go_sem,p1,p2,wk]
     exact next 4 ⟨by omega,h2⟩ (h3:=by decide)
   ·rw[if_neg (fun h=>p1 h.1)]at h2
    simp (maxSteps:=1000000) [go_sem,p1,wk]
    exact next 4 ⟨by omega,h2⟩ (h3:=by decide)
  ·have hs:Qg (Zb.drop 4) r=if 254≤r∧r≤254 then r-32 else Qg (Zb.drop 5) r:=rfl
   rw[hs]at h2
   have wk:IntKind.i64.wrap 5=5:=wrap64 (by omega) (by omega)
   by_cases p1:254≤r
   ·by_cases p2:r≤254
    ·rw[if_pos ⟨p1,p2⟩]at h2
     have w:IntKind.i32.wrap (r-32)=r-32:=wrap32 (by omega) (by omega)
     rw[←h2]
     simp (maxSteps:=1000000) [go_sem,p1,p2,w]
     exact ret
    ·rw[if_neg (fun h=>p2 h.2)]at h2
     simp (maxSteps:=1000000) [go_sem,p1,p2,wk]
     exact next 5 ⟨by omega,h2⟩ (h3:=by decide)
   ·rw[if_neg (fun h=>p1 h.1)]at h2
    simp (maxSteps:=1000000) [go_sem,p1,wk]
    exact next 5 ⟨by omega,h2⟩ (h3:=by decide)
  ·have hs:Qg (Zb.drop 5) r=if 945≤r∧r≤969 then r-32 else Qg (Zb.drop 6) r:=rfl
   rw[hs]at h2
   have wk:IntKind.i64.wrap 6=6:=wrap64 (by omega) (by omega)
   by_cases p1:945≤r
   ·by_cases p2:r≤969
    ·rw[if_pos ⟨p1,p2⟩]at h2
     have w:IntKind.i32.wrap (r-32)=r-32:=wrap32 (by omega) (by omega)
     rw[←h2]
     simp (maxSteps:=1000000) [go_sem,p1,p2,w]
     exact ret
    ·rw[if_neg (fun h=>p2 h.2)]at h2
     simp (maxSteps:=1000000) [go_sem,p1,p2,wk]
     exact next 6 ⟨by omega,h2⟩ (h3:=by decide)
   ·rw[if_neg (fun h=>p1 h.1)]at h2
    simp (maxSteps:=1000000) [go_sem,p1,wk]
    exact next 6 ⟨by omega,h2⟩ (h3:=by decide)
  ·have hs:Qg (Zb.drop 6) r=if 1072≤r∧r≤1103 then r-32 else Qg (Zb.drop 7) r:=rfl
   rw[hs]at h2
   have wk:IntKind.i64.wrap 7=7:=wrap64 (by omega) (by omega)
   by_cases p1:1072≤r
   ·by_cases p2:r≤1103
    ·rw[if_pos ⟨p1,p2⟩]at h2
     have w:IntKind.i32.wrap (r-32)=r-32:=wrap32 (by omega) (by omega)
     rw[←h2]
     simp (maxSteps:=1000000) [go_sem,p1,p2,w]
     exact ret
    ·rw[if_neg (fun h=>p2 h.2)]at h2
     simp (maxSteps:=1000000) [go_sem,p1,p2,wk]
     exact next 7 ⟨by omega,h2⟩ (h3:=by decide)
   ·rw[if_neg (fun h=>p1 h.1)]at h2
    simp (maxSteps:=1000000) [go_sem,p1,wk]
    exact next 7 ⟨by omega,h2⟩ (h3:=by decide)
  ·have hs:Qg (Zb.drop 7) r=if 1104≤r∧r≤1119 then r-80 else Qg (Zb.drop 8) r:=rfl
   rw[hs]at h2
   have wk:IntKind.i64.wrap 8=8:=wrap64 (by omega) (by omega)
   by_cases p1:1104≤r
   ·by_cases p2:r≤1119
    ·rw[if_pos ⟨p1,p2⟩]at h2
     have w:IntKind.i32.wrap (r-80)=r-80:=wrap32 (by omega) (by omega)
     rw[←h2]
     simp (maxSteps:=1000000) [go_sem,p1,p2,w]
     exact ret
    ·rw[if_neg (fun h=>p2 h.2)]at h2
     simp (maxSteps:=1000000) [go_sem,p1,p2,wk]
     exact next 8 ⟨by omega,h2⟩ (h3:=by decide)
   ·rw[if_neg (fun h=>p1 h.1)]at h2
    simp (maxSteps:=1000000) [go_sem,p1,wk]
    exact next 8 ⟨by omega,h2⟩ (h3:=by decide)
  ·have hs:Qg (Zb.drop 8) r=r:=rfl
   rw[hs]at h2
   rw[←h2]
   simp (maxSteps:=1000000) [go_sem]
   exact ret
theorem zdb [Gi] {r:Int}(hr:zu r):CR Tryz.prog 56 [] [.p (.int .i32 r)] [] (is (.p (.int .i32 (zG r)))):=by
 refine walk Tryz.func56 5 [8,9] [] [] ?_
 have hr1:=hr.1
 have hr2:=hr.2
 by_cases c0:r=930
 ·subst c0
  have e:zG 930=930:=by decide
  rw[e]
  simp (maxSteps:=1000000) [go_sem,Tryz.f56]
  exact ret
 ·have hF:=zh2 c0
  simp (maxSteps:=1000000) [go_sem,Tryz.f56,c0]
  refine zk zdp ?_
  simp (maxSteps:=1000000) [go_sem,za4]
  refine loop (fun i:Nat=>i≤8∧Qd (Zb.drop i) r=zG r) (fun i=>[(9,.p (.int .i64 i)),(4,.zU)]) (fun _=>[]) (fun i=>8-i) 0 ⟨by omega,hF⟩ (fun i hi=>?_)
  obtain⟨h1,h2⟩:=hi
  rcases(show i=0∨i=1∨i=2∨i=3∨i=4∨i=5∨i=6∨i=7∨i=8 by omega)with rfl|rfl|rfl|rfl|rfl|rfl|rfl|rfl|rfl
  ·have hs:Qd (Zb.drop 0) r=if 65≤r∧r≤90 then r+32 else Qd (Zb.drop 1) r:=rfl
   rw[hs]at h2
   have wk:IntKind.i64.wrap 1=1:=wrap64 (by omega) (by omega)
   have wl:IntKind.i32.wrap 65=65:=wrap32 (by omega) (by omega)
   have wh:IntKind.i32.wrap 90=90:=wrap32 (by omega) (by omega)
   by_cases p1:65≤r
   ·by_cases p2:r≤90
    ·rw[if_pos ⟨p1,p2⟩]at h2
     have w:IntKind.i32.wrap (r+32)=r+32:=wrap32 (by omega) (by omega)
     rw[←h2]
     simp (maxSteps:=1000000) [go_sem,p1,p2,w,wl,wh]
     exact ret
    ·rw[if_neg (fun h=>p2 h.2)]at h2
     simp (maxSteps:=1000000) [go_sem,p1,p2,wk,wl,wh]
     exact next 1 ⟨by omega,h2⟩ (h3:=by decide)
   ·rw[if_neg (fun h=>p1 h.1)]at h2
    simp (maxSteps:=1000000) [go_sem,p1,wk,wl,wh]
    exact next 1 ⟨by omega,h2⟩ (h3:=by decide)
  ·have hs:Qd (Zb.drop 1) r=if 198≤r∧r≤198 then r+32 else Qd (Zb.drop 2) r:=rfl
   rw[hs]at h2
   have wk:IntKind.i64.wrap 2=2:=wrap64 (by omega) (by omega)
   have wl:IntKind.i32.wrap 198=198:=wrap32 (by omega) (by omega)
   have wh:IntKind.i32.wrap 198=198:=wrap32 (by omega) (by omega)
   by_cases p1:198≤r
   ·by_cases p2:r≤198
    ·rw[if_pos ⟨p1,p2⟩]at h2
     have w:IntKind.i32.wrap (r+32)=r+32:=wrap32 (by omega) (by omega)
     rw[←h2]
     simp (maxSteps:=1000000) [go_sem,p1,p2,w,wl]
     exact ret
    ·rw[if_neg (fun h=>p2 h.2)]at h2
     simp (maxSteps:=1000000) [go_sem,p1,p2,wk,wl]
     exact next 2 ⟨by omega,h2⟩ (h3:=by decide)
   ·rw[if_neg (fun h=>p1 h.1)]at h2
    simp (maxSteps:=1000000) [go_sem,p1,wk,wl]
    exact next 2 ⟨by omega,h2⟩ (h3:=by decide)
  ·have hs:Qd (Zb.drop 2) r=if 208≤r∧r≤208 then r+32 else Qd (Zb.drop 3) r:=rfl
   rw[hs]at h2
   have wk:IntKind.i64.wrap 3=3:=wrap64 (by omega) (by omega)
   have wl:IntKind.i32.wrap 208=208:=wrap32 (by omega) (by omega)
   have wh:IntKind.i32.wrap 208=208:=wrap32 (by omega) (by omega)
   by_cases p1:208≤r
   ·by_cases p2:r≤208
    ·rw[if_pos ⟨p1,p2⟩]at h2
     have w:IntKind.i32.wrap (r+32)=r+32:=wrap32 (by omega) (by omega)
     rw[←h2]
     simp (maxSteps:=1000000) [go_sem,p1,p2,w,wl]
     exact ret
    ·rw[if_neg (fun h=>p2 h.2)]at h2
     simp (maxSteps:=1000000) [go_sem,p1,p2,wk,wl]
     exact next 3 ⟨by omega,h2⟩ (h3:=by decide)
   ·rw[if_neg (fun h=>p1 h.1)]at h2
    simp (maxSteps:=1000000) [go_sem,p1,wk,wl]
    exact next 3 ⟨by omega,h2⟩ (h3:=by decide)
  ·have hs:Qd (Zb.drop 3) r=if 216≤r∧r≤216 then r+32 else Qd (Zb.drop 4) r:=rfl
   rw[hs]at h2
   have wk:IntKind.i64.wrap 4=4:=wrap64 (by omega) (by omega)
   have wl:IntKind.i32.wrap 216=216:=wrap32 (by omega) (by omega)
   have wh:IntKind.i32.wrap 216=216:=wrap32 (by omega) (by omega)
   by_cases p1:216≤r
   ·by_cases p2:r≤216
    ·rw[if_pos ⟨p1,p2⟩]at h2
     have w:IntKind.i32.wrap (r+32)=r+32:=wrap32 (by omega) (by omega)
     rw[←h2]
     simp (maxSteps:=1000000) [go_sem,p1,p2,w,wl]
     exact ret
    ·rw[if_neg (fun h=>p2 h.2)]at h2
     simp (maxSteps:=1000000) [go_sem,p1,p2,wk,wl]
     exact next 4 ⟨by omega,h2⟩ (h3:=by decide)
   ·rw[if_neg (fun h=>p1 h.1)]at h2
    simp (maxSteps:=1000000) [go_sem,p1,wk,wl]
    exact next 4 ⟨by omega,h2⟩ (h3:=by decide)
  ·have hs:Qd (Zb.drop 4) r=if 222≤r∧r≤222 then r+32 else Qd (Zb.drop 5) r:=rfl
   rw[hs]at h2
   have wk:IntKind.i64.wrap 5=5:=wrap64 (by omega) (by omega)
   have wl:IntKind.i32.wrap 222=222:=wrap32 (by omega) (by omega)
   have wh:IntKind.i32.wrap 222=222:=wrap32 (by omega) (by omega)
   by_cases p1:222≤r
   ·by_cases p2:r≤222
    ·rw[if_pos ⟨p1,p2⟩]at h2
     have w:IntKind.i32.wrap (r+32)=r+32:=wrap32 (by omega) (by omega)
     rw[←h2]
     simp (maxSteps:=1000000) [go_sem,p1,p2,w,wl]
     exact ret
    ·rw[if_neg (fun h=>p2 h.2)]at h2
     simp (maxSteps:=1000000) [go_sem,p1,p2,wk,wl]
     exact next 5 ⟨by omega,h2⟩ (h3:=by decide)
   ·rw[if_neg (fun h=>p1 h.1)]at h2
    simp (maxSteps:=1000000) [go_sem,p1,wk,wl]
    exact next 5 ⟨by omega,h2⟩ (h3:=by decide)
  ·have hs:Qd (Zb.drop 5) r=if 913≤r∧r≤937 then r+32 else Qd (Zb.drop 6) r:=rfl
   rw[hs]at h2
   have wk:IntKind.i64.wrap 6=6:=wrap64 (by omega) (by omega)
   have wl:IntKind.i32.wrap 913=913:=wrap32 (by omega) (by omega)
   have wh:IntKind.i32.wrap 937=937:=wrap32 (by omega) (by omega)
   by_cases p1:913≤r
   ·by_cases p2:r≤937
    ·rw[if_pos ⟨p1,p2⟩]at h2
     have w:IntKind.i32.wrap (r+32)=r+32:=wrap32 (by omega) (by omega)
     rw[←h2]
     simp (maxSteps:=1000000) [go_sem,p1,p2,w,wl,wh]
     exact ret
    ·rw[if_neg (fun h=>p2 h.2)]at h2
     simp (maxSteps:=1000000) [go_sem,p1,p2,wk,wl,wh]
     exact next 6 ⟨by omega,h2⟩ (h3:=by decide)
   ·rw[if_neg (fun h=>p1 h.1)]at h2
    simp (maxSteps:=1000000) [go_sem,p1,wk,wl,wh]
    exact next 6 ⟨by omega,h2⟩ (h3:=by decide)
  ·have hs:Qd (Zb.drop 6) r=if 1040≤r∧r≤1071 then r+32 else Qd (Zb.drop 7) r:=rfl
   rw[hs]at h2
   have wk:IntKind.i64.wrap 7=7:=wrap64 (by omega) (by omega)
   have wl:IntKind.i32.wrap 1040=1040:=wrap32 (by omega) (by omega)
   have wh:IntKind.i32.wrap 1071=1071:=wrap32 (by omega) (by omega)
   by_cases p1:1040≤r
   ·by_cases p2:r≤1071
    ·rw[if_pos ⟨p1,p2⟩]at h2
     have w:IntKind.i32.wrap (r+32)=r+32:=wrap32 (by omega) (by omega)
     rw[←h2]
     simp (maxSteps:=1000000) [go_sem,p1,p2,w,wl,wh]
     exact ret
    ·rw[if_neg (fun h=>p2 h.2)]at h2
     simp (maxSteps:=1000000) [go_sem,p1,p2,wk,wl,wh]
     exact next 7 ⟨by omega,h2⟩ (h3:=by decide)
   ·rw[if_neg (fun h=>p1 h.1)]at h2
    simp (maxSteps:=1000000) [go_sem,p1,wk,wl,wh]
    exact next 7 ⟨by omega,h2⟩ (h3:=by decide)
  ·have hs:Qd (Zb.drop 7) r=if 1024≤r∧r≤1039 then r+80 else Qd (Zb.drop 8) r:=rfl
   rw[hs]at h2
   have wk:IntKind.i64.wrap 8=8:=wrap64 (by omega) (by omega)
   have wl:IntKind.i32.wrap 1024=1024:=wrap32 (by omega) (by omega)
   have wh:IntKind.i32.wrap 1039=1039:=wrap32 (by omega) (by omega)
   by_cases p1:1024≤r
   ·by_cases p2:r≤1039
    ·rw[if_pos ⟨p1,p2⟩]at h2
     have w:IntKind.i32.wrap (r+80)=r+80:=wrap32 (by omega) (by omega)
     rw[←h2]
     simp (maxSteps:=1000000) [go_sem,p1,p2,w,wl,wh]
     exact ret
    ·rw[if_neg (fun h=>p2 h.2)]at h2
     simp (maxSteps:=1000000) [go_sem,p1,p2,wk,wl,wh]
     exact next 8 ⟨by omega,h2⟩ (h3:=by decide)
   ·rw[if_neg (fun h=>p1 h.1)]at h2
    simp (maxSteps:=1000000) [go_sem,p1,wk,wl,wh]
    exact next 8 ⟨by omega,h2⟩ (h3:=by decide)
  ·have hs:Qd (Zb.drop 8) r=r:=rfl
   rw[hs]at h2
   rw[←h2]
   simp (maxSteps:=1000000) [go_sem]
   exact ret
end Go.Proofs.YthbmelihnabkaaaGreat
end
section
namespace Go.Proofs.YthbmelihnabkaaaGreat
open Go.AM
set_option maxHeartbeats 4000000
set_option maxRecDepth 10000
attribute [local irreducible] za
theorem CR.zjy [Gi] {P:Program} {f:FuncId} {e:PV} {M:List Int} {R:AV→List (Tok×List AV)→Prop}(h:CR P f [] [.p e,.p (zh M)] [] R)(h0:0<M.length):CR P f [] [.p e,.la [0] 1 0 M.length] [([0],zo M)] R:=by
 intro w g vs h1 h2
 simp only[zp]at h1
 obtain⟨v1,vs1,rfl,r1,v2,vs2,rfl,r2,rfl⟩:=h1
 have hx:=xh h2 (fun _=>false)
 have hG:GS (frz g w fun _=>false) w []:=by
  have:=zjT h2 (fun _=>false)
  exact this
 have k1:zb (frz g w fun _=>false) w (.p e) v1:=by
  rw[wY]at r1⊢
  exact r1.ext hx
 have k2:zb (frz g w fun _=>false) w (.p (zh M)) v2:=by
  rw[wY]
  refine xU (t:=[0]) (z:=1) (n:=M.length) (es:=zr M) (rt:=fun _=>false) h2 [] h0 ?_ rfl (by simp[zr]) (fun e he=>?_) r2
  ·rw[VR];simp[zI,zac]
  ·obtain⟨s,_,rfl⟩:=List.mem_map.1 he
   exact⟨rfl,rfl⟩
 refine(h w (frz g w fun _=>false) [v1,v2] (by simp only[zp];exact⟨v1,[v2],rfl,k1,v2,[],rfl,k2,rfl⟩) hG).mono ?_
 rintro e' w' ⟨v,x,rs',g',rfl,hR,hx',hG2,hA⟩
 refine⟨v,x,rs',g',rfl,hR,hx',hG2,⟨fun b hb hk=>?_,hx.trans hA.ext,hA.out,hA.mono,fun b t _ ht=>by cases ht⟩⟩
 obtain⟨a1,a2,a3⟩:=hA.frame b hb (by show(g.K b).fil (fun _=>false) ftt=.prot;rw[hk];rfl)
 exact⟨a1,by rw[a2,jL (fun t e=>by rw[hk]at e;cases e)],a3⟩
theorem Jl [Gi] {e:PV}(hT:qB e)(l:List Int)(hn:l.length<2^20)(hr:∀x∈l,zu x)(hl0:l≠ []):CR Tryz.prog 111 [] [.p e,.p (zh l)] [] (fun x rs=>x=.la [22,9,7] 1 0 (ZO za l).length∧rs=[([22,9,7],zo (ZO za l))]):=by
 obtain⟨c,b,j,f,p,h,rfl⟩:=hT
 have:=zkM h Z0 UJ (ckP M0.1) (cxP M0.1) (ZD M0.2) (qd M0.2) l hn hr hl0
 rw[KY]at this
 exact this
theorem zdi [Gi] {e:PV}(hT:qB e)(l:List Int)(hn:l.length<2^20)(hr:∀x∈l,zu x):CR Tryz.prog 111 [] [.p e,.p (zh l)] [] (is (.p (zh (ZO za l)))):=by
 obtain⟨c,b,j,f,p,h,rfl⟩:=hT
 have:=zkn h Z0 UJ (ckP M0.1) (cxP M0.1) (ZD M0.2) (qd M0.2) l hn hr
 rw[KY]at this
 exact this
def jc(F:Int→Int)(d:List Int)(i:Nat):List Int:=(d.take i).map F++d.drop i
theorem yL(F:Int→Int)(d:List Int)(i:Nat):(jc F d i).length=d.length:=by
 unfold jc;rw[List.length_append,List.length_map,List.length_take,List.length_drop];omega
theorem zcr {F:Int→Int} {d:List Int} {i:Nat}(h:i<d.length):(jc F d i)[i]?.getD 0=d[i]:=by
 unfold jc
 have e:((d.take i).map F).length=i:=by rw[List.length_map,List.length_take];omega
 rw[List.getElem?_append_right (by omega),e,Nat.sub_self,List.getElem?_drop,Nat.add_zero,List.getElem?_eq_getElem h];rfl
theorem zay {F:Int→Int} {d:List Int} {i:Nat}(h:i<d.length):(jc F d i).set i (F d[i])=jc F d (i+1):=by
 unfold jc
 have e:((d.take i).map F).length=i:=by rw[List.length_map,List.length_take];omega
 have e2:(d.take (i+1)).map F=(d.take i).map F++[F d[i]]:=by rw[List.take_add_one,List.getElem?_eq_getElem h,List.map_append];rfl
 rw[List.set_append_right _ _ (by omega),e,Nat.sub_self,List.drop_eq_getElem_cons h,List.set_cons_zero,e2,List.append_assoc];rfl
theorem zat(F:Int→Int)(d:List Int):jc F d d.length=d.map F:=by unfold jc;rw[List.take_length,List.drop_length,List.append_nil]
theorem vR {F:Int→Int}(hF:∀{r:Int},zu r→zu (F r)) {l:List Int}(hl:∀x∈l,zu x):∀x∈l.map F,zu x:=fun x hx=>by
 obtain⟨y,hy,rfl⟩:=List.mem_map.1 hx
 exact hF (hl y hy)
theorem yh {l:List Int}(hl:∀x∈l,zu x):∀x∈ZO za l,zu x:=by
 rw[←KY]
 exact X1 UJ hl
theorem QP(l:List Int):(ZO za l).length≤3*l.length:=by
 have h3:(ZO za l).length=(ZV za l).length:=k9 _ _
 have h4:=Ke l
 omega
def zbL:PV:=.opq (.func (.func 55) #[] #[])
theorem zaT [Gi] {e:PV}(hT:qB e)(l:List Int)(hn:l.length≤20000)(hr:∀x∈l,zu x):CR Tryz.prog 54 [] [.p e,.p (zh l),.p zbL] [] (is (.p (zh (Q5 zA l)))):=by
 have hd:=QP l
 have hdr:=yh hr
 by_cases hl0:l=[]
 ·subst hl0
  refine walk Tryz.func54 10 [13,14,15] [] [] ?_
  have h1:=zdi hT [] (by decide) (by simp)
  have e1:ZO za []=[]:=by decide+kernel
  have e2:Q5 zA []=[]:=by unfold Q5;rw[e1];decide+kernel
  have h2:=jY hT [] (by decide) (by simp)
  have e3:qN za []=[]:=by decide+kernel
  rw[e1]at h1
  rw[e3]at h2
  rw[e2]
  obtain⟨z0,y0,rfl⟩:=qA hT
  simp (maxSteps:=1000000) [go_sem,Tryz.f54,zbL]
  refine zk h1 ?_
  simp (maxSteps:=1000000) [go_sem]
  refine loop (fun _:Unit=>True) (fun _=>[(15,.p (.int .i64 0))]) (fun _=>[]) (fun _=>0) () trivial (fun _ _=>?_)
  simp (maxSteps:=1000000) [go_sem]
  refine zk h2 ?_
  simp (maxSteps:=1000000) [go_sem]
  exact ret
 ·have h1:=Jl hT l (by omega) hr hl0
  have hdn:ZO za l≠ []:=by
   intro h
   have a1:Y6 l=0:=by unfold Y6;have:=k9 (kD za) (ZV za l);unfold ZO at h;rw[h]at this;simpa using this.symm
   have a2:=K5 l
   exact hl0 (List.length_eq_zero_iff.1 (by omega))
  have hc:Q5 zA l=qN za ((ZO za l).map zA):=rfl
  rw[hc]
  generalize ZO za l=d at h1 hd hdr hdn⊢
  have h2:=CR.zjy (jY hT (d.map zA) (by rw[List.length_map];omega) (vR va hdr)) (by rw[List.length_map];exact List.length_pos_iff.2 hdn)
  rw[List.length_map]at h2
  obtain⟨z0,y0,rfl⟩:=qA hT
  refine walk Tryz.func54 10 [13,14,15] [] [] ?_
  simp (maxSteps:=1000000) [go_sem,Tryz.f54,zbL]
  refine call [] h1 ?_
  rintro _ _ ⟨rfl,rfl⟩
  simp (maxSteps:=1000000) [go_sem]
  have hp0:jc zA d 0=d:=by simp[jc]
  refine loop (fun i:Nat=>i≤d.length) (fun i=>[(15,.p (.int .i64 i)),(8,.zU),(9,.zU)]) (fun i=>[([12,22,9,7],zo (jc zA d i))]) (fun i=>d.length-i) 0 (Nat.zero_le _) (fun i hi=>?_) (h0:=by simp[go_sem,LeS,leV,leR,leA,zj,hp0])
  by_cases c:i<d.length
  ·have g1:=y3 (M:=jc zA d i) (i:=i) (by rw[yL];exact c)
   rw[zcr c]at g1
   have p1:=qU (M:=jc zA d i) (i:=i) (zA d[i]) (by rw[yL];exact c)
   rw[zay c]at p1
   have hm:=Yy (hdr d[i] (List.getElem_mem c))
   generalize d[i]=x at g1 p1 hm
   have w1:IntKind.i64.wrap ((i:Int)+1)=((i+1:Nat):Int):=zN (by omega)
   have hl:=yL zA d i
   have g2:∀h:i< (zo (jc zA d i)).length,(zo (jc zA d i))[i]=.p (.int .i32 x):=fun h=>by rw[List.getElem?_eq_getElem h]at g1;injection g1
   simp (maxSteps:=1000000) [go_sem,c,g2,hl]
   refine zk hm ?_
   simp (maxSteps:=1000000) [go_sem,c,p1,w1,hl]
   refine⟨c,?_⟩
   exact next (i+1) c (h3:=by show d.length- (i+1)<d.length-i;omega)
  ·obtain rfl:i=d.length:=by omega
   rw[zat]
   simp (maxSteps:=1000000) [go_sem]
   refine call [([0],[12,22,9,7])] h2 ?_
   rintro _ _ ⟨rfl,rfl⟩
   simp (maxSteps:=1000000) [go_sem]
   exact ret
theorem JM [Gi] {e:PV}(hT:qB e)(l:List Int)(hn:l.length≤20000)(hr:∀x∈l,zu x):CR Tryz.prog 13 [] [.p e,.p (zh l)] [] (is (.p (zh (Q5 zA l)))):=by
 refine walk Tryz.func13 5 [] [] [] ?_
 have h:=zaT hT l hn hr
 obtain⟨z0,y0,rfl⟩:=qA hT
 simp (maxSteps:=1000000) [go_sem,Tryz.f13]
 refine zk h ?_ (ha':=by simp[go_sem,zbL])
 simp (maxSteps:=1000000) [go_sem]
 exact ret
def zaY:PV:=.opq (.func (.func 56) #[] #[])
theorem za1 [Gi] {e:PV}(hT:qB e)(l:List Int)(hn:l.length≤20000)(hr:∀x∈l,zu x):CR Tryz.prog 54 [] [.p e,.p (zh l),.p zaY] [] (is (.p (zh (Q5 zG l)))):=by
 have hd:=QP l
 have hdr:=yh hr
 by_cases hl0:l=[]
 ·subst hl0
  refine walk Tryz.func54 10 [13,14,15] [] [] ?_
  have h1:=zdi hT [] (by decide) (by simp)
  have e1:ZO za []=[]:=by decide+kernel
  have e2:Q5 zG []=[]:=by unfold Q5;rw[e1];decide+kernel
  have h2:=jY hT [] (by decide) (by simp)
  have e3:qN za []=[]:=by decide+kernel
  rw[e1]at h1
  rw[e3]at h2
  rw[e2]
  obtain⟨z0,y0,rfl⟩:=qA hT
  simp (maxSteps:=1000000) [go_sem,Tryz.f54,zaY]
  refine zk h1 ?_
  simp (maxSteps:=1000000) [go_sem]
  refine loop (fun _:Unit=>True) (fun _=>[(15,.p (.int .i64 0))]) (fun _=>[]) (fun _=>0) () trivial (fun _ _=>?_)
  simp (maxSteps:=1000000) [go_sem]
  refine zk h2 ?_
  simp (maxSteps:=1000000) [go_sem]
  exact ret
 ·have h1:=Jl hT l (by omega) hr hl0
  have hdn:ZO za l≠ []:=by
   intro h
   have a1:Y6 l=0:=by unfold Y6;have:=k9 (kD za) (ZV za l);unfold ZO at h;rw[h]at this;simpa using this.symm
   have a2:=K5 l
   exact hl0 (List.length_eq_zero_iff.1 (by omega))
  have hc:Q5 zG l=qN za ((ZO za l).map zG):=rfl
  rw[hc]
  generalize ZO za l=d at h1 hd hdr hdn⊢
  have h2:=CR.zjy (jY hT (d.map zG) (by rw[List.length_map];omega) (vR yQ hdr)) (by rw[List.length_map];exact List.length_pos_iff.2 hdn)
  rw[List.length_map]at h2
  obtain⟨z0,y0,rfl⟩:=qA hT
  refine walk Tryz.func54 10 [13,14,15] [] [] ?_
  simp (maxSteps:=1000000) [go_sem,Tryz.f54,zaY]
  refine call [] h1 ?_
  rintro _ _ ⟨rfl,rfl⟩
  simp (maxSteps:=1000000) [go_sem]
  have hp0:jc zG d 0=d:=by simp[jc]
  refine loop (fun i:Nat=>i≤d.length) (fun i=>[(15,.p (.int .i64 i)),(8,.zU),(9,.zU)]) (fun i=>[([12,22,9,7],zo (jc zG d i))]) (fun i=>d.length-i) 0 (Nat.zero_le _) (fun i hi=>?_) (h0:=by simp[go_sem,LeS,leV,leR,leA,zj,hp0])
  by_cases c:i<d.length
  ·have g1:=y3 (M:=jc zG d i) (i:=i) (by rw[yL];exact c)
   rw[zcr c]at g1
   have p1:=qU (M:=jc zG d i) (i:=i) (zG d[i]) (by rw[yL];exact c)
   rw[zay c]at p1
   have hm:=zdb (hdr d[i] (List.getElem_mem c))
   generalize d[i]=x at g1 p1 hm
   have w1:IntKind.i64.wrap ((i:Int)+1)=((i+1:Nat):Int):=zN (by omega)
   have hl:=yL zG d i
   have g2:∀h:i< (zo (jc zG d i)).length,(zo (jc zG d i))[i]=.p (.int .i32 x):=fun h=>by rw[List.getElem?_eq_getElem h]at g1;injection g1
   simp (maxSteps:=1000000) [go_sem,c,g2,hl]
   refine zk hm ?_
   simp (maxSteps:=1000000) [go_sem,c,p1,w1,hl]
   refine⟨c,?_⟩
   exact next (i+1) c (h3:=by show d.length- (i+1)<d.length-i;omega)
  ·obtain rfl:i=d.length:=by omega
   rw[zat]
   simp (maxSteps:=1000000) [go_sem]
   refine call [([0],[12,22,9,7])] h2 ?_
   rintro _ _ ⟨rfl,rfl⟩
   simp (maxSteps:=1000000) [go_sem]
   exact ret
theorem K8 [Gi] {e:PV}(hT:qB e)(l:List Int)(hn:l.length≤20000)(hr:∀x∈l,zu x):CR Tryz.prog 14 [] [.p e,.p (zh l)] [] (is (.p (zh (Q5 zG l)))):=by
 refine walk Tryz.func14 5 [] [] [] ?_
 have h:=za1 hT l hn hr
 obtain⟨z0,y0,rfl⟩:=qA hT
 simp (maxSteps:=1000000) [go_sem,Tryz.f14]
 refine zk h ?_ (ha':=by simp[go_sem,zaY])
 simp (maxSteps:=1000000) [go_sem]
 exact ret
end Go.Proofs.YthbmelihnabkaaaGreat
end
section
namespace Go.Proofs.YthbmelihnabkaaaGreat
open Go.AM
set_option maxHeartbeats 4000000
set_option maxRecDepth 10000
attribute [local irreducible] za
theorem Ug [Gi] {e:PV}(hT:qB e) {l:List Int} {L:List (List Int)}(h:Ln l L)(a:Int):CR Tryz.prog 132 [] [.p e,.p (zh l),.p (.int .i64 a)] [] (is (.p (.int .i64 (plc L (kf L a):Nat)))):=by
 refine uG 9 [] Tryz.func132 rfl [] rfl (by simp) (by simp) ?_
 have hs:=h.sum
 have hcl:=h.cl
 have hln:=h.n
 refine Sem.Zm [] mixed ?_
 simp (maxSteps:=1000000) [go_sem,Tryz.f132]
 refine Sem.scope ?_
 refine Sem.Zm [] mixed ?_
 by_cases c1:a≤0
 ·have e1:plc L (kf L a)=0:=by
   by_cases c0:a<0
   ·rw[zbl L c0,Zy]
   ·have:=uX L a (by omega);omega
  rw[e1]
  simp (maxSteps:=1000000) [go_sem,c1]
  exact ret
 by_cases c2:(l.length:Int)≤a
 ·rw[zaX hcl (by omega),qP,hs]
  simp (maxSteps:=1000000) [go_sem,c1,c2]
  exact ret
 obtain⟨n,rfl⟩:∃n:Nat,a=n:=⟨a.toNat,by omega⟩
 simp (maxSteps:=1000000) [go_sem]
 have c1':¬n=0:=by omega
 have c2':¬l.length≤n:=by omega
 simp (maxSteps:=1000000) [go_sem,c1',c2']
 refine Sem.Zm [] mixed ?_
 simp (maxSteps:=1000000) [go_sem]
 refine call [] (zlk hT h n (by omega)) ?_
 rintro _ _ ⟨k0,⟨k1,k2,rfl⟩,rfl⟩
 simp (maxSteps:=1000000) [go_sem]
 refine Sem.label (Sem.Zm [] mixed ?_)
 simp (maxSteps:=1000000) [go_sem]
 obtain⟨N,hN⟩:∃N,N=kf L (n:Nat):=⟨_,rfl⟩
 rw[←hN]
 refine loop (fun k:Nat=>k<L.length∧plc L k≤n) (fun k=>[(7,.p (.int .i64 (plc L k:Nat))),(8,.zU)]) (fun _=>[]) (fun k=>L.length-k) k0 ⟨k1,k2⟩ (fun k hk=>?_)
 obtain⟨h1,h2⟩:=hk
 have hlt:=Wx hcl h1
 by_cases c3:plc L k<n
 ·have c3':(plc L k:Int)<n:=by omega
  have hX:=y7 hT h h1
  simp (maxSteps:=1000000) [go_sem,c3']
  refine zk hX ?_
  by_cases c4:n<plc L (k+1)
  ·have c4':(n:Int)<plc L (k+1):=by omega
   have e1:N=k:=by rw[hN];exact Kv hcl (by omega) (by omega) (fun _=>by omega)
   rw[e1]
   simp (maxSteps:=1000000) [go_sem,c4']
   refine Sem.of [] mixed ?_
   simp (maxSteps:=1000000) [go_sem]
   exact ret
  ·have c4':¬(n:Int)<plc L (k+1):=by omega
   have k3:k+1<L.length:=by
    refine Nat.lt_of_le_of_ne (by omega) (fun e=>?_)
    rw[e,qP]at c4;omega
   simp (maxSteps:=1000000) [go_sem,c4']
   exact next (k+1) ⟨k3,by omega⟩ (by omega)
 ·have c3':¬(plc L k:Int)<n:=by omega
  have e1:N=k:=by rw[hN];exact Kv hcl (by omega) (by omega) (fun _=>by omega)
  rw[e1]
  simp (maxSteps:=1000000) [go_sem,c3']
  refine Sem.of [] mixed ?_
  simp (maxSteps:=1000000) [go_sem]
  exact ret
theorem zi1 [Gi] {e:PV}(hT:qB e) {l:List Int} {L:List (List Int)}(h:Ln l L) {k:Nat}(hk:k<L.length):CR Tryz.prog 133 [] [.p e,.p (zh l),.p (.int .i64 (plc L (k+1):Nat))] [] (is (.p (.int .i64 (plc L k:Nat)))):=by
 refine walk Tryz.func133 7 [] [] [] ?_
 have hs:=h.sum
 have hln:=h.n
 have h1:=Wx h.cl hk
 have h2:=jW h.cl (k:=k+1) hk
 have hf:=Ug hT h ((plc L (k+1):Int)-1)
 rw[Kv h.cl (k:=k) (by omega) (by omega) (fun _=>by omega)]at hf
 have w1:IntKind.i64.wrap ((l.length:Int)+1)=(l.length:Int)+1:=wrap64 (by omega) (by omega)
 have w2:max (min (plc L (k+1):Int) ((l.length:Int)+1)) 0=plc L (k+1):=by omega
 have w3:IntKind.i64.wrap ((plc L (k+1):Int)-1)=(plc L (k+1):Int)-1:=wrap64 (by omega) (by omega)
 simp (maxSteps:=1000000) [go_sem,Tryz.f133,w1,w2,w3]
 refine zk hf ?_
 simp (maxSteps:=1000000) [go_sem]
 exact ret
theorem zkQ(L:List (List Int))(a:Int):cnt (pl L) a≤L.length:=by have:=YW (pl L) a;rwa[qI]at this
theorem zj3 [Gi] {e:PV}(hT:qB e) {l:List Int} {L:List (List Int)}(h:Ln l L)(a:Int):CR Tryz.prog 135 [] [.p e,.p (zh l),.p (.int .i64 a)] [] (is (.p (.int .i64 (plc L (cnt (pl L) a):Nat)))):=by
 refine walk Tryz.func135 8 [] [] [] ?_
 have hs:=h.sum
 have q3:=vf L a
 have hF:=Ug hT h a
 by_cases c1:a≤(plc L (kf L a):Int)
 ·rw[XG h.cl c1]
  simp (maxSteps:=1000000) [go_sem,Tryz.f135]
  refine zk hF ?_
  simp (maxSteps:=1000000) [go_sem,c1]
  exact ret
 ·by_cases c2:kf L a<L.length
  ·rw[zd6 h.cl (by omega) c2]
   simp (maxSteps:=1000000) [go_sem,Tryz.f135]
   refine zk hF ?_
   simp (maxSteps:=1000000) [go_sem,c1]
   refine zk (y7 hT h c2) ?_
   simp (maxSteps:=1000000) [go_sem]
   exact ret
  ·have e1:kf L a=L.length:=by omega
   rw[e1,qP,hs]at c1 hF
   rw[zlz h.cl (by omega),qP,hs]
   simp (maxSteps:=1000000) [go_sem,Tryz.f135]
   refine zk hF ?_
   simp (maxSteps:=1000000) [go_sem,c1]
   refine zk (ziJ e l) ?_
   simp (maxSteps:=1000000) [go_sem]
   exact ret
theorem zgF {l:List Int} {L:List (List Int)}(h:Ln l L) {k:Nat}(hk:k<L.length):∃x,l[plc L k]?=some x∧(L[k]?.getD [])[0]?.getD 0=x∧zu x:=by
 obtain⟨x,c',e,hx⟩:=h.cl.full.r L[k] (List.getElem_mem hk)
 refine⟨x,?_,by rw[List.getElem?_eq_getElem hk];simp[e],hx⟩
 have e1:l=(L.take k).flatten++(L[k]++(L.drop (k+1)).flatten):=by
  have:=congrArg List.flatten (List.take_append_drop k L)
  rw[List.drop_eq_getElem_cons hk,List.flatten_append,List.flatten_cons,h.flat]at this
  exact this.symm
 have e2:plc L k=(L.take k).flatten.length:=by rw[yH];rfl
 rw[e1,e2,List.getElem?_append_right (Nat.le_refl _),e]
 simp
theorem kH [Gi] {e:PV}(hT:qB e) {l:List Int} {L:List (List Int)}(h:Ln l L) {k:Nat}(hk:k<L.length):CR Tryz.prog 134 [] [.p e,.p (zh l),.p (.int .i64 (plc L k:Nat))] [] (is (.p (.bool (QS L k)))):=by
 refine walk Tryz.func134 7 [] [] [] ?_
 obtain⟨x,x1,x2,hx⟩:=zgF h hk
 have hlt:plc L k<l.length:=(List.getElem?_eq_some_iff.1 x1).1
 have em:elemAt (zr l) (plc L k)=.int .i32 x:=by rw[Qv hlt,(List.getElem?_eq_some_iff.1 x1).2]
 have e1:QS L k=decide (aL za 8 x=1):=by rw[QS,x2]
 have g:(plc L k:Int)<l.length:=by omega
 rw[e1]
 simp (maxSteps:=1000000) [go_sem,Tryz.f134,g,em]
 refine zk (zfR hT hx) ?_
 simp (maxSteps:=1000000) [go_sem]
 exact ret
theorem Yr [Gi](e:PV)(l:List Int):CR Tryz.prog 134 [] [.p e,.p (zh l),.p (.int .i64 (l.length:Nat))] [] (is (.p (.bool false))):=by
 refine walk Tryz.func134 7 [] [] [] ?_
 have em:elemAt (zr l) l.length=.int .i8 0:=by
  unfold elemAt
  rw[List.getD_eq_getElem?_getD,List.getElem?_eq_none (by rw[zC];omega)];rfl
 simp (maxSteps:=1000000) [go_sem,Tryz.f134,em]
 exact ret
def QQ(L:List (List Int))(k:Nat):Nat:=fwW L true (L.length-fwW L false (L.length-k) k) (fwW L false (L.length-k) k)
def zmG(L:List (List Int))(k:Nat):Nat:=bkW L true (bkW L false k)
theorem WV(L:List (List Int))(q:Bool)(p:Nat):bkW L q (p+1)=if QS L p=q then bkW L q p else p+1:=rfl
theorem xQ(L:List (List Int))(q:Bool) {p:Nat}(h:p<L.length):fwW L q (L.length-p) p=if QS L p=q then fwW L q (L.length- (p+1)) (p+1)else p:=by
 have:L.length-p=(L.length- (p+1))+1:=by omega
 rw[this];rfl
theorem uu(L:List (List Int))(q:Bool):fwW L q (L.length-L.length) L.length=L.length:=by rw[Nat.sub_self];rfl
theorem Kz [Gi] {e:PV}(hT:qB e) {l:List Int} {L:List (List Int)}(h:Ln l L)(a:Int):CR Tryz.prog 79 [] [.p e,.p (zh l),.p (.int .i64 a)] [] (is (.p (.int .i64 (plc L (zmG L (kf L a)):Nat)))):=by
 refine walk Tryz.func79 10 [] [] [] ?_
 have hcl:=h.cl
 obtain⟨R,hR⟩:∃R,R=zmG L (kf L a):=⟨_,rfl⟩
 have q3:=vf L a
 rw[←hR]
 simp (maxSteps:=1000000) [go_sem,Tryz.f79]
 refine zk (Ug hT h a) ?_
 simp (maxSteps:=1000000) [go_sem]
 refine loop (fun r:Nat×Bool=>r.1≤L.length∧R=bkW L true (if r.2 then r.1 else bkW L false r.1)) (fun r=>[(2,.p (.int .i64 (plc L r.1:Nat))),(7,.p (.bool r.2)),(8,.zU),(9,.zU)]) (fun _=>[]) (fun r=>r.1) (kf L a,false) ⟨q3,by rw[hR];rfl⟩ (fun r hr=>?_)
 obtain⟨k,b⟩:=r
 obtain⟨h1,h2⟩:=hr
 simp only at h1 h2
 by_cases c0:k=0
 ·subst c0
  have e1:R=0:=by rw[h2];cases b<;>rfl
  rw[e1]
  simp (maxSteps:=1000000) [go_sem,Zy]
  exact ret
 ·obtain⟨p,rfl⟩:∃p,k=p+1:=⟨k-1,by omega⟩
  have hp:p<L.length:=by omega
  have g1:=Wx hcl hp
  have g2:(0:Int)<plc L (p+1):=by omega
  have g3:0<plc L (p+1):=by omega
  have hI:=kH hT h hp
  rw[WV]at h2
  simp (maxSteps:=1000000) [go_sem,g3]
  refine zk (zi1 hT h hp) ?_
  simp (maxSteps:=1000000) [go_sem]
  refine zk hI ?_
  cases hb:QS L p with
  |true=>
   rw[hb]at h2
   cases b with
   |true=>
    simp (maxSteps:=1000000) [go_sem]
    exact next (p,true) ⟨by show p≤L.length;omega,by rw[h2];simp[WV,hb]⟩ (by show p<p+1;omega)
   |false=>
    simp (maxSteps:=1000000) [go_sem]
    exact next (p,true) ⟨by show p≤L.length;omega,by rw[h2];simp[WV,hb]⟩ (by show p<p+1;omega)
  |false=>
   rw[hb]at h2
   cases b with
   |true=>
    have e1:R=p+1:=by rw[h2];simp[WV,hb]
    rw[e1]
    simp (maxSteps:=1000000) [go_sem]
    exact ret
   |false=>
    simp (maxSteps:=1000000) [go_sem]
    exact next (p,false) ⟨by show p≤L.length;omega,by rw[h2];simp⟩ (by show p<p+1;omega)
end Go.Proofs.YthbmelihnabkaaaGreat
end
section
namespace Go.Proofs.YthbmelihnabkaaaGreat
open Go.AM
set_option maxHeartbeats 4000000
set_option maxRecDepth 10000
attribute [local irreducible] za
theorem wc [Gi] {e:PV}(hT:qB e) {l:List Int} {L:List (List Int)}(h:Ln l L)(a:Int):CR Tryz.prog 80 [] [.p e,.p (zh l),.p (.int .i64 a)] [] (is (.p (.int .i64 (plc L (QQ L (cnt (pl L) a)):Nat)))):=by
 refine uG 7 [] Tryz.func80 rfl [] rfl (by simp) (by simp) ?_
 have hs:=h.sum
 have hcl:=h.cl
 have hc:=zkQ L a
 obtain⟨N,hN⟩:∃N,N=QQ L (cnt (pl L) a):=⟨_,rfl⟩
 rw[←hN]
 refine Sem.Zm [] mixed ?_
 simp (maxSteps:=1000000) [go_sem,Tryz.f80]
 refine Sem.zm1 (ι:=Nat) 0 (fun k=>k≤L.length∧N=QQ L k) (fun k=>{n:=35,nv:=7,vs:=[(0,.p e),(1,.p (.sl 1 (zr l))),(2,.p (.int .i64 (plc L k:Nat))),(6,.p (.int .i64 0))],ts:=[],rs:=[]}) (fun k=>L.length-k) rfl (fun hr=>?_) (fun k hk=>?_)
 ·refine Sem.Zm [] mixed ?_
  simp (maxSteps:=1000000) [go_sem]
  refine zk (zj3 hT h a) ?_
  simp (maxSteps:=1000000) [go_sem]
  exact Sem.label (Sem.clean (hr (cnt (pl L) a) ⟨hc,hN⟩))
 ·obtain⟨h1,h2⟩:=hk
  by_cases c1:k<L.length
  ·have g1:=Zx hcl c1 (Nat.le_refl _)
   rw[qP,hs]at g1
   have g2:(plc L k:Int)<l.length:=by omega
   have hI:=kH hT h c1
   refine Sem.seq (Sem.Zm [] mixed ?_)
   simp (maxSteps:=1000000) [go_sem,g2]
   refine zk hI ?_
   cases hb:QS L k with
   |false=>
    simp (maxSteps:=1000000) [go_sem]
    refine Sem.cond true rfl ?_
    refine Sem.Zm [] mixed ?_
    simp (maxSteps:=1000000) [go_sem]
    refine zk (y7 hT h c1) ?_
    simp (maxSteps:=1000000) [go_sem]
    refine Sem.goto ?_
    refine zfE (k+1) ⟨⟨c1,?_⟩,?_⟩ ?_
    ·rw[h2,QQ,xQ L false c1,if_pos hb];rfl
    ·show L.length- (k+1)<L.length-k;omega
    ·simp[go_sem,LeS,leV,leR,leA]
   |true=>
    have e1:N=fwW L true (L.length-k) k:=by rw[h2,QQ,xQ L false c1,if_neg (by rw[hb];decide)]
    simp (maxSteps:=1000000) [go_sem]
    refine Sem.cond false rfl (Sem.skip ?_)
    simp (maxSteps:=1000000) [go_sem]
    refine Sem.of [] mixed ?_
    simp (maxSteps:=1000000) [go_sem]
    refine loop (fun k:Nat=>k≤L.length∧N=fwW L true (L.length-k) k) (fun k=>[(2,.p (.int .i64 (plc L k:Nat)))]) (fun _=>[]) (fun k=>L.length-k) k ⟨h1,e1⟩ (fun k hk=>?_)
    obtain⟨h1,h2⟩:=hk
    by_cases c1:k<L.length
    ·have hI:=kH hT h c1
     simp (maxSteps:=1000000) [go_sem]
     refine zk hI ?_
     cases hb:QS L k with
     |false=>
      have e1:N=k:=by rw[h2,xQ L true c1,if_neg (by rw[hb];decide)]
      rw[e1]
      simp (maxSteps:=1000000) [go_sem]
      exact ret
     |true=>
      simp (maxSteps:=1000000) [go_sem]
      refine zk (y7 hT h c1) ?_
      simp (maxSteps:=1000000) [go_sem]
      exact next (k+1) ⟨c1,by rw[h2,xQ L true c1,if_pos hb]⟩ (by omega)
    ·obtain rfl:k=L.length:=by omega
     have hZ:=Yr e l
     rw[←hs,←qP]at hZ
     rw[uu]at h2
     rw[h2]
     simp (maxSteps:=1000000) [go_sem]
     refine zk hZ ?_
     simp (maxSteps:=1000000) [go_sem]
     exact ret
  ·obtain rfl:k=L.length:=by omega
   have e1:N=L.length:=by rw[h2,QQ,uu,uu]
   have g1:¬plc L L.length<l.length:=by rw[qP,hs];omega
   have g2:¬(plc L L.length:Int)<l.length:=by omega
   have hZ:=Yr e l
   have em:elemAt (zr l) (plc L L.length)=.int .i8 0:=by
    unfold elemAt
    rw[List.getD_eq_getElem?_getD,List.getElem?_eq_none (by rw[zC];omega)];rfl
   rw[←hs,←qP]at hZ
   rw[e1]
   refine Sem.seq (Sem.Zm [] mixed ?_)
   simp (maxSteps:=1000000) [go_sem,g2]
   refine Sem.cond false rfl (Sem.skip ?_)
   simp (maxSteps:=1000000) [go_sem]
   refine Sem.of [] mixed ?_
   simp (maxSteps:=1000000) [go_sem]
   refine loop (fun _:Unit=>True) (fun _=>[]) (fun _=>[]) (fun _=>0) () trivial (fun _ _=>?_)
   simp (maxSteps:=1000000) [go_sem]
   refine zk hZ ?_
   simp (maxSteps:=1000000) [go_sem]
   exact ret
def zgA:OT:=.now 0 2 (.now 1 2 (.now 2 2 (.now 4 0 (.now 5 0 (.now 6 0 (.now 7 0 (.now 9 2 (.mk [(3,.mk [(8,.mk [(10,.now 11 0 (.mk []))])]),(8,.now 3 0 (.mk [(10,.now 11 0 (.mk []))]))]))))))))
def zeu(L:List (List Int))(a n:Int):Nat:=if n<0 then zmG L (kf L a)else if n=0 then kf L a else QQ L (cnt (pl L) a)
theorem zcV [Gi] {e:PV}(hT:qB e) {x:Tx} {L:List (List Int)}(h:wK x L)(hl:Ln L.flatten L)(a n:Int):CR Tryz.prog 31 txT [.lp [0] 0,.p (.int .i64 a),.p (.int .i64 n)] (txR e x L) (keeps (txR e x L) (.int .i64 (plc L (zeu L a n):Nat))):=by
 refine zcG Tryz.func31 7 [] [200004,200007] [] ?_
 have hA:=uy x.g x.f x.t h.ft h.tl h.n
 obtain⟨z,y,rfl⟩:=qA hT
 unfold zeu
 by_cases c1:n<0
 ·rw[if_pos c1]
  simp (maxSteps:=1000000) [go_sem,Tryz.f31,c1]
  refine Zh zgA (by kernel_rfl) ?_
  simp (maxSteps:=1000000) [go_sem,zgA]
  constructor
  ·refine call V3 hA ?_
   rintro _ _ ⟨rfl,rfl⟩
   rw[h.held]
   simp (maxSteps:=1000000) [go_sem]
   refine zk (Kz hT hl a) ?_
   simp (maxSteps:=1000000) [go_sem]
   exact Xm
  ·refine call V3 hA ?_
   rintro _ _ ⟨rfl,rfl⟩
   rw[h.held]
   simp (maxSteps:=1000000) [go_sem]
   refine zk (Kz hT hl a) ?_
   simp (maxSteps:=1000000) [go_sem]
   exact Xm
 ·rw[if_neg c1]
  by_cases c2:n=0
  ·rw[if_pos c2]
   simp (maxSteps:=1000000) [go_sem,Tryz.f31,c2]
   refine zk (jQ h.cl a) ?_
   simp (maxSteps:=1000000) [go_sem]
   exact Xm
  ·rw[if_neg c2]
   simp (maxSteps:=1000000) [go_sem,Tryz.f31,c1,c2]
   refine Zh zgA (by kernel_rfl) ?_
   simp (maxSteps:=1000000) [go_sem,zgA]
   constructor
   ·refine call V3 hA ?_
    rintro _ _ ⟨rfl,rfl⟩
    rw[h.held]
    simp (maxSteps:=1000000) [go_sem]
    refine zk (wc hT hl a) ?_
    simp (maxSteps:=1000000) [go_sem]
    exact Xm
   ·refine call V3 hA ?_
    rintro _ _ ⟨rfl,rfl⟩
    rw[h.held]
    simp (maxSteps:=1000000) [go_sem]
    refine zk (wc hT hl a) ?_
    simp (maxSteps:=1000000) [go_sem]
    exact Xm
end Go.Proofs.YthbmelihnabkaaaGreat
end
