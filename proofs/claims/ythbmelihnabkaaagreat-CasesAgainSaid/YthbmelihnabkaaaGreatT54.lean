/- A part of the proof of this seat's statements, by an abstract machine: what each operation does to values, and what the law's functions compute. Conditions: as each law says. -/
import Derived.Test.YthbmelihnabkaaaGreatT53
import Derived.Test.YthbmelihnabkaaaGreatT42
import Derived.Test.YthbmelihnabkaaaGreatT52
import Derived.Test.YthbmelihnabkaaaGreatT47
import Derived.Test.YthbmelihnabkaaaGreatT49
section
namespace Go.Proofs.YthbmelihnabkaaaGreat
open Go.AM
set_option maxHeartbeats 4000000
set_option maxRecDepth 10000
attribute [local irreducible] za
@[go_sem] theorem zqv : ty Tryz.prog 167 = some ⟨Tryz.t166.desc, 3, 12, some [.int .i32 0, .int .i32 0, .int .i32 0]⟩ := by kernel_rfl
@[go_sem] theorem zqu : ty Tryz.prog 168 = some ⟨.array 8 167, 24, 96, some [.int .i32 0, .int .i32 0, .int .i32 0, .int .i32 0, .int .i32 0, .int .i32 0, .int .i32 0, .int .i32 0, .int .i32 0, .int .i32 0, .int .i32 0, .int .i32 0, .int .i32 0, .int .i32 0, .int .i32 0, .int .i32 0, .int .i32 0, .int .i32 0, .int .i32 0, .int .i32 0, .int .i32 0, .int .i32 0, .int .i32 0, .int .i32 0]⟩ := by kernel_rfl
def zo9:List (Int×Int×Int):=[(97,122,32),(230,230,32),(240,240,32),(248,248,32),(254,254,32),(945,969,32),(1072,1103,32),(1104,1119,80)]
def zpJ:PV:=.agg [.int .i32 97,.int .i32 122,.int .i32 32,.int .i32 230,.int .i32 230,.int .i32 32,.int .i32 240,.int .i32 240,.int .i32 32,.int .i32 248,.int .i32 248,.int .i32 32,.int .i32 254,.int .i32 254,.int .i32 32,.int .i32 945,.int .i32 969,.int .i32 32,.int .i32 1072,.int .i32 1103,.int .i32 32,.int .i32 1104,.int .i32 1119,.int .i32 80]
theorem zpR [Gi]:CR Tryz.prog 112 [] [] [] (is (.p zpJ)):=by
 refine walk Tryz.func112 1 [] [] [] ?_
 simp (maxSteps:=1000000) [go_sem,Tryz.f112]
 exact ret (hx:=by simp[go_sem,zd,leA,leT,zpJ])
def zpb:List (Int×Int×Int)→Int→Int
 | [],r=>r
 |b::bs,r=>if b.1≤r∧r≤b.2.1 then r-b.2.2 else zpb bs r
def zpc:List (Int×Int×Int)→Int→Int
 | [],r=>r
 |b::bs,r=>if b.1-b.2.2≤r∧r≤b.2.1-b.2.2 then r+b.2.2 else zpc bs r
theorem zqb {r:Int}(h:r≠962):zpb zo9 r=zo8 r:=by
 unfold zo8 zo9
 simp only[zpb]
 repeat' split
 all_goals omega
theorem zp7 {r:Int}(h:r≠930):zpc zo9 r=zo7 r:=by
 unfold zo7 zo9
 simp only[zpc]
 repeat' split
 all_goals omega
theorem zpu [Gi] {r:Int}(hr:zD r):CR Tryz.prog 55 [] [.p (.int .i32 r)] [] (is (.p (.int .i32 (zo8 r)))):=by
 refine walk Tryz.func55 5 [7,8] [] [] ?_
 have hr1:=hr.1
 have hr2:=hr.2
 by_cases c0:r=962
 ·subst c0
  have e:zo8 962=931:=by decide
  rw[e]
  simp (maxSteps:=1000000) [go_sem,Tryz.f55]
  exact ret
 ·have hF:=zqb c0
  simp (maxSteps:=1000000) [go_sem,Tryz.f55,c0]
  refine zn zpR ?_
  simp (maxSteps:=1000000) [go_sem,zpJ]
  refine loop (fun i:Nat=>i≤8∧zpb (zo9.drop i) r=zo8 r) (fun i=>[(8,.p (.int .i64 i)),(4,.zX)]) (fun _=>[]) (fun i=>8-i) 0 ⟨by omega,hF⟩ (fun i hi=>?_)
  obtain⟨h1,h2⟩:=hi
  rcases(show i=0∨i=1∨i=2∨i=3∨i=4∨i=5∨i=6∨i=7∨i=8 by omega)with rfl|rfl|rfl|rfl|rfl|rfl|rfl|rfl|rfl
  ·have hs:zpb (zo9.drop 0) r=if 97≤r∧r≤122 then r-32 else zpb (zo9.drop 1) r:=rfl
   rw[hs]at h2
   have wk:IntKind.i64.wrap 1=1:=wrap64 (by omega) (by omega)
   by_cases p1:97≤r
   ·by_cases p2:r≤122
    ·rw[if_pos ⟨p1,p2⟩]at h2
     have w:IntKind.i32.wrap (r-32)=r-32:=wrap32 (by omega) (by omega)
     rw[←h2]
     simp (maxSteps:=1000000) [go_sem,p1,p2,w]
     exact ret
    ·rw[if_neg (fun h=>p2 h.2)]at h2
     simp (maxSteps:=1000000) [go_sem,p1,p2,wk]
     exact next 1 ⟨by omega,h2⟩ (h3:=by decide)
   ·rw[if_neg (fun h=>p1 h.1)]at h2
    simp (maxSteps:=1000000) [go_sem,p1,wk]
    exact next 1 ⟨by omega,h2⟩ (h3:=by decide)
  ·have hs:zpb (zo9.drop 1) r=if 230≤r∧r≤230 then r-32 else zpb (zo9.drop 2) r:=rfl
   rw[hs]at h2
   have wk:IntKind.i64.wrap 2=2:=wrap64 (by omega) (by omega)
   by_cases p1:230≤r
   ·by_cases p2:r≤230
    ·rw[if_pos ⟨p1,p2⟩]at h2
     have w:IntKind.i32.wrap (r-32)=r-32:=wrap32 (by omega) (by omega)
     rw[←h2]
     simp (maxSteps:=1000000) [go_sem,p1,p2,w]
     exact ret
    ·rw[if_neg (fun h=>p2 h.2)]at h2
     simp (maxSteps:=1000000) [go_sem,p1,p2,wk]
     exact next 2 ⟨by omega,h2⟩ (h3:=by decide)
   ·rw[if_neg (fun h=>p1 h.1)]at h2
    simp (maxSteps:=1000000) [go_sem,p1,wk]
    exact next 2 ⟨by omega,h2⟩ (h3:=by decide)
  ·have hs:zpb (zo9.drop 2) r=if 240≤r∧r≤240 then r-32 else zpb (zo9.drop 3) r:=rfl
   rw[hs]at h2
   have wk:IntKind.i64.wrap 3=3:=wrap64 (by omega) (by omega)
   by_cases p1:240≤r
   ·by_cases p2:r≤240
    ·rw[if_pos ⟨p1,p2⟩]at h2
     have w:IntKind.i32.wrap (r-32)=r-32:=wrap32 (by omega) (by omega)
     rw[←h2]
     simp (maxSteps:=1000000) [go_sem,p1,p2,w]
     exact ret
    ·rw[if_neg (fun h=>p2 h.2)]at h2
     simp (maxSteps:=1000000) [go_sem,p1,p2,wk]
     exact next 3 ⟨by omega,h2⟩ (h3:=by decide)
   ·rw[if_neg (fun h=>p1 h.1)]at h2
    simp (maxSteps:=1000000) [go_sem,p1,wk]
    exact next 3 ⟨by omega,h2⟩ (h3:=by decide)
  ·have hs:zpb (zo9.drop 3) r=if 248≤r∧r≤248 then r-32 else zpb (zo9.drop 4) r:=rfl
   rw[hs]at h2
   have wk:IntKind.i64.wrap 4=4:=wrap64 (by omega) (by omega)
   by_cases p1:248≤r
   ·by_cases p2:r≤248
    ·rw[if_pos ⟨p1,p2⟩]at h2
     have w:IntKind.i32.wrap (r-32)=r-32:=wrap32 (by omega) (by omega)
     rw[←h2]
     simp (maxSteps:=1000000) [go_sem,p1,p2,w]
     exact ret
    ·rw[if_neg (fun h=>p2 h.2)]at h2
     simp (maxSteps:=1000000) [go_sem,p1,p2,wk]
     exact next 4 ⟨by omega,h2⟩ (h3:=by decide)
   ·rw[if_neg (fun h=>p1 h.1)]at h2
    simp (maxSteps:=1000000) [go_sem,p1,wk]
    exact next 4 ⟨by omega,h2⟩ (h3:=by decide)
  ·have hs:zpb (zo9.drop 4) r=if 254≤r∧r≤254 then r-32 else zpb (zo9.drop 5) r:=rfl
   rw[hs]at h2
   have wk:IntKind.i64.wrap 5=5:=wrap64 (by omega) (by omega)
   by_cases p1:254≤r
   ·by_cases p2:r≤254
    ·rw[if_pos ⟨p1,p2⟩]at h2
     have w:IntKind.i32.wrap (r-32)=r-32:=wrap32 (by omega) (by omega)
     rw[←h2]
     simp (maxSteps:=1000000) [go_sem,p1,p2,w]
     exact ret
    ·rw[if_neg (fun h=>p2 h.2)]at h2
     simp (maxSteps:=1000000) [go_sem,p1,p2,wk]
     exact next 5 ⟨by omega,h2⟩ (h3:=by decide)
   ·rw[if_neg (fun h=>p1 h.1)]at h2
    simp (maxSteps:=1000000) [go_sem,p1,wk]
    exact next 5 ⟨by omega,h2⟩ (h3:=by decide)
  ·have hs:zpb (zo9.drop 5) r=if 945≤r∧r≤969 then r-32 else zpb (zo9.drop 6) r:=rfl
   rw[hs]at h2
   have wk:IntKind.i64.wrap 6=6:=wrap64 (by omega) (by omega)
   by_cases p1:945≤r
   ·by_cases p2:r≤969
    ·rw[if_pos ⟨p1,p2⟩]at h2
     have w:IntKind.i32.wrap (r-32)=r-32:=wrap32 (by omega) (by omega)
     rw[←h2]
     simp (maxSteps:=1000000) [go_sem,p1,p2,w]
     exact ret
    ·rw[if_neg (fun h=>p2 h.2)]at h2
     simp (maxSteps:=1000000) [go_sem,p1,p2,wk]
     exact next 6 ⟨by omega,h2⟩ (h3:=by decide)
   ·rw[if_neg (fun h=>p1 h.1)]at h2
    simp (maxSteps:=1000000) [go_sem,p1,wk]
    exact next 6 ⟨by omega,h2⟩ (h3:=by decide)
  ·have hs:zpb (zo9.drop 6) r=if 1072≤r∧r≤1103 then r-32 else zpb (zo9.drop 7) r:=rfl
   rw[hs]at h2
   have wk:IntKind.i64.wrap 7=7:=wrap64 (by omega) (by omega)
   by_cases p1:1072≤r
   ·by_cases p2:r≤1103
    ·rw[if_pos ⟨p1,p2⟩]at h2
     have w:IntKind.i32.wrap (r-32)=r-32:=wrap32 (by omega) (by omega)
     rw[←h2]
     simp (maxSteps:=1000000) [go_sem,p1,p2,w]
     exact ret
    ·rw[if_neg (fun h=>p2 h.2)]at h2
     simp (maxSteps:=1000000) [go_sem,p1,p2,wk]
     exact next 7 ⟨by omega,h2⟩ (h3:=by decide)
   ·rw[if_neg (fun h=>p1 h.1)]at h2
    simp (maxSteps:=1000000) [go_sem,p1,wk]
    exact next 7 ⟨by omega,h2⟩ (h3:=by decide)
  ·have hs:zpb (zo9.drop 7) r=if 1104≤r∧r≤1119 then r-80 else zpb (zo9.drop 8) r:=rfl
   rw[hs]at h2
   have wk:IntKind.i64.wrap 8=8:=wrap64 (by omega) (by omega)
   by_cases p1:1104≤r
   ·by_cases p2:r≤1119
    ·rw[if_pos ⟨p1,p2⟩]at h2
     have w:IntKind.i32.wrap (r-80)=r-80:=wrap32 (by omega) (by omega)
     rw[←h2]
     simp (maxSteps:=1000000) [go_sem,p1,p2,w]
     exact ret
    ·rw[if_neg (fun h=>p2 h.2)]at h2
     simp (maxSteps:=1000000) [go_sem,p1,p2,wk]
     exact next 8 ⟨by omega,h2⟩ (h3:=by decide)
   ·rw[if_neg (fun h=>p1 h.1)]at h2
    simp (maxSteps:=1000000) [go_sem,p1,wk]
    exact next 8 ⟨by omega,h2⟩ (h3:=by decide)
  ·have hs:zpb (zo9.drop 8) r=r:=rfl
   rw[hs]at h2
   rw[←h2]
   simp (maxSteps:=1000000) [go_sem]
   exact ret
theorem zpW [Gi] {r:Int}(hr:zD r):CR Tryz.prog 56 [] [.p (.int .i32 r)] [] (is (.p (.int .i32 (zo7 r)))):=by
 refine walk Tryz.func56 5 [8,9] [] [] ?_
 have hr1:=hr.1
 have hr2:=hr.2
 by_cases c0:r=930
 ·subst c0
  have e:zo7 930=930:=by decide
  rw[e]
  simp (maxSteps:=1000000) [go_sem,Tryz.f56]
  exact ret
 ·have hF:=zp7 c0
  simp (maxSteps:=1000000) [go_sem,Tryz.f56,c0]
  refine zn zpR ?_
  simp (maxSteps:=1000000) [go_sem,zpJ]
  refine loop (fun i:Nat=>i≤8∧zpc (zo9.drop i) r=zo7 r) (fun i=>[(9,.p (.int .i64 i)),(4,.zX)]) (fun _=>[]) (fun i=>8-i) 0 ⟨by omega,hF⟩ (fun i hi=>?_)
  obtain⟨h1,h2⟩:=hi
  rcases(show i=0∨i=1∨i=2∨i=3∨i=4∨i=5∨i=6∨i=7∨i=8 by omega)with rfl|rfl|rfl|rfl|rfl|rfl|rfl|rfl|rfl
  ·have hs:zpc (zo9.drop 0) r=if 65≤r∧r≤90 then r+32 else zpc (zo9.drop 1) r:=rfl
   rw[hs]at h2
   have wk:IntKind.i64.wrap 1=1:=wrap64 (by omega) (by omega)
   have wl:IntKind.i32.wrap 65=65:=wrap32 (by omega) (by omega)
   have wh:IntKind.i32.wrap 90=90:=wrap32 (by omega) (by omega)
   by_cases p1:65≤r
   ·by_cases p2:r≤90
    ·rw[if_pos ⟨p1,p2⟩]at h2
     have w:IntKind.i32.wrap (r+32)=r+32:=wrap32 (by omega) (by omega)
     rw[←h2]
     simp (maxSteps:=1000000) [go_sem,p1,p2,w,wl,wh]
     exact ret
    ·rw[if_neg (fun h=>p2 h.2)]at h2
     simp (maxSteps:=1000000) [go_sem,p1,p2,wk,wl,wh]
     exact next 1 ⟨by omega,h2⟩ (h3:=by decide)
   ·rw[if_neg (fun h=>p1 h.1)]at h2
    simp (maxSteps:=1000000) [go_sem,p1,wk,wl,wh]
    exact next 1 ⟨by omega,h2⟩ (h3:=by decide)
  ·have hs:zpc (zo9.drop 1) r=if 198≤r∧r≤198 then r+32 else zpc (zo9.drop 2) r:=rfl
   rw[hs]at h2
   have wk:IntKind.i64.wrap 2=2:=wrap64 (by omega) (by omega)
   have wl:IntKind.i32.wrap 198=198:=wrap32 (by omega) (by omega)
   have wh:IntKind.i32.wrap 198=198:=wrap32 (by omega) (by omega)
   by_cases p1:198≤r
   ·by_cases p2:r≤198
    ·rw[if_pos ⟨p1,p2⟩]at h2
     have w:IntKind.i32.wrap (r+32)=r+32:=wrap32 (by omega) (by omega)
     rw[←h2]
     simp (maxSteps:=1000000) [go_sem,p1,p2,w,wl]
     exact ret
    ·rw[if_neg (fun h=>p2 h.2)]at h2
     simp (maxSteps:=1000000) [go_sem,p1,p2,wk,wl]
     exact next 2 ⟨by omega,h2⟩ (h3:=by decide)
   ·rw[if_neg (fun h=>p1 h.1)]at h2
    simp (maxSteps:=1000000) [go_sem,p1,wk,wl]
    exact next 2 ⟨by omega,h2⟩ (h3:=by decide)
  ·have hs:zpc (zo9.drop 2) r=if 208≤r∧r≤208 then r+32 else zpc (zo9.drop 3) r:=rfl
   rw[hs]at h2
   have wk:IntKind.i64.wrap 3=3:=wrap64 (by omega) (by omega)
   have wl:IntKind.i32.wrap 208=208:=wrap32 (by omega) (by omega)
   have wh:IntKind.i32.wrap 208=208:=wrap32 (by omega) (by omega)
   by_cases p1:208≤r
   ·by_cases p2:r≤208
    ·rw[if_pos ⟨p1,p2⟩]at h2
     have w:IntKind.i32.wrap (r+32)=r+32:=wrap32 (by omega) (by omega)
     rw[←h2]
     simp (maxSteps:=1000000) [go_sem,p1,p2,w,wl]
     exact ret
    ·rw[if_neg (fun h=>p2 h.2)]at h2
     simp (maxSteps:=1000000) [go_sem,p1,p2,wk,wl]
     exact next 3 ⟨by omega,h2⟩ (h3:=by decide)
   ·rw[if_neg (fun h=>p1 h.1)]at h2
    simp (maxSteps:=1000000) [go_sem,p1,wk,wl]
    exact next 3 ⟨by omega,h2⟩ (h3:=by decide)
  ·have hs:zpc (zo9.drop 3) r=if 216≤r∧r≤216 then r+32 else zpc (zo9.drop 4) r:=rfl
   rw[hs]at h2
   have wk:IntKind.i64.wrap 4=4:=wrap64 (by omega) (by omega)
   have wl:IntKind.i32.wrap 216=216:=wrap32 (by omega) (by omega)
   have wh:IntKind.i32.wrap 216=216:=wrap32 (by omega) (by omega)
   by_cases p1:216≤r
   ·by_cases p2:r≤216
    ·rw[if_pos ⟨p1,p2⟩]at h2
     have w:IntKind.i32.wrap (r+32)=r+32:=wrap32 (by omega) (by omega)
     rw[←h2]
     simp (maxSteps:=1000000) [go_sem,p1,p2,w,wl]
     exact ret
    ·rw[if_neg (fun h=>p2 h.2)]at h2
     simp (maxSteps:=1000000) [go_sem,p1,p2,wk,wl]
     exact next 4 ⟨by omega,h2⟩ (h3:=by decide)
   ·rw[if_neg (fun h=>p1 h.1)]at h2
    simp (maxSteps:=1000000) [go_sem,p1,wk,wl]
    exact next 4 ⟨by omega,h2⟩ (h3:=by decide)
  ·have hs:zpc (zo9.drop 4) r=if 222≤r∧r≤222 then r+32 else zpc (zo9.drop 5) r:=rfl
   rw[hs]at h2
   have wk:IntKind.i64.wrap 5=5:=wrap64 (by omega) (by omega)
   have wl:IntKind.i32.wrap 222=222:=wrap32 (by omega) (by omega)
   have wh:IntKind.i32.wrap 222=222:=wrap32 (by omega) (by omega)
   by_cases p1:222≤r
   ·by_cases p2:r≤222
    ·rw[if_pos ⟨p1,p2⟩]at h2
     have w:IntKind.i32.wrap (r+32)=r+32:=wrap32 (by omega) (by omega)
     rw[←h2]
     simp (maxSteps:=1000000) [go_sem,p1,p2,w,wl]
     exact ret
    ·rw[if_neg (fun h=>p2 h.2)]at h2
     simp (maxSteps:=1000000) [go_sem,p1,p2,wk,wl]
     exact next 5 ⟨by omega,h2⟩ (h3:=by decide)
   ·rw[if_neg (fun h=>p1 h.1)]at h2
    simp (maxSteps:=1000000) [go_sem,p1,wk,wl]
    exact next 5 ⟨by omega,h2⟩ (h3:=by decide)
  ·have hs:zpc (zo9.drop 5) r=if 913≤r∧r≤937 then r+32 else zpc (zo9.drop 6) r:=rfl
   rw[hs]at h2
   have wk:IntKind.i64.wrap 6=6:=wrap64 (by omega) (by omega)
   have wl:IntKind.i32.wrap 913=913:=wrap32 (by omega) (by omega)
   have wh:IntKind.i32.wrap 937=937:=wrap32 (by omega) (by omega)
   by_cases p1:913≤r
   ·by_cases p2:r≤937
    ·rw[if_pos ⟨p1,p2⟩]at h2
     have w:IntKind.i32.wrap (r+32)=r+32:=wrap32 (by omega) (by omega)
     rw[←h2]
     simp (maxSteps:=1000000) [go_sem,p1,p2,w,wl,wh]
     exact ret
    ·rw[if_neg (fun h=>p2 h.2)]at h2
     simp (maxSteps:=1000000) [go_sem,p1,p2,wk,wl,wh]
     exact next 6 ⟨by omega,h2⟩ (h3:=by decide)
   ·rw[if_neg (fun h=>p1 h.1)]at h2
    simp (maxSteps:=1000000) [go_sem,p1,wk,wl,wh]
    exact next 6 ⟨by omega,h2⟩ (h3:=by decide)
  ·have hs:zpc (zo9.drop 6) r=if 1040≤r∧r≤1071 then r+32 else zpc (zo9.drop 7) r:=rfl
   rw[hs]at h2
   have wk:IntKind.i64.wrap 7=7:=wrap64 (by omega) (by omega)
   have wl:IntKind.i32.wrap 1040=1040:=wrap32 (by omega) (by omega)
   have wh:IntKind.i32.wrap 1071=1071:=wrap32 (by omega) (by omega)
   by_cases p1:1040≤r
   ·by_cases p2:r≤1071
    ·rw[if_pos ⟨p1,p2⟩]at h2
     have w:IntKind.i32.wrap (r+32)=r+32:=wrap32 (by omega) (by omega)
     rw[←h2]
     simp (maxSteps:=1000000) [go_sem,p1,p2,w,wl,wh]
     exact ret
    ·rw[if_neg (fun h=>p2 h.2)]at h2
     simp (maxSteps:=1000000) [go_sem,p1,p2,wk,wl,wh]
     exact next 7 ⟨by omega,h2⟩ (h3:=by decide)
   ·rw[if_neg (fun h=>p1 h.1)]at h2
    simp (maxSteps:=1000000) [go_sem,p1,wk,wl,wh]
    exact next 7 ⟨by omega,h2⟩ (h3:=by decide)
  ·have hs:zpc (zo9.drop 7) r=if 1024≤r∧r≤1039 then r+80 else zpc (zo9.drop 8) r:=rfl
   rw[hs]at h2
   have wk:IntKind.i64.wrap 8=8:=wrap64 (by omega) (by omega)
   have wl:IntKind.i32.wrap 1024=1024:=wrap32 (by omega) (by omega)
   have wh:IntKind.i32.wrap 1039=1039:=wrap32 (by omega) (by omega)
   by_cases p1:1024≤r
   ·by_cases p2:r≤1039
    ·rw[if_pos ⟨p1,p2⟩]at h2
     have w:IntKind.i32.wrap (r+80)=r+80:=wrap32 (by omega) (by omega)
     rw[←h2]
     simp (maxSteps:=1000000) [go_sem,p1,p2,w,wl,wh]
     exact ret
    ·rw[if_neg (fun h=>p2 h.2)]at h2
     simp (maxSteps:=1000000) [go_sem,p1,p2,wk,wl,wh]
     exact next 8 ⟨by omega,h2⟩ (h3:=by decide)
   ·rw[if_neg (fun h=>p1 h.1)]at h2
    simp (maxSteps:=1000000) [go_sem,p1,wk,wl,wh]
    exact next 8 ⟨by omega,h2⟩ (h3:=by decide)
  ·have hs:zpc (zo9.drop 8) r=r:=rfl
   rw[hs]at h2
   rw[←h2]
   simp (maxSteps:=1000000) [go_sem]
   exact ret
end Go.Proofs.YthbmelihnabkaaaGreat
end
section
namespace Go.Proofs.YthbmelihnabkaaaGreat
open Go.AM
set_option maxHeartbeats 4000000
set_option maxRecDepth 10000
attribute [local irreducible] za
theorem CR.zql [Gi] {P:Program} {f:FuncId} {e:PV} {M:List Int} {R:AV→List (Tok×List AV)→Prop}(h:CR P f [] [.p e,.p (zh M)] [] R)(h0:0<M.length):CR P f [] [.p e,.la [0] 1 0 M.length] [([0],zp M)] R:=by
 intro w g vs h1 h2
 simp only[zo]at h1
 obtain⟨v1,vs1,rfl,r1,v2,vs2,rfl,r2,rfl⟩:=h1
 have hx:=wA h2 (fun _=>false)
 have hG:GS (frz g w fun _=>false) w []:=by
  have:=zmQ h2 (fun _=>false)
  exact this
 have k1:zb (frz g w fun _=>false) w (.p e) v1:=by
  rw[Wo]at r1⊢
  exact r1.ext hx
 have k2:zb (frz g w fun _=>false) w (.p (zh M)) v2:=by
  rw[Wo]
  refine ua (t:=[0]) (z:=1) (n:=M.length) (es:=zx M) (rt:=fun _=>false) h2 [] h0 ?_ rfl (by simp[zx]) (fun e he=>?_) r2
  ·rw[Xt];simp[zC,zhz]
  ·obtain⟨s,_,rfl⟩:=List.mem_map.1 he
   exact⟨rfl,rfl⟩
 refine(h w (frz g w fun _=>false) [v1,v2] (by simp only[zo];exact⟨v1,[v2],rfl,k1,v2,[],rfl,k2,rfl⟩) hG).mono ?_
 rintro e' w' ⟨v,x,rs',g',rfl,hR,hx',hG2,hA⟩
 refine⟨v,x,rs',g',rfl,hR,hx',hG2,⟨fun b hb hk=>?_,hx.trans hA.ext,hA.out,hA.mono,fun b t _ ht=>by cases ht⟩⟩
 obtain⟨a1,a2,a3⟩:=hA.frame b hb (by show(g.K b).fil (fun _=>false) ftt=.prot;rw[hk];rfl)
 exact⟨a1,by rw[a2,ki (fun t e=>by rw[hk]at e;cases e)],a3⟩
theorem zpw [Gi] {e:PV}(hT:Zl e)(l:List Int)(hn:l.length<2^20)(hr:∀x∈l,zD x)(hl0:l≠ []):CR Tryz.prog 111 [] [.p e,.p (zh l)] [] (fun x rs=>x=.la [22,9,7] 1 0 (jM za l).length∧rs=[([22,9,7],zp (jM za l))]):=by
 obtain⟨c,b,j,f,p,h,rfl⟩:=hT
 have:=zqm h Z7 zdZ (ckP M0.1) (cxP M0.1) (ZD M0.2) (qe M0.2) l hn hr hl0
 rw[zlj]at this
 exact this
theorem zpQ [Gi] {e:PV}(hT:Zl e)(l:List Int)(hn:l.length<2^20)(hr:∀x∈l,zD x):CR Tryz.prog 111 [] [.p e,.p (zh l)] [] (is (.p (zh (jM za l)))):=by
 obtain⟨c,b,j,f,p,h,rfl⟩:=hT
 have:=zmf h Z7 zdZ (ckP M0.1) (cxP M0.1) (ZD M0.2) (qe M0.2) l hn hr
 rw[zlj]at this
 exact this
def zpd(F:Int→Int)(d:List Int)(i:Nat):List Int:=(d.take i).map F++d.drop i
theorem zpg(F:Int→Int)(d:List Int)(i:Nat):(zpd F d i).length=d.length:=by
 unfold zpd;rw[List.length_append,List.length_map,List.length_take,List.length_drop];omega
theorem zpT {F:Int→Int} {d:List Int} {i:Nat}(h:i<d.length):(zpd F d i)[i]?.getD 0=d[i]:=by
 unfold zpd
 have e:((d.take i).map F).length=i:=by rw[List.length_map,List.length_take];omega
 rw[List.getElem?_append_right (by omega),e,Nat.sub_self,List.getElem?_drop,Nat.add_zero,List.getElem?_eq_getElem h];rfl
theorem zpB {F:Int→Int} {d:List Int} {i:Nat}(h:i<d.length):(zpd F d i).set i (F d[i])=zpd F d (i+1):=by
 unfold zpd
 have e:((d.take i).map F).length=i:=by rw[List.length_map,List.length_take];omega
 have e2:(d.take (i+1)).map F=(d.take i).map F++[F d[i]]:=by rw[List.take_add_one,List.getElem?_eq_getElem h,List.map_append];rfl
 rw[List.set_append_right _ _ (by omega),e,Nat.sub_self,List.drop_eq_getElem_cons h,List.set_cons_zero,e2,List.append_assoc];rfl
theorem zpA(F:Int→Int)(d:List Int):zpd F d d.length=d.map F:=by unfold zpd;rw[List.take_length,List.drop_length,List.append_nil]
theorem zpv {F:Int→Int}(hF:∀{r:Int},zD r→zD (F r)) {l:List Int}(hl:∀x∈l,zD x):∀x∈l.map F,zD x:=fun x hx=>by
 obtain⟨y,hy,rfl⟩:=List.mem_map.1 hx
 exact hF (hl y hy)
theorem zpp {l:List Int}(hl:∀x∈l,zD x):∀x∈jM za l,zD x:=by
 rw[←zlj]
 exact zhD zdZ hl
theorem zpe(l:List Int):(jM za l).length≤3*l.length:=by
 have h3:(jM za l).length=(Zs za l).length:=yy _ _
 have h4:=y9 l
 omega
def zpF:PV:=.opq (.func (.func 55) #[] #[])
theorem zpE [Gi] {e:PV}(hT:Zl e)(l:List Int)(hn:l.length≤20000)(hr:∀x∈l,zD x):CR Tryz.prog 54 [] [.p e,.p (zh l),.p zpF] [] (is (.p (zh (zpa zo8 l)))):=by
 have hd:=zpe l
 have hdr:=zpp hr
 by_cases hl0:l=[]
 ·subst hl0
  refine walk Tryz.func54 10 [13,14,15] [] [] ?_
  have h1:=zpQ hT [] (by decide) (by simp)
  have e1:jM za []=[]:=by decide+kernel
  have e2:zpa zo8 []=[]:=by unfold zpa;rw[e1];decide+kernel
  have h2:=zgg hT [] (by decide) (by simp)
  have e3:qv za []=[]:=by decide+kernel
  rw[e1]at h1
  rw[e3]at h2
  rw[e2]
  obtain⟨z0,y0,rfl⟩:=ym hT
  simp (maxSteps:=1000000) [go_sem,Tryz.f54,zpF]
  refine zn h1 ?_
  simp (maxSteps:=1000000) [go_sem]
  refine loop (fun _:Unit=>True) (fun _=>[(15,.p (.int .i64 0))]) (fun _=>[]) (fun _=>0) () trivial (fun _ _=>?_)
  simp (maxSteps:=1000000) [go_sem]
  refine zn h2 ?_
  simp (maxSteps:=1000000) [go_sem]
  exact ret
 ·have h1:=zpw hT l (by omega) hr hl0
  have hdn:jM za l≠ []:=by
   intro h
   have a1:kR l=0:=by unfold kR;have:=yy (kD za) (Zs za l);unfold jM at h;rw[h]at this;simpa using this.symm
   have a2:=WK l
   exact hl0 (List.length_eq_zero_iff.1 (by omega))
  have hc:zpa zo8 l=qv za ((jM za l).map zo8):=rfl
  rw[hc]
  generalize jM za l=d at h1 hd hdr hdn⊢
  have h2:=CR.zql (zgg hT (d.map zo8) (by rw[List.length_map];omega) (zpv zpo hdr)) (by rw[List.length_map];exact List.length_pos_iff.2 hdn)
  rw[List.length_map]at h2
  obtain⟨z0,y0,rfl⟩:=ym hT
  refine walk Tryz.func54 10 [13,14,15] [] [] ?_
  simp (maxSteps:=1000000) [go_sem,Tryz.f54,zpF]
  refine call [] h1 ?_
  rintro _ _ ⟨rfl,rfl⟩
  simp (maxSteps:=1000000) [go_sem]
  have hp0:zpd zo8 d 0=d:=by simp[zpd]
  refine loop (fun i:Nat=>i≤d.length) (fun i=>[(15,.p (.int .i64 i)),(8,.zX),(9,.zX)]) (fun i=>[([12,22,9,7],zp (zpd zo8 d i))]) (fun i=>d.length-i) 0 (Nat.zero_le _) (fun i hi=>?_) (h0:=by simp[go_sem,LeS,leV,leR,leA,zj,hp0])
  by_cases c:i<d.length
  ·have g1:=JQ (M:=zpd zo8 d i) (i:=i) (by rw[zpg];exact c)
   rw[zpT c]at g1
   have p1:=Zj (M:=zpd zo8 d i) (i:=i) (zo8 d[i]) (by rw[zpg];exact c)
   rw[zpB c]at p1
   have hm:=zpu (hdr d[i] (List.getElem_mem c))
   generalize d[i]=x at g1 p1 hm
   have w1:IntKind.i64.wrap ((i:Int)+1)=((i+1:Nat):Int):=zT (by omega)
   have hl:=zpg zo8 d i
   have g2:∀h:i< (zp (zpd zo8 d i)).length,(zp (zpd zo8 d i))[i]=.p (.int .i32 x):=fun h=>by rw[List.getElem?_eq_getElem h]at g1;injection g1
   simp (maxSteps:=1000000) [go_sem,c,g2,hl]
   refine zn hm ?_
   simp (maxSteps:=1000000) [go_sem,c,p1,w1,hl]
   refine⟨c,?_⟩
   exact next (i+1) c (h3:=by show d.length- (i+1)<d.length-i;omega)
  ·obtain rfl:i=d.length:=by omega
   rw[zpA]
   simp (maxSteps:=1000000) [go_sem]
   refine call [([0],[12,22,9,7])] h2 ?_
   rintro _ _ ⟨rfl,rfl⟩
   simp (maxSteps:=1000000) [go_sem]
   exact ret
theorem zph [Gi] {e:PV}(hT:Zl e)(l:List Int)(hn:l.length≤20000)(hr:∀x∈l,zD x):CR Tryz.prog 13 [] [.p e,.p (zh l)] [] (is (.p (zh (zpa zo8 l)))):=by
 refine walk Tryz.func13 5 [] [] [] ?_
 have h:=zpE hT l hn hr
 obtain⟨z0,y0,rfl⟩:=ym hT
 simp (maxSteps:=1000000) [go_sem,Tryz.f13]
 refine zn h ?_ (ha':=by simp[go_sem,zpF])
 simp (maxSteps:=1000000) [go_sem]
 exact ret
def zpH:PV:=.opq (.func (.func 56) #[] #[])
theorem zpG [Gi] {e:PV}(hT:Zl e)(l:List Int)(hn:l.length≤20000)(hr:∀x∈l,zD x):CR Tryz.prog 54 [] [.p e,.p (zh l),.p zpH] [] (is (.p (zh (zpa zo7 l)))):=by
 have hd:=zpe l
 have hdr:=zpp hr
 by_cases hl0:l=[]
 ·subst hl0
  refine walk Tryz.func54 10 [13,14,15] [] [] ?_
  have h1:=zpQ hT [] (by decide) (by simp)
  have e1:jM za []=[]:=by decide+kernel
  have e2:zpa zo7 []=[]:=by unfold zpa;rw[e1];decide+kernel
  have h2:=zgg hT [] (by decide) (by simp)
  have e3:qv za []=[]:=by decide+kernel
  rw[e1]at h1
  rw[e3]at h2
  rw[e2]
  obtain⟨z0,y0,rfl⟩:=ym hT
  simp (maxSteps:=1000000) [go_sem,Tryz.f54,zpH]
  refine zn h1 ?_
  simp (maxSteps:=1000000) [go_sem]
  refine loop (fun _:Unit=>True) (fun _=>[(15,.p (.int .i64 0))]) (fun _=>[]) (fun _=>0) () trivial (fun _ _=>?_)
  simp (maxSteps:=1000000) [go_sem]
  refine zn h2 ?_
  simp (maxSteps:=1000000) [go_sem]
  exact ret
 ·have h1:=zpw hT l (by omega) hr hl0
  have hdn:jM za l≠ []:=by
   intro h
   have a1:kR l=0:=by unfold kR;have:=yy (kD za) (Zs za l);unfold jM at h;rw[h]at this;simpa using this.symm
   have a2:=WK l
   exact hl0 (List.length_eq_zero_iff.1 (by omega))
  have hc:zpa zo7 l=qv za ((jM za l).map zo7):=rfl
  rw[hc]
  generalize jM za l=d at h1 hd hdr hdn⊢
  have h2:=CR.zql (zgg hT (d.map zo7) (by rw[List.length_map];omega) (zpv zpk hdr)) (by rw[List.length_map];exact List.length_pos_iff.2 hdn)
  rw[List.length_map]at h2
  obtain⟨z0,y0,rfl⟩:=ym hT
  refine walk Tryz.func54 10 [13,14,15] [] [] ?_
  simp (maxSteps:=1000000) [go_sem,Tryz.f54,zpH]
  refine call [] h1 ?_
  rintro _ _ ⟨rfl,rfl⟩
  simp (maxSteps:=1000000) [go_sem]
  have hp0:zpd zo7 d 0=d:=by simp[zpd]
  refine loop (fun i:Nat=>i≤d.length) (fun i=>[(15,.p (.int .i64 i)),(8,.zX),(9,.zX)]) (fun i=>[([12,22,9,7],zp (zpd zo7 d i))]) (fun i=>d.length-i) 0 (Nat.zero_le _) (fun i hi=>?_) (h0:=by simp[go_sem,LeS,leV,leR,leA,zj,hp0])
  by_cases c:i<d.length
  ·have g1:=JQ (M:=zpd zo7 d i) (i:=i) (by rw[zpg];exact c)
   rw[zpT c]at g1
   have p1:=Zj (M:=zpd zo7 d i) (i:=i) (zo7 d[i]) (by rw[zpg];exact c)
   rw[zpB c]at p1
   have hm:=zpW (hdr d[i] (List.getElem_mem c))
   generalize d[i]=x at g1 p1 hm
   have w1:IntKind.i64.wrap ((i:Int)+1)=((i+1:Nat):Int):=zT (by omega)
   have hl:=zpg zo7 d i
   have g2:∀h:i< (zp (zpd zo7 d i)).length,(zp (zpd zo7 d i))[i]=.p (.int .i32 x):=fun h=>by rw[List.getElem?_eq_getElem h]at g1;injection g1
   simp (maxSteps:=1000000) [go_sem,c,g2,hl]
   refine zn hm ?_
   simp (maxSteps:=1000000) [go_sem,c,p1,w1,hl]
   refine⟨c,?_⟩
   exact next (i+1) c (h3:=by show d.length- (i+1)<d.length-i;omega)
  ·obtain rfl:i=d.length:=by omega
   rw[zpA]
   simp (maxSteps:=1000000) [go_sem]
   refine call [([0],[12,22,9,7])] h2 ?_
   rintro _ _ ⟨rfl,rfl⟩
   simp (maxSteps:=1000000) [go_sem]
   exact ret
theorem zpl [Gi] {e:PV}(hT:Zl e)(l:List Int)(hn:l.length≤20000)(hr:∀x∈l,zD x):CR Tryz.prog 14 [] [.p e,.p (zh l)] [] (is (.p (zh (zpa zo7 l)))):=by
 refine walk Tryz.func14 5 [] [] [] ?_
 have h:=zpG hT l hn hr
 obtain⟨z0,y0,rfl⟩:=ym hT
 simp (maxSteps:=1000000) [go_sem,Tryz.f14]
 refine zn h ?_ (ha':=by simp[go_sem,zpH])
 simp (maxSteps:=1000000) [go_sem]
 exact ret
end Go.Proofs.YthbmelihnabkaaaGreat
end
section
namespace Go.Proofs.YthbmelihnabkaaaGreat
open Go.AM
set_option maxHeartbeats 4000000
set_option maxRecDepth 10000
def l7:List Int:=[111,78,69,32,116,119,111]
def L7:List (List Int):=[[111],[78],[69],[32],[116],[119],[111]]
theorem t7a:qv za l7=l7:=by decide+kernel
theorem t7b:L7=z8 za l7:=by decide+kernel
theorem t7c:QX L7 0=true∧QX L7 3=false∧QX L7 4=true∧wW L7 0=3∧wW L7 4=7:=by decide+kernel
def zpm:Bool→List Int→List Int
 |_,[]=>[]
 |b,r::l=>(if b then zo8 r else zo7 r)::zpm (b&&decide (zo8 (zo7 r)=zo7 r)) l
def zpn:Bool→List Int→Bool
 |b,[]=>b
 |b,r::l=>zpn (b&&decide (zo8 (zo7 r)=zo7 r)) l
def zqp(l:List Int):List Int:=qv za (zpm true (jM za l))
theorem t7d:zqp [111,78,69]=[79,110,101]∧zqp [116,119,111]=[84,119,111]:=by decide+kernel
theorem t7e:qv za [79,110,101,32,84,119,111]=[79,110,101,32,84,119,111]:=by decide+kernel
attribute [local irreducible] za
theorem zqe [Gi](a b:List Int)(ha:a.length<2^31)(_:b.length<2^31):CR Tryz.prog 15 [] [.p (zh a),.p (zh b)] [] (is (.p (.bool (decide (a=b))))):=by
 refine walk Tryz.func15 6 [] [] [] ?_
 by_cases hl:a.length=b.length
 ·have hl':(a.length:Int)=b.length:=by omega
  simp (maxSteps:=1000000) [go_sem,Tryz.f15,hl']
  refine loop (fun k:Nat=>k≤b.length∧a.take k=b.take k) (fun k=>[(5,.p (.int .i64 k))]) (fun _=>[]) (fun k=>b.length-k) 0 ⟨Nat.zero_le _,rfl⟩ (fun k hk=>?_)
  obtain⟨k1,k2⟩:=hk
  by_cases d:k<b.length
  ·have e1:=Ql (l:=a) (k:=k) (by omega)
   have e2:=Ql (l:=b) (k:=k) d
   have w1:IntKind.i64.wrap ((k:Int)+1)=((k+1:Nat):Int):=zT (by omega)
   have da:k<a.length:=by omega
   by_cases q:a.getD k 0=b.getD k 0
   ·have hn:=zh1 k2 da d q
    rw[q]at e1
    generalize b.getD k 0=y at e1 e2
    simp (maxSteps:=1000000) [go_sem,d,da,e1,e2,w1]
    exact next (k+1) ⟨d,hn⟩ (h3:=by show b.length- (k+1)<b.length-k;omega)
   ·have hne:¬a=b:=fun h=>q (by rw[h])
    generalize a.getD k 0=x at e1 q
    generalize b.getD k 0=y at e2 q
    rw[decide_eq_false hne]
    simp (maxSteps:=1000000) [go_sem,d,da,e1,e2,q]
    exact ret
  ·obtain rfl:k=b.length:=by omega
   have he:a=b:=by
    rw[List.take_of_length_le (by omega),List.take_length]at k2
    exact k2
   rw[decide_eq_true he]
   simp (maxSteps:=1000000) [go_sem,hl]
   exact ret
 ·have hl':¬(a.length:Int)=b.length:=by omega
  have hne:¬a=b:=fun h=>hl (by rw[h])
  rw[decide_eq_false hne]
  simp (maxSteps:=1000000) [go_sem,Tryz.f15,hl']
  exact ret
theorem zp5 [Gi](a b:List Int)(ha:a.length≤1000)(hb:b.length≤1000)(hra:∀x∈a,zD x)(hrb:∀x∈b,zD x):CR Tryz.prog 11 [] [.p (zI za),.p (zh a),.p (zh b)] [] (is (.p (.bool (decide (jM za a=jM za b))))):=by
 refine walk Tryz.func11 7 [] [] [] ?_
 have h1:=zkJ za yS a (by omega) hra
 have h2:=zkJ za yS b (by omega) hrb
 have l1:=zpe a
 have l2:=zpe b
 simp (maxSteps:=1000000) [go_sem,Tryz.f11]
 refine zn h1 ?_
 simp (maxSteps:=1000000) [go_sem]
 refine zn h2 ?_
 simp (maxSteps:=1000000) [go_sem]
 refine zn (zqe (jM za a) (jM za b) (by omega) (by omega)) ?_
 simp (maxSteps:=1000000) [go_sem]
 exact ret
theorem zqn [Gi] {r:Int}(hr:zD r)(b:Bool):CR Tryz.prog 114 [[0]] [.p (.int .i32 r),.lp [0] 0] [([0],[.p (.bool b)])] (keeps [([0],[.p (.bool (b&&decide (zo8 (zo7 r)=zo7 r)))])] (.int .i32 (if b then zo8 r else zo7 r))):=by
 refine Yr Tryz.func114 5 [] [] [] ?_
 have h1:=zpu hr
 have h2:=zpW hr
 have h3:=zpu (zpk hr)
 cases b with
 |true=>
  simp (maxSteps:=1000000) [go_sem,Tryz.f114]
  refine zn h2 ?_
  simp (maxSteps:=1000000) [go_sem]
  refine zn h3 ?_
  simp (maxSteps:=1000000) [go_sem]
  refine zn h2 ?_
  simp (maxSteps:=1000000) [go_sem]
  refine zn h1 ?_
  simp (maxSteps:=1000000) [go_sem]
  exact KT
 |false=>
  simp (maxSteps:=1000000) [go_sem,Tryz.f114]
  refine zn h2 ?_
  simp (maxSteps:=1000000) [go_sem]
  exact KT
theorem zpj:∀(l:List Int) (b:Bool),(zpm b l).length=l.length
 | [],b=>by cases b<;>rfl
 |r::l,b=>by rw[zpm,List.length_cons,zpj l,List.length_cons]
theorem zpz:∀(l:List Int) (b:Bool) (x:Int),zpn b (l++[x])=(zpn b l&&decide (zo8 (zo7 x)=zo7 x))
 | [],b,x=>rfl
 |r::l,b,x=>by rw[List.cons_append,zpn,zpn,zpz l]
theorem zp1:∀(d:List Int) (b:Bool) (i:Nat) (h:i<d.length),(zpm b d)[i]?=some (if zpn b (d.take i)then zo8 d[i]else zo7 d[i])
 |r::l,b,0,_=>by simp[zpm,zpn]
 |r::l,b,i+1,h=>by
  rw[zpm,List.getElem?_cons_succ,zp1 l _ i (by simpa using h),List.take_succ_cons,zpn];rfl
def zpf(d:List Int)(i:Nat):List Int:=(zpm true d).take i++d.drop i
theorem zpr(d:List Int)(i:Nat):(zpf d i).length=d.length:=by
 have:=zpj d true
 unfold zpf;rw[List.length_append,List.length_take,List.length_drop];omega
theorem zqj {d:List Int} {i:Nat}(h:i<d.length):(zpf d i)[i]?.getD 0=d[i]:=by
 have hl:=zpj d true
 have e:((zpm true d).take i).length=i:=by rw[List.length_take];omega
 unfold zpf
 rw[List.getElem?_append_right (by omega),e,Nat.sub_self,List.getElem?_drop,Nat.add_zero,List.getElem?_eq_getElem h];rfl
theorem zqd {d:List Int} {i:Nat}(h:i<d.length):(zpf d i).set i (if zpn true (d.take i)then zo8 d[i]else zo7 d[i])=zpf d (i+1):=by
 have hl:=zpj d true
 have e:((zpm true d).take i).length=i:=by rw[List.length_take];omega
 have e2:(zpm true d).take (i+1)=(zpm true d).take i++[if zpn true (d.take i)then zo8 d[i]else zo7 d[i]]:=by rw[List.take_add_one,zp1 d true i h];rfl
 unfold zpf
 rw[List.set_append_right _ _ (by omega),e,Nat.sub_self,List.drop_eq_getElem_cons h,List.set_cons_zero,e2,List.append_assoc];rfl
theorem zp9(d:List Int):zpf d d.length=zpm true d:=by
 have hl:=zpj d true
 unfold zpf;rw[←hl,List.take_length,hl,List.drop_length,List.append_nil]
theorem zqc {d:List Int} {i:Nat}(h:i<d.length):zpn true (d.take (i+1))=(zpn true (d.take i)&&decide (zo8 (zo7 d[i])=zo7 d[i])):=by
 rw[List.take_add_one,List.getElem?_eq_getElem h]
 exact zpz _ _ _
theorem zpC:∀{l:List Int} (b:Bool),(∀x∈l,zD x)→∀x∈zpm b l,zD x
 | [],b,_,x,hx=>by cases b<;>cases hx
 |r::l,b,h,x,hx=>by
  rw[zpm,List.mem_cons]at hx
  rcases hx with rfl|hx
  ·cases b with
   |true=>exact zpo (h r List.mem_cons_self)
   |false=>exact zpk (h r List.mem_cons_self)
  ·exact zpC _ (fun y hy=>h y (List.mem_cons_of_mem _ hy)) x hx
def zqs(v:PV):AV→List (Tok×List AV)→Prop:=fun x rs=>(∃b,rs=[([0],[.p (.bool b)])])∧x=.p v
theorem zpU [Gi] {e:PV}(hT:Zl e)(l:List Int)(hn:l.length≤20000)(hr:∀x∈l,zD x)(hl0:l≠ []):CR Tryz.prog 54 [[0]] [.p e,.p (zh l),.fn 114 [.lp [0] 0]] [([0],[.p (.bool true)])] (zqs (zh (zqp l))):=by
 have hd:=zpe l
 have hdr:=zpp hr
 have h1:=zpw hT l (by omega) hr hl0
 have hdn:jM za l≠ []:=by
  intro h
  have a1:kR l=0:=by unfold kR;have:=yy (kD za) (Zs za l);unfold jM at h;rw[h]at this;simpa using this.symm
  have a2:=WK l
  exact hl0 (List.length_eq_zero_iff.1 (by omega))
 have hc:zqp l=qv za (zpm true (jM za l)):=rfl
 rw[hc]
 generalize jM za l=d at h1 hd hdr hdn⊢
 have hwl:=zpj d true
 have h2:=CR.zql (zgg hT (zpm true d) (by omega) (zpC true hdr)) (by rw[hwl];exact List.length_pos_iff.2 hdn)
 rw[hwl]at h2
 obtain⟨z0,y0,rfl⟩:=ym hT
 refine walk Tryz.func54 10 [13,14,15] [] [] ?_
 simp (maxSteps:=1000000) [go_sem,Tryz.f54]
 refine call [] h1 ?_
 rintro _ _ ⟨rfl,rfl⟩
 simp (maxSteps:=1000000) [go_sem]
 have hp0:zpf d 0=d:=by simp[zpf]
 refine loop (fun i:Nat=>i≤d.length) (fun i=>[(15,.p (.int .i64 i)),(8,.zX),(9,.zX)]) (fun i=>[([12,22,9,7],zp (zpf d i)),([0],[.p (.bool (zpn true (d.take i)))])]) (fun i=>d.length-i) 0 (Nat.zero_le _) (fun i hi=>?_) (h0:=by simp[go_sem,LeS,leV,leR,leA,leL,zj,hp0,zpn])
 by_cases c:i<d.length
 ·have g1:=JQ (M:=zpf d i) (i:=i) (by rw[zpr];exact c)
  rw[zqj c]at g1
  have p1:=Zj (M:=zpf d i) (i:=i) (if zpn true (d.take i)then zo8 d[i]else zo7 d[i]) (by rw[zpr];exact c)
  rw[zqd c]at p1
  have hnx:=zqc c
  have hm:=zqn (hdr d[i] (List.getElem_mem c)) (zpn true (d.take i))
  rw[←hnx]at hm
  generalize zpn true (d.take i)=b at p1 hm
  generalize (if b=true then zo8 d[i]else zo7 d[i])=y at p1 hm
  generalize d[i]=x at g1 hm
  have w1:IntKind.i64.wrap ((i:Int)+1)=((i+1:Nat):Int):=zT (by omega)
  have hl:=zpr d i
  have g2:∀h:i< (zp (zpf d i)).length,(zp (zpf d i))[i]=.p (.int .i32 x):=fun h=>by rw[List.getElem?_eq_getElem h]at g1;injection g1
  simp (maxSteps:=1000000) [go_sem,c,g2,hl]
  refine⟨⟨rfl,by decide+kernel⟩,WL [([0],[0])] hm (by simp[go_sem,zw]) ⟨by simp[go_sem],by simp[go_sem]⟩ (by simp[go_sem]) ?_⟩
  rintro _ _ ⟨rfl,rfl⟩
  simp (maxSteps:=1000000) [go_sem,c,p1,w1,hl]
  refine⟨c,?_⟩
  exact next (i+1) c (h3:=by show d.length- (i+1)<d.length-i;omega)
 ·obtain rfl:i=d.length:=by omega
  rw[zp9]
  simp (maxSteps:=1000000) [go_sem]
  refine call [([0],[12,22,9,7])] h2 ?_
  rintro _ _ ⟨rfl,rfl⟩
  simp (maxSteps:=1000000) [go_sem]
  exact zi [[0]] (.p (zh (qv za (zpm true d)))) (by simp) (by simp[go_sem,zd,leA,leT]) ⟨⟨_,rfl⟩,rfl⟩
end Go.Proofs.YthbmelihnabkaaaGreat
end
