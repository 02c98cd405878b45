/- A part of this seat's proofs, by an abstract machine. Conditions: each law's. -/
import Derived.Test.YtfjdbbpimklecaaGreatDoorT48
import Derived.Test.YtfjdbbpimklecaaGreatDoorT47
import Derived.Test.YtfjdbbpimklecaaGreatDoorT45
import Derived.Test.YtfjdbbpimklecaaGreatDoorRows
import Derived.Test.YtfjdbbpimklecaaGreatDoorT35
import Derived.Test.YtfjdbbpimklecaaGreatDoorT43
import Derived.Test.YtfjdbbpimklecaaGreatDoorT31
import Derived.ProofKit
import Derived.LaidMore
import Derived.OpenShut
import Derived.Stop.Joined
import Derived.Lib.LaidU8
set_option maxHeartbeats 4000000
set_option maxRecDepth 100000
namespace Go.Proofs.YtfjdbbpimklecaaGreatDoor
section
open Go.AM
attribute [local irreducible] za vwL
structure V3 where
 ps:List (List Int)
 ln:List Int
 cur:Int
def vw3(v:V3):PV:=ZU v.ps v.ln v.cur
def V3.ok(f:V3):Prop:=(∀l∈f.ps,∀r∈l,qg r)∧∀r∈f.ln,qg r
theorem zdd(C:Nat)(l:zt):∀R,chR C l l R=[]:=by
 intro R
 rw[List.eq_nil_iff_forall_not_mem]
 intro r hr
 have h:=wy hr
 have:dF (zm C l r) (zm C l r) C<0:=zcF.2 fun _ _=>rfl
 omega
theorem Jx(vs:List V3)(rows cols:Int)(hf:∀f∈vs,f.ok):
  CR Tryz.prog 5 [] [.p (.sl 3 (vs.map vw3)),.p (.int .i64 rows),.p (.int .i64 cols)] [] (is (.p (.bool true))):=by
 have aw:=zfz
 obtain⟨m1,hm1,e1⟩:=zhp rows 31 (by omega)
 obtain⟨m2,hm2,e2⟩:=zhp cols 63 (by omega)
 simp[go_sem]at e1 e2
 obtain⟨R,hR⟩:∃R:Nat,R=1+m1:=⟨_,rfl⟩
 obtain⟨C,hC⟩:∃C:Nat,C=2+m2:=⟨_,rfl⟩
 have wR:IntKind.i64.wrap (1+(m1:Int))=(R:Int):=by rw[wrap64 (by omega) (by omega)];omega
 have wC:IntKind.i64.wrap (2+(m2:Int))=(C:Int):=by rw[wrap64 (by omega) (by omega)];omega
 have np:=KZ R C (by omega) (by omega)
 have gn:=Vx R C (by omega) (by omega)
 have hb:(Q7 R C).length=R*C:=by simp[Q7]
 have rc:=Vm
 have tE:=yU
 refine walk Tryz.func5 18 [] [13] [] ?_
 unfold z6 at rc tE
 obtain⟨X,hX⟩:∃X,X=za.map rowP:=⟨_,rfl⟩
 rw[←hX]at rc tE
 unfold WA Zj at np
 unfold Zj at gn
 simp (maxSteps:=1000000) [go_sem,Tryz.f5,e1,e2,wR,wC]
 refine zq rc ?_
 simp (maxSteps:=1000000) [go_sem]
 refine call [] tE ?_
 rintro _ _ ⟨rfl,e,rfl,hT⟩
 obtain⟨z0,y0,rfl⟩:∃z y,e=.pt z y:=by
  obtain⟨c,b,j,f,p,_,rfl⟩:=hT
  exact⟨_,_,rfl⟩
 simp (maxSteps:=1000000) [go_sem]
 refine zq np ?_
 simp (maxSteps:=1000000) [go_sem]
 refine zq gn ?_
 simp (maxSteps:=1000000) [go_sem]
 refine loop (fun s:Nat×zt×Int×Int=>PsI 8 R C s∧s.1≤vs.length) (fun s=>[(9,.p (.pt 3 (.agg [.int .i64 R,.int .i64 C,.sl 2 (s.2.1.map clP)]))),(10,.p (.int .i64 s.1)),(11,.zY),(12,.zY),(13,.zY),(14,.zY),(15,.zY),(16,.zY),(17,.zY)])
  (fun s=>[([8],[.p (.pt 3 (.agg [.int .i64 R,.int .i64 C,.sl 2 (s.2.1.map clP)])),.p (.int .i64 s.2.2.1),.p (.int .i64 s.2.2.2),.p (.bool true)])])
  (fun s=>vs.length-s.1) (0,Q7 R C,0,0) ⟨⟨by simp,hb,by simp,by simp⟩,Nat.zero_le _⟩ (fun s hs=>?_) (h0:=by simp[go_sem,LeS,leV,leR,leA,leL,Q7])
 obtain⟨i,q,r,c⟩:=s
 obtain⟨⟨hi8,hq,hr,hc⟩,hi⟩:=hs
 simp only at hi8 hi hq hr hc
 by_cases hil:i<vs.length
 ·by_cases hi7:i<8
  ·have hi5:(i:Int)<8:=by omega
   have em:=zp vw3 vs i hil
   have okf:=hf vs[i] (List.getElem_mem hil)
   generalize vs[i]=f at em okf
   obtain⟨ps,ln,cur⟩:=f
   obtain⟨o1,o2⟩:=okf
   simp only at o1 o2
   have okf:=zfX o1 o2
   have fv:=zej ps ln cur
   replace em:elemAt (vs.map vw3) i=.agg [.sl 1 (q9 ps),.sl 1 (zP ln),.int .i64 cur]:=em
   generalize wk ps=ps' at okf fv
   generalize ln.take 100=ln' at okf fv
   have vS:=JF ps' ln' cur
   have sA:=yu hT okf cur R C (by omega) (by omega)
   have vi:=zkw okf cur (R:=R) (C:=C) (by omega) (by omega)
   have hL:=uH R C ps' ln' cur
   have hS:=x8 okf R C cur
   unfold zcW at sA
   generalize vwL R C ps' ln' cur=L at*
   generalize (vwS C ps' ln' cur).1-vwT R C ps' ln' cur=sr at*
   generalize (vwS C ps' ln' cur).2=sc at*
   have hsr:0≤sr∧sr<500:=by omega
   have p1:=kj R C q L r c sr sc false true (by omega) (by omega) hq hL hS hr hc hsr (by omega)
   have p2:=kj R C L L sr sc sr sc true true (by omega) (by omega) hL hL hS hsr (by omega) hsr (by omega)
   have p3:=kj R C L L sr sc sr sc false true (by omega) (by omega) hL hL hS hsr (by omega) hsr (by omega)
   have y1:=kl (l:=q) (r0:=r) (c0:=c) (sc:=sc) (anew:=false) (bell:=true) (R:=R) (C:=C) (by omega) (by omega) hL hsr
   have y2:=kl (l:=L) (r0:=sr) (c0:=sc) (sc:=sc) (anew:=true) (bell:=true) (R:=R) (C:=C) (by omega) (by omega) hL hsr
   have y3:=kl (l:=L) (r0:=sr) (c0:=sc) (sc:=sc) (anew:=false) (bell:=true) (R:=R) (C:=C) (by omega) (by omega) hL hsr
   have t1:=VH R C q L (by omega) (by omega) hq hL hS
   have t2:=VH R C (Q7 R C) L (by omega) (by omega) hb hL hS
   have t3:=VH R C L L (by omega) (by omega) hL hL hS
   have d1:=Jn (l:=q) (R:=R) (C:=C) (by omega) (by omega) hL hS R (Nat.le_refl _)
   have d2:=Jn (l:=Q7 R C) (R:=R) (C:=C) (by omega) (by omega) hL hS R (Nat.le_refl _)
   have k1:=kF C q L R
   have k2:=kF C (Q7 R C) L R
   have x1:zC R C q false=q:=rfl
   have x2:zC R C L true=Q7 R C:=rfl
   have x3:zC R C L false=L:=rfl
   rw[x1]at y1
   rw[x2]at y2
   rw[x3,zdd]at y3
   rw[zdd]at t3
   have b1:=YO ((chR C q L R).length:Int) ((jJ C q L (chR C q L R):Nat):Int) (by omega) (by omega)
   have b2:=YO ((chR C (Q7 R C) L R).length:Int) ((jJ C (Q7 R C) L (chR C (Q7 R C) L R):Nat):Int) (by omega) (by omega)
   have z3:jJ C L L []=0:=rfl
   rw[z3]at y3 t3
   generalize (chR C q L R).length=n1 at*
   generalize jJ C q L (chR C q L R)=n2 at*
   generalize (chR C (Q7 R C) L R).length=n3 at*
   generalize jJ C (Q7 R C) L (chR C (Q7 R C) L R)=n4 at*
   generalize qS (uY R C q L r c sr sc false true)=W1 at*
   generalize qS (uY R C L L sr sc sr sc true true)=W2 at*
   generalize qS (uY R C L L sr sc sr sc false true)=W3 at*
   have g1:¬(32+16*(n1:Int)+4*(n2:Int)< (W1.length:Int)):=by omega
   have g2:¬(32+16*(n3:Int)+4*(n4:Int)< (W2.length:Int)):=by omega
   have g3:¬(32< (W3.length:Int)):=by simp at y3;omega
   unfold WA zio Zj at p1 p2 p3
   unfold Zj at sA t1 t2 t3
   unfold Q7 at t2
   have w1:IntKind.i64.wrap ((i:Int)+1)=((i+1:Nat):Int):=zG (by omega)
   simp (maxSteps:=1000000) [go_sem,hil,hi5,em]
   refine zq fv ?_ (ha':=by simp[go_sem,ZU])
   simp (maxSteps:=1000000) [go_sem]
   refine zq vS ?_ (ha':=by simp[go_sem,ZU])
   simp (maxSteps:=1000000) [go_sem]
   refine zq sA ?_ (ha':=by simp[go_sem,ZU])
   simp (maxSteps:=1000000) [go_sem]
   refine zq p1 ?_
   simp (maxSteps:=1000000) [go_sem]
   refine zq p2 ?_
   simp (maxSteps:=1000000) [go_sem]
   refine zq p3 ?_
   simp (maxSteps:=1000000) [go_sem]
   refine qI 25 t1 ?_
   simp (maxSteps:=1000000) [go_sem]
   refine qI 26 b1 ?_
   simp (maxSteps:=1000000) [go_sem,g1]
   refine qI 23 gn ?_
   simp (maxSteps:=1000000) [go_sem]
   refine qI 25 t2 ?_
   simp (maxSteps:=1000000) [go_sem]
   refine qI 26 b2 ?_
   simp (maxSteps:=1000000) [go_sem,g2,g3]
   refine qI 25 t3 ?_
   simp (maxSteps:=1000000) [go_sem,w1]
   exact next (i+1,L,sr,sc) ⟨⟨by show i+1≤_;omega,hL,by show 0≤sr∧sr<500;omega,by show 0≤sc∧sc≤1000;omega⟩,by show i+1≤_;omega⟩ (h3:=by show vs.length- (i+1)<vs.length-i;omega)
  ·have hi5:¬(i:Int)<8:=by omega
   simp (maxSteps:=1000000) [go_sem,hil,hi5]
   refine zq aw ?_
   simp (maxSteps:=1000000) [go_sem]
   exact ret
 ·simp (maxSteps:=1000000) [go_sem,hil]
  refine zq aw ?_
  simp (maxSteps:=1000000) [go_sem]
  exact ret
end
section
open Go.ChangeShapes Go.WideShapes Go.ChangeAt Go.RowKit Go.AM
abbrev v8:List (String×DataW Unit):=[("math/bits.deBruijn32tab",Rows.laid_math_bits_deBruijn32tab),("math/bits.deBruijn64tab",Rows.laid_math_bits_deBruijn64tab),("internal/strconv.uint64pow10",Rows.laid_internal_strconv_uint64pow10)]
theorem zot:(Tryz.prog.globals[0]?).map (·.type)=some 368:=by kernel_rfl
theorem WJ {W:World}(h:laidMetH Tryz.prog v8 W):Y1 ⟨frW W,fun _=>.prot⟩ W:=by
 rw[MakeChecks.laidMetH_plain _ _ _ (by kernel_rfl)]at h
 obtain⟨g,t,cs,fuel,p,hg,ht,hv,hd⟩:=Lib.laidMet.reads h (n:= "internal/strconv.uint64pow10") (d:=Rows.laid_internal_strconv_uint64pow10) (by simp)
 obtain rfl:=Option.some.inj (zjH.symm.trans hg)
 obtain rfl:=Option.some.inj (zot.symm.trans ht)
 have e:=Lib.cells_of_tab (k:=.u64) (zs:=Lib.pow10Tab) (n:=20) (e:=342) (by kernel_rfl) (by kernel_rfl) (by kernel_rfl) (by kernel_rfl) hd
 intro b arr hb
 have hb0:b=0∧Yz=arr:=by
  by_cases h0:b=0
  ·subst h0;exact⟨rfl,Option.some.inj hb⟩
  ·simp[Gi.val,h0]at hb
 obtain⟨rfl,rfl⟩:=hb0
 refine⟨rfl,?_⟩
 unfold World.var? at hv
 rw[zjH]at hv
 simp only[Option.bind_some]at hv
 split at hv
 ·rename_i cs' T f hh
  injection hv with hv
  subst hv
  have:cs'=Yz:=by rw[Yz,←e]
  subst this
  exact⟨T,f,hh⟩
 ·cases hv
theorem Jc(os:Os)(args:Array Value):laidMetH Tryz.prog v8 ((World.doorLaid Tryz.prog 2000 os).forCall (fun _ _=>0) ⟨#[],args,[]⟩).memory:=
 laidMetH_of_parts3 (fuel:=8) (laidMet_of_run' 8 (by kernel_rfl) (by kernel_rfl)) (by kernel_rfl) (by kernel_rfl)
section
variable {H:Type} {enc:TypeId×Value→H} {W:World}
abbrev QB:List PV→Prop:=fun xs=>∃x,xs=[x]∧∃b,x=.bool b
theorem zgL:kK enc Tryz.prog W 0 (fun _=>true) true 4 QB:=by
 intro fuel cs x h
 obtain⟨xs,⟨b,rfl⟩,r⟩:=zfH (by kernel_rfl) _ _ _ h
 exact⟨_,⟨_,rfl,b,rfl⟩,r⟩
theorem zcU:kK enc Tryz.prog W 0 (fun _=>true) true 51 (xz [xz [QTs,QT,QI],QB,QB]):=
 Vr Tryz.underlying51 (by kernel_rfl) ⟨Jj,zgL,zgL,trivial⟩
theorem zfr {xs:List PV}(h:xz [xz [QTs,QT,QI],QB,QB] xs):∃f:Frm,f.ok∧PV.agg xs=yD f:=by
 obtain⟨_,_,rfl,⟨_,_,rfl,⟨_,rfl,f,h0,rfl⟩,_,_,rfl,⟨_,rfl,g,h1,rfl⟩,_,_,rfl,⟨_,rfl,n,rfl,_⟩,rfl⟩,_,_,rfl,⟨_,rfl,x,rfl⟩,_,_,rfl,⟨_,rfl,y,rfl⟩,rfl⟩:=h
 exact⟨⟨f,g,n,x,y⟩,⟨h0,h1⟩,rfl⟩
theorem VJ:kK enc Tryz.prog W 0 (fun _=>true) true 22 fun xs=>∃x,xs=[x]∧∃l:List Frm,(∀f∈l,f.ok)∧x=.sl 5 (l.map yD):=by
 intro fuel cs x h
 obtain⟨xs,⟨es,rfl,he⟩,r⟩:=xg (e:=51) (QE:=fun el=>∃o:Frm,o.ok∧el=yD o) (by kernel_rfl) (of_decide_eq_true (by kernel_rfl)) (fun fuel cs x h=>by
  obtain⟨el,v,⟨xs,rfl,q⟩,r⟩:=zjf zcU _ _ _ h
  exact⟨_,v,zfr q,r⟩) _ _ _ h
 obtain⟨l,ql,rfl⟩:=Yh he
 exact⟨_,⟨_,rfl,l,ql,rfl⟩,r⟩
theorem zmO {xs:List PV}(h:xz [QTs,QT,QI] xs):∃v:V3,v.ok∧PV.agg xs=vw3 v:=by
 obtain⟨⟨a,b,c⟩,hv,e⟩:=zii h
 exact⟨⟨a,b,c⟩,hv,e⟩
theorem zcJ:kK enc Tryz.prog W 0 (fun _=>true) true 60 fun xs=>∃x,xs=[x]∧∃l:List V3,(∀f∈l,f.ok)∧x=.sl 3 (l.map vw3):=by
 intro fuel cs x h
 obtain⟨xs,⟨es,rfl,he⟩,r⟩:=xg (e:=49) (QE:=fun el=>∃o:V3,o.ok∧el=vw3 o) (by kernel_rfl) (of_decide_eq_true (by kernel_rfl)) (fun fuel cs x h=>by
  obtain⟨el,v,⟨xs,rfl,q⟩,r⟩:=zjf Jj _ _ _ h
  exact⟨_,v,zmO q,r⟩) _ _ _ h
 obtain⟨l,ql,rfl⟩:=Yh he
 exact⟨_,⟨_,rfl,l,ql,rfl⟩,r⟩
end
end
end Go.Proofs.YtfjdbbpimklecaaGreatDoor
