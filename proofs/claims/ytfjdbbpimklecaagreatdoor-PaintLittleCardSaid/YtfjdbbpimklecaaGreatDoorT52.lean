/- A part of this seat's proofs, by an abstract machine. Conditions: each law's. -/
import Derived.Test.YtfjdbbpimklecaaGreatDoorT48
import Derived.Test.YtfjdbbpimklecaaGreatDoorRows
import Derived.Test.YtfjdbbpimklecaaGreatDoorT49
import Derived.Test.YtfjdbbpimklecaaGreatDoorT50
import Derived.Test.YtfjdbbpimklecaaGreatDoorT43
set_option maxHeartbeats 40000000
set_option maxRecDepth 100000
namespace Go.Proofs.YtfjdbbpimklecaaGreatDoor
section
open Go.AM
attribute [local irreducible] za vwL
theorem JZ(rows cols:Int)(fs:List Frm)(hf:∀f∈fs,f.ok)(aw:CR Tryz.prog 21 [] [] [] (is (.p (.bool true)))):
  CR Tryz.prog 4 [] [.p (.int .i64 rows),.p (.int .i64 cols),.p (.sl 5 (fs.map yD))] [] (is (.p (.bool true))):=by
 have ff:=zc6 fs
 have hok:=zcZ hf
 have hn8:(VQ fs).length≤8:=by unfold VQ;simp;omega
 obtain⟨m1,hm1,e1⟩:=zhp rows 31 (by omega)
 obtain⟨m2,hm2,e2⟩:=zhp cols 63 (by omega)
 simp[go_sem]at e1 e2
 obtain⟨R,hR⟩:∃R:Nat,R=1+m1:=⟨_,rfl⟩
 obtain⟨C,hC⟩:∃C:Nat,C=2+m2:=⟨_,rfl⟩
 have wR:IntKind.i64.wrap (1+(m1:Int))=(R:Int):=by rw[wrap64 (by omega) (by omega)];omega
 have wC:IntKind.i64.wrap (2+(m2:Int))=(C:Int):=by rw[wrap64 (by omega) (by omega)];omega
 have np:=KZ R C (by omega) (by omega)
 have nd:=J6 R C (by omega) (by omega)
 have hb:(Q7 R C).length=R*C:=by simp[Q7]
 have e0:(fs.take 8).map VF=VQ fs:=rfl
 rw[e0]at ff
 generalize VQ fs=l at*
 have rc:=Vm
 have tE:=yU
 refine walk Tryz.func4 15 [] [13,100013] [] ?_
 unfold z6 at rc tE
 obtain⟨X,hX⟩:∃X,X=za.map rowP:=⟨_,rfl⟩
 rw[←hX]at rc tE
 unfold WA Zj at np
 unfold jA at nd
 simp (maxSteps:=1000000) [go_sem,Tryz.f4,e1,e2,wR,wC]
 refine zq ff ?_
 simp (maxSteps:=1000000) [go_sem]
 refine zq rc ?_
 simp (maxSteps:=1000000) [go_sem]
 refine call [] tE ?_
 rintro _ _ ⟨rfl,e,rfl,hT⟩
 obtain⟨z0,y0,rfl⟩:∃z y,e=.pt z y:=by
  obtain⟨c,b,j,f,p,_,rfl⟩:=hT
  exact⟨_,_,rfl⟩
 simp (maxSteps:=1000000) [go_sem]
 refine zq np ?_
 simp (maxSteps:=1000000) [go_sem]
 refine zq nd ?_
 simp (maxSteps:=1000000) [go_sem]
 refine loop (fun s:Nat×zt×Int×Int=>PsI l.length R C s) (fun s=>[(10,.p (.sl 1 ((Qh R C s.2.1).map qe))),(11,.p (.int .i64 s.1)),(12,.zY),(13,.zY),(14,.zY)])
  (fun s=>[([9],[.p (.pt 3 (.agg [.int .i64 R,.int .i64 C,.sl 2 (s.2.1.map clP)])),.p (.int .i64 s.2.2.1),.p (.int .i64 s.2.2.2),.p (.bool true)])])
  (fun s=>l.length-s.1) (0,Q7 R C,0,0) ⟨Nat.zero_le _,hb,by simp,by simp⟩ (fun s hs=>?_)
 obtain⟨i,q,r,c⟩:=s
 obtain⟨hi,hq,hr,hc⟩:=hs
 simp only at hi hq hr hc
 by_cases hil:i<l.length
 ·have em:=zp yD l i hil
  have okf:=hok l[i] (List.getElem_mem hil)
  generalize l[i]=f at em okf
  obtain⟨ps,ln,cur,a,b⟩:=f
  simp only at okf
  replace em:elemAt (l.map yD) i=.agg [.sl 1 (q9 ps),.sl 1 (zP ln),.int .i64 cur,.bool a,.bool b]:=em
  have vS:=JF ps ln cur
  have sA:=yu hT okf cur R C (by omega) (by omega)
  have dA:=YT okf cur R C (by omega) (by omega)
  have vi:=zkw okf cur (R:=R) (C:=C) (by omega) (by omega)
  have hL:=uH R C ps ln cur
  have hS:=x8 okf R C cur
  unfold zcW at sA
  unfold zmQ at dA
  rw[zcv]at dA
  generalize vwL R C ps ln cur=L at*
  generalize (vwS C ps ln cur).1-vwT R C ps ln cur=sr at*
  generalize (vwS C ps ln cur).2=sc at*
  have pA:=kj R C q L r c sr sc a b (by omega) (by omega) hq hL hS hr hc (by omega) (by omega)
  have by_:=kl (l:=q) (r0:=r) (c0:=c) (sc:=sc) (anew:=a) (bell:=b) (R:=R) (C:=C) (by omega) (by omega) hL (show 0≤sr∧sr<500 by omega)
  have hol:(zC R C q a).length=R*C:=by unfold zC;split<;>simp[hq]
  have bd:=zhr R C (zC R C q a) L (by omega) (by omega) hol hL hS
  generalize (chR C (zC R C q a) L R).length=n1 at by_ bd
  generalize jJ C (zC R C q a) L (chR C (zC R C q a) L R)=n2 at by_ bd
  generalize qS _=W at pA by_
  unfold WA zio Zj at pA
  unfold Zj at sA
  unfold jA z6 at dA
  unfold jA at bd
  rw[←hX]at dA
  have w1:IntKind.i64.wrap ((i:Int)+1)=((i+1:Nat):Int):=zG (by omega)
  simp (maxSteps:=1000000) [go_sem,hil,em]
  refine Zp (fun _:Unit=>True) (fun _=>[(10,.p (.sl 1 ((Qh R C (zC R C q a)).map qe)))]) (fun _=>[]) (zN (fun h=>?_) (fun h=>?_)) ?_
  ·subst h
   simp (maxSteps:=1000000) [go_sem]
   refine zq nd ?_
   simp (maxSteps:=1000000) [go_sem]
   exact zO () trivial (by simp[go_sem,zC,Q7])
  ·have h:a=false:=by simpa using h
   subst h
   simp (maxSteps:=1000000) [go_sem]
   exact zO () trivial (by simp[go_sem,zC])
  rintro _ ts _
  simp (maxSteps:=1000000) [go_sem,hil,em]
  refine qI 18 vS ?_ (ha':=by simp[go_sem,ZU])
  simp (maxSteps:=1000000) [go_sem]
  refine qI 17 sA ?_ (ha':=by simp[go_sem,ZU])
  simp (maxSteps:=1000000) [go_sem,hil,em]
  refine qI 16 pA ?_
  simp (maxSteps:=1000000) [go_sem,hil,em]
  refine zq dA ?_ (ha':=by simp[go_sem,ZU])
  simp (maxSteps:=1000000) [go_sem]
  refine zq bd ?_
  have hng:¬(32+16*(n1:Int)+4*(n2:Int)< (W.length:Int)):=by omega
  simp (maxSteps:=1000000) [go_sem,w1,hng]
  exact next (i+1,L,sr,sc) ⟨by show i+1≤_;omega,hL,by show 0≤sr∧sr<500;omega,by show 0≤sc∧sc≤1000;omega⟩ (h3:=by show l.length- (i+1)<l.length-i;omega)
 ·simp (maxSteps:=1000000) [go_sem,hil]
  refine zq aw ?_
  simp (maxSteps:=1000000) [go_sem]
  exact ret
end
section
open Go.ChangeShapes Go.WideShapes Go.ChangeAt Go.RowKit Go.AM
theorem WH(os:Os)(started:os.Started)(H:Type)(enc:TypeId×Value→H):
  ReturnsInHanded {} Tryz.checked os 4 .any (fun w args=>(Rows.paintLittleSpec.pre enc Tryz.prog Tryz.f4 [] false w args∧laidMetH Tryz.prog v8 w)∧sizedMet enc Tryz.prog Tryz.f4 (OpenSpec.ofChange Rows.paintLittleSpec) false w args)
   (Rows.paintLittleSpec.post enc Tryz.prog Tryz.f4 false true false false):=by
 refine returnsInHanded_of_change_and (C:=Tryz.checked) (X:=fun w _=>laidMetH Tryz.prog v8 w) (fun _ _ _ hh h=>h.of_heap hh) Tryz.own started (by kernel_rfl) Tryz.func4
  (ChangeSpec.witness_shaped (enc:=enc) (C:=Tryz.checked) (os:=os) (X:=fun w _=>laidMetH Tryz.prog v8 w) false (World.doorLaid Tryz.prog 2000 os) #[.int .i64 0,.int .i64 0,.slice none 0 0] 8 rfl (World.shaped_of_RefB (by kernel_rfl) (by kernel_rfl)) (by kernel_rfl) (by kernel_rfl) (by kernel_rfl) (Jc os _)) ?_
 intro W base args ds gs before hval hW _ _ hL _
 refine uo (C:=Tryz.checked) (Qs:=[fun x=>∃n,x=.int .i64 n∧ -9223372036854775808≤n∧n≤9223372036854775807,fun x=>∃n,x=.int .i64 n∧ -9223372036854775808≤n∧n≤9223372036854775807,fun x=>∃l:List Frm,(∀f∈l,f.ok)∧x=.sl 5 (l.map yD)]) (tb:=4) Tryz.laidOut rfl (by kernel_rfl) rfl (by kernel_rfl) ?_ ?_ ?_ W base args ds gs before hval hW (WJ hL)
 ·intro ds h
  match ds,h with
  | [_,_,_],_=>rfl
 ·exact⟨yi (by kernel_rfl) fun W=>va,yi (by kernel_rfl) fun W=>va,yi (by kernel_rfl) fun W=>VJ,trivial⟩
 ·intro xs q
  rcases xs with _|⟨x1,_|⟨x2,_|⟨x3,_|⟨x4,xs⟩⟩⟩⟩
  ·exact q.elim
  ·exact q.2.elim
  ·exact q.2.2.elim
  ·obtain⟨a0,rfl,h0⟩:=q.1
   obtain⟨a1,rfl,h1⟩:=q.2.1
   obtain⟨a2,h2,rfl⟩:=q.2.2.1
   exact JZ a0 a1 a2 h2 YP
  ·exact q.2.2.2.elim
theorem Wn:joinedFacts Tryz.pinned.checked.prog 4 Tryz.f4 Rows.paintLittleSpec Rows.paintLittleRow=true:=by
 simp only[joinedFacts,Bool.and_eq_true]
 repeat'(apply And.intro)
 all_goals as_aux_lemma=>kernel_rfl
theorem KM:Rows.PaintLittleSaid:=
 OpenClaim.holds_of_wide 4 Tryz.f4 rfl rfl rfl rfl rfl rfl rfl ⟨rfl,rfl,rfl,rfl,rfl⟩ rfl rfl rfl rfl rfl (by kernel_rfl) Tryz.func4 Wn
  (of_decide_eq_true (by kernel_rfl)) (by unfold Func.isWrapper;first|(rw[if_pos (by decide+kernel)];kernel_rfl)|(rw[if_neg (by decide+kernel)];exact⟨rfl,rfl⟩))
  (fun os started H enc _=>WH os started H enc)
end
end Go.Proofs.YtfjdbbpimklecaaGreatDoor
