/- A part of the proof of this seat's statements, by an abstract machine: what each operation does to values, and what the law's functions compute. Conditions: as each law says. -/
import Derived.Test.YthbmelihnabkaaaGreatW50
import Derived.Test.YthbmelihnabkaaaGreatW51
import Derived.Test.YthbmelihnabkaaaGreatW38
section
namespace Go.Proofs.YthbmelihnabkaaaGreat
open Go.AM
set_option maxHeartbeats 8000000
set_option maxRecDepth 10000
attribute [local irreducible] za
def znT(e:PV)(r:Rep):AV→List (Tok×List AV)→Prop:=fun y rs=>∃X,wK X (qn za r.l)∧Qf (St.ofR rs) (idm txT) (idm txT)=txR e X (qn za r.l)∧y=.tup [.p r.told,.p (.int .i64 r.s)]
theorem zil(l:List Int)(a b:Nat):sliced l (a:Nat) (b:Nat)=cut l (a:Nat) (b:Nat):=by
 unfold sliced cut
 rw[Int.toNat_natCast,Int.toNat_natCast,List.drop_take]
theorem YL {l:List Int} {L:List (List Int)}(h:Ln l L)(hn:l.length≤20000):∀{o:List (Nat×Nat)} {k:Nat},WO L k o→k≤L.length→(vJ l L k o).length≤9*(l.length-plc L k)∧∀x∈vJ l L k o,zu x
 | [],k,_,_=>by
  unfold vJ
  refine⟨?_,ZA h.r _⟩
  rw[List.length_drop];omega
 |w::o,k,ho,hk=>by
  obtain⟨w1,w2⟩:=w
  obtain⟨b1,b2,b3,b4⟩:=ho
  simp only at b1 b2 b3 b4
  have hcl:=h.cl
  have p1:=QU hcl b1 (by omega)
  have p2:=Zx hcl b2 b3
  have p3:=jW hcl b3
  rw[h.sum]at p3
  have ih:=YL h hn b4 b3
  have l1:=jV (l:=l) p1 (by omega)
  have l2:=jV (l:=l) (Nat.le_of_lt p2) p3
  have l3:=Yt (cut l (plc L w1:Nat) (plc L w2:Nat))
  have r3:=Un (l:=cut l (plc L w1:Nat) (plc L w2:Nat)) (by omega) (QG h.r _ _)
  unfold vJ
  refine⟨?_,q8 (QG h.r _ _) (q8 r3 ih.2)⟩
  have:=ih.1
  rw[List.length_append,List.length_append,l1]
  simp only
  omega
theorem zbB {l:List Int}(hn:l.length≤1000)(hr:∀x∈l,zu x):(kQ l).length≤81*l.length∧∀x∈kQ l,zu x:=by
 have hln:=lnC l hn hr
 have hs:=Qm l
 have hf:=YL hln (by omega) (Yx _ (qn za (qN za l)).length 0) (Nat.zero_le _)
 have h1:=Qm (vJ (qN za l) (qn za (qN za l)) 0 (wsM (qn za (qN za l)) (qn za (qN za l)).length 0))
 have h2:=hf.1
 unfold kQ
 refine⟨by omega,kd.rune _ (by omega) hf.2⟩
theorem UZ(k:Int) {l:List Int}(hn:l.length≤1000)(hr:∀x∈l,zu x):(vj k l).length≤81*l.length∧∀x∈vj k l,zu x:=by
 have h1:=zcg zA l
 have h2:=zcg zG l
 unfold vj
 split
 ·exact⟨by omega,zap va (by omega) hr⟩
 ·split
  ·exact⟨by omega,zap yQ (by omega) hr⟩
  ·exact zbB hn hr
theorem zje [Gi] {e:PV}(hT:qB e) {x:Tx} {l:List Int} {L:List (List Int)}(h:wK x L)(hl:Ln l L)(hn:l.length≤500) {k:Int}(hk:0≤k∧k≤2)(a:Int) {f t:Nat}(hf:f=plc L (kf L a))(ht:t=plc L (QQ L (kf L a))):
  CR Tryz.prog 35 jG [.p e,.p (.int .i64 k),.lp [0] 0,.p (.int .i64 a)] (txR e x L) (zoO e (jK l f t (vj k (cut l f t)))):=by
 refine CR.ren (R:=znT e (jK l f t (vj k (cut l f t)))) ?_ 1000000 ?_
 ·refine walk Tryz.func35 13 [] [] [] ?_
  have hcl:=hl.cl
  have hs:=hl.sum
  have kl:=vf L a
  have fl:=KX L kl
  have hge:kf L a≤QQ L (kf L a):=by
   by_cases d:kf L a<L.length
   ·exact Nat.le_of_lt (KL L d)
   ·have e1:kf L a=L.length:=by omega
    rw[e1,zcj];exact Nat.le_refl _
  have gf:=zaq e h a
  rw[←hf]at gf
  have gw:=zcV hT h (by rw[hl.flat];exact hl) (f:Nat) 1
  have hwk:zeu L (f:Nat) 1=QQ L (kf L a):=by
   unfold zeu
   rw[if_neg (by decide),if_neg (by decide),hf,Vc hcl kl]
  rw[hwk,←ht]at gw
  have gp:=zdT e h (f:Nat) (t:Nat)
  rw[hl.flat,zil]at gp
  have hft:f≤t:=by rw[hf,ht];exact QU hcl hge fl
  have htl:t≤l.length:=by rw[ht,←hs];exact jW hcl fl
  have lc:=jV (l:=l) hft htl
  have hc:=ziR hT hk (cut l (f:Nat) (t:Nat)) (by omega) (QG hl.r _ _)
  have hK:=UZ k (l:=cut l (f:Nat) (t:Nat)) (by omega) (QG hl.r _ _)
  generalize vj k (cut l (f:Nat) (t:Nat))=ks at hc hK⊢
  have hM:=zlF hT h hl (by omega) (f:Nat) (t:Nat) ks (by omega) hK.2
  generalize jK l (f:Nat) (t:Nat) ks=rp at hM⊢
  obtain⟨l',qa,qb,qc,kk,st⟩:=rp
  obtain⟨z0,y0,rfl⟩:=qA hT
  simp (maxSteps:=1000000) [go_sem,Tryz.f35]
  refine call (idm txT) gf ?_
  rintro _ _ ⟨rfl,rfl⟩
  simp (maxSteps:=1000000) [go_sem]
  refine call (idm txT) gw ?_
  rintro _ _ ⟨rfl,rfl⟩
  simp (maxSteps:=1000000) [go_sem]
  refine call (idm txT) gp ?_
  rintro _ _ ⟨rfl,rfl⟩
  simp (maxSteps:=1000000) [go_sem]
  refine zk hc ?_
  simp (maxSteps:=1000000) [go_sem]
  refine call (idm txT) hM ?_
  rintro _ _ ⟨Y,hY,rfl,rfl⟩
  simp (maxSteps:=1000000) [go_sem,Rep.told]
  exact zi txT (.tup [.p (.agg [qa,qb,qc,.int .i64 kk]),.p (.int .i64 st)]) (by simp[txT]) (by simp[go_sem,zd,leA,leT,leP]) ⟨Y,hY,by simp[go_sem],rfl⟩
 ·rintro y rs ⟨X,x1,x2,rfl⟩
  exact⟨idm txT,by decide,by decide,X,x1,x2,rfl⟩
end Go.Proofs.YthbmelihnabkaaaGreat
end
section
namespace Go.Proofs.YthbmelihnabkaaaGreat
open Go.AM
set_option maxHeartbeats 8000000
set_option maxRecDepth 10000
attribute [local irreducible] za
theorem zeW [Gi](l:List Int)(hn:l.length≤65536)(f t:Int)(ins:List Int):(CR Tryz.prog 15 [] [.p (jK l f t ins).b,.p (jK l f t ins).b] [] (is (.p (.bool true))))∧(CR Tryz.prog 15 [] [.p (jK l f t ins).c,.p (jK l f t ins).c] [] (is (.p (.bool true))))∧∃n,(jK l f t ins).a=.int .i64 n:=by
 unfold jK
 split
 ·split
  ·rename_i hs
   have c1:∀(a b:Int),(cut l a b).length<2^31:=fun a b=>by unfold cut;rw[List.length_take,List.length_drop];omega
   have c2:∀(a b:Int),(cut (zX l f.toNat t.toNat ins) a b).length<2^31:=fun a b=>by unfold cut;rw[List.length_take,List.length_drop];omega
   exact⟨xg _ (c1 _ _),xg _ (c2 _ _),_,rfl⟩
  ·exact⟨wN,wN,_,rfl⟩
 ·exact⟨wN,wN,_,rfl⟩
def zmk(e:PV)(x:Tx)(L:List (List Int))(v:AV):AV→List (Tok×List AV)→Prop:=fun y rs=>y=v∧Qf (St.ofR rs) (idm txT) (idm txT)=txR e x L
theorem zhV [Gi] {e:PV}(hT:qB e) {x:Tx} {l:List Int} {L:List (List Int)}(h:wK x L)(hl:Ln l L) {k:Int}(hk:k<0∨2<k)(a:Int):
  CR Tryz.prog 35 jG [.p e,.p (.int .i64 k),.lp [0] 0,.p (.int .i64 a)] (txR e x L) (Uo (txR e x L) (.tup [.p kb,.p (.int .i64 1)])):=by
 refine CR.ren (R:=zmk e x L (.tup [.p kb,.p (.int .i64 1)])) ?_ 1000000 ?_
 ·refine walk Tryz.func35 13 [] [] [] ?_
  have gf:=zaq e h a
  have gw:=zcV hT h (by rw[hl.flat];exact hl) (plc L (kf L a):Nat) 1
  have gp:=zdT e h (plc L (kf L a):Nat) (plc L (zeu L (plc L (kf L a):Nat) 1):Nat)
  have hc:=zjf hT hk (sliced L.flatten (plc L (kf L a):Nat) (plc L (zeu L (plc L (kf L a):Nat) 1):Nat))
  generalize sliced L.flatten (plc L (kf L a):Nat) (plc L (zeu L (plc L (kf L a):Nat) 1):Nat)=ks at gp hc
  obtain⟨z0,y0,rfl⟩:=qA hT
  simp (maxSteps:=1000000) [go_sem,Tryz.f35]
  refine call (idm txT) gf ?_
  rintro _ _ ⟨rfl,rfl⟩
  simp (maxSteps:=1000000) [go_sem]
  refine call (idm txT) gw ?_
  rintro _ _ ⟨rfl,rfl⟩
  simp (maxSteps:=1000000) [go_sem]
  refine call (idm txT) gp ?_
  rintro _ _ ⟨rfl,rfl⟩
  simp (maxSteps:=1000000) [go_sem]
  refine zk hc ?_
  simp (maxSteps:=1000000) [go_sem]
  exact zi txT (.tup [.p kb,.p (.int .i64 1)]) (by simp[txT]) (by simp[go_sem,zd,leA,leT,leP,kb]) ⟨rfl,by simp[go_sem]⟩
 ·rintro y rs ⟨rfl,x2⟩
  exact⟨idm txT,by decide,by decide,x2,rfl⟩
theorem Y7 [Gi](s:List Int)(k a:Int)(hs:∀x∈s,zu x):CR Tryz.prog 7 [] [.p (zh s),.p (.int .i64 k),.p (.int .i64 a)] [] (is (.p (.bool true))):=by
 refine walk Tryz.func7 19 [] [] [] ?_
 simp (maxSteps:=1000000) [go_sem,Tryz.f7]
 refine zk zfW ?_
 simp (maxSteps:=1000000) [go_sem]
 refine call [] Ys ?_
 rintro _ _ ⟨rfl,e,rfl,hT⟩
 have hfew:=zlQ s 60 (by decide)
 have hl:(s.take 60).length≤60:=by rw[List.length_take];omega
 have hr:∀x∈s.take 60,zu x:=fun x hx=>hs x (List.mem_of_mem_take hx)
 generalize s.take 60=l at hfew hl hr
 have hnf:=w9 za Zr l (by omega) hr
 have hnew:=zk7 hT l (by omega) hr
 have hln:=lnC l (by omega) hr
 have hsh:=Qm l
 generalize qN za l=t at hnf hnew hln hsh
 obtain⟨L,hL⟩:∃L,L=qn za t:=⟨_,rfl⟩
 rw[←hL]at hnew hln
 have hcl:=hln.cl
 have hsum:=hln.sum
 obtain⟨z0,e0,rfl⟩:=qA hT
 simp (maxSteps:=1000000) [go_sem]
 refine zk hfew ?_
 simp (maxSteps:=1000000) [go_sem]
 refine zk hnf ?_
 simp (maxSteps:=1000000) [go_sem]
 refine call [] hnew ?_
 rintro _ _ ⟨X,hX,_,rfl,rfl⟩
 simp (maxSteps:=1000000) [go_sem]
 by_cases hk:0≤k∧k≤2
 ·have hk1:¬k<0:=by omega
  have hk2:¬2<k:=by omega
  obtain⟨f,hf⟩:∃f,f=plc L (kf L a):=⟨_,rfl⟩
  obtain⟨u,hu⟩:∃u,u=plc L (QQ L (kf L a)):=⟨_,rfl⟩
  have kl:=vf L a
  have fl:=KX L kl
  have hge:kf L a≤QQ L (kf L a):=by
   by_cases d:kf L a<L.length
   ·exact Nat.le_of_lt (KL L d)
   ·have e1:kf L a=L.length:=by omega
    rw[e1,zcj];exact Nat.le_refl _
  have hfu:f≤u:=by rw[hf,hu];exact QU hcl hge fl
  have hul:u≤t.length:=by rw[hu,←hsum];exact jW hcl fl
  have hW:=zje hT hX hln (by omega) hk a hf hu
  have gfl:=zg0 hln a
  rw[←hf]at gfl
  have gfw:=zlM hln kl
  rw[←hf,←hu]at gfw
  have lc:=jV (l:=t) hfu hul
  have htx:=zhd hk (cut t (f:Nat) (u:Nat)) (by omega) (QG hln.r _ _)
  have hK:=UZ k (l:=cut t (f:Nat) (u:Nat)) (by omega) (QG hln.r _ _)
  generalize vj k (cut t (f:Nat) (u:Nat))=ks at hW htx hK
  have hD:=zll hln (by omega) (f:Nat) (u:Nat) ks (by omega) hK.2
  have hO:=znj hln (by omega) (f:Nat) (u:Nat) (ins:=ks) (by omega) hK.2
  have hS:=zeW t (by omega) (f:Nat) (u:Nat) ks
  generalize jK t (f:Nat) (u:Nat) ks=rp at hW hD hO hS
  obtain⟨l',qa,qb,qc,kk,st⟩:=rp
  obtain⟨hS1,hS2,n,hS3⟩:=hS
  simp only at hO hS1 hS2 hS3
  subst hS3
  have hO2:=hO.2
  refine call (xm 28) hW ?_
  rintro _ _ ⟨Y,hY,rfl,rfl⟩
  have gr:=zai (.pt z0 e0) hY
  rw[hO.1.flat]at gr
  simp (maxSteps:=1000000) [go_sem,Rep.told,hk1,hk2]
  refine zk gfl ?_
  simp (maxSteps:=1000000) [go_sem]
  refine zk gfw ?_
  simp (maxSteps:=1000000) [go_sem]
  refine⟨⟨hfu,hul⟩,zk htx ?_⟩
  simp (maxSteps:=1000000) [go_sem]
  refine zk hD ?_
  simp (maxSteps:=1000000) [go_sem,uS,Rep.edit]
  refine call (xm 28) gr ?_
  rintro _ _ ⟨rfl,rfl⟩
  simp (maxSteps:=1000000) [go_sem]
  refine zk (xg l' (by omega)) ?_
  simp (maxSteps:=1000000) [go_sem]
  refine zk hS1 ?_
  simp (maxSteps:=1000000) [go_sem]
  refine zk hS2 ?_
  simp (maxSteps:=1000000) [go_sem]
  refine zk XD ?_
  simp (maxSteps:=1000000) [go_sem]
  exact ret
 ·have hk':k<0∨2<k:=by omega
  have hW:=zhV hT hX hln hk' a
  have gr:=zai (.pt z0 e0) hX
  rw[hln.flat]at gr
  refine call (xm 28) hW ?_
  rintro _ _ ⟨rfl,rfl⟩
  have hbool:(decide (k<0) || decide (2<k))=true:=by
   rcases hk' with h|h
   ·rw[decide_eq_true h];rfl
   ·rw[decide_eq_true h,Bool.or_true]
  simp (maxSteps:=1000000) [go_sem,kb,hbool]
  refine call (xm 28) gr ?_
  rintro _ _ ⟨rfl,rfl⟩
  simp (maxSteps:=1000000) [go_sem]
  refine zk (xg t (by omega)) ?_
  simp (maxSteps:=1000000) [go_sem]
  refine zk XD ?_
  simp (maxSteps:=1000000) [go_sem]
  exact ret
end Go.Proofs.YthbmelihnabkaaaGreat
end
