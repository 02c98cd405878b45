/- A part of this seat's proofs, by an abstract machine. Conditions: each law's. -/
import Derived.Test.YtfjdbbpimklecaaGreatDoorT46
import Derived.Test.YtfjdbbpimklecaaGreatDoorT43
import Derived.Test.YtfjdbbpimklecaaGreatDoorT44
import Derived.Test.YtfjdbbpimklecaaGreatDoorT45
import Derived.Test.YtfjdbbpimklecaaGreatDoorT18
set_option maxHeartbeats 4000000
set_option maxRecDepth 10000
namespace Go.Proofs.YtfjdbbpimklecaaGreatDoor
section
open Go.AM
attribute [local irreducible] za
theorem zk7(s:Nat)(S:List Nat)(a:Int):cnt (s::S) a=cnt S a+(if(s:Int)<a then 1 else 0):=by
 unfold cnt
 rw[List.countP_cons]
 simp
theorem zkf:∀{S:List Nat} {a:Int},S.Pairwise (· < ·)→∀{i:Nat} (h:i<S.length),((S[i]:Int)<a↔i<cnt S a)
 | [],a,_,i,h=>by simp at h
 |s::S,a,hp,i,h=>by
  have hp1:=(List.pairwise_cons.1 hp).1
  have hp2:=(List.pairwise_cons.1 hp).2
  rw[zk7]
  by_cases hs:(s:Int)<a
  ·rw[if_pos hs]
   cases i with
   |zero=>simp[hs]
   |succ i=>
    have:=zkf (a:=a) hp2 (i:=i) (by simpa using h)
    rw[List.getElem_cons_succ,this];omega
  ·rw[if_neg hs]
   have hz:cnt S a=0:=by
    unfold cnt
    rw[List.countP_eq_zero]
    intro x hx
    have:=hp1 x hx
    simp;omega
   rw[hz]
   cases i with
   |zero=>simp;omega
   |succ i=>
    have:=hp1 _ (List.getElem_mem (show i<S.length by simpa using h))
    rw[List.getElem_cons_succ];omega
def vwX(R C:Nat)(ps:List (List Int))(ln:List Int)(cur:Int):List zt:=(List.range R).map fun r=>wg C R (vwT R C ps ln cur) (vwG ps ln) r (vwG ps ln).length
theorem zcv(R C:Nat)(ps:List (List Int))(ln:List Int)(cur:Int):vwX R C ps ln cur=Qh R C (vwL R C ps ln cur):=by
 unfold vwX Qh vwL
 refine List.map_congr_left fun r hr=>?_
 rw[zks _ _ _ _ _ r (List.mem_range.1 hr)]
def zmQ(R C:Nat)(ps:List (List Int))(ln:List Int)(cur:Int):PV:=.agg [jA (vwX R C ps ln cur),.int .i64 ((vwS C ps ln cur).1-vwT R C ps ln cur),.int .i64 (vwS C ps ln cur).2]
theorem YT [Gi] {ps:List (List Int)} {ln:List Int}(h:W7 ps ln)(cur:Int)(R C:Nat)(hR:1≤R∧R≤500)(hC:2≤C∧C≤1000):
  CR Tryz.prog 20 [] [.p (z6 za),.p (ZU ps ln cur),.p (.int .i64 R),.p (.int .i64 C)] [] (is (.p (zmQ R C ps ln cur))):=by
 refine walk Tryz.func20 21 [] [21] [] ?_
 have hl:=h.l
 have hL:=Ln.mk' ln (by omega) h.r
 have hv:=ziG ln cur
 have hN:=h.n
 have hG:=zjq h
 have a1:¬((R:Int)<1):=by omega
 have a2:¬((500:Int)<R):=by omega
 have a3:¬((C:Int)<2):=by omega
 have a4:¬((1000:Int)<C):=by omega
 unfold ZU
 simp (maxSteps:=1000000) [go_sem,Tryz.f20,a1,a2,a3,a4]
 refine loop (fun i:Nat=>i≤ps.length) (fun i=>[(9,.os [9] 2 ((Zv (ps.take i)).map clP)),(10,.p (.int .i64 i))]) (fun _=>[]) (fun i=>ps.length-i) 0 (Nat.zero_le _) (fun i hi=>?_) (h0:=by simp[go_sem,LeS,leV,leR,leA,leL,Zv])
 by_cases hil:i<ps.length
 ·have hp:=h.p _ (List.getElem_mem hil)
  have hP:=Ln.mk' ps[i] (by omega) hp.2
  have lc:=zcB hP (by omega)
  rw[wu hP]at lc
  have em:=xL hil
  have st:=YQ hil
  have le:=uz hp.1 hp.2
  have le2:=ui (ps:=ps.take i) fun x hx=>h.p x (List.mem_of_mem_take hx)
  have le3:((Zv (ps.take i)).map clP).length≤10000:=by rw[List.length_map];rw[List.length_take]at le2;omega
  have w1:IntKind.i64.wrap ((i:Int)+1)=((i+1:Nat):Int):=zG (by omega)
  generalize ps[i]=y at hp hP lc em st le
  generalize WW y=gy at lc st le
  generalize (Zv (ps.take i)).map clP=A at st le3⊢
  generalize ke (zM za y) ((zM za y).length+1)=at_ at lc
  simp (maxSteps:=1000000) [go_sem,hil,em]
  refine zq lc ?_
  simp (maxSteps:=1000000) [go_sem,w1,st]
  refine⟨by omega,?_⟩
  exact next (i+1) hil (h3:=by show ps.length- (i+1)<ps.length-i;omega) (h2:=by simp[go_sem,LeS,leV,leR,leA,leL])
 ·obtain rfl:i=ps.length:=by omega
  rw[List.take_length]
  have lc:=zcB hL (by omega)
  rw[wu hL]at lc
  have g1:=zeJ hL
  have lh:=ui h.p
  have le:=uz hl h.r
  have e2:(Zv ps).map clP++(WW ln).map clP=(vwG ps ln).map clP:=by rw[vwG,List.map_append]
  have hinc:=zla hL.cl
  have hat:atG (zM za ln) (zM za ln).length=(WW ln).length:=by rw[zgs,wu hL]
  have hvn:vwN ln cur=cnt (pl (zM za ln)) cur:=rfl
  have e3:vwK ps ln cur=(Zv ps).length+atG (zM za ln) (vwN ln cur):=rfl
  have lk:∀k,atG (zM za ln) k≤100000:=fun k=>by
   have:=ug hL k
   omega
  have hCl:(zM za ln).length≤100000:=by
   have:=hL.cl.len
   rw[hL.sum]at this
   omega
  simp (maxSteps:=1000000) [go_sem]
  refine zq lc ?_
  simp (maxSteps:=1000000) [go_sem,e2]
  refine⟨by first|omega|(simp;omega),zq g1 ?_⟩
  have nl:(Z9 (pl (zM za ln))).length=(zM za ln).length:=by simp[Z9,pl]
  have nl2:(Z9 (ke (zM za ln) ((zM za ln).length+1))).length=(zM za ln).length+1:=by simp[Z9,ke]
  have wz:IntKind.i64.wrap (((zM za ln).length:Int)-1)=((zM za ln).length:Int)-1:=wrap64 (by omega) (by omega)
  have hvl:(vwG ps ln).length=(Zv ps).length+atG (zM za ln) (zM za ln).length:=by rw[hat,vwG,List.length_append]
  simp (maxSteps:=1000000) [go_sem,nl,wz]
  refine loop (fun j:Nat=>j≤(zM za ln).length) (fun j=>[(17,.p (.int .i64 ((Zv ps).length+atG (zM za ln) (max (vwN ln cur) ((zM za ln).length-j)):Nat))),(18,.p (.int .i64 (((zM za ln).length:Int)-1-j)))]) (fun _=>[]) (fun j=>(zM za ln).length-j) 0 (Nat.zero_le _) (fun j hj=>?_) (h0:=by simp[go_sem,LeS,leV,leR,leA,leL,Nat.max_eq_right hv,hvl])
  by_cases hjl:j< (zM za ln).length
  ·obtain⟨i,hi2⟩:∃i,i=(zM za ln).length-1-j:=⟨_,rfl⟩
   have hil2:i< (zM za ln).length:=by omega
   have ei:((zM za ln).length:Int)-1-j=(i:Int):=by omega
   have emS:=zp6 hil2
   have emA:=zf1 (L:=zM za ln) (n:=(zM za ln).length+1) (k:=i) (by omega)
   have hlt:=zkf (a:=cur) hinc (i:=i) (by rw[Q4];exact hil2)
   rw[j8,←hvn]at hlt
   have w1:IntKind.i64.wrap ((i:Int)-1)=((zM za ln).length:Int)-1- ((j+1:Nat):Int):=by rw[wrap64 (by omega) (by omega)];omega
   have hi3:(zM za ln).length-j=i+1:=by omega
   have hi4:(zM za ln).length- (j+1)=i:=by omega
   have hi5:(i:Int)< (zM za ln).length+1:=by omega
   have hi6:(i:Int)< (zM za ln).length:=by omega
   rw[ei,hi3]
   by_cases k:cur≤(plc (zM za ln) i:Int)
   ·have m1:max (vwN ln cur) i=i:=by omega
    have w2:IntKind.i64.wrap (((Zv ps).length:Int)+(atG (zM za ln) i:Nat))=(((Zv ps).length+atG (zM za ln) i:Nat):Int):=by
     have:=lk i
     rw[←Int.natCast_add];exact wrap64 (by omega) (by omega)
    simp (maxSteps:=1000000) [go_sem,nl,nl2,emS,emA,k,w1,w2,hi5,hi6]
    exact next (j+1) hjl (h3:=by show(zM za ln).length- (j+1)< (zM za ln).length-j;omega) (h2:=by simp[go_sem,LeS,leV,leR,leA,leL,hi4,m1])
   ·have m1:max (vwN ln cur) i=vwN ln cur:=by omega
    have m2:max (vwN ln cur) (i+1)=vwN ln cur:=by omega
    simp (maxSteps:=1000000) [go_sem,nl,emS,k,w1,hi6]
    exact next (j+1) hjl (h3:=by show(zM za ln).length- (j+1)< (zM za ln).length-j;omega) (h2:=by simp[go_sem,LeS,leV,leR,leA,leL,hi4,m1,m2])
  ·obtain rfl:j=(zM za ln).length:=by omega
   have ej:((zM za ln).length:Int)-1- (zM za ln).length= -1:=by omega
   rw[ej,Nat.sub_self,show max (vwN ln cur) 0=vwN ln cur by omega,←e3]
   have hO:=zfh ps ln
   have hk:=zfu h cur
   have e1:=K6 (C:=C) (l:=vwG ps ln) (i:=(vwG ps ln).length) (by omega)
   have e2:=K6 (C:=C) (l:=vwG ps ln) (i:=vwK ps ln cur) (by omega)
   have b1:=wD (C:=C) (by omega) hO (vwG ps ln).length
   have b2:=wD (C:=C) (by omega) hO (vwK ps ln cur)
   have hs:((Qx C (vwG ps ln)).map QC).length=(vwG ps ln).length+1:=by simp[Qx]
   have tp:=zmp ((qu C (vwG ps ln) (vwG ps ln).length).1+1) R (qu C (vwG ps ln) (vwK ps ln cur)).1 (by omega) (by omega) (by omega)
   have tb:0≤xx ((qu C (vwG ps ln) (vwG ps ln).length).1+1) R (qu C (vwG ps ln) (vwK ps ln cur)).1∧xx ((qu C (vwG ps ln) (vwG ps ln).length).1+1) R (qu C (vwG ps ln) (vwK ps ln cur)).1≤1000000:=by
    unfold xx;omega
   have ly:=zmw (vwG ps ln) R C _ hR hC (by omega) hO tb
   have pl:=zae (vwG ps ln) C (by omega) hC hO
   unfold zmQ vwX vwT vwS
   have w1:IntKind.i64.wrap ((qu C (vwG ps ln) (vwG ps ln).length).1+1)=(qu C (vwG ps ln) (vwG ps ln).length).1+1:=wrap64 (by omega) (by omega)
   generalize xx ((qu C (vwG ps ln) (vwG ps ln).length).1+1) R (qu C (vwG ps ln) (vwK ps ln cur)).1=T at tp tb ly⊢
   have w2:IntKind.i64.wrap ((qu C (vwG ps ln) (vwK ps ln cur)).1-T)=(qu C (vwG ps ln) (vwK ps ln cur)).1-T:=wrap64 (by omega) (by omega)
   unfold jA at ly⊢
   generalize ((List.range R).map fun r=>wg C R T (vwG ps ln) r (vwG ps ln).length).map qe=RD at ly⊢
   have hk2:(vwK ps ln cur:Int)< ((vwG ps ln).length:Int)+1:=by omega
   unfold jQ at pl
   generalize vwK ps ln cur=kk at*
   generalize vwG ps ln=G at*
   generalize (Qx C G).map QC=SP at*
   simp (maxSteps:=1000000) [go_sem]
   refine zq pl ?_
   simp (maxSteps:=1000000) [go_sem,hs,e1,e2,w1,hk2]
   refine⟨by omega,zq tp ?_⟩
   simp (maxSteps:=1000000) [go_sem]
   refine qI 78 ly ?_
   simp (maxSteps:=1000000) [go_sem,hs,e2,w2,hk2]
   exact ret (hx:=by simp[go_sem,zf,leA,leT])
def bdV:Nat→Int
 |0=>300
 |1=>300
 |2=>20000
 |3=>1300000
 |_=>84000000
theorem zgQ {s:List UInt8} {i:Nat}(h:i<s.length):(nb s).drop i=(nb s).getD i 0::(nb s).drop (i+1):=by
 rw[List.drop_eq_getElem_cons (by rw[xw];exact h),List.getD_eq_getElem?_getD,List.getElem?_eq_getElem (by rw[xw];exact h)]
 rfl
theorem zjD [Gi](s:List UInt8)(h1:1≤s.length)(h4:s.length≤4):CR Tryz.prog 131 [] [.p (.str s)] [] (is (.p (.int .i32 (k8 (nb s))))):=by
 refine walk Tryz.func131 6 [] [] [] ?_
 have h0:0<s.length:=by omega
 have e0:=vF s 0
 have g0:=getD_lt s 0
 have es:=zgQ h0
 rw[List.drop_zero]at es
 have hl:((nb s).drop 1).length=s.length-1:=by rw[List.length_drop,xw]
 have k0:IntKind.i64.wrap (((nb s).getD 0 0:Nat):Int)=(((nb s).getD 0 0:Nat):Int):=wrap64 (by omega) (by omega)
 generalize hcd:(nb s).getD 0 0=c at*
 by_cases c1:s.length=1
 ·have ev:k8 (nb s)=(c:Int):=by
   rw[es,List.length_eq_zero_iff.1 (show((nb s).drop 1).length=0 by omega)];rfl
  rw[ev]
  have k1:IntKind.i32.wrap (c:Int)=(c:Int):=wrap32 (by omega) (by omega)
  simp (maxSteps:=1000000) [go_sem,Tryz.f131,e0,c1,k0,k1]
  exact ret
 ·obtain⟨v0,hv0⟩:∃v0:Int,v0=(c:Int)- (if s.length=4 then 240 else if s.length=3 then 224 else 192):=⟨_,rfl⟩
  have ev:k8 (nb s)=JW v0 ((nb s).drop 1):=by
   have hlen:s.length=2∨s.length=3∨s.length=4:=by omega
   obtain⟨y,l,ey⟩:∃y l,(nb s).drop 1=y::l:=by
    cases hd:(nb s).drop 1 with
    |nil=>rw[hd]at hl;simp at hl;omega
    |cons y l=>exact⟨y,l,rfl⟩
   rw[es,Nat.zero_add,ey,hv0]
   rw[ey]at hl
   show JW ((c:Int)- (if(y::l).length=3 then 240 else if(y::l).length=2 then 224 else 192)) (y::l)=_
   rw[hl]
   rcases hlen with e|e|e<;>rw[e]<;>rfl
  obtain⟨V,hV⟩:∃V,V=k8 (nb s):=⟨_,rfl⟩
  rw[←hV]
  rw[←hV]at ev
  have hz: -300≤v0∧v0≤300:=by rw[hv0];split<;>(try split)<;>omega
  have k1:IntKind.i64.wrap ((c:Int)-192)=(c:Int)-192:=wrap64 (by omega) (by omega)
  have k2:IntKind.i64.wrap ((c:Int)-224)=(c:Int)-224:=wrap64 (by omega) (by omega)
  have k3:IntKind.i64.wrap ((c:Int)-240)=(c:Int)-240:=wrap64 (by omega) (by omega)
  have hlen:s.length=2∨s.length=3∨s.length=4:=by omega
  rcases hlen with e|e|e<;>(simp only[e]at hv0;simp (maxSteps:=1000000) [go_sem,Tryz.f131,e0,k0,k1,k2,k3,e])
  all_goals
   simp at hv0
   refine loop (fun p:Nat×Int=>(1≤p.1∧p.1≤s.length)∧V=JW p.2 ((nb s).drop p.1)∧ -bdV p.1≤p.2∧p.2≤bdV p.1) (fun p=>[(4,.p (.int .i64 p.2)),(5,.p (.int .i64 p.1))]) (fun _=>[]) (fun p=>s.length-p.1) (1,v0) ⟨⟨by omega,by omega⟩,ev,hz.1,hz.2⟩ (fun p hp=>?_) (h0:=by simp[go_sem,LeS,leV,leR,leA,hv0])
   obtain⟨i,v⟩:=p
   obtain⟨⟨p1,p2⟩,p3,p4,p5⟩:=hp
   simp only at p1 p2 p3 p4 p5
   by_cases hi:i<s.length
   ·have ei:=vF s i
    have gi:=getD_lt s i
    rw[zgQ hi]at p3
    unfold JW at p3
    generalize (nb s).getD i 0=b at ei gi p3
    have hb:bdV i*64+128≤bdV (i+1)∧bdV (i+1)≤84000000:=by
     have:i=1∨i=2∨i=3:=by omega
     rcases this with rfl|rfl|rfl<;>decide
    generalize bdV i=B at p4 p5 hb
    have w0:IntKind.i64.wrap (b:Int)=b:=wrap64 (by omega) (by omega)
    have w1:IntKind.i64.wrap (64*v)=64*v:=wrap64 (by omega) (by omega)
    have w2:IntKind.i64.wrap (64*v+b)=64*v+b:=wrap64 (by omega) (by omega)
    have w3:IntKind.i64.wrap (64*v+b-128)=64*v+b-128:=wrap64 (by omega) (by omega)
    have w4:IntKind.i64.wrap ((i:Int)+1)=((i+1:Nat):Int):=zG (by omega)
    simp (maxSteps:=1000000) [go_sem,hi,ei,w0,w1,w2,w3,w4]
    exact next (i+1,64*v+b-128) ⟨⟨by omega,by omega⟩,p3,by simp only;omega,by simp only;omega⟩ (h3:=by show s.length- (i+1)<s.length-i;omega) (h2:=by simp[go_sem,LeS,leV,leR,leA])
   ·obtain rfl:i=s.length:=by omega
    rw[List.drop_eq_nil_of_le (by rw[xw];omega)]at p3
    unfold JW at p3
    have hb:bdV s.length≤84000000:=by rw[e];decide
    have w0:IntKind.i32.wrap v=v:=wrap32 (by omega) (by omega)
    subst p3
    simp (maxSteps:=1000000) [go_sem,w0]
    exact ret
theorem Y2(f c:Nat)(s:List Nat):xX (f+1) (c::s)=(if Qo (c::s)=true then k8 ((c::s).take (kW (c::s)))else y7)::xX f ((c::s).drop (max (kW (c::s)) 1)):=rfl
theorem zfl:∀(f:Nat) (s:List Nat),s.length≤f→xX f s=xX s.length s:=fun f s h=>by rw[ku f s h,ku s.length s (Nat.le_refl _)]
theorem zgI(s:List UInt8)(i:Nat):nb (s.drop i)=(nb s).drop i:=by unfold nb;rw[List.map_drop]
theorem zl6(s:List UInt8)(i:Nat):nb (s.take i)=(nb s).take i:=by unfold nb;rw[List.map_take]
theorem zf9(s:List Nat):kW s≤4∧kW s≤s.length:=⟨by have:=zd8 4 s 0;unfold kW;omega,Xy 4 s 0 (Nat.zero_le _)⟩
theorem zkd {α:Type}(s:List α)(i:Nat):cut s (i:Int) (s.length:Int)=s.drop i:=by
 unfold cut
 simp only[Int.toNat_natCast]
 exact List.take_of_length_le (by rw[List.length_drop];omega)
theorem zl5 {α:Type}(s:List α)(i n:Nat):cut s (i:Int) ((i:Int)+n)=(s.drop i).take n:=by
 unfold cut
 rw[show((i:Int)+n).toNat=i+n by omega,Int.toNat_natCast]
 congr 1;omega
theorem zly [Gi](s:List UInt8)(hs:s.length≤100000):CR Tryz.prog 81 [] [.p (.str s)] [] (is (.p (zE (QG dz (nb s))))):=by
 rw[←zj6]
 refine walk Tryz.func81 7 [] [] [] ?_
 simp (maxSteps:=1000000) [go_sem,Tryz.f81]
 obtain⟨V,hV⟩:∃V,V=zfP (nb s):=⟨_,rfl⟩
 rw[←hV]
 refine loop (fun p:Nat×List Int=>p.1≤s.length∧p.2.length≤p.1∧V=p.2++zfP ((nb s).drop p.1)) (fun p=>[(3,.os [3] 1 (zP p.2)),(4,.p (.int .i64 p.1))]) (fun _=>[]) (fun p=>s.length-p.1) (0,[]) ⟨Nat.zero_le _,Nat.le_refl _,by simpa using hV⟩ (fun p hp=>?_) (h0:=by simp[go_sem,LeS,leV,leR,leA,zP])
 obtain⟨i,o⟩:=p
 obtain⟨p1,p2,p3⟩:=hp
 simp only at p1 p2 p3
 by_cases hi:i<s.length
 ·have hd:(s.drop i).length=s.length-i:=List.length_drop
  have rc:=zoQ (s.drop i) (by omega) (by omega)
  have rb:=zf9 (nb (s.drop i))
  rw[xw,hd]at rb
  have hst:zfP (nb (s.drop i))=(if Qo (nb (s.drop i))=true then k8 ((nb (s.drop i)).take (kW (nb (s.drop i))))else y7)::zfP ((nb (s.drop i)).drop (max (kW (nb (s.drop i))) 1)):=by
   have e1:(nb (s.drop i)).length=(s.length-i-1)+1:=by rw[xw,hd];omega
   unfold zfP
   rw[e1]
   obtain⟨c,t,ect⟩:∃c t,nb (s.drop i)=c::t:=by
    cases hq:nb (s.drop i)with
    |nil=>rw[hq]at e1;simp at e1
    |cons c t=>exact⟨c,t,rfl⟩
   rw[ect,Y2]
   rw[ect]at e1
   rw[zfl _ _ (by rw[List.length_drop,e1];omega)]
  have hdr:∀k,(nb (s.drop i)).drop k=(nb s).drop (i+k):=fun k=>by rw[zgI,List.drop_drop]
  rw[hdr]at hst
  rw[←zgI,hst]at p3
  have vc:Qo (nb (s.drop i))=true→CR Tryz.prog 131 [] [.p (.str ((s.drop i).take (kW (nb (s.drop i)))))] [] (is (.p (.int .i32 (k8 (nb ((s.drop i).take (kW (nb (s.drop i))))))))):=fun hw=>by
   have hw':0<kW (nb (s.drop i)):=by unfold Qo at hw;simp at hw;exact hw.1
   have hl:((s.drop i).take (kW (nb (s.drop i)))).length=kW (nb (s.drop i)):=by rw[List.length_take,hd];omega
   exact zjD _ (by omega) (by omega)
  rw[zl6]at vc
  have hw0:Qo (nb (s.drop i))=true→0<kW (nb (s.drop i)):=fun hw=>by unfold Qo at hw;simp at hw;exact hw.1
  generalize kW (nb (s.drop i))=N at rc rb p3 vc hw0
  generalize Qo (nb (s.drop i))=Wh at rc p3 vc hw0
  generalize k8 ((nb (s.drop i)).take N)=X at p3 vc
  have ol:(zP o).length=o.length:=by simp[zP]
  have w1:IntKind.i64.wrap ((i:Int)+N)=((i+N:Nat):Int):=by rw[←Int.natCast_add];exact wrap64 (by omega) (by omega)
  have w2:IntKind.i64.wrap ((i:Int)+1)=((i+1:Nat):Int):=zG (by omega)
  have ei:∀x,zP o++[.int .i32 x]=zP (o++[x]):=fun x=>by simp[zP]
  have hi2:(i:Int)≤s.length:=by omega
  simp (maxSteps:=1000000) [go_sem,hi,hi2]
  refine zq rc ?_ (ha':=by simp[go_sem,zkd])
  cases Wh with
  |true=>
   have hN:=hw0 rfl
   have vc:=vc rfl
   have m1:max N 1=N:=by omega
   rw[m1]at p3
   have hN0:¬N=0:=by omega
   simp (maxSteps:=1000000) [go_sem,w1]
   refine⟨by omega,zq vc ?_ (ha':=by simp[go_sem,zl5])⟩
   simp (maxSteps:=1000000) [go_sem,w1,ei,ol,hN0]
   refine⟨by omega,?_⟩
   exact next (i+N,o++[X]) ⟨by simp only;omega,by simp only[List.length_append,List.length_singleton];omega,by simp only;rw[p3];simp⟩ (h3:=by show s.length- (i+N)<s.length-i;omega) (h2:=by simp[go_sem,LeS,leV,leR,leA])
  |false=>
   simp (maxSteps:=1000000) [go_sem,ei,ol]
   refine⟨by omega,?_⟩
   by_cases hN0:N=0
   ·subst hN0
    simp (maxSteps:=1000000) [go_sem,w2]
    exact next (i+1,o++[y7]) ⟨by simp only;omega,by simp only[List.length_append,List.length_singleton];omega,by simp only;rw[p3];simp⟩ (h3:=by show s.length- (i+1)<s.length-i;omega) (h2:=by simp[go_sem,LeS,leV,leR,leA,y7])
   ·have m1:max N 1=N:=by omega
    rw[m1]at p3
    simp (maxSteps:=1000000) [go_sem,w1,hN0]
    exact next (i+N,o++[y7]) ⟨by simp only;omega,by simp only[List.length_append,List.length_singleton];omega,by simp only;rw[p3];simp⟩ (h3:=by show s.length- (i+N)<s.length-i;omega) (h2:=by simp[go_sem,LeS,leV,leR,leA,y7])
 ·obtain rfl:i=s.length:=by omega
  rw[List.drop_eq_nil_of_le (by rw[xw];omega)]at p3
  have:V=o:=by rw[p3];simp[zfP,xX]
  subst this
  simp (maxSteps:=1000000) [go_sem]
  exact ret (hx:=by simp[go_sem,zf,leA,leT])
def wk(ps:List (List Int)):List (List Int):=(ps.take 4).map fun l=>l.take 20
theorem zfX {ps:List (List Int)} {ln:List Int}(h:∀l∈ps,∀r∈l,qg r)(hl:∀r∈ln,qg r):W7 (wk ps) (ln.take 100):=by
 refine⟨by simp[wk];omega,fun x hx=>?_,by simp;omega,fun r hr=>hl r (List.mem_of_mem_take hr)⟩
 obtain⟨y,hy,rfl⟩:=List.mem_map.1 hx
 exact⟨by rw[List.length_take];omega,fun r hr=>h y (List.mem_of_mem_take hy) r (List.mem_of_mem_take hr)⟩
theorem CR.zqV [Gi] {P:Program} {f:FuncId} {pin:List Tok} {args:List AV} {rs:List (Tok×List AV)} {t:Tok} {es:List PV} {b:PV} {c:Int}(h:CR P f pin args rs (is (.ag [.os t 1 es,.p b,.p (.int .i64 c)]))):CR P f pin args rs (is (.p (.agg [.sl 1 es,b,.int .i64 c]))):=by
 intro w g vs h1 h2
 refine(h w g vs h1 h2).mono ?_
 rintro e w' ⟨v,x,rs',g',rfl,⟨rfl,rfl⟩,hx,hG,hA⟩
 refine⟨v,_,_,g',rfl,⟨rfl,rfl⟩,?_,hG,hA⟩
 rw[vX]
 simp only[zb,zo]at hx
 obtain⟨vs,rfl,h1,u1,l1,e1,r1,u2,l2,rfl,r2,u3,l3,rfl,r3,rfl⟩:=hx
 simp only[zl,zw]
 refine⟨vs,rfl,u1,_,e1,h1 u1 (by rw[e1];simp),by simpa only[zl]using r1.1,u2,_,rfl,h1 u2 (by rw[e1];simp),by simpa only[zb]using r2,u3,_,rfl,h1 u3 (by rw[e1];simp),by simpa only[zb,zl]using r3,rfl⟩
theorem JF [Gi](ps:List (List Int))(ln:List Int)(cur:Int):CR Tryz.prog 18 [] [.p (ZU ps ln cur)] [] (is (.p (ZU ps ln cur))):=by
 refine walk Tryz.func18 3 [] [] [] ?_
 unfold ZU
 simp (maxSteps:=1000000) [go_sem,Tryz.f18]
 exact ret
theorem zej [Gi](ps:List (List Int))(ln:List Int)(cur:Int):CR Tryz.prog 24 [] [.p (ZU ps ln cur)] [] (is (.p (ZU (wk ps) (ln.take 100) cur))):=by
 refine CR.zqV (t:=[3,0]) ?_
 refine walk Tryz.func24 5 [] [1,5] [] ?_
 unfold ZU
 have f1:CR Tryz.prog 83 [] [.p (zE ln),.p (.int .i64 (100:Nat))] [] (is (.p (zE (ln.take 100)))):=zkm ln 100 (by omega)
 unfold zE at f1⊢
 simp (maxSteps:=1000000) [go_sem,Tryz.f24]
 refine qI 83 f1 ?_
 simp (maxSteps:=1000000) [go_sem]
 refine loop (fun i:Nat=>i≤min ps.length 4) (fun i=>[(4,.p (.int .i64 i))]) (fun i=>[([3],[.os [3,0] 1 (q9 (wk (ps.take i))),.p (zE (ln.take 100)),.p (.int .i64 cur)])]) (fun i=>4-i) 0 (Nat.zero_le _) (fun i hi=>?_) (h0:=by simp[go_sem,LeS,leV,leR,leA,leL,wk,q9])
 by_cases hil:i<ps.length
 ·by_cases hi4:i<4
  ·have hi5:(i:Int)<4:=by omega
   have em:=xL hil
   have f2:CR Tryz.prog 83 [] [.p (zE ps[i]),.p (.int .i64 (20:Nat))] [] (is (.p (zE (ps[i].take 20)))):=zkm ps[i] 20 (by omega)
   have st:q9 (wk (ps.take i))++[zE (ps[i].take 20)]=q9 (wk (ps.take (i+1))):=by
    unfold q9 wk
    have e:ps.take (i+1)=ps.take i++[ps[i]]:=by rw[List.take_add_one,List.getElem?_eq_getElem hil];rfl
    rw[List.take_take,List.take_take,show min 4 i=i by omega,show min 4 (i+1)=i+1 by omega,e,List.map_append,List.map_append];rfl
   have w1:IntKind.i64.wrap ((i:Int)+1)=((i+1:Nat):Int):=zG (by omega)
   have ll:(q9 (wk (ps.take i))).length≤4:=by simp[q9,wk];omega
   unfold zE at st
   generalize ps[i]=y at em f2 st
   generalize q9 (wk (ps.take i))=A at st ll⊢
   simp (maxSteps:=1000000) [go_sem,hil,hi5,em]
   refine qI 83 f2 ?_
   simp (maxSteps:=1000000) [go_sem,st,w1]
   refine⟨by omega,?_⟩
   exact next (i+1) (by omega) (h3:=by show 4- (i+1)<4-i;omega) (h2:=by simp[go_sem,LeS,leV,leR,leA,leL])
  ·have e4:wk (ps.take i)=wk ps:=by unfold wk;rw[List.take_take,show min 4 i=4 by omega]
   rw[e4]
   have hi5:¬(i:Int)<4:=by omega
   simp (maxSteps:=1000000) [go_sem,hil,hi5]
   exact ret
 ·have e4:wk (ps.take i)=wk ps:=by rw[List.take_of_length_le (by omega)]
  rw[e4]
  simp (maxSteps:=1000000) [go_sem,hil]
  exact ret
theorem zcF {a b:zt}:∀{n:Nat},dF a b n<0↔∀i,i<n→a.getD i blk=b.getD i blk
 |0=>by simp[dF]
 |n+1=>by
  have ih:=zcF (a:=a) (b:=b) (n:=n)
  rw[dF]
  constructor
  ·intro h i hi
   split at h
   ·omega
   ·rename_i hc
    have h2:=ih.1 h
    by_cases e:i=n
    ·subst e
     by_cases q:a.getD i blk=b.getD i blk
     ·exact q
     ·exact absurd ⟨h,q⟩ hc
    ·exact h2 i (by omega)
  ·intro h
   rw[if_neg (fun q=>q.2 (h n (by omega)))]
   exact ih.2 fun i hi=>h i (by omega)
theorem zjr {a b:zt}:∀{n F:Nat},dF a b n=(F:Int)→F<n∧a.getD F blk≠b.getD F blk∧∀i,i<F→a.getD i blk=b.getD i blk
 |0,F,h=>by rw[dF]at h;omega
 |n+1,F,h=>by
  rw[dF]at h
  split at h
  ·rename_i hc
   have:F=n:=by omega
   subst this
   exact⟨by omega,hc.2,zcF.1 hc.1⟩
  ·obtain⟨h1,h2,h3⟩:=zjr (n:=n) h
   exact⟨by omega,h2,h3⟩
theorem zgj {a b:zt} {n:Nat}(ha:a.length=n)(hb:b.length=n)(h:∀i,i<n→a.getD i blk=b.getD i blk):a=b:=by
 apply List.ext_getElem (by omega)
 intro i h1 h2
 have:=h i (by omega)
 rwa[qp h1,qp h2]at this
theorem zlz {a b:zt} {n:Nat}(ha:a.length=n)(hb:b.length=n):dF a b n<0↔a=b:=by
 constructor
 ·intro h;exact zgj ha hb (zcF.1 h)
 ·rintro rfl;exact zcF.2 fun _ _=>rfl
theorem zna {x y:Cl}(h:x≠y):(!decide (x.t=y.t) ||!decide (x.w=y.w))=true:=by
 rw[←Bool.not_and,Bool.not_eq_true',Bool.and_eq_false_iff]
 by_cases q:x.t=y.t
 ·exact .inr (by simp only[decide_eq_false_iff_not];exact fun r=>h ((YB _ _).1 ⟨q,r⟩))
 ·exact .inl (by simpa using q)
theorem zn6 {x y:Cl}(h:x≠y):(decide (x.t=y.t)&&decide (x.w=y.w))=false:=by
 have:=zna h
 rwa[←Bool.not_and,Bool.not_eq_true']at this
theorem ze4 [Gi](a b:zt)(n:Nat)(ha:a.length=n)(hb:b.length=n)(hn:n≤1000):CR Tryz.prog 80 [] [.p (qe a),.p (qe b)] [] (is (.p (.bool (decide (a=b))))):=by
 refine walk Tryz.func80 6 [] [] [] ?_
 simp (maxSteps:=1000000) [go_sem,Tryz.f80,ha,hb]
 refine loop (fun i:Nat=>i≤n∧∀j,j<i→a.getD j blk=b.getD j blk) (fun i=>[(5,.p (.int .i64 i))]) (fun _=>[]) (fun i=>n-i) 0 ⟨Nat.zero_le _,fun j hj=>by omega⟩ (fun i hi=>?_) (h0:=by simp[go_sem,LeS,leV,leR,leA])
 obtain⟨h1,h2⟩:=hi
 by_cases hin:i<n
 ·have hi1:i<a.length:=by omega
  have hi2:i<b.length:=by omega
  have ea:=Z7 hi1
  have eb:=Z7 hi2
  have ga:=qp hi1
  have gb:=qp hi2
  have w1:IntKind.i64.wrap ((i:Int)+1)=((i+1:Nat):Int):=zG (by omega)
  by_cases he:a[i]=b[i]
  ·rw[he]at ea
   simp (maxSteps:=1000000) [go_sem,ha,hb,hin,ea,eb,w1]
   exact next (i+1) ⟨hin,fun j hj=>by
    by_cases q:j=i
    ·subst q;exact ga.trans (he.trans gb.symm)
    ·exact h2 j (by omega)⟩ (h3:=by show n- (i+1)<n-i;omega) (h2:=by simp[go_sem,LeS,leV,leR,leA])
  ·have hd:decide (a=b)=false:=by
    simp only[decide_eq_false_iff_not]
    rintro rfl;exact he rfl
   rw[hd]
   have hq:(!decide (a[i].t=b[i].t) ||!decide (a[i].w=b[i].w))=true:=zna he
   generalize a[i]=x at ea hq
   generalize b[i]=y at eb hq
   simp (maxSteps:=1000000) [go_sem,ha,hb,hin,ea,eb,hq]
   exact ret
 ·obtain rfl:i=n:=by omega
  have hd:decide (a=b)=true:=by
   simp only[decide_eq_true_eq]
   exact zgj ha hb h2
  rw[hd]
  simp (maxSteps:=1000000) [go_sem,ha]
  exact ret
theorem ziN(C:Nat)(l l':zt)(k:Nat):chR C l l' (k+1)=if 0≤dF (zm C l k) (zm C l' k) C then chR C l l' k++[k]else chR C l l' k:=rfl
theorem zjz {C:Nat} {l l':zt}(L:List Nat)(k:Nat):jJ C l l' (L++[k])=jJ C l l' L+scN (vw C l l' k):=by unfold jJ;simp
theorem Vu {R C:Nat} {l:zt} {r:Nat}(h:r<R):elemAt ((Qh R C l).map qe) r=qe (zm C l r):=by
 rw[zp qe _ _ (by rw[jF];exact h)]
 have:=zkH (C:=C) (F:=l) h
 rw[List.getElem?_eq_getElem (by rw[jF];exact h)]at this
 injection this with this
 rw[this]
structure ub(C:Nat)(a b:zt)(F:Nat):Prop where
 la:a.length=C
 lb:b.length=C
 hF:dF a b C=(F:Int)
 ht:∀c∈b,c.t.length≤100000
theorem ub.at {C F:Nat} {a b:zt}(h:ub C a b F) {i:Nat}(hi:i<C):elemAt (a.map clP) i=.agg [.str (a.getD i blk).t,.int .i64 (a.getD i blk).w]∧elemAt (b.map clP) i=.agg [.str (b.getD i blk).t,.int .i64 (b.getD i blk).w]:=by
 have h1:i<a.length:=by rw[h.la];exact hi
 have h2:i<b.length:=by rw[h.lb];exact hi
 rw[Z7 h1,Z7 h2,qp h1,qp h2];exact⟨rfl,rfl⟩
theorem ub.dec {C F:Nat} {a b:zt}(h:ub C a b F) {i:Nat}(hi:i<C):(b.getD i blk).t.length≤100000:=by
 have h2:i<b.length:=by rw[h.lb];exact hi
 rw[qp h2];exact h.ht _ (List.getElem_mem h2)
def scF(b:zt)(F c:Nat):Nat:=scN ((b.drop F).take (c-F))
theorem ziX {C F:Nat} {a b:zt}(h:ub C a b F) {i:Nat}(h0:F≤i)(hi:i<C):scF b F (i+1)=scF b F i+VE (b.getD i blk):=by
 have hl:i-F< (b.drop F).length:=by rw[List.length_drop,h.lb];omega
 unfold scF
 rw[show i+1-F=(i-F)+1 by omega,JB hl,List.getElem_drop]
 have h2:i<b.length:=by rw[h.lb];exact hi
 rw[qp h2]
 simp only[show F+(i-F)=i by omega]
theorem zkW(b:zt)(F:Nat):scF b F F=0:=by unfold scF;simp[scN]
theorem zmB {C F:Nat} {a b:zt}(h:ub C a b F):scF b F C=scN (b.drop F):=by
 unfold scF;rw[List.take_of_length_le (by rw[List.length_drop,h.lb];omega)]
theorem zoZ {C F:Nat} {a b:zt}(h:ub C a b F)(hC:C≤1000)(i:Nat):scF b F i≤200001000:=by
 have h1:=za3 ((b.drop F).take (i-F)) fun c hc=>h.ht c (List.mem_of_mem_drop (List.mem_of_mem_take hc))
 have h2:((b.drop F).take (i-F)).length≤1000:=by rw[List.length_take,List.length_drop,h.lb];omega
 have h3:200001*((b.drop F).take (i-F)).length≤200001*1000:=Nat.mul_le_mul_left _ h2
 unfold scF;omega
theorem Jn {R C:Nat} {l l':zt}(hR:R≤500)(hC:C≤1000)(_:l'.length=R*C)(ht:∀c∈l',c.t.length≤100000)(k:Nat)(hk:k≤R):jJ C l l' (chR C l l' k)≤100001000000:=by
 have h1:=zbo (C:=C) (l:=l) (l':=l') (K:=200001000) (L:=chR C l l' k) fun r hr=>by
  have h1:=za3 (vw C l l' r) fun c hc=>ht c (List.mem_of_mem_drop (List.mem_of_mem_take (List.mem_of_mem_drop hc)))
  have h2:(vw C l l' r).length≤C:=by
   unfold vw;rw[List.length_drop];have:=vD (C:=C) (l:=l') (k:=r);omega
  have h3:200001*(vw C l l' r).length≤200001*1000:=Nat.mul_le_mul_left _ (by omega)
  omega
 have h2:=kF C l l' k
 have h3:200001000*(chR C l l' k).length≤200001000*500:=Nat.mul_le_mul_left _ (by omega)
 omega
theorem zhr [Gi](R C:Nat)(l l':zt)(hR:R≤500)(hC:1≤C∧C≤1000)(hl:l.length=R*C)(hl':l'.length=R*C)(ht:∀c∈l',c.t.length≤100000):
  CR Tryz.prog 22 [] [.p (jA (Qh R C l)),.p (jA (Qh R C l'))] [] (is (.p (.int .i64 (32+16*((chR C l l' R).length:Int)+4*(jJ C l l' (chR C l l' R):Nat))))):=by
 have q1:=jF R C l
 have q2:=jF R C l'
 refine walk Tryz.func22 8 [] [] [] ?_
 unfold jA
 simp (maxSteps:=1000000) [go_sem,Tryz.f22]
 refine loop (fun r:Nat=>r≤R) (fun r=>[(5,.p (.int .i64 (32+16*((chR C l l' r).length:Int)+4*(jJ C l l' (chR C l l' r):Nat)))),(6,.p (.int .i64 r)),(7,.zY)]) (fun _=>[]) (fun r=>R-r) 0 (Nat.zero_le _) (fun r hr=>?_) (h0:=by simp[go_sem,LeS,leV,leR,leA,chR,jJ])
 by_cases hrR:r<R
 ·have ea:=Vu (C:=C) (l:=l) hrR
  have eb:=Vu (C:=C) (l:=l') hrR
  have la:=ZA hl hrR
  have lb:=ZA hl' hrR
  have sr:=ze4 (zm C l r) (zm C l' r) C la lb hC.2
  have st:=ziN C l l' r
  have ds:=zlz la lb
  have bd:=Jn (l:=l) hR hC.2 hl' ht r hr
  have bl:=kF C l l' r
  have hrow:∀c∈zm C l' r,c.t.length≤100000:=fun c hc=>ht c (List.mem_of_mem_drop (List.mem_of_mem_take hc))
  have w1:IntKind.i64.wrap ((r:Int)+1)=((r+1:Nat):Int):=zG (by omega)
  have hr':(r:Int)<R:=by omega
  by_cases he:zm C l r=zm C l' r
  ·rw[if_neg (by have:=ds.2 he;omega)]at st
   rw[decide_eq_true he]at sr
   simp (maxSteps:=1000000) [go_sem,q1,q2,hr',ea,eb]
   refine zq sr ?_
   simp (maxSteps:=1000000) [go_sem,w1]
   exact next (r+1) hrR (h3:=by show R- (r+1)<R-r;omega) (h2:=by simp[go_sem,LeS,leV,leR,leA,st])
  ·have hge:0≤dF (zm C l r) (zm C l' r) C:=by
    by_cases h:dF (zm C l r) (zm C l' r) C<0
    ·exact absurd (ds.1 h) he
    ·omega
   rw[if_pos hge]at st
   rw[decide_eq_false he]at sr
   obtain⟨F,hF⟩:∃F:Nat,dF (zm C l r) (zm C l' r) C=F:=⟨(dF (zm C l r) (zm C l' r) C).toNat,by omega⟩
   have rs:vw C l l' r=(zm C l' r).drop F:=by unfold vw;rw[hF,Int.toNat_natCast]
   have ty:=zjz (C:=C) (l:=l) (l':=l') (chR C l l' r) r
   rw[rs,←st]at ty
   have hcr:ub C (zm C l r) (zm C l' r) F:=⟨la,lb,hF,hrow⟩
   rw[←zmB hcr]at ty
   have hdy:=zjr hF
   generalize jJ C l l' (chR C l l' r)=T at bd ty⊢
   generalize hch:(chR C l l' r).length=K at bl
   have hst:(chR C l l' (r+1)).length=K+1:=by rw[st,List.length_append,hch];rfl
   generalize zm C l r=a at ea la sr hcr hdy
   generalize zm C l' r=b at eb lb sr hcr hdy ty
   have w2:IntKind.i64.wrap (32+16*(K:Int)+4*(T:Int)+16)=32+16*((K:Int)+1)+4*(T:Int):=by rw[wrap64 (by omega) (by omega)];omega
   simp (maxSteps:=1000000) [go_sem,q1,q2,hr',ea,eb]
   refine zq sr ?_
   simp (maxSteps:=1000000) [go_sem,w2]
   refine loop (fun c:Nat=>c≤F) (fun c=>[(7,.p (.int .i64 c))]) (fun _=>[]) (fun c=>F-c) 0 (Nat.zero_le _) (fun c hc=>?_) (h0:=by simp[go_sem,LeS,leV,leR,leA])
   have hcC:c<C:=by omega
   have hat:=hcr.at hcC
   have w3:IntKind.i64.wrap ((c:Int)+1)=((c+1:Nat):Int):=zG (by omega)
   by_cases hcF:c<F
   ·have e3:=hdy.2.2 c hcF
    rw[e3]at hat
    simp (maxSteps:=1000000) [go_sem,q1,q2,hr',ea,eb,la,lb,hcC,hat.1,hat.2,w3]
    exact next (c+1) hcF (h3:=by show F- (c+1)<F-c;omega) (h2:=by simp[go_sem,LeS,leV,leR,leA])
   ·obtain rfl:c=F:=by omega
    have hq:=zn6 hdy.2.1
    obtain⟨hat1,hat2⟩:=hat
    generalize a.getD c blk=xa at hat1 hq
    generalize b.getD c blk=xb at hat2 hq
    simp (maxSteps:=1000000) [go_sem,q1,q2,hr',ea,eb,la,lb,hcC,hat1,hat2,hq]
    refine loop (fun d:Nat=>c≤d∧d≤C) (fun d=>[(5,.p (.int .i64 (32+16*((K:Int)+1)+4*((T+scF b c d:Nat):Int)))),(7,.p (.int .i64 d))]) (fun _=>[]) (fun d=>C-d) c ⟨Nat.le_refl _,by omega⟩ (fun d hd=>?_) (h0:=by simp[go_sem,LeS,leV,leR,leA,zkW])
    by_cases hdC:d<C
    ·have hat:=(hcr.at hdC).2
     have hdec:=hcr.dec hdC
     have sst:=ziX hcr hd.1 hdC
     have sle:=zoZ hcr hC.2 d
     have dc:=zly (b.getD d blk).t hdec
     have dle:=zbn (b.getD d blk)
     have dl:(zP (QG dz (nb (b.getD d blk).t))).length=VE (b.getD d blk):=by simp[zP,VE]
     generalize b.getD d blk=y at hat hdec sst dc dle dl
     generalize QG dz (nb y.t)=z at dc dl
     have w3:IntKind.i64.wrap ((d:Int)+1)=((d+1:Nat):Int):=zG (by omega)
     have w4:IntKind.i64.wrap (4*(VE y:Int))=4*(VE y:Int):=wrap64 (by omega) (by omega)
     have w5:IntKind.i64.wrap (32+16*((K:Int)+1)+4*((T+scF b c d:Nat):Int)+4*(VE y:Int))=32+16*((K:Int)+1)+4*((T+scF b c (d+1):Nat):Int):=by rw[sst,wrap64 (by omega) (by omega)];omega
     simp only[Int.natCast_add]at w5
     simp (maxSteps:=1000000) [go_sem,q2,hr',eb,lb,hdC,hat]
     refine zq dc ?_
     simp (maxSteps:=1000000) [go_sem,dl,w3,w4,w5]
     exact next (d+1) ⟨by omega,by omega⟩ (h3:=by show C- (d+1)<C-d;omega) (h2:=by simp[go_sem,LeS,leV,leR,leA])
    ·obtain rfl:d=C:=by omega
     simp (maxSteps:=1000000) [go_sem,q2,hr',eb,lb,w1]
     exact next (r+1) hrR (h3:=by show R- (r+1)<R-r;omega) (h2:=by simp[go_sem,LeS,leV,leR,leA,hst,ty])
 ·obtain rfl:r=R:=by omega
  simp (maxSteps:=1000000) [go_sem,q1,q2]
  exact ret
end
section
open Go.AM
attribute [local irreducible] za vwL
theorem zhp [Gi](n:Int)(K:Int)(hK:0≤K∧K≤1000):∃m:Nat,(m:Int)≤K∧IntKind.i64.wrap (BitVec.ofInt IntKind.i64.bits n&&& BitVec.ofInt IntKind.i64.bits K).toNat=(m:Int):=by
 have e:((BitVec.ofInt IntKind.i64.bits K).toNat:Int)=K:=by
  show((BitVec.ofInt 64 K).toNat:Int)=K
  rw[BitVec.toNat_ofInt]
  omega
 have h:(BitVec.ofInt IntKind.i64.bits n&&& BitVec.ofInt IntKind.i64.bits K).toNat≤(BitVec.ofInt IntKind.i64.bits K).toNat:=by
  rw[BitVec.toNat_and]
  exact Nat.and_le_right
 exact⟨_,by omega,wrap64 (by omega) (by omega)⟩
theorem za5(r:Int):∀x∈qy r,x.t.length≤100000:=by
 unfold qy zbA
 intro x hx
 split at hx
 ·simp at hx;rcases hx with rfl|rfl<;>simp
 ·split at hx
  ·simp at hx;rcases hx with rfl|rfl<;>simp
  ·simp at hx;subst hx;simp
theorem zfE(c:List Int):(Z6 c).length≤c.length+2:=by
 unfold Z6
 split<;>split<;>simp<;>omega
theorem zg6(c:List Int)(h:c.length≤1000):∀x∈ofG c,x.t.length≤100000:=by
 intro x hx
 unfold ofG at hx
 split at hx
 ·obtain⟨r,_,h⟩:=List.mem_flatMap.1 hx
  exact za5 r x h
 ·simp at hx
  subst hx
  have:=J4 (Z6 c)
  have:=zfE c
  show(yg (Z6 c)).length≤100000
  omega
theorem JS {l:List Int}(hn:l.length≤1000)(hr:∀r∈l,qg r):∀x∈WW l,x.t.length≤100000:=fun x hx=>by
 have h:=Ln.mk' l (by omega) hr
 obtain⟨c,hc,hx⟩:=List.mem_flatMap.1 hx
 exact zg6 c (by have:=(h.mem hc).1;omega) x hx
theorem zh7 {ps:List (List Int)} {ln:List Int}(h:W7 ps ln):∀x∈vwG ps ln,x.t.length≤100000:=fun x hx=>by
 rcases List.mem_append.1 hx with h1|h1
 ·obtain⟨c,hc,h1⟩:=List.mem_flatMap.1 h1
  exact JS (h.p c hc).1 (h.p c hc).2 x h1
 ·exact JS h.l h.r x h1
section
attribute [local semireducible] vwL
theorem uH(R C:Nat)(ps:List (List Int))(ln:List Int)(cur:Int):(vwL R C ps ln cur).length=R*C:=by unfold vwL;exact x6 _ _ _ _ _
theorem x8 {ps:List (List Int)} {ln:List Int}(h:W7 ps ln)(R C:Nat)(cur:Int):∀x∈vwL R C ps ln cur,x.t.length≤100000:=by
 unfold vwL
 exact zbD (Q:=fun y=>y.t.length≤100000) (by decide) (by decide) R C _ _ (zh7 h) _
end
end
end Go.Proofs.YtfjdbbpimklecaaGreatDoor
