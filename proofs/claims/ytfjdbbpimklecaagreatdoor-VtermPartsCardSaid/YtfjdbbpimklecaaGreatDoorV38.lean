/- A part of this seat's proofs, by an abstract machine. Conditions: each law's. -/
import Derived.Test.YtfjdbbpimklecaaGreatDoorV34
import Derived.Test.YtfjdbbpimklecaaGreatDoorV37
import Derived.Test.YtfjdbbpimklecaaGreatDoorV31
import Derived.Test.YtfjdbbpimklecaaGreatDoorV33
set_option maxHeartbeats 8000000
set_option maxRecDepth 10000
namespace Go.Proofs.YtfjdbbpimklecaaGreatDoor
section
open Go.AM
attribute [local irreducible] zb
theorem zdR(s:List UInt8)(hs:s.length≤40000):(vZ s).length≤200000:=by
 have h:=zbL s hs
 have h1:=UG s hs
 have hL:=h.cl.len
 rw[h.sum]at hL
 unfold vZ
 rw[List.length_map]
 omega
theorem zeD [Gi](e:PV)(R C:Nat)(t:Trm)(r c:Int)(hR:1≤R∧R≤500)(hC:2≤C∧C≤1000):CR Tryz.prog 138 [[0],[1],[2]] [.lp [0] 0,.p (.int .i64 r),.p (.int .i64 c)] (vt e R C t) (ZP (vt e R C (QU R C t r c)) (.tup [])):=by
 have wR:IntKind.i64.wrap ((R:Int)-1)=(R:Int)-1:=wrap64 (by omega) (by omega)
 have wC:IntKind.i64.wrap ((C:Int)-1)=(C:Int)-1:=wrap64 (by omega) (by omega)
 refine X2 Tryz.func138 8 [] [] [] ?_
 unfold QU
 simp (maxSteps:=1000000) [go_sem,Tryz.f138,vt]
 refine call [([0],[1]),([1],[2])] (uq R C (R*C) t.l) ?_ (hr:=by simp[go_sem,gp,zf])
 rintro _ _ ⟨rfl,rfl⟩
 simp (maxSteps:=1000000) [go_sem,gp,zf,zd,wR,wC]
 exact Xt (hr:=by simp[go_sem,zd,zf])
theorem kV [Gi](e:PV)(R C:Nat)(t:Trm)(r c:Int)(hR:1≤R∧R≤500)(hC:2≤C∧C≤1000):CR Tryz.prog 138 [[0]] [.lp [0] 0,.p (.int .i64 r),.p (.int .i64 c)] (vt e R C t) (ZP (vt e R C (QU R C t r c)) (.tup [])):=CR.zhV (zeD e R C t r c hR hC) (by simp)
theorem ze7 [Gi] {e:PV}(hT:wA e)(R C:Nat)(t:Trm) {B:Int}(o:AOp)(hR:1≤R∧R≤500)(hC:2≤C∧C≤1000)(h:qH R C B t)(hB:B≤1000000000)(ho:OpB 40000 o):
  CR Tryz.prog 87 [[0]] [.lp [0] 0,.p (opP o)] (vt e R C t) (ZP (vt e R C (Zt R C t o)) (.tup [])):=by
 obtain⟨k,a,b,x⟩:=o
 obtain⟨ha,hb,hx⟩:=ho
 simp only at ha hb hx
 have h1:=h.hr
 have h2:=h.hc
 have h3:=h.hb
 have hRC:R*C≤500000:=Nat.mul_le_mul hR.2 hC.2
 refine zcg [[0],[1],[2]] Tryz.func87 9 [16,17,18] [3,11,22,24,26,28] [] ?_
 simp (maxSteps:=1000000) [go_sem,Tryz.f87,vt,opP]
 by_cases k1:k=1
 ·subst k1
  have rd:=zhb hT x hx
  have gw:=zbO x
  rw[show Zt R C t ⟨1,a,b,x⟩=(vZ x).foldl (jz R C) t from rfl]
  have gl:(vZ x).length≤200000:=zdR x hx
  generalize vZ x=L at rd gw gl⊢
  simp (maxSteps:=1000000) [go_sem]
  refine ym 136 rd ?_
  simp (maxSteps:=1000000) [go_sem]
  refine loop (fun i:Nat=>i≤L.length) (fun i=>[(5,.zK),(18,.p (.int .i64 i))]) (fun i=>[([0],[.p e,.lp [1] 0,.p (.int .i64 ((L.take i).foldl (jz R C) t).r),.p (.int .i64 ((L.take i).foldl (jz R C) t).c),.p (.bool ((L.take i).foldl (jz R C) t).f),.p (.int .i64 ((L.take i).foldl (jz R C) t).b)]),([2],cw ((L.take i).foldl (jz R C) t).l)]) (fun i=>L.length-i) 0 (Nat.zero_le _) (fun i hi=>?_) (h0:=by simp[go_sem,LeS,leV,leR,leA,leL,zl,zd])
  have hT':=qH.zbE hC.1 (L.take i) t h (fun g hg=>by have:=gw g (List.mem_of_mem_take hg);omega)
  by_cases d:i<L.length
  ·have em:=Yz d
   have st:(L.take (i+1)).foldl (jz R C) t=jz R C ((L.take i).foldl (jz R C) t) L[i]:=by
    rw[List.take_add_one,List.getElem?_eq_getElem d,List.foldl_append];rfl
   have gi:=gw L[i] (List.getElem_mem d)
   have wj:IntKind.i64.wrap ((i:Int)+1)=((i+1:Nat):Int):=qD (by omega)
   generalize L[i]=g at em st gi
   generalize (L.take i).foldl (jz R C) t=T at hT' st⊢
   have hs:=zd0 e R C T g hR hC hT' gi
   simp only[clP]at hs
   simp (maxSteps:=1000000) [go_sem,d,em]
   refine call [([0],[0]),([1],[1]),([2],[2])] hs ?_ (hr:=by simp[go_sem,vt,zf,zd])
   rintro _ _ ⟨rfl,rfl⟩
   simp (maxSteps:=1000000) [go_sem,vt,zf,zd,wj]
   exact next (i+1) d (h3:=by show L.length- (i+1)<L.length-i;omega) (h2:=by simp[go_sem,LeS,leV,leR,leA,leL,zl,zd,st])
  ·obtain rfl:i=L.length:=by omega
   rw[List.take_length]
   simp (maxSteps:=1000000) [go_sem]
   exact xd (hr:=by simp[go_sem,zd,zf])
 by_cases k2:k=2
 ·subst k2
  rw[show Zt R C t ⟨2,a,b,x⟩=QU R C t a b from rfl]
  simp (maxSteps:=1000000) [go_sem]
  refine call [([0],[0]),([1],[1]),([2],[2])] (kV e R C t a b hR hC) ?_ (hr:=by simp[go_sem,vt,zf,zd])
  rintro _ _ ⟨rfl,rfl⟩
  simp (maxSteps:=1000000) [go_sem,vt,zf,zd]
  exact xd (hr:=by simp[go_sem,zd,zf])
 by_cases k3:k=3
 ·subst k3
  rw[show Zt R C t ⟨3,a,b,x⟩={t with l:=UB R C t.r t.c t.l}from rfl]
  simp (maxSteps:=1000000) [go_sem]
  refine call [([0],[1]),([1],[2])] (zdi R C (R*C) t.l t.r t.c rfl hR.2 hC.2 h.hl h.ho) ?_ (hr:=by simp[go_sem,gp,zf,zd])
  rintro _ _ ⟨rfl,rfl⟩
  simp (maxSteps:=1000000) [go_sem,gp,zf,zd]
  exact xd (hr:=by simp[go_sem,zd,zf])
 by_cases k4:k=4
 ·subst k4
  rw[show Zt R C t ⟨4,a,b,x⟩={t with l:=List.replicate (R*C) blk}from rfl]
  simp (maxSteps:=1000000) [go_sem]
  refine call [([0],[1]),([1],[2])] (zfk R C (R*C) t.l h.hl hRC) ?_ (hr:=by simp[go_sem,gp,zf,zd])
  rintro _ _ ⟨rfl,rfl⟩
  simp (maxSteps:=1000000) [go_sem,gp,zf,zd]
  exact xd (hr:=by simp[go_sem,zd,zf])
 by_cases k5:k=5
 ·subst k5
  rw[show Zt R C t ⟨5,a,b,x⟩={t with b:=t.b+1}from rfl]
  have ww:IntKind.i64.wrap (t.b+1)=t.b+1:=wrap64 (by omega) (by omega)
  simp (maxSteps:=1000000) [go_sem,ww]
  exact xd (hr:=by simp[go_sem,zd,zf])
 by_cases k6:k=6
 ·subst k6
  rw[show Zt R C t ⟨6,a,b,x⟩=QU R C t t.r 0 from rfl]
  simp (maxSteps:=1000000) [go_sem]
  refine call [([0],[0]),([1],[1]),([2],[2])] (kV e R C t t.r 0 hR hC) ?_ (hr:=by simp[go_sem,vt,zf,zd])
  rintro _ _ ⟨rfl,rfl⟩
  simp (maxSteps:=1000000) [go_sem,vt,zf,zd]
  exact xd (hr:=by simp[go_sem,zd,zf])
 by_cases k7:k=7
 ·subst k7
  rw[show Zt R C t ⟨7,a,b,x⟩={yp R C t with f:=false}from rfl]
  simp (maxSteps:=1000000) [go_sem]
  refine call [([0],[0]),([1],[1]),([2],[2])] (XV e R C t hR hC h) ?_ (hr:=by simp[go_sem,vt,zf,zd])
  rintro _ _ ⟨rfl,rfl⟩
  simp (maxSteps:=1000000) [go_sem,vt,zf,zd]
  exact xd (hr:=by simp[go_sem,zd,zf])
 by_cases k8:k=8
 ·subst k8
  rw[show Zt R C t ⟨8,a,b,x⟩=QU R C t t.r (t.c+a)from rfl]
  have ww:IntKind.i64.wrap (t.c+a)=t.c+a:=wrap64 (by omega) (by omega)
  simp (maxSteps:=1000000) [go_sem,ww]
  refine call [([0],[0]),([1],[1]),([2],[2])] (kV e R C t t.r (t.c+a) hR hC) ?_ (hr:=by simp[go_sem,vt,zf,zd])
  rintro _ _ ⟨rfl,rfl⟩
  simp (maxSteps:=1000000) [go_sem,vt,zf,zd]
  exact xd (hr:=by simp[go_sem,zd,zf])
 by_cases k9:k=9
 ·subst k9
  rw[show Zt R C t ⟨9,a,b,x⟩=QU R C t t.r (t.c-a)from rfl]
  have ww:IntKind.i64.wrap (t.c-a)=t.c-a:=wrap64 (by omega) (by omega)
  simp (maxSteps:=1000000) [go_sem,ww]
  refine call [([0],[0]),([1],[1]),([2],[2])] (kV e R C t t.r (t.c-a) hR hC) ?_ (hr:=by simp[go_sem,vt,zf,zd])
  rintro _ _ ⟨rfl,rfl⟩
  simp (maxSteps:=1000000) [go_sem,vt,zf,zd]
  exact xd (hr:=by simp[go_sem,zd,zf])
 by_cases k10:k=10
 ·subst k10
  rw[show Zt R C t ⟨10,a,b,x⟩=QU R C t (t.r-a) t.c from rfl]
  have ww:IntKind.i64.wrap (t.r-a)=t.r-a:=wrap64 (by omega) (by omega)
  simp (maxSteps:=1000000) [go_sem,ww]
  refine call [([0],[0]),([1],[1]),([2],[2])] (kV e R C t (t.r-a) t.c hR hC) ?_ (hr:=by simp[go_sem,vt,zf,zd])
  rintro _ _ ⟨rfl,rfl⟩
  simp (maxSteps:=1000000) [go_sem,vt,zf,zd]
  exact xd (hr:=by simp[go_sem,zd,zf])
 by_cases k11:k=11
 ·subst k11
  rw[show Zt R C t ⟨11,a,b,x⟩=QU R C t (t.r+a) t.c from rfl]
  have ww:IntKind.i64.wrap (t.r+a)=t.r+a:=wrap64 (by omega) (by omega)
  simp (maxSteps:=1000000) [go_sem,ww]
  refine call [([0],[0]),([1],[1]),([2],[2])] (kV e R C t (t.r+a) t.c hR hC) ?_ (hr:=by simp[go_sem,vt,zf,zd])
  rintro _ _ ⟨rfl,rfl⟩
  simp (maxSteps:=1000000) [go_sem,vt,zf,zd]
  exact xd (hr:=by simp[go_sem,zd,zf])
 have hd:Zt R C t ⟨k,a,b,x⟩=t:=by unfold Zt;simp only[k1,k2,k3,k4,k5,k6,k7,k8,k9,k10,k11,if_false]
 rw[hd]
 simp (maxSteps:=1000000) [go_sem,k1,k2,k3,k4,k5,k6,k7,k8,k9,k10,k11]
 exact xd (hr:=by simp[go_sem,zd,zf])
end
section
open Go.AM
attribute [local go_sem] Tryz.t189
theorem Vs(b:UInt8):dgt b=true↔48≤b.toNat∧b.toNat≤57:=by
 unfold dgt
 simp only[Bool.and_eq_true,decide_eq_true_eq]
theorem WJ:∀(l:List UInt8) (n:Nat),l.all dgt=true→Lib.decFrom n l=some (l.foldl (fun n b=>10*n+(b.toNat-48)) n)
 | [],n,_=>rfl
 |b::l,n,h=>by
  simp only[List.all_cons,Bool.and_eq_true]at h
  unfold Lib.decFrom Lib.digitVal
  rw[if_pos ((Vs b).1 h.1)]
  simp only[List.foldl_cons]
  rw[show n*10+(b.toNat-48)=10*n+(b.toNat-48) by omega]
  exact WJ l _ h.2
theorem W7:∀(l:List UInt8) (n m:Nat),Lib.decFrom n l=some m→l.all dgt=true
 | [],_,_,_=>rfl
 |b::l,n,m,h=>by
  unfold Lib.decFrom Lib.digitVal at h
  by_cases c:48≤b.toNat∧b.toNat≤57
  ·rw[if_pos c]at h
   have:=W7 l _ m h
   simp only[List.all_cons,Bool.and_eq_true]
   exact⟨(Vs b).2 c,this⟩
  ·rw[if_neg c]at h
   cases h
theorem zb9 {b:UInt8}(h:dg2 b=true):(b==45)=false∧(b==43)=false:=by
 constructor
 ·rw[beq_eq_false_iff_ne];rintro rfl;exact absurd h (by decide)
 ·rw[beq_eq_false_iff_ne];rintro rfl;exact absurd h (by decide)
theorem Uk {l:List UInt8}(h:l.all dgt=true)(h0:l≠ []):Lib.atoi l=some (dgn l:Int):=by
 cases l with
 |nil=>exact absurd rfl h0
 |cons b l=>
  have hb:dg2 b=true:=by
   simp only[List.all_cons,Bool.and_eq_true]at h
   unfold dg2;rw[h.1];rfl
  obtain⟨s1,s2⟩:=zb9 hb
  show(if(b==45)=true then _ else if(b==43)=true then _ else Option.map (fun(m:Nat)=>(m:Int)) (Lib.decNat (b::l)))=_
  rw[s1,s2,if_neg (by simp),if_neg (by simp)]
  unfold Lib.decNat
  rw[WJ _ _ h]
  rfl
theorem XI {l:List UInt8}(h:∀b∈l,dg2 b=true) {m:Int}(hm:Lib.atoi l=some m):l.all dgt=true∧l≠ []:=by
 cases l with
 |nil=>cases hm
 |cons b l=>
  obtain⟨s1,s2⟩:=zb9 (h b (by simp))
  replace hm:(if(b==45)=true then Option.map (fun(m:Nat)=> -(m:Int)) (Lib.decNat l)else if(b==43)=true then Option.map (fun(m:Nat)=>(m:Int)) (Lib.decNat l)else Option.map (fun(m:Nat)=>(m:Int)) (Lib.decFrom 0 (b::l)))=some m:=hm
  rw[s1,s2,if_neg (by simp),if_neg (by simp)]at hm
  cases hd:Lib.decFrom 0 (b::l)with
  |none=>rw[hd]at hm;cases hm
  |some k=>exact⟨W7 _ _ _ hd,by simp⟩
def xh(s:List UInt8):Int:=if s=[]then 1 else(Lib.atoi s).getD 0
theorem zeX {s:List UInt8}(h:s.all dgt=true)(h0:s≠ []):xh s=dgn s:=by
 unfold xh;rw[if_neg h0,Uk h h0];rfl
theorem Kq [Gi](hE:xm)(s:List UInt8)(hs:∀b∈s,dg2 b=true)(hl:s.length≤16):CR Tryz.prog 219 [] [.p (.str s)] [] (is (.tup [.p (.int .i64 (xh s)),.p (.bool (decide (s=[]) || qR s))])):=by
 refine walk Tryz.func219 6 [] [4] [] ?_
 by_cases h0:s=[]
 ·subst h0
  have e:xh []=1:=rfl
  rw[e]
  simp (maxSteps:=1000000) [go_sem,Tryz.f219]
  exact ret
 ·rw[decide_eq_false h0,Bool.false_or]
  simp (maxSteps:=1000000) [go_sem,Tryz.f219,h0]
  refine call [] (zgU hE s (by omega)) ?_
  rintro _ _ ⟨rfl,n,v,rfl,h⟩
  have hp:0<s.length:=List.length_pos_iff.2 h0
  rcases h with ⟨ha,rfl⟩|⟨ha,rfl,te,pe,rfl⟩
  ·have hd:=XI hs ha
   have hv:xh s=n:=by unfold xh;rw[if_neg h0,ha];rfl
   rw[hv]
   have hb:dgt (s.getD 0 0)=true:=by
    cases s with
    |nil=>exact absurd rfl h0
    |cons b s=>simp only[List.all_cons,Bool.and_eq_true]at hd;exact hd.1.1
   have hb2:=(Vs _).1 hb
   have st:=ZH s 0
   have n43:¬zB s 0=43:=by rw[st];omega
   have n45:¬zB s 0=45:=by rw[st];omega
   by_cases c5:s.length≤4
   ·have c5':(s.length:Int)<5:=by omega
    have hok:=x8 hd.1 c5
    by_cases c48:s.getD 0 0=48
    ·have e48:zB s 0=48:=by rw[st,c48];rfl
     have hn:qR s=false:=by
      cases hq:qR s with
      |false=>rfl
      |true=>exact absurd c48 (hok.1 hq).2
     rw[hn]
     simp (maxSteps:=1000000) [go_sem,c5',e48,hp]
     exact ret
    ·have e48:¬zB s 0=48:=by rw[st];exact fun h=>c48 ((wF _ 48).1 h)
     have hn:qR s=true:=hok.2 ⟨h0,c48⟩
     rw[hn]
     simp (maxSteps:=1000000) [go_sem,c5',e48,n43,n45,hp]
     exact ret
   ·have c5':¬(s.length:Int)<5:=by omega
    rw[wb (by omega)]
    simp (maxSteps:=1000000) [go_sem,c5']
    exact ret
  ·have hv:xh s=0:=by unfold xh;rw[if_neg h0,ha];rfl
   have hn:qR s=false:=by
    cases hq:qR s with
    |false=>rfl
    |true=>rw[Uk (yq hq).1 h0]at ha;cases ha
   rw[hv,hn]
   simp (maxSteps:=1000000) [go_sem]
   exact ret
end
section
open Go.AM
def okV(a:List UInt8):Bool:=decide (a=[]) || qR a
def Kl(q:List UInt8)(x:UInt8):AOp×Bool:=
 if x=72 then(⟨2,xh (qt q 59).1-1,xh (qt q 59).2.1-1,[]⟩,okV (qt q 59).1&&okV (qt q 59).2.1&&(qt q 59).2.2&&!decide ((qt q 59).1=[])&&!decide ((qt q 59).2.1=[]))
 else if((qt q 59).2.2 ||!okV (qt q 59).1)=true then(⟨0,0,0,[]⟩,false)
 else if x=75 then(⟨3,0,0,[]⟩,decide (q=[]))
 else if x=74 then(⟨4,0,0,[]⟩,decide (q=[50]))
 else(⟨8+Lib.indexByte [67,68,65,66] x,xh (qt q 59).1,0,[]⟩,decide (0≤Lib.indexByte [67,68,65,66] x)&&!decide (q=[49]))
theorem zgr {q:List UInt8}(hq:∀b∈q,dg2 b=true)(hl:q.length≤16):(∀b∈(qt q 59).1,dg2 b=true)∧(qt q 59).1.length≤16∧(∀b∈(qt q 59).2.1,dg2 b=true)∧(qt q 59).2.1.length≤16:=by
 unfold qt
 split
 ·exact⟨fun b hb=>hq b (List.mem_of_mem_take hb),Nat.le_trans (List.length_take_le' _ _) hl,fun b hb=>hq b (List.mem_of_mem_drop hb),by rw[List.length_drop];omega⟩
 ·exact⟨hq,hl,by simp,by simp⟩
theorem zb2 {s:List UInt8}(hs:∀b∈s,dg2 b=true)(hl:s.length≤16):0≤xh s∧xh s≤10000000000000000:=by
 unfold xh
 split
 ·omega
 ·cases ha:Lib.atoi s with
  |none=>simp
  |some m=>
   have hd:=XI hs ha
   rw[Uk hd.1 hd.2]at ha
   injection ha with ha
   have h:=za3 s 0 fun b hb=>((Vs b).1 (List.all_eq_true.1 hd.1 b hb)).2
   have hp:10^s.length≤10^16:=Nat.pow_le_pow_right (by omega) hl
   have e:dgn s=s.foldl (fun n b=>10*n+(b.toNat-48)) 0:=rfl
   rw[←e]at h
   simp only[Option.getD_some]
   omega
theorem zgp [Gi](hE:xm)(q:List UInt8)(x:UInt8)(hq:∀b∈q,dg2 b=true)(hl:q.length≤16):CR Tryz.prog 190 [] [.p (.str q),.p (.int .u8 x.toNat)] [] (is (.tup [.p (opP (Kl q x).1),.p (.bool (Kl q x).2)])):=by
 have ct:=zgn q 59 (by omega)
 obtain⟨m1,l1,m2,l2⟩:=zgr hq hl
 have na:=Kq hE (qt q 59).1 m1 l1
 have nb:=Kq hE (qt q 59).2.1 m2 l2
 have ba:=zb2 m1 l1
 have bb:=zb2 m2 l2
 have ix:=zcL [67,68,65,66] x
 have ib:=uP [67,68,65,66] x
 have xe:∀c:UInt8,((x.toNat:Int)=(c.toNat:Int))↔x=c:=wF x
 have e72:((x.toNat:Int)=72)↔x=72:=xe 72
 have e75:((x.toNat:Int)=75)↔x=75:=xe 75
 have e74:((x.toNat:Int)=74)↔x=74:=xe 74
 unfold Kl
 have oa:(decide ((qt q 59).1=[]) || qR (qt q 59).1)=okV (qt q 59).1:=rfl
 have ob:(decide ((qt q 59).2.1=[]) || qR (qt q 59).2.1)=okV (qt q 59).2.1:=rfl
 rw[oa]at na
 rw[ob]at nb
 generalize okV (qt q 59).1=ka at*
 generalize okV (qt q 59).2.1=kb at*
 generalize xh (qt q 59).1=va at*
 generalize xh (qt q 59).2.1=vb at*
 generalize Lib.indexByte [67,68,65,66] x=k at*
 generalize (qt q 59).1=a at*
 generalize (qt q 59).2.1=b at*
 generalize (qt q 59).2.2=two at*
 have w1:IntKind.i64.wrap (va-1)=va-1:=wrap64 (by omega) (by omega)
 have w2:IntKind.i64.wrap (vb-1)=vb-1:=wrap64 (by omega) (by omega)
 have w3:IntKind.i64.wrap (8+k)=8+k:=by simp at ib;exact wrap64 (by omega) (by omega)
 refine walk Tryz.func190 15 [] [] [] ?_
 simp (maxSteps:=1000000) [go_sem,Tryz.f190]
 refine zD ct ?_
 simp (maxSteps:=1000000) [go_sem]
 refine zD na ?_
 by_cases c72:x=72
 ·have c72':=e72.2 c72
  simp (maxSteps:=1000000) [go_sem,c72]
  refine zD nb ?_
  cases ka
  ·simp (maxSteps:=1000000) [go_sem,w1,w2]
   exact ret (hx:=by simp[go_sem,zg,leA,leT,leP])
  ·cases kb
   ·simp (maxSteps:=1000000) [go_sem,w1,w2]
    exact ret (hx:=by simp[go_sem,zg,leA,leT,leP])
   ·cases two
    ·simp (maxSteps:=1000000) [go_sem,w1,w2]
     exact ret (hx:=by simp[go_sem,zg,leA,leT,leP])
    ·by_cases a0:a=[]
     ·simp (maxSteps:=1000000) [go_sem,w1,w2,a0]
      exact ret (hx:=by simp[go_sem,zg,leA,leT,leP])
     ·simp (maxSteps:=1000000) [go_sem,w1,w2,a0]
      exact ret (hx:=by simp[go_sem,zg,leA,leT,leP])
 ·have c72':¬(x.toNat:Int)=72:=fun h=>c72 (e72.1 h)
  rw[if_neg c72]
  simp (maxSteps:=1000000) [go_sem,c72']
  cases two
  case true=>
   simp (maxSteps:=1000000) [go_sem]
   exact ret (hx:=by simp[go_sem,zg,leA,leT,leP])
  cases ka
  ·simp (maxSteps:=1000000) [go_sem]
   exact ret (hx:=by simp[go_sem,zg,leA,leT,leP])
  simp only[Bool.not_true,Bool.or_false,Bool.false_eq_true]
  by_cases c75:x=75
  ·have c75':=e75.2 c75
   rw[if_pos c75]
   simp (maxSteps:=1000000) [go_sem,c75']
   exact ret (hx:=by simp[go_sem,zg,leA,leT,leP])
  have c75':¬(x.toNat:Int)=75:=fun h=>c75 (e75.1 h)
  rw[if_neg c75]
  by_cases c74:x=74
  ·have c74':=e74.2 c74
   rw[if_pos c74]
   simp (maxSteps:=1000000) [go_sem,c74']
   exact ret (hx:=by simp[go_sem,zg,leA,leT,leP])
  have c74':¬(x.toNat:Int)=74:=fun h=>c74 (e74.1 h)
  rw[if_neg c74]
  simp (maxSteps:=1000000) [go_sem,c75',c74']
  refine zD ix ?_
  by_cases k0:0≤k
  ·simp (maxSteps:=1000000) [go_sem,k0,w3]
   exact ret (hx:=by simp[go_sem,zg,leA,leT,leP])
  ·simp (maxSteps:=1000000) [go_sem,k0,w3]
   exact ret (hx:=by simp[go_sem,zg,leA,leT,leP])
end
section
open Go.AM Go.RowKit
def pD(x:Nat):Bool:=(decide (x<48) || decide (57<x))&&!decide (x=59)
theorem ziX(s:ByteArray)(i:Nat)(h:¬(s.get! (i+0)).toNat<128):128≤(Utf8.decode s i).1:=by
 unfold Utf8.decode
 simp only
 rw[if_neg h]
 split
 ·split
  ·assumption
  ·decide
 ·split
  ·split
   ·rename_i h1;simp only[Bool.and_eq_true,decide_eq_true_eq]at h1;simp only;omega
   ·decide
  ·split
   ·split
    ·rename_i h1;simp only[Bool.and_eq_true,decide_eq_true_eq]at h1;simp only;omega
    ·decide
   ·decide
theorem zfN(b:UInt8):pD b.toNat=!dg2 b:=by
 unfold pD dg2 dgt
 have e:(b==59)=decide (b.toNat=59):=by
  by_cases h:b=59
  ·subst h;rfl
  ·have:¬b.toNat=59:=fun q=>h (UInt8.toNat.inj q)
   rw[beq_eq_false_iff_ne.2 h,decide_eq_false this]
 rw[e]
 by_cases h1:b.toNat<48<;>by_cases h2:57<b.toNat<;>by_cases h3:b.toNat=59<;>simp[h1,h2,h3]<;>omega
theorem YK(l:List UInt8):∀(f pos:Nat),l.length≤pos+f→Lib.idxFuncFrom pD true ⟨l.toArray⟩ f pos=if((l.drop pos).takeWhile dg2).length< (l.drop pos).length then((pos+((l.drop pos).takeWhile dg2).length:Nat):Int)else -1
 |0,pos,h=>by
  have:l.drop pos=[]:=List.drop_of_length_le (by omega)
  rw[this];rfl
 |f+1,pos,h=>by
  have hsz:(⟨l.toArray⟩:ByteArray).size=l.length:=by simp[ByteArray.size]
  unfold Lib.idxFuncFrom
  rw[hsz]
  by_cases c:pos<l.length
  ·rw[if_pos c]
   have hd:l.drop pos=l[pos]::l.drop (pos+1):=List.drop_eq_getElem_cons c
   have hb:(⟨l.toArray⟩:ByteArray).get! (pos+0)=l[pos]:=by
    show(⟨l.toArray⟩:ByteArray).get! pos=_
    simp[ByteArray.get!,c]
   rw[hd,List.takeWhile_cons]
   by_cases ha:(l[pos]).toNat<128
   ·have hdec:Utf8.decode ⟨l.toArray⟩ pos=((l[pos]).toNat,1):=by
     simp only[Utf8.decode,hb,ha,if_true]
    rw[hdec]
    simp only
    rw[zfN]
    cases hq:dg2 l[pos]with
    |true=>
     rw[if_neg (by simp),YK l f (pos+1) (by omega)]
     simp only[if_true,List.length_cons,Nat.add_lt_add_iff_right]
     by_cases q:((l.drop (pos+1)).takeWhile dg2).length< (l.drop (pos+1)).length
     ·rw[if_pos q,if_pos q];omega
     ·rw[if_neg q,if_neg q]
    |false=>simp;omega
   ·have hx:=ziX ⟨l.toArray⟩ pos (by rw[hb];exact ha)
    have hp:pD (Utf8.decode ⟨l.toArray⟩ pos).1=true:=by
     unfold pD
     rw[decide_eq_true (show 57< (Utf8.decode ⟨l.toArray⟩ pos).1 by omega),decide_eq_false (show ¬(Utf8.decode ⟨l.toArray⟩ pos).1=59 by omega)]
     simp
    rw[if_pos hp]
    have hq:dg2 l[pos]=false:=by
     have:=zfN l[pos]
     have h1:pD (l[pos]).toNat=true:=by
      unfold pD
      rw[decide_eq_true (show 57< (l[pos]).toNat by omega),decide_eq_false (show ¬(l[pos]).toNat=59 by omega)]
      simp
     rw[h1]at this
     cases hz:dg2 l[pos]with
     |false=>rfl
     |true=>rw[hz]at this;cases this
    rw[hq]
    simp;omega
  ·have:l.drop pos=[]:=List.drop_of_length_le (by omega)
   rw[if_neg c,this];rfl
def v8(r:List UInt8):Int:=if(r.takeWhile dg2).length<r.length then((r.takeWhile dg2).length:Int)else -1
theorem ziz(r:List UInt8):Lib.idxFunc pD true ⟨r.toArray⟩=v8 r:=by
 have hsz:(⟨r.toArray⟩:ByteArray).size=r.length:=by simp[ByteArray.size]
 unfold Lib.idxFunc
 rw[hsz,YK r r.length 0 (by omega)]
 simp[v8]
theorem zhq [Gi](x:Nat)(hx:x≤1114111):CR Tryz.prog 189 [] [.p (.int .i32 x)] [] (is (.p (.bool (pD x)))):=by
 refine walk Tryz.func189 3 [] [] [] ?_
 have e1:((x:Int)<48)=(x<48):=by apply propext;omega
 have e2:((57:Int)<x)=(57<x):=by apply propext;omega
 have e3:((x:Int)=59)=(x=59):=by apply propext;omega
 unfold pD
 by_cases h1:x<48
 ·simp (maxSteps:=1000000) [go_sem,Tryz.f189,e1,e2,e3,h1]
  exact ret
 ·by_cases h2:57<x
  ·simp (maxSteps:=1000000) [go_sem,Tryz.f189,e1,e2,e3,h1,h2]
   exact ret
  ·simp (maxSteps:=1000000) [go_sem,Tryz.f189,e1,e2,e3,h1,h2]
   exact ret
def ziT:PV:=.opq (.func (.func 189) #[] #[])
theorem zaN(w:World):PredGrows Tryz.prog 189 #[] pD w:=by
 intro W x hx _
 have h:= @zhq ⟨fun _=>none⟩ x hx W ⟨frW W,fun _=>.prot⟩ [.int .i32 x] (by simp[zm,za,zi])
  (@GS.mk ⟨fun _=>none⟩ _ _ _ (fun b t h=>by cases h) (fun b b' t h=>by cases h) (fun b b' t h=>by cases h) (fun b h=>absurd rfl h) (fun b hb=>by simp[frW,Array.getElem?_eq_none hb]) (fun b arr h=>by cases h))
 refine h.mono ?_
 rintro e w' ⟨v,y,rs',g',rfl,⟨rfl,rfl⟩,hr,_,hA⟩
 simp only[za,zi]at hr
 subst hr
 exact⟨rfl,⟨hA.out.1,hA.out.2.1,hA.out.2.2,hA.mono,fun k hk=>(hA.frame k hk rfl).1⟩⟩
theorem zdj [Gi](r:List UInt8):CR Tryz.prog 188 [] [.p (.str r),.p ziT] [] (is (.p (.int .i64 (v8 r)))):=by
 refine uh fun w g vs hargs hG=>?_
 unfold ziT at hargs
 simp only[zm,za,zi]at hargs
 obtain⟨v,vs',rfl,rfl,v2,vs2,rfl,rfl,rfl⟩:=hargs
 refine(Tryz.strings_IndexFunc_grows 189 #[] (enters_of Tryz.func189 (by kernel_rfl) rfl) pD _ w (zaN w)).mono ?_
 rintro e w' ⟨rfl,hB⟩
 rw[ziz]
 exact⟨_,_,rfl,⟨rfl,rfl⟩,hB,fun g' _=>by simp only[za,zi]⟩
def Vm(s:List UInt8):AOp×Int×Bool:=
 if pfx s [27,91]=false then(⟨0,0,0,[]⟩,0,false)
 else if v8 (s.drop 2)<0∨16<v8 (s.drop 2)then(⟨0,0,0,[]⟩,0,false)
 else((Kl ((s.drop 2).takeWhile dg2) ((s.drop 2).getD ((s.drop 2).takeWhile dg2).length 0)).1,(((s.drop 2).takeWhile dg2).length+3:Nat),(Kl ((s.drop 2).takeWhile dg2) ((s.drop 2).getD ((s.drop 2).takeWhile dg2).length 0)).2)
theorem zc0 [Gi](hE:xm)(s:List UInt8)(hs:s.length≤100000):CR Tryz.prog 135 [] [.p (.str s)] [] (is (.tup [.p (opP (Vm s).1),.p (.int .i64 (Vm s).2.1),.p (.bool (Vm s).2.2)])):=by
 have cp:=Yk s [27,91]
 have ix:=zdj (s.drop 2)
 refine walk Tryz.func135 9 [] [7,100007] [] ?_
 unfold Vm
 cases c:pfx s [27,91]with
 |false=>
  rw[c]at cp
  simp (maxSteps:=1000000) [go_sem,Tryz.f135]
  refine zD cp ?_
  simp (maxSteps:=1000000) [go_sem]
  exact ret (hx:=by simp[go_sem,zg,leA,leT,leP])
 |true=>
  rw[c]at cp
  have e2:([27,91]:List UInt8).length=2:=rfl
  rw[if_pos rfl,e2]at cp
  rw[if_neg (by simp)]
  have hq:∀b∈(s.drop 2).takeWhile dg2,dg2 b=true:=fun b hb=>List.all_eq_true.1 List.all_takeWhile b hb
  have hr:(s.drop 2).length≤100000:=by rw[List.length_drop];omega
  generalize s.drop 2=r at*
  generalize hov:Kl (r.takeWhile dg2) (r.getD (r.takeWhile dg2).length 0)=ov
  simp (maxSteps:=1000000) [go_sem,Tryz.f135]
  refine zD cp ?_
  simp (maxSteps:=1000000) [go_sem]
  refine zD ix ?_ (ha':=by simp[go_sem,ziT])
  by_cases h:v8 r<0∨16<v8 r
  ·rw[if_pos h]
   rcases h with h|h
   ·simp (maxSteps:=1000000) [go_sem,h]
    exact ret (hx:=by simp[go_sem,zg,leA,leT,leP])
   ·have h':¬v8 r<0:=by omega
    simp (maxSteps:=1000000) [go_sem,h,h']
    exact ret (hx:=by simp[go_sem,zg,leA,leT,leP])
  ·rw[if_neg h]
   have hn:(r.takeWhile dg2).length<r.length∧v8 r=((r.takeWhile dg2).length:Int):=by
    unfold v8 at h⊢
    by_cases q:(r.takeWhile dg2).length<r.length
    ·rw[if_pos q];exact⟨q,rfl⟩
    ·rw[if_neg q]at h;exact absurd (.inl (by decide)) h
   obtain⟨hlt,hi⟩:=hn
   rw[hi]at h⊢
   have ec:cut r 0 ((r.takeWhile dg2).length:Int)=r.takeWhile dg2:=by
    have:r.take (r.takeWhile dg2).length=r.takeWhile dg2:=by
     have:=List.takeWhile_append_dropWhile (p:=dg2) (l:=r)
     conv=>lhs;rw[←this]
     rw[List.take_append_of_le_length (by simp)];simp
    simpa[cut]using this
   have rw2:=zgp hE (r.takeWhile dg2) (r.getD (r.takeWhile dg2).length 0) hq (by omega)
   rw[hov]at rw2
   have st:zB r (r.takeWhile dg2).length=((r.getD (r.takeWhile dg2).length 0).toNat:Int):=rfl
   generalize (r.takeWhile dg2)=q at*
   generalize r.getD q.length 0=x at*
   have w1:IntKind.i64.wrap ((q.length:Int)+3)=(q.length:Int)+3:=wrap64 (by omega) (by omega)
   have h1:¬(q.length:Int)<0:=by omega
   have h2:¬(16:Int)<q.length:=by omega
   obtain⟨⟨k,a,b,t⟩,ok⟩:=ov
   simp only[opP]at rw2
   have hle:q.length≤r.length:=by omega
   simp (maxSteps:=1000000) [go_sem,h1,h2,ec,hlt,hle,st]
   refine ym 190 rw2 ?_
   simp (maxSteps:=1000000) [go_sem,w1]
   exact ret (hx:=by simp[go_sem,zg,leA,leT,leP])
end
section
open Go.AM
theorem zi7 {q:List UInt8}(h:(qt q 59).2.2=false):(qt q 59).1=q:=by
 unfold qt at h⊢
 by_cases c:0≤Lib.indexByte q 59
 ·rw[if_pos c]at h;cases h
 ·rw[if_neg c]
theorem uc {a:List UInt8}(h:qR a=true):a≠ []:=by
 rintro rfl
 exact absurd h (by decide)
theorem Jq {a:List UInt8}(h:qR a=true):xh a=dgn a:=zeX (yq h).1 (uc h)
theorem ix4(x:UInt8):Lib.indexByte [67,68,65,66] x=if x=67 then 0 else if x=68 then 1 else if x=65 then 2 else if x=66 then 3 else -1:=by
 have e:∀b:UInt8,(b==x)=decide (x=b):=fun b=>by
  by_cases h:x=b
  ·rw[decide_eq_true h,beq_iff_eq];exact h.symm
  ·rw[decide_eq_false h,beq_eq_false_iff_ne];exact fun q=>h q.symm
 simp only[Lib.indexByte,e]
 by_cases h1:x=67
 ·simp[h1]
 ·by_cases h2:x=68
  ·simp[h2]
  ·by_cases h3:x=65
   ·simp[h3]
   ·by_cases h4:x=66
    ·simp[h4]
    ·simp[h1,h2,h3,h4]
theorem zeM(q:List UInt8)(x:UInt8):uz q x=if(Kl q x).2=true then some (Kl q x).1 else none:=by
 unfold uz Kl
 by_cases c72:x=72
 ·rw[if_pos c72,if_pos c72]
  simp only
  by_cases h:(qt q 59).2.2=true∧qR (qt q 59).1=true∧qR (qt q 59).2.1=true
  ·rw[if_pos h,Jq h.2.1,Jq h.2.2]
   have n1:=uc h.2.1
   have n2:=uc h.2.2
   unfold okV
   simp[h.1,h.2.1,h.2.2,n1,n2]
  ·rw[if_neg h]
   refine(if_neg (fun g=>h ?_)).symm
   unfold okV at g
   simp only[Bool.and_eq_true,Bool.or_eq_true,decide_eq_true_eq,Bool.not_eq_true',decide_eq_false_iff_not]at g
   exact⟨g.1.1.2,g.1.1.1.1.resolve_left g.1.2,g.1.1.1.2.resolve_left g.2⟩
 rw[if_neg c72,if_neg c72]
 by_cases c2:(qt q 59).2.2=true
 ·have e:((qt q 59).2.2 ||!okV (qt q 59).1)=true:=by rw[c2];rfl
  rw[if_pos c2,if_pos e]
  rfl
 have c2':(qt q 59).2.2=false:=by simpa using c2
 have ha:=zi7 c2'
 rw[if_neg c2,c2',ha,Bool.false_or]
 by_cases c3:¬(q=[]∨qR q=true)
 ·have e:(!okV q)=true:=by
   unfold okV
   have h1:¬q=[]:=fun h=>c3 (.inl h)
   have h2:qR q=false:=by
    cases hq:qR q with
    |false=>rfl
    |true=>exact absurd (.inr hq) c3
   rw[decide_eq_false h1,h2];rfl
  rw[if_pos c3,if_pos e]
  rfl
 have c3':okV q=true:=by
  unfold okV
  rcases Decidable.not_not.1 c3 with h|h
  ·rw[decide_eq_true h];rfl
  ·rw[h];simp
 rw[if_neg c3,c3',if_neg (show ¬(!true)=true by decide)]
 have hv:xh q=if q=[]then 1 else(dgn q:Int):=by
  rcases Decidable.not_not.1 c3 with h|h
  ·rw[if_pos h,h];rfl
  ·rw[if_neg (uc h),Jq h]
 rw[hv,ix4]
 by_cases c75:x=75
 ·rw[if_pos c75,if_pos c75]
  by_cases h:q=[]<;>simp[h]
 rw[if_neg c75,if_neg c75]
 by_cases c74:x=74
 ·rw[if_pos c74,if_pos c74]
  by_cases h:q=[50]<;>simp[h]
 rw[if_neg c74,if_neg c74]
 by_cases h49:q=[49]
 ·rw[if_pos h49];simp[h49]
 rw[if_neg h49]
 by_cases h1:x=67
 ·simp[h1,h49]
 by_cases h2:x=68
 ·simp[h2,h49]
 by_cases h3:x=65
 ·simp[h3,h49]
 by_cases h4:x=66
 ·simp[h4,h49]
 simp[h1,h2,h3,h4]
theorem ziS {q:List UInt8} {x:UInt8} {o:AOp}(h:uz q x=some o):o.k≠0:=by
 unfold uz at h
 by_cases c72:x=72
 ·rw[if_pos c72]at h
  by_cases g:(qt q 59).2.2=true∧qR (qt q 59).1=true∧qR (qt q 59).2.1=true
  ·rw[if_pos g]at h;injection h with h;subst h;simp
  ·rw[if_neg g]at h;cases h
 rw[if_neg c72]at h
 by_cases c2:(qt q 59).2.2=true
 ·rw[if_pos c2]at h;cases h
 rw[if_neg c2]at h
 by_cases c3:¬(q=[]∨qR q=true)
 ·rw[if_pos c3]at h;cases h
 rw[if_neg c3]at h
 by_cases c75:x=75
 ·rw[if_pos c75]at h
  by_cases g:q=[]
  ·rw[if_pos g]at h;injection h with h;subst h;simp
  ·rw[if_neg g]at h;cases h
 rw[if_neg c75]at h
 by_cases c74:x=74
 ·rw[if_pos c74]at h
  by_cases g:q=[50]
  ·rw[if_pos g]at h;injection h with h;subst h;simp
  ·rw[if_neg g]at h;cases h
 rw[if_neg c74]at h
 by_cases h49:q=[49]
 ·rw[if_pos h49]at h;cases h
 rw[if_neg h49]at h
 by_cases h1:x=67
 ·rw[if_pos h1]at h;injection h with h;subst h;simp
 rw[if_neg h1]at h
 by_cases h2:x=68
 ·rw[if_pos h2]at h;injection h with h;subst h;simp
 rw[if_neg h2]at h
 by_cases h3:x=65
 ·rw[if_pos h3]at h;injection h with h;subst h;simp
 rw[if_neg h3]at h
 by_cases h4:x=66
 ·rw[if_pos h4]at h;injection h with h;subst h;simp
 rw[if_neg h4]at h;cases h
theorem zfe(u:List UInt8)(h27:u.getD 0 0=27):((Vm u).2.2=true→(jn u).1.k≠0∧(Vm u).1=(jn u).1∧(Vm u).2.1=((jn u).2:Nat))∧((Vm u).2.2=false→(jn u).1.k=0):=by
 have N:∀e:AOp×Nat,e=qf→e.1.k=0:=fun e h=>by rw[h];rfl
 cases hp:pfx u [27,91]with
 |false=>
  have hv:Vm u=(⟨0,0,0,[]⟩,0,false):=by unfold Vm;rw[if_pos hp]
  have hl:jn u=qf:=by
   unfold jn
   by_cases c:u.length<3
   ·rw[if_pos c]
   ·rw[if_neg c,if_pos]
    intro h91
    have:pfx u [27,91]=true:=by
     match u,c,h27,h91 with
     |a::b::r,_,h1,h2=>
      have h1:a=27:=h1
      have h2:b=91:=(wF b 91).1 h2
      rw[h1,h2];simp[pfx]
    rw[this]at hp;cases hp
  rw[hv,hl]
  exact⟨fun h=>(by cases h),fun _=>rfl⟩
 |true=>
  obtain⟨r,rfl⟩:∃r,u=27::91::r:=by
   unfold pfx at hp
   simp only[Bool.and_eq_true,decide_eq_true_eq]at hp
   refine⟨u.drop 2,?_⟩
   have:=List.take_append_drop 2 u
   rw[show(2:Nat)=([27,91]:List UInt8).length from rfl,hp.2]at this
   exact this.symm
  rw[Yv,vT]
  unfold Vm
  rw[if_neg (by rw[hp];simp)]
  have hd:(27::91::r:List UInt8).drop 2=r:=rfl
  rw[hd]
  by_cases c:v8 r<0∨16<v8 r
  ·rw[if_pos c]
   refine⟨fun h=>(by cases h),fun _=>N _ ?_⟩
   unfold wq
   rw[if_neg]
   rintro⟨g1,g2⟩
   unfold v8 at c
   rw[if_pos g1]at c
   omega
  ·rw[if_neg c]
   have g:(r.takeWhile dg2).length<r.length∧(r.takeWhile dg2).length≤16:=by
    unfold v8 at c
    by_cases q:(r.takeWhile dg2).length<r.length
    ·rw[if_pos q]at c;exact⟨q,by omega⟩
    ·rw[if_neg q]at c;exact absurd (.inl (by decide)) c
   have hs:=zeM (r.takeWhile dg2) (r.getD (r.takeWhile dg2).length 0)
   unfold wq
   rw[if_pos g]
   cases hv:(Kl (r.takeWhile dg2) (r.getD (r.takeWhile dg2).length 0)).2 with
   |true=>
    rw[hv,if_pos rfl]at hs
    rw[hs]
    exact⟨fun _=>⟨ziS hs,rfl,rfl⟩,fun h=>by cases h⟩
   |false=>
    rw[hv,if_neg (by simp)]at hs
    rw[hs]
    exact⟨fun h=>(by cases h),fun _=>rfl⟩
end
end Go.Proofs.YtfjdbbpimklecaaGreatDoor
