/- A part of the proof of this seat's statements, by an abstract machine: what each operation does to values, and what the law's functions compute. Conditions: as each law says. -/
import Derived.Test.YtjefahhmkcfiiaaGreatN50
import Derived.Test.YtjefahhmkcfiiaaGreatRows
import Derived.Test.YtjefahhmkcfiiaaGreatN42
section
namespace Go.Proofs.YtjefahhmkcfiiaaGreat
open Go.AM
set_option maxHeartbeats 4000000
set_option maxRecDepth 10000
attribute [local irreducible] za
def ZI(r:Int):Int×Int:=
 if r=40 then(41,1)else if r=91 then(93,1)else if r=123 then(125,1)else if r=41 then(40, -1)else if r=93 then(91, -1)else if r=125 then(123, -1)else(0,0)
theorem zik [Gi](r:Int):CR Tryz.prog 107 [] [.p (.int .i32 r)] [] (is (.tup [.p (.int .i32 (ZI r).1),.p (.int .i64 (ZI r).2)])):=by
 refine walk Tryz.func107 5 [] [] [] ?_
 unfold ZI
 by_cases c1:r=40
 ·subst c1;simp (maxSteps:=1000000) [go_sem,Tryz.f107];exact ret
 by_cases c2:r=91
 ·subst c2;simp (maxSteps:=1000000) [go_sem,Tryz.f107];exact ret
 by_cases c3:r=123
 ·subst c3;simp (maxSteps:=1000000) [go_sem,Tryz.f107];exact ret
 by_cases c4:r=41
 ·subst c4;simp (maxSteps:=1000000) [go_sem,Tryz.f107];exact ret
 by_cases c5:r=93
 ·subst c5;simp (maxSteps:=1000000) [go_sem,Tryz.f107];exact ret
 by_cases c6:r=125
 ·subst c6;simp (maxSteps:=1000000) [go_sem,Tryz.f107];exact ret
 simp (maxSteps:=1000000) [go_sem,Tryz.f107,c1,c2,c3,c4,c5,c6]
 exact ret
def kl(x o:Int):List Int→Int→Nat→Option Nat
 | [],_,_=>none
 |y::ys,d,j=>if y=x then kl x o ys (d+1) (j+1)else if y=o then(if d=1 then some j else kl x o ys (d-1) (j+1))else kl x o ys d (j+1)
structure zlT(l W:List Int)(a:Nat)(st:Int):Prop where
 st1:st=1∨st= -1
 get:∀j,j<W.length→∃p:Nat,(a:Int)+st*j=p∧p<l.length∧l[p]?=W[j]?
 stop:¬(0≤(a:Int)+st*W.length∧(a:Int)+st*W.length<l.length)
def vd(l:List Int)(a:Nat)(st:Int):List Int:=if st=1 then l.drop a else(l.take (a+1)).reverse
theorem VJ(l:List Int)(a:Nat)(h:a<l.length)(st:Int)(hst:st=1∨st= -1):zlT l (vd l a st) a st:=by
 refine⟨hst,fun j hj=>?_,?_⟩
 ·unfold vd at hj⊢
  rcases hst with rfl|rfl
  ·rw[if_pos rfl]at hj⊢
   rw[List.length_drop]at hj
   exact⟨a+j,by omega,by omega,by rw[List.getElem?_drop]⟩
  ·rw[if_neg (by decide)]at hj⊢
   rw[List.length_reverse,List.length_take]at hj
   refine⟨a-j,by omega,by omega,?_⟩
   rw[List.getElem?_reverse (by rw[List.length_take];omega),List.length_take,List.getElem?_take_of_lt (by omega)]
   congr 1;omega
 ·unfold vd
  rcases hst with rfl|rfl
  ·rw[if_pos rfl,List.length_drop];omega
  ·rw[if_neg (by decide),List.length_reverse,List.length_take];omega
def jg (l : List Int) (a : Int) : Option Int :=
  if 0 ≤ a ∧ a < l.length then
    (let x := l.getD a.toNat 0
     if (ZI x).2 = 0 then none else (kl x (ZI x).1 (vd l a.toNat (ZI x).2) 0 0).map fun (j : Nat) => a + (ZI x).2 * (j : Int))
  else none
def Ws(r:Option Int):AV:=match r with
 |some p=>.tup [.p (.int .i64 p),.p (.bool true)]
 |none=>.tup [.p (.int .i64 0),.p (.bool false)]
theorem YR {x:Int}(h:(ZI x).2≠0):(ZI x).1≠x:=by
 unfold ZI at h⊢
 repeat' split
 all_goals first|omega|(exfalso;apply h;simp[*])
theorem zdV {x:Int}(h:(ZI x).2≠0):(ZI x).2=1∨(ZI x).2= -1:=by
 unfold ZI at h⊢
 repeat' split
 all_goals first|exact .inl rfl|exact .inr rfl|(exfalso;apply h;simp[*])
theorem ziG [Gi](e:PV) {x:Tx} {L:List (List Int)}(h:Wr x L)(a:Int):
  CR Tryz.prog 54 txT [.lp [0] 0,.p (.int .i64 a)] (txR e x L) (yU (txR e x L) (Ws (jg L.flatten a))):=by
 refine CR.yU ?_ (by decide) (by cases jg L.flatten a<;>rfl)
 refine walk Tryz.func54 11 [46,47,55] [] [] ?_
 obtain⟨V,hV⟩:∃V,V=Ws (jg L.flatten a):=⟨_,rfl⟩
 rw[←hV]
 have hln:L.flatten.length<2^31:=by rw[Zm];exact h.cl.sum
 have hR:=zho e h
 generalize L.flatten=l at hV hR hln
 by_cases c1:a<0
 ·have e1:V=.tup [.p (.int .i64 0),.p (.bool false)]:=by rw[hV,jg,if_neg (by omega)];rfl
  rw[e1]
  simp (maxSteps:=1000000) [go_sem,Tryz.f54]
  refine call QG hR ?_
  rintro _ _ ⟨rfl,rfl⟩
  simp (maxSteps:=1000000) [go_sem,c1]
  exact Qi
 by_cases c2:(l.length:Int)≤a
 ·have e1:V=.tup [.p (.int .i64 0),.p (.bool false)]:=by rw[hV,jg,if_neg (by omega)];rfl
  rw[e1]
  simp (maxSteps:=1000000) [go_sem,Tryz.f54]
  refine call QG hR ?_
  rintro _ _ ⟨rfl,rfl⟩
  simp (maxSteps:=1000000) [go_sem,c1,c2]
  exact Qi
 obtain⟨n,rfl⟩:∃n:Nat,a=n:=⟨a.toNat,by omega⟩
 have hn:n<l.length:=by omega
 obtain⟨y,hy⟩:∃y,l[n]=y:=⟨_,rfl⟩
 have em:elemAt (zB l) n=.int .i32 y:=by rw[ZF hn,hy]
 have hV2:V=Ws (if(ZI y).2=0 then none else(kl y (ZI y).1 (vd l n (ZI y).2) 0 0).map fun(j:Nat)=>(n:Int)+(ZI y).2*(j:Int)):=by
  rw[hV,jg,if_pos (by omega)]
  simp only[Int.toNat_natCast,List.getD_eq_getElem?_getD,List.getElem?_eq_getElem hn,hy,Option.getD_some]
 have hP:=zik y
 have hne:= @YR y
 have hst:= @zdV y
 generalize ZI y=pb at hV2 hP hne hst
 obtain⟨o,st⟩:=pb
 simp only at hV2 hne hst
 have g1:¬(n:Int)<0:=by omega
 have g2:¬l.length≤n:=by omega
 have g3:(n:Int)<l.length:=by omega
 by_cases c3:st=0
 ·have e1:V=.tup [.p (.int .i64 0),.p (.bool false)]:=by rw[hV2,if_pos c3];rfl
  rw[e1]
  subst c3
  simp (maxSteps:=1000000) [go_sem,Tryz.f54]
  refine call QG hR ?_
  rintro _ _ ⟨rfl,rfl⟩
  simp (maxSteps:=1000000) [go_sem,g1,g2,g3,em]
  refine zn hP ?_
  simp (maxSteps:=1000000) [go_sem]
  exact Qi
 ·rw[if_neg c3]at hV2
  have hW:=VJ l n hn st (hst c3)
  have hoy:=hne c3
  generalize vd l n st=W at hV2 hW
  simp (maxSteps:=1000000) [go_sem,Tryz.f54]
  refine call QG hR ?_
  rintro _ _ ⟨rfl,rfl⟩
  simp (maxSteps:=1000000) [go_sem,g1,g2,g3,em]
  refine zn hP ?_
  have hWl:W.length<2^32:=by
   refine Nat.lt_of_not_le (fun q=>?_)
   obtain⟨p,p1,p2,_⟩:=hW.get (2^32-1) (by omega)
   have:=hW.st1
   rcases this with rfl|rfl<;>omega
  simp (maxSteps:=1000000) [go_sem,c3]
  refine loop (fun r:Nat×Int=>r.1≤W.length∧(0≤r.2∧r.2≤r.1∧(1≤r.2∨r.1=0))∧V=Ws ((kl y o (W.drop r.1) r.2 r.1).map fun(j:Nat)=>(n:Int)+st*(j:Int))) (fun r=>[(9,.p (.int .i64 r.2)),(10,.p (.int .i64 ((n:Int)+st*(r.1:Nat))))]) (fun _=>[]) (fun r=>W.length-r.1) (0,0) ⟨Nat.zero_le _,by simp,by simpa using hV2⟩ (fun r hr=>?_) (by simp[go_sem,LeS,leV,leR,leA,leL,zj])
  obtain⟨j,d⟩:=r
  obtain⟨h1,h2,h3⟩:=hr
  simp only at h1 h2 h3
  by_cases c4:j<W.length
  ·obtain⟨p,p1,p2,p3⟩:=hW.get j c4
   obtain⟨z,hz⟩:∃z,W[j]=z:=⟨_,rfl⟩
   have hz2:l[p]=z:=by
    rw[List.getElem?_eq_getElem p2,List.getElem?_eq_getElem c4,hz]at p3
    injection p3
   have em2:elemAt (zB l) p=.int .i32 z:=by rw[ZF p2,hz2]
   have q0:(0:Int)≤p:=by omega
   have q1:(p:Int)<l.length:=by omega
   have w1:IntKind.i64.wrap (d+1)=d+1:=wrap64 (by omega) (by omega)
   have w2:IntKind.i64.wrap (d-1)=d-1:=wrap64 (by omega) (by omega)
   have p4:(n:Int)+st*((j+1:Nat):Int)=(p:Int)+st:=by
    rcases hW.st1 with rfl|rfl<;>omega
   have w3:IntKind.i64.wrap ((p:Int)+st)=(p:Int)+st:=by
    have:=hW.st1
    exact wrap64 (by omega) (by omega)
   rw[List.drop_eq_getElem_cons c4,hz,kl]at h3
   rw[p1]
   by_cases c5:z=y
   ·rw[if_pos c5]at h3
    simp (maxSteps:=1000000) [go_sem,q0,q1,em,em2,g3,c5,w1,w3]
    exact next (j+1,d+1) ⟨c4,⟨by show 0≤d+1;omega,by show d+1≤((j+1:Nat):Int);omega,.inl (by show 1≤d+1;omega)⟩,h3⟩ (by show W.length- (j+1)<W.length-j;omega) (by simp only[p4];simp[go_sem,LeS,leV,leR,leA,leL,zj])
   ·rw[if_neg c5]at h3
    have hj0:¬j=0:=fun e=>by
     subst e
     have:p=n:=by omega
     subst this
     exact c5 (by rw[←hz2,hy])
    have hd1:1≤d:=h2.2.2.resolve_right hj0
    by_cases c6:z=o
    ·rw[if_pos c6]at h3
     by_cases c7:d=1
     ·rw[if_pos c7]at h3
      have e1:V=.tup [.p (.int .i64 p),.p (.bool true)]:=by rw[h3];simp only[Option.map_some,Ws,p1]
      rw[e1]
      subst c7
      have w0:IntKind.i64.wrap 0=0:=wrap64 (by omega) (by omega)
      simp (maxSteps:=1000000) [go_sem,q0,q1,em,em2,g3,c6,hoy,w0]
      exact Qi
     ·rw[if_neg c7]at h3
      have c9:¬d-1=0:=by omega
      simp (maxSteps:=1000000) [go_sem,q0,q1,em,em2,g3,c6,hoy,w2,w3,c9]
      exact next (j+1,d-1) ⟨c4,⟨by show 0≤d-1;omega,by show d-1≤((j+1:Nat):Int);omega,.inl (by show 1≤d-1;omega)⟩,h3⟩ (by show W.length- (j+1)<W.length-j;omega) (by simp only[p4];simp[go_sem,LeS,leV,leR,leA,leL,zj])
    ·rw[if_neg c6]at h3
     simp (maxSteps:=1000000) [go_sem,q0,q1,em,em2,g3,c5,c6,w3]
     exact next (j+1,d) ⟨c4,⟨h2.1,by show d≤((j+1:Nat):Int);omega,.inl (h2.2.2.resolve_right hj0)⟩,h3⟩ (by show W.length- (j+1)<W.length-j;omega) (by simp only[p4];simp[go_sem,LeS,leV,leR,leA,leL,zj])
  ·have ej:j=W.length:=by omega
   have e1:V=.tup [.p (.int .i64 0),.p (.bool false)]:=by rw[h3,List.drop_eq_nil_of_le (by omega)];rfl
   have hs:=hW.stop
   rw[←ej]at hs
   rw[e1]
   obtain⟨q,hq⟩:∃q,q=(n:Int)+st*j:=⟨_,rfl⟩
   rw[←hq]at hs⊢
   by_cases c5:0≤q
   ·have c6:¬q<l.length:=by omega
    simp (maxSteps:=1000000) [go_sem,c5,c6]
    exact Qi
   ·simp (maxSteps:=1000000) [go_sem,c5]
    exact Qi
abbrev sgn:List UInt8:=[40,91,123,41,93,125]
theorem ziC {k:Nat}(h:k<6):0≤Qj sgn k∧Qj sgn k<256∧ZI (Qj sgn k)=(Qj sgn ((k+3)%6),if k≤2 then 1 else -1):=by
 have:k=0∨k=1∨k=2∨k=3∨k=4∨k=5:=by omega
 rcases this with rfl|rfl|rfl|rfl|rfl|rfl<;>exact⟨by decide,by decide,rfl⟩
theorem zms {x:Int}(h:∀k,k<6→x≠Qj sgn k):(ZI x).2=0:=by
 have h0:=h 0 (by decide);have h1:=h 1 (by decide);have h2:=h 2 (by decide);have h3:=h 3 (by decide);have h4:=h 4 (by decide);have h5:=h 5 (by decide)
 have e0:Qj sgn 0=40:=rfl
 have e1:Qj sgn 1=91:=rfl
 have e2:Qj sgn 2=123:=rfl
 have e3:Qj sgn 3=41:=rfl
 have e4:Qj sgn 4=93:=rfl
 have e5:Qj sgn 5=125:=rfl
 unfold ZI
 rw[if_neg (by omega),if_neg (by omega),if_neg (by omega),if_neg (by omega),if_neg (by omega),if_neg (by omega)]
theorem zg7 [Gi](l:List Int)(a:Int)(hn:l.length<2^31):CR Tryz.prog 55 [] [.p (zh l),.p (.int .i64 a)] [] (is (Ws (jg l a))):=by
 refine walk Tryz.func55 12 [] [5,13,15] [] ?_
 obtain⟨V,hV⟩:∃V,V=Ws (jg l a):=⟨_,rfl⟩
 rw[←hV]
 simp (maxSteps:=1000000) [go_sem,Tryz.f55]
 by_cases c1:a<0
 ·have e1:V=.tup [.p (.int .i64 0),.p (.bool false)]:=by rw[hV,jg,if_neg (by omega)];rfl
  rw[e1]
  refine loop (fun _:Unit=>True) (fun _=>[]) (fun _=>[]) (fun _=>0) () trivial (fun _ _=>?_)
  have c1':¬0≤a:=by omega
  simp (maxSteps:=1000000) [go_sem,c1']
  exact ret
 by_cases c2:(l.length:Int)≤a
 ·have e1:V=.tup [.p (.int .i64 0),.p (.bool false)]:=by rw[hV,jg,if_neg (by omega)];rfl
  rw[e1]
  refine loop (fun _:Unit=>True) (fun _=>[]) (fun _=>[]) (fun _=>0) () trivial (fun _ _=>?_)
  have c1':0≤a:=by omega
  have c2':¬a<l.length:=by omega
  simp (maxSteps:=1000000) [go_sem,c1',c2']
  exact ret
 obtain⟨n,rfl⟩:∃n:Nat,a=n:=⟨a.toNat,by omega⟩
 have hnl:n<l.length:=by omega
 obtain⟨y,hy⟩:∃y,l[n]=y:=⟨_,rfl⟩
 have em:elemAt (zB l) n=.int .i32 y:=by rw[ZF hnl,hy]
 have g0:(0:Int)≤n:=by omega
 have g3:(n:Int)<l.length:=by omega
 have hV2:V=Ws (if(ZI y).2=0 then none else(kl y (ZI y).1 (vd l n (ZI y).2) 0 0).map fun(j:Nat)=>(n:Int)+(ZI y).2*(j:Int)):=by
  rw[hV,jg,if_pos (by omega)]
  simp only[Int.toNat_natCast,List.getD_eq_getElem?_getD,List.getElem?_eq_getElem hnl,hy,Option.getD_some]
 refine loop (fun k:Nat=>k≤6∧((∀i,i<k→y≠Qj sgn i)∨V=.tup [.p (.int .i64 0),.p (.bool false)])) (fun k=>[(7,.p (.int .i64 (k:Nat))),(8,.zZ),(9,.zZ),(10,.zZ),(11,.zZ)]) (fun _=>[]) (fun k=>6-k) 0 ⟨by omega,.inl fun i hi=>by omega⟩ (fun k hk=>?_)
 obtain⟨h1,h2⟩:=hk
 by_cases c3:k<6
 ·have c3':(k:Int)<6:=by omega
  obtain⟨s1,s2,s3⟩:=ziC c3
  obtain⟨t1,t2,_⟩:=ziC (k:=(k+3)%6) (by omega)
  have w1:IntKind.i64.wrap ((k:Int)+1)=((k+1:Nat):Int):=zP (by omega)
  have w4:IntKind.i32.wrap (Qj sgn k)=Qj sgn k:=ki (by omega)
  have w5:IntKind.i32.wrap (Qj sgn ((k+3)%6))=Qj sgn ((k+3)%6):=ki (by omega)
  by_cases c4:y=Qj sgn k
  ·obtain⟨st,hst⟩:∃st:Int,st=if k≤2 then 1 else -1:=⟨_,rfl⟩
   have hst1:st=1∨st= -1:=by rw[hst];split<;>simp
   have hne:Qj sgn ((k+3)%6)≠y:=fun e=>by
    have:= @YR y
    rw[c4,s3]at this
    exact this (by simp only;split<;>decide) (by rw[e,c4])
   rw[c4,s3,←hst]at hV2
   simp only at hV2
   rw[if_neg (by omega),←c4]at hV2
   rw[←c4]at w4
   have hW:=VJ l n hnl st hst1
   generalize vd l n st=W at hV2 hW
   have hWl:W.length<2^32:=by
    refine Nat.lt_of_not_le (fun q=>?_)
    obtain⟨p,p1,p2,_⟩:=hW.get (2^32-1) (by omega)
    rcases hst1 with rfl|rfl<;>omega
   have w6:IntKind.i64.wrap ((k:Int)+3)=((k+3:Nat):Int):=by rw[wrap64 (by omega) (by omega)];omega
   have w7:((k:Int)+3).tmod 6=(((k+3)%6:Nat):Int):=by rw[Int.tmod_eq_emod_of_nonneg (by omega)];omega
   have hmod:(k+3)%6<6:=Nat.mod_lt _ (by decide)
   obtain⟨m,hm⟩:∃m,m=(k+3)%6:=⟨_,rfl⟩
   rw[←hm]at w5 w7 hmod hV2 hne
   generalize hso:Qj sgn m=o at hV2 w5 hne
   have two:(st=1∧¬(2:Int)<k∧¬2<k)∨(st= -1∧(2:Int)<k∧2<k):=by
    by_cases c5:k≤2
    ·exact .inl ⟨by rw[hst,if_pos c5],by omega,by omega⟩
    ·exact .inr ⟨by rw[hst,if_neg c5],by omega,by omega⟩
   rcases two with ⟨est,c6,c6'⟩|⟨est,c6,c6'⟩
   all_goals
    simp (maxSteps:=1000000) [go_sem,c3',g0,g3,em,←c4,w4,c6]
    refine loop (fun r:Nat×Int×Int=>r.1≤W.length∧(0≤r.2.1∧r.2.1≤r.1∧0≤r.2.2∧r.2.2≤r.1∧(r.2.2<r.2.1∨r.1=0∧r.2.2=r.2.1))∧V=Ws ((kl y o (W.drop r.1) (r.2.1-r.2.2) r.1).map fun(j:Nat)=>(n:Int)+st*(j:Int))) (fun r=>[(8,.p (.int .i64 st)),(9,.p (.int .i64 r.2.1)),(10,.p (.int .i64 r.2.2)),(11,.p (.int .i64 ((n:Int)+st*(r.1:Nat))))]) (fun _=>[]) (fun r=>W.length-r.1) (0,0,0) ⟨Nat.zero_le _,by simp,by simpa using hV2⟩ (fun r hr=>?_) (by simp[go_sem,LeS,leV,leR,leA,est])
    obtain⟨j,u,v⟩:=r
    obtain⟨h3,h4,h5⟩:=hr
    simp only at h3 h4 h5
    by_cases c7:j<W.length
    ·obtain⟨p,p1,p2,p3⟩:=hW.get j c7
     obtain⟨z,hz⟩:∃z,W[j]=z:=⟨_,rfl⟩
     have hz2:l[p]=z:=by
      rw[List.getElem?_eq_getElem p2,List.getElem?_eq_getElem c7,hz]at p3
      injection p3
     have em2:elemAt (zB l) p=.int .i32 z:=by rw[ZF p2,hz2]
     have q0:(0:Int)≤p:=by omega
     have q1:(p:Int)<l.length:=by omega
     have q2:(m:Int)<6:=by omega
     have u1:IntKind.i64.wrap (u+1)=u+1:=wrap64 (by omega) (by omega)
     have u2:IntKind.i64.wrap (v+1)=v+1:=wrap64 (by omega) (by omega)
     have p4:(n:Int)+st*((j+1:Nat):Int)=(p:Int)+st:=by
      rcases hst1 with rfl|rfl<;>omega
     have u3:IntKind.i64.wrap ((p:Int)+st)=(p:Int)+st:=wrap64 (by omega) (by omega)
     rw[List.drop_eq_getElem_cons c7,hz,kl]at h5
     rw[p1]
     by_cases c8:z=y
     ·have c9:¬y=o:=fun e=>hne e.symm
      have d1:¬u+1=v:=by omega
      rw[if_pos c8,show u-v+1=u+1-v by omega]at h5
      simp (maxSteps:=1000000) [go_sem,q0,q1,em2,←c4,w4,w6,w7,c3',q2,hso,w5,c8,c9,u1,u3,d1]
      exact next (j+1,u+1,v) ⟨c7,⟨by show 0≤u+1;omega,by show u+1≤((j+1:Nat):Int);omega,by show 0≤v;omega,by show v≤((j+1:Nat):Int);omega,.inl (by show v<u+1;omega)⟩,h5⟩ (by show W.length- (j+1)<W.length-j;omega) (by simp only[p4];simp[go_sem,LeS,leV,leR,leA,est])
     ·rw[if_neg c8]at h5
      have hj0:¬j=0:=fun e=>by
       subst e
       have:p=n:=by omega
       subst this
       exact c8 (by rw[←hz2,hy])
      have hd1:v<u:=by omega
      by_cases c9:z=o
      ·rw[if_pos c9]at h5
       by_cases d1:u-v=1
       ·rw[if_pos d1]at h5
        have e1:V=.tup [.p (.int .i64 p),.p (.bool true)]:=by rw[h5];simp only[Option.map_some,Ws,p1]
        have d2:u=v+1:=by omega
        rw[e1]
        simp (maxSteps:=1000000) [go_sem,q0,q1,em2,←c4,w4,w6,w7,c3',q2,hso,w5,c9,hne,u2,d2]
        exact ret
       ·rw[if_neg d1,show u-v-1=u- (v+1) by omega]at h5
        have d2:¬u=v+1:=by omega
        simp (maxSteps:=1000000) [go_sem,q0,q1,em2,←c4,w4,w6,w7,c3',q2,hso,w5,c9,hne,u2,u3,d2]
        exact next (j+1,u,v+1) ⟨c7,⟨by show 0≤u;omega,by show u≤((j+1:Nat):Int);omega,by show 0≤v+1;omega,by show v+1≤((j+1:Nat):Int);omega,.inl (by show v+1<u;omega)⟩,h5⟩ (by show W.length- (j+1)<W.length-j;omega) (by simp only[p4];simp[go_sem,LeS,leV,leR,leA,est])
      ·rw[if_neg c9]at h5
       have d2:¬u=v:=by omega
       simp (maxSteps:=1000000) [go_sem,q0,q1,em2,←c4,w4,w6,w7,c3',q2,hso,w5,c8,c9,u3,d2]
       exact next (j+1,u,v) ⟨c7,⟨by show 0≤u;omega,by show u≤((j+1:Nat):Int);omega,by show 0≤v;omega,by show v≤((j+1:Nat):Int);omega,.inl hd1⟩,h5⟩ (by show W.length- (j+1)<W.length-j;omega) (by simp only[p4];simp[go_sem,LeS,leV,leR,leA,est])
    ·have ej:j=W.length:=by omega
     have e1:V=.tup [.p (.int .i64 0),.p (.bool false)]:=by rw[h5,List.drop_eq_nil_of_le (by omega)];rfl
     have hs:=hW.stop
     rw[←ej]at hs
     obtain⟨q,hq⟩:∃q,q=(n:Int)+st*j:=⟨_,rfl⟩
     rw[←hq]at hs⊢
     by_cases d5:0≤q
     ·have d6:¬q<l.length:=by omega
      simp (maxSteps:=1000000) [go_sem,d5,d6,w1]
      exact next (k+1) ⟨by omega,.inr e1⟩ (by omega)
     ·simp (maxSteps:=1000000) [go_sem,d5,w1]
      exact next (k+1) ⟨by omega,.inr e1⟩ (by omega)
  ·simp (maxSteps:=1000000) [go_sem,c3',g0,g3,em,w4,c4,w1]
   exact next (k+1) ⟨by omega,h2.imp_left fun h2 i hi=>by
    by_cases e:i=k
    ·subst e;exact c4
    ·exact h2 i (by omega)⟩ (by omega)
 ·have c3':¬(k:Int)<6:=by omega
  have e1:V=.tup [.p (.int .i64 0),.p (.bool false)]:=by
   rcases h2 with h2|h2
   ·rw[hV2,if_pos (zms (fun i hi=>h2 i (by omega)))];rfl
   ·exact h2
  rw[e1]
  simp (maxSteps:=1000000) [go_sem,c3']
  exact ret
end Go.Proofs.YtjefahhmkcfiiaaGreat
end
section
namespace Go.Proofs.YtjefahhmkcfiiaaGreat
open Go.AM
set_option maxHeartbeats 4000000
set_option maxRecDepth 10000
attribute [local irreducible] za
def stp(x o y:Int):Int:=if y=x then 1 else if y=o then -1 else 0
def dpt(x o:Int):List Int→Nat→Int
 |_,0=>0
 | [],_+1=>0
 |y::W,i+1=>stp x o y+dpt x o W i
theorem vK(x o:Int):∀(W:List Int) (i:Nat) (h:i<W.length),dpt x o W (i+1)=dpt x o W i+stp x o W[i]
 | [],i,h=>by simp at h
 |y::W,0,_=>by simp[dpt]
 |y::W,i+1,h=>by
  rw[dpt,dpt,vK x o W i (by simpa using h),List.getElem_cons_succ];omega
theorem uz {x o:Int}(hxo:o≠x):∀(W:List Int) (d:Int) (j0 r:Nat),kl x o W d j0=some r→∃j,∃h:j<W.length,r=j0+j∧W[j]=o∧d+dpt x o W (j+1)=0∧∀i (h:i<W.length),i<j→W[i]=o→d+dpt x o W (i+1)≠0
 | [],_,_,_,h=>by simp[kl]at h
 |y::W,d,j0,r,h=>by
  rw[kl]at h
  by_cases c1:y=x
  ·rw[if_pos c1]at h
   obtain⟨j,hj,e1,e2,e3,e4⟩:=uz hxo W _ _ _ h
   refine⟨j+1,by simpa using hj,by omega,by simpa using e2,?_,fun i hi hij hio=>?_⟩
   ·rw[dpt,stp,if_pos c1];omega
   ·cases i with
    |zero=>simp only[List.getElem_cons_zero]at hio;exact absurd (hio.symm.trans c1) hxo
    |succ i=>
     have:=e4 i (by simpa using hi) (by omega) (by simpa using hio)
     rw[dpt,stp,if_pos c1];omega
  ·rw[if_neg c1]at h
   by_cases c2:y=o
   ·rw[if_pos c2]at h
    by_cases c3:d=1
    ·rw[if_pos c3]at h
     injection h with h
     refine⟨0,by simp,by omega,by simpa using c2,?_,fun i _ hi=>by omega⟩
     rw[dpt,dpt,stp,if_neg c1,if_pos c2];omega
    ·rw[if_neg c3]at h
     obtain⟨j,hj,e1,e2,e3,e4⟩:=uz hxo W _ _ _ h
     refine⟨j+1,by simpa using hj,by omega,by simpa using e2,?_,fun i hi hij hio=>?_⟩
     ·rw[dpt,stp,if_neg c1,if_pos c2];omega
     ·cases i with
      |zero=>rw[dpt,dpt,stp,if_neg c1,if_pos c2];omega
      |succ i=>
       have:=e4 i (by simpa using hi) (by omega) (by simpa using hio)
       rw[dpt,stp,if_neg c1,if_pos c2];omega
   ·rw[if_neg c2]at h
    obtain⟨j,hj,e1,e2,e3,e4⟩:=uz hxo W _ _ _ h
    refine⟨j+1,by simpa using hj,by omega,by simpa using e2,?_,fun i hi hij hio=>?_⟩
    ·rw[dpt,stp,if_neg c1,if_neg c2];omega
    ·cases i with
     |zero=>simp only[List.getElem_cons_zero]at hio;exact absurd hio c2
     |succ i=>
      have:=e4 i (by simpa using hi) (by omega) (by simpa using hio)
      rw[dpt,stp,if_neg c1,if_neg c2];omega
theorem KR {x o:Int}(hxo:o≠x):∀(W:List Int) (d:Int) (j0 j:Nat) (h:j<W.length),W[j]=o→d+dpt x o W (j+1)=0→(∀i (h:i<W.length),i<j→W[i]=o→d+dpt x o W (i+1)≠0)→kl x o W d j0=some (j0+j)
 | [],_,_,j,h,_,_,_=>by simp at h
 |y::W,d,j0,0,_,h1,h2,_=>by
  simp only[List.getElem_cons_zero]at h1
  rw[dpt,dpt,stp,if_neg (fun e=>hxo (h1.symm.trans e)),if_pos h1]at h2
  rw[kl,if_neg (fun e=>hxo (h1.symm.trans e)),if_pos h1,if_pos (by omega)];rfl
 |y::W,d,j0,j+1,h,h1,h2,h3=>by
  have hj:j<W.length:=by simpa using h
  have h1':W[j]=o:=by simpa using h1
  rw[kl]
  rw[dpt]at h2
  have h0:=h3 0 (by simp) (by omega)
  have h3':∀i (hi:i<W.length),i<j→W[i]=o→d+stp x o y+dpt x o W (i+1)≠0:=fun i hi hij hio=>by
   have:=h3 (i+1) (by simpa using hi) (by omega) (by simpa using hio)
   rw[dpt]at this;omega
  by_cases c1:y=x
  ·have e:stp x o y=1:=if_pos c1
   rw[e]at h2 h3'
   rw[if_pos c1,KR hxo W (d+1) (j0+1) j hj h1' (by omega) h3'];congr 1;omega
  ·by_cases c2:y=o
   ·have e:stp x o y= -1:=by unfold stp;rw[if_neg c1,if_pos c2]
    have:=h0 (by simpa using c2)
    rw[dpt,dpt,e]at this
    rw[e]at h2 h3'
    rw[if_neg c1,if_pos c2,if_neg (by omega),KR hxo W (d-1) (j0+1) j hj h1' (by omega) (fun i hi hij hio=>by have:=h3' i hi hij hio;omega)];congr 1;omega
   ·have e:stp x o y=0:=by unfold stp;rw[if_neg c1,if_neg c2]
    rw[e]at h2 h3'
    rw[if_neg c1,if_neg c2,KR hxo W d (j0+1) j hj h1' (by omega) (fun i hi hij hio=>by have:=h3' i hi hij hio;omega)];congr 1;omega
theorem ze8 {x:Int}(h:(ZI x).2≠0):ZI (ZI x).1=(x, -(ZI x).2):=by
 unfold ZI at h
 by_cases c1:x=40
 ·subst c1;rfl
 by_cases c2:x=91
 ·subst c2;rfl
 by_cases c3:x=123
 ·subst c3;rfl
 by_cases c4:x=41
 ·subst c4;rfl
 by_cases c5:x=93
 ·subst c5;rfl
 by_cases c6:x=125
 ·subst c6;rfl
 rw[if_neg c1,if_neg c2,if_neg c3,if_neg c4,if_neg c5,if_neg c6]at h
 exact absurd rfl h
theorem XC {l:List Int} {a:Nat}(h:a<l.length) {st:Int}(hst:st=1∨st= -1):(vd l a st).length=if st=1 then l.length-a else a+1:=by
 unfold vd
 rcases hst with rfl|rfl
 ·rw[if_pos rfl,if_pos rfl,List.length_drop]
 ·rw[if_neg (by decide),if_neg (by decide),List.length_reverse,List.length_take];omega
theorem zd6 {l:List Int} {a b:Int}(h:jg l a=some b):jg l b=some a:=by
 unfold jg at h
 split at h
 ·rename_i ha
  obtain⟨n,rfl⟩:∃n:Nat,a=n:=⟨a.toNat,by omega⟩
  have hn:n<l.length:=by omega
  simp only[Int.toNat_natCast,List.getD_eq_getElem?_getD,List.getElem?_eq_getElem hn,Option.getD_some]at h
  obtain⟨x,hx⟩:∃x,l[n]=x:=⟨_,rfl⟩
  rw[hx]at h
  have hne:= @YR x
  have hst:= @zdV x
  have hbk:= @ze8 x
  generalize ZI x=pb at h hne hst hbk
  obtain⟨o,st⟩:=pb
  simp only at h hne hst hbk
  by_cases c0:st=0
  ·rw[if_pos c0]at h;cases h
  rw[if_neg c0]at h
  have hxo:=hne c0
  have hst1:=hst c0
  have hpo:=hbk c0
  have hW:=VJ l n hn st hst1
  have hWl:=XC hn hst1
  obtain⟨W,hWd⟩:∃W,W=vd l n st:=⟨_,rfl⟩
  rw[←hWd]at h hW hWl
  cases hs:kl x o W 0 0 with
  |none=>rw[hs]at h;cases h
  |some r=>
   rw[hs]at h
   simp only[Option.map_some,Option.some.injEq]at h
   obtain⟨j,hj,e1,e2,e3,e4⟩:=uz hxo W 0 0 r hs
   have er:r=j:=by omega
   subst er
   obtain⟨p,p1,p2,p3⟩:=hW.get r hj
   rw[List.getElem?_eq_getElem p2,List.getElem?_eq_getElem hj,e2]at p3
   have p4:l[p]=o:=by injection p3
   have hbp:b=p:=by omega
   subst hbp
   have hst2: -st=1∨ -st= -1:=by omega
   have hW2:=VJ l p p2 (-st) hst2
   have hW2l:=XC p2 hst2
   obtain⟨W',hWd'⟩:∃W',W'=vd l p (-st):=⟨_,rfl⟩
   rw[←hWd']at hW2 hW2l
   have hlen:r<W'.length:=by
    rw[hW2l]
    rcases hst1 with q|q
    ·subst q;rw[if_neg (by decide)];omega
    ·subst q;rw[if_pos (by decide)];omega
   -- what is looked at is the same, from the other end
   have hrev:∀t (h1:t<W'.length) (h2:r-t<W.length),t≤r→W'[t]=W[r-t]:=fun t h1 h2 ht=>by
    obtain⟨q,q1,q2,q3⟩:=hW2.get t h1
    obtain⟨q',q1',q2',q3'⟩:=hW.get (r-t) h2
    have:q=q':=by
     rcases hst1 with e|e
     ·subst e;omega
     ·subst e;omega
    subst this
    rw[List.getElem?_eq_getElem h1]at q3
    rw[List.getElem?_eq_getElem h2]at q3'
    rw[q3]at q3'
    injection q3'
   have hneg:∀z,stp o x z= -stp x o z:=fun z=>by
    unfold stp
    by_cases c1:z=x
    ·rw[if_neg (fun e=>hxo (e.symm.trans c1)),if_pos c1,if_pos c1]
    ·by_cases c2:z=o
     ·rw[if_pos c2,if_neg c1,if_pos c2];rfl
     ·rw[if_neg c2,if_neg c1,if_neg c1,if_neg c2];rfl
   have hd:∀i,i≤r+1→dpt o x W' i=dpt x o W (r+1-i):=by
    intro i
    induction i with
    |zero=>intro _;rw[Nat.sub_zero];rw[Int.zero_add]at e3;rw[e3];cases W'<;>rfl
    |succ i ih=>
     intro hi
     rw[vK o x W' i (by omega),ih (by omega),hneg,hrev i (by omega) (by omega) (by omega)]
     have e:r+1-i=(r-i)+1:=by omega
     have e':r+1- (i+1)=r-i:=by omega
     rw[e,e',vK x o W (r-i) (by omega)];omega
   have hW0:∃h0:0<W.length,W[0]=x:=by
    obtain⟨q,q1,q2,q3⟩:=hW.get 0 (by omega)
    have:q=n:=by omega
    subst this
    rw[List.getElem?_eq_getElem q2,List.getElem?_eq_getElem (by omega),hx]at q3
    injection q3 with q3
    exact⟨by omega,q3.symm⟩
   obtain⟨h00,hW0⟩:=hW0
   have hpos:∀i,1≤i→i≤r→1≤dpt x o W i:=by
    intro i
    induction i with
    |zero=>intro h;omega
    |succ i ih=>
     intro _ hi
     by_cases c:i=0
     ·subst c
      rw[vK x o W 0 h00,hW0]
      have:dpt x o W 0=0:=by cases W<;>rfl
      rw[this,stp,if_pos rfl];omega
     ·have h1:=ih (by omega) (by omega)
      have h2:=vK x o W i (by omega)
      have h3:=e4 i (by omega) (by omega)
      rw[h2]at h3⊢
      by_cases c2:W[i]'(by omega)=o
      ·have:=h3 c2
       have hs1:stp x o (W[i]'(by omega))= -1:=by rw[c2,stp,if_neg hxo,if_pos rfl]
       rw[hs1]at this⊢;omega
      ·have hs1:0≤stp x o (W[i]'(by omega)):=by
        unfold stp
        split
        ·decide
        ·first|decide|(rw[if_neg c2];decide)
       omega
   have hres:kl o x W' 0 0=some r:=by
    have:=KR (x:=o) (o:=x) (fun e=>hxo e.symm) W' 0 0 r hlen (by rw[hrev r hlen (by omega) (Nat.le_refl _)];simp only[Nat.sub_self];exact hW0) (by
     rw[hd (r+1) (Nat.le_refl _),Nat.sub_self];cases W<;>rfl) (fun i hi hir _=>by
     rw[hd (i+1) (by omega)]
     have:=hpos (r+1- (i+1)) (by omega) (by omega)
     omega)
    rw[this];congr 1;omega
   unfold jg
   rw[if_pos (by omega)]
   simp only[Int.toNat_natCast,List.getD_eq_getElem?_getD,List.getElem?_eq_getElem p2,Option.getD_some,p4,hpo]
   rw[if_neg (by omega),←hWd',hres]
   simp only[Option.map_some,Option.some.injEq]
   rcases hst1 with e|e
   ·subst e;omega
   ·subst e;omega
 ·cases h
theorem zeT [Gi](s:List Int)(a:Int)(hs:∀x∈s,zL x):CR Tryz.prog 12 [] [.p (zh s),.p (.int .i64 a)] [] (is (.p (.bool true))):=by
 refine walk Tryz.func12 14 [] [] [] ?_
 simp (maxSteps:=1000000) [go_sem,Tryz.f12]
 refine zn yy ?_
 simp (maxSteps:=1000000) [go_sem]
 refine zn (uE s 60 (by decide)) ?_
 have hl:(s.take 60).length≤60:=by rw[List.length_take];omega
 have hr:∀x∈s.take 60,zL x:=fun x hx=>hs x (List.mem_of_mem_take hx)
 generalize s.take 60=l at hl hr
 simp (maxSteps:=1000000) [go_sem]
 refine zn (uF za kh l (by omega) hr) ?_
 simp (maxSteps:=1000000) [go_sem]
 refine call [] jJ ?_
 rintro _ _ ⟨rfl,e,rfl,hT⟩
 have hnew:=Vw hT l (by omega) hr
 have hln:=lnC l (by omega) hr
 generalize Zu za l=t at hnew hln
 generalize qR za t=L at hnew hln
 simp (maxSteps:=1000000) [go_sem]
 refine call [] hnew ?_
 rintro _ _ ⟨X,hX,_,rfl,rfl⟩
 have hm:=fun b=>ziG e hX b
 have hd:=zg7 t a hln.n
 rw[hln.flat]at hm
 have hm1:=hm a
 simp (maxSteps:=1000000) [go_sem]
 cases hv:jg t a with
 |none=>
  rw[hv]at hm1 hd
  refine call (xm 22) hm1 ?_
  rintro _ _ ⟨rfl,rfl⟩
  simp (maxSteps:=1000000) [go_sem,Ws]
  refine zn hd ?_
  simp (maxSteps:=1000000) [go_sem,Ws]
  refine zn Q8 ?_
  simp (maxSteps:=1000000) [go_sem]
  exact ret
 |some b=>
  rw[hv]at hm1 hd
  have hm2:=hm b
  rw[zd6 hv]at hm2
  refine call (xm 22) hm1 ?_
  rintro _ _ ⟨rfl,rfl⟩
  simp (maxSteps:=1000000) [go_sem,Ws]
  refine zn hd ?_
  simp (maxSteps:=1000000) [go_sem,Ws]
  refine call (xm 22) hm2 ?_
  rintro _ _ ⟨rfl,rfl⟩
  simp (maxSteps:=1000000) [go_sem,Ws]
  refine zn Q8 ?_
  simp (maxSteps:=1000000) [go_sem]
  exact ret
end Go.Proofs.YtjefahhmkcfiiaaGreat
end
