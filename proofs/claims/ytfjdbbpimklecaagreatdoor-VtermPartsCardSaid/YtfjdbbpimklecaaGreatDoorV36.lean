/- A part of this seat's proofs, by an abstract machine. Conditions: each law's. -/
import Derived.Test.YtfjdbbpimklecaaGreatDoorV33
import Derived.Test.YtfjdbbpimklecaaGreatDoorV28
import Derived.Test.YtfjdbbpimklecaaGreatDoorV31
set_option maxHeartbeats 4000000
set_option maxRecDepth 100000
namespace Go.Proofs.YtfjdbbpimklecaaGreatDoor
section
open Go.AM
def dgt(b:UInt8):Bool:=decide (48≤b.toNat)&&decide (b.toNat≤57)
def dgn(l:List UInt8):Nat:=l.foldl (fun n b=>10*n+(b.toNat-48)) 0
def dgs(s:List UInt8)(i:Nat):List UInt8:=((s.drop i).take 5).takeWhile dgt
def q8(s:List UInt8)(i:Nat):Int:=if(dgs s i).length=0∨4< (dgs s i).length∨s.getD i 0=48 then -1 else dgn (dgs s i)
def qk(s:List UInt8)(i:Nat):Nat:=i+(dgs s i).length
theorem We(s:List UInt8)(p:Nat):zB s p=((s.getD p 0).toNat:Int):=rfl
theorem x6(s:List UInt8)(i:Nat):(dgs s i).length≤5∧i+(dgs s i).length≤max i s.length:=by
 have h:(dgs s i).length≤((s.drop i).take 5).length:=(List.takeWhile_prefix _).length_le
 rw[List.length_take,List.length_drop]at h
 omega
theorem zfw {s:List UInt8} {i j:Nat}(h:j< (dgs s i).length):(dgs s i)[j]=s.getD (i+j) 0∧dgt (s.getD (i+j) 0)=true:=by
 have e:(dgs s i)[j]=s.getD (i+j) 0:=by
  have hp:dgs s i<+:(s.drop i).take 5:=List.takeWhile_prefix _
  have hl:=(x6 s i).2
  have h2:(dgs s i)[j]?=((s.drop i).take 5)[j]?:=by
   obtain⟨t,ht⟩:=hp
   rw[←ht,List.getElem?_append_left h]
  rw[List.getElem?_eq_getElem h,List.getElem?_take,if_pos (by have:=(x6 s i).1;omega),List.getElem?_drop]at h2
  rw[List.getD_eq_getElem?_getD,←h2];rfl
 refine⟨e,?_⟩
 rw[←e]
 exact List.all_eq_true.1 (List.all_takeWhile (p:=dgt) (l:=(s.drop i).take 5)) _ (List.getElem_mem h)
theorem zgT {s:List UInt8} {i:Nat}(h5:(dgs s i).length<5)(hl:i+(dgs s i).length<s.length):dgt (s.getD (i+(dgs s i).length) 0)=false:=by
 have h:=List.takeWhile_append_dropWhile (p:=dgt) (l:=(s.drop i).take 5)
 have hc:(dgs s i).length< ((s.drop i).take 5).length:=by rw[List.length_take,List.length_drop];omega
 cases hd:((s.drop i).take 5).dropWhile dgt with
 |nil=>
  rw[hd,List.append_nil]at h
  unfold dgs at hc
  rw[h]at hc;omega
 |cons x t=>
  have hx:dgt x=false:=by
   have:=List.head_dropWhile_not (p:=dgt) (l:=(s.drop i).take 5) (by rw[hd];simp)
   simpa[hd]using this
  have e:((s.drop i).take 5)[(dgs s i).length]?=some x:=by
   rw[←h,hd,List.getElem?_append_right (by unfold dgs;omega)]
   unfold dgs
   simp
  rw[List.getElem?_take,if_pos h5,List.getElem?_drop]at e
  rw[List.getD_eq_getElem?_getD,e]
  exact hx
theorem zf0(l:List UInt8)(b:UInt8):dgn (l++[b])=10*dgn l+(b.toNat-48):=by unfold dgn;rw[List.foldl_append];rfl
theorem za3:∀(l:List UInt8) (n:Nat),(∀b∈l,b.toNat≤57)→l.foldl (fun n b=>10*n+(b.toNat-48)) n+1≤(n+1)*10^l.length
 | [],n,_=>by simp
 |b::l,n,h=>by
  have h1:=za3 l (10*n+(b.toNat-48)) fun x hx=>h x (by simp[hx])
  have h2:=h b (by simp)
  rw[List.foldl_cons,List.length_cons,Nat.pow_succ]
  have h3:(10*n+(b.toNat-48)+1)*10^l.length≤(n+1)*10*10^l.length:=Nat.mul_le_mul_right _ (by omega)
  have h4:(n+1)*10*10^l.length=(n+1)*(10^l.length*10):=by rw[Nat.mul_assoc,Nat.mul_comm 10]
  omega
theorem zhg(s:List UInt8)(i:Nat):∀b∈dgs s i,dgt b=true:=fun b hb=>List.all_eq_true.1 (List.all_takeWhile (p:=dgt) (l:=(s.drop i).take 5)) b hb
theorem zbt(s:List UInt8)(i j:Nat):dgn ((dgs s i).take j)<100000:=by
 have h:=za3 ((dgs s i).take j) 0 fun b hb=>by
  have:=zhg s i b (List.mem_of_mem_take hb)
  unfold dgt at this
  simp at this;omega
 have hl:((dgs s i).take j).length≤5:=Nat.le_trans (List.length_take_le' _ _) (x6 s i).1
 have:10^((dgs s i).take j).length≤10^5:=Nat.pow_le_pow_right (by omega) hl
 unfold dgn
 omega
theorem zcV [Gi](b:UInt8):CR Tryz.prog 93 [] [.p (.int .u8 b.toNat)] [] (is (.p (.bool (decide (32≤b.toNat)&&!decide (b.toNat=127))))):=by
 refine walk Tryz.func93 3 [] [] [] ?_
 have e1:(32≤(b.toNat:Int))=(32≤b.toNat):=by apply propext;omega
 have e2:((b.toNat:Int)=127)=(b.toNat=127):=by apply propext;omega
 simp (maxSteps:=1000000) [go_sem,Tryz.f93,e1,e2]
 exact ret
theorem zcA [Gi](s:List UInt8)(i:Nat)(hs:s.length≤100000)(hi:i≤s.length):CR Tryz.prog 146 [] [.p (.str s),.p (.int .i64 i)] [] (is (.tup [.p (.int .i64 (q8 s i)),.p (.int .i64 (qk s i))])):=by
 refine walk Tryz.func146 8 [] [] [] ?_
 have w5:IntKind.i64.wrap ((i:Int)+5)=(i:Int)+5:=wrap64 (by omega) (by omega)
 have w4:IntKind.i64.wrap ((i:Int)+4)=(i:Int)+4:=wrap64 (by omega) (by omega)
 have dl:=x6 s i
 simp (maxSteps:=1000000) [go_sem,Tryz.f146]
 obtain⟨K,hK⟩:∃K,K=i+(dgs s i).length:=⟨_,rfl⟩
 refine xU 0 (fun _:Unit=>True) (fun _=>[(6,.p (.int .i64 (dgn (dgs s i):Nat))),(7,.p (.int .i64 K))]) (fun _=>[]) ?_ ?_
 ·refine loop (fun p:Nat=>i≤p∧p≤i+(dgs s i).length) (fun p=>[(6,.p (.int .i64 (dgn ((dgs s i).take (p-i)):Nat))),(7,.p (.int .i64 p))]) (fun _=>[]) (fun p=>i+(dgs s i).length-p) i ⟨Nat.le_refl _,Nat.le_add_right _ _⟩ (fun p hp=>?_) (h0:=by simp[go_sem,LeS,leV,leR,leA,dgn])
  obtain⟨hp1,hp2⟩:=hp
  have hb:=zbt s i (p-i)
  by_cases c1:p<s.length
  ·by_cases c2:p<i+5
   ·have c2':(p:Int)< (i:Int)+5:=by omega
    have st:=We s p
    by_cases c3:dgt (s.getD p 0)=true
    ·have hd:=c3
     unfold dgt at hd
     simp only[Bool.and_eq_true,decide_eq_true_eq]at hd
     have g1:(48:Int)≤zB s p:=by rw[st];omega
     have g2:zB s p≤57:=by rw[st];omega
     have hlt:p<i+(dgs s i).length:=by
      rcases Nat.lt_or_ge p (i+(dgs s i).length)with h|h
      ·exact h
      ·exfalso
       have e:p=i+(dgs s i).length:=by omega
       have:=zgT (s:=s) (i:=i) (by omega) (by omega)
       rw[←e,c3]at this
       cases this
     have da:=zfw (s:=s) (i:=i) (j:=p-i) (by omega)
     rw[show i+(p-i)=p by omega]at da
     have tk:(dgs s i).take (p+1-i)=(dgs s i).take (p-i)++[s.getD p 0]:=by
      rw[show p+1-i=(p-i)+1 by omega,List.take_add_one,List.getElem?_eq_getElem (by omega),da.1];rfl
     have dn:=zf0 ((dgs s i).take (p-i)) (s.getD p 0)
     rw[←tk]at dn
     have w1:IntKind.i64.wrap ((p:Int)+1)=((p+1:Nat):Int):=by rw[wrap64 (by omega) (by omega)];rfl
     have w2:IntKind.i64.wrap (10*((dgn ((dgs s i).take (p-i)):Nat):Int))=10*((dgn ((dgs s i).take (p-i)):Nat):Int):=wrap64 (by omega) (by omega)
     have w3:IntKind.u8.wrap (zB s p-48)=zB s p-48:=by
      simp[IntKind.wrap,IntKind.signed,IntKind.bits];omega
     have w6:IntKind.i64.wrap (zB s p-48)=zB s p-48:=wrap64 (by omega) (by omega)
     have w7:IntKind.i64.wrap (10*((dgn ((dgs s i).take (p-i)):Nat):Int)+(zB s p-48))=((dgn ((dgs s i).take (p+1-i)):Nat):Int):=by
      rw[wrap64 (by omega) (by omega),dn,st];omega
     simp (maxSteps:=1000000) [go_sem,c1,w5,c2',g1,g2,w1,w2,w3,w6,w7]
     exact next (p+1) (by omega) (h3:=by show i+(dgs s i).length- (p+1)<i+(dgs s i).length-p;omega)
    ·have e:p=i+(dgs s i).length:=by
      rcases Nat.lt_or_ge p (i+(dgs s i).length)with h|h
      ·exfalso
       have da:=zfw (s:=s) (i:=i) (j:=p-i) (by omega)
       rw[show i+(p-i)=p by omega]at da
       exact c3 da.2
      ·omega
     have tk:(dgs s i).take (p-i)=dgs s i:=List.take_of_length_le (by omega)
     rw[tk]
     by_cases g1:(48:Int)≤zB s p
     ·have g2:¬zB s p≤57:=fun g2=>c3 (by unfold dgt;simp;rw[We]at g1 g2;simp at g1 g2;omega)
      simp (maxSteps:=1000000) [go_sem,c1,w5,c2',g1,g2]
      exact ZY () trivial (by simp[go_sem,e,hK])
     ·simp (maxSteps:=1000000) [go_sem,c1,w5,c2',g1]
      exact ZY () trivial (by simp[go_sem,e,hK])
   ·have e:p=i+(dgs s i).length:=by omega
    have tk:(dgs s i).take (p-i)=dgs s i:=List.take_of_length_le (by omega)
    rw[tk]
    have c2':¬(p:Int)< (i:Int)+5:=by omega
    simp (maxSteps:=1000000) [go_sem,c1,w5,c2']
    exact ZY () trivial (by simp[go_sem,e,hK])
  ·have e:p=i+(dgs s i).length:=by omega
   have tk:(dgs s i).take (p-i)=dgs s i:=List.take_of_length_le (by omega)
   rw[tk]
   simp (maxSteps:=1000000) [go_sem,c1,w5]
   exact ZY () trivial (by simp[go_sem,e,hK])
 ·rintro _ ts _
  have hb:=zbt s i 5
  rw[List.take_of_length_le dl.1]at hb
  unfold qk q8
  rw[←hK]
  have st:=We s i
  by_cases q1:(dgs s i).length=0
  ·have k1:K=i:=by omega
   rw[if_pos (.inl q1),k1]
   simp (maxSteps:=1000000) [go_sem]
   exact ret
  ·have k1:¬(K:Int)=i:=by omega
   by_cases q2:4< (dgs s i).length
   ·have k2:(i:Int)+4<K:=by omega
    rw[if_pos (.inr (.inl q2))]
    simp (maxSteps:=1000000) [go_sem,k1,k2,w4]
    exact ret
   ·have k2:¬(i:Int)+4<K:=by omega
    have hil:i<s.length:=by omega
    by_cases q3:s.getD i 0=48
    ·have k3:zB s i=48:=by rw[st,q3];rfl
     rw[if_pos (.inr (.inr q3))]
     simp (maxSteps:=1000000) [go_sem,k1,k2,k3,w4,hil]
     exact ret
    ·have k3:¬zB s i=48:=by
      rw[st]
      intro h
      have h':(s.getD i 0).toNat=48:=by omega
      exact q3 (UInt8.toNat.inj h')
     rw[if_neg (by rintro(h|h|h);exact q1 h;exact q2 h;exact q3 h)]
     simp (maxSteps:=1000000) [go_sem,k1,k2,k3,w4,hil]
     exact ret
def qf:AOp×Nat:=(⟨0,0,0,[]⟩,0)
def Qg(b n:Int)(k:Nat):AOp×Nat:=if b=67 then(⟨8,n,0,[]⟩,k)else if b=68 then(⟨9,n,0,[]⟩,k)else if b=65 then(⟨10,n,0,[]⟩,k)else if b=66 then(⟨11,n,0,[]⟩,k)else qf
def jn(s:List UInt8):AOp×Nat:=
 if s.length<3 then qf else if zB s 1≠91 then qf else
 if s.length≤qk s 2 then qf else
 if q8 s 2<0∧2<qk s 2 then qf else
 if zB s (qk s 2)=59 then
  (if q8 s 2<0 then qf else if q8 s (qk s 2+1)<0 then qf else if s.length≤qk s (qk s 2+1)then qf
   else if zB s (qk s (qk s 2+1))≠72 then qf else(⟨2,q8 s 2-1,q8 s (qk s 2+1)-1,[]⟩,qk s (qk s 2+1)+1))
 else if zB s (qk s 2)=75∧q8 s 2<0 then(⟨3,0,0,[]⟩,qk s 2+1)
 else if zB s (qk s 2)=74∧q8 s 2=2 then(⟨4,0,0,[]⟩,qk s 2+1)
 else if q8 s 2=1 then qf
 else Qg (zB s (qk s 2)) (if q8 s 2<0 then 1 else q8 s 2) (qk s 2+1)
theorem VB(s:List UInt8)(i:Nat): -1≤q8 s i∧q8 s i<100000:=by
 have h:=zbt s i 5
 rw[List.take_of_length_le (x6 s i).1]at h
 unfold q8
 split<;>omega
theorem Ye(s:List UInt8)(i:Nat):i≤qk s i∧qk s i≤max i s.length:=by
 have h:=x6 s i
 unfold qk
 omega
theorem jH:zB [67,68,65,66] 0=67∧zB [67,68,65,66] 1=68∧zB [67,68,65,66] 2=65∧zB [67,68,65,66] 3=66:=by decide
theorem jD:IntKind.i64.wrap 1=1∧IntKind.i64.wrap 2=2∧IntKind.i64.wrap 3=3∧IntKind.i64.wrap 4=4∧IntKind.i64.wrap 8=8∧IntKind.i64.wrap 9=9∧IntKind.i64.wrap 10=10∧IntKind.i64.wrap 11=11:=by decide
theorem zbd [Gi](s:List UInt8)(hs:s.length≤100000):CR Tryz.prog 94 [] [.p (.str s)] [] (is (.tup [.p (opP (jn s).1),.p (.int .i64 (jn s).2)])):=by
 obtain⟨E,hE⟩:∃E,E=jn s:=⟨_,rfl⟩
 rw[←hE]
 unfold jn at hE
 have n1:=zcA s 2 hs
 have n2:=zcA s (qk s 2+1) hs
 have b1:=VB s 2
 have b2:=VB s (qk s 2+1)
 have k1:=Ye s 2
 have k2:=Ye s (qk s 2+1)
 generalize q8 s (qk s 2+1)=m at*
 generalize qk s (qk s 2+1)=j at*
 generalize q8 s 2=n at*
 generalize qk s 2=k at*
 generalize hb:zB s k=b at*
 refine walk Tryz.func94 9 [] [24] [] ?_
 by_cases c1:s.length<3
 ·rw[if_pos c1]at hE
  subst hE
  have c1':(s.length:Int)<3:=by omega
  simp (maxSteps:=1000000) [go_sem,Tryz.f94,c1']
  exact ret (hx:=by simp[go_sem,zg,leA,leT,leP,qf])
 rw[if_neg c1]at hE
 have c1':¬(s.length:Int)<3:=by omega
 have c1n:(1:Int)<s.length:=by omega
 by_cases c2:zB s 1≠91
 ·rw[if_pos c2]at hE
  subst hE
  simp (maxSteps:=1000000) [go_sem,Tryz.f94,c1',c1n,c2]
  exact ret (hx:=by simp[go_sem,zg,leA,leT,leP,qf])
 rw[if_neg c2]at hE
 have c2:zB s 1=91:=Decidable.not_not.1 c2
 have n1:=n1 (by omega)
 simp (maxSteps:=1000000) [go_sem,Tryz.f94,c1',c1n,c2]
 refine zD n1 ?_
 by_cases c3:s.length≤k
 ·rw[if_pos c3]at hE
  subst hE
  simp (maxSteps:=1000000) [go_sem,c3]
  exact ret (hx:=by simp[go_sem,zg,leA,leT,leP,qf])
 rw[if_neg c3]at hE
 have hk:k<s.length:=by omega
 have n2:=n2 (by omega)
 have w1:IntKind.i64.wrap ((k:Int)+1)=(k:Int)+1:=wrap64 (by omega) (by omega)
 by_cases c4:n<0∧2<k
 ·rw[if_pos c4]at hE
  subst hE
  have z4:(2:Int)<k:=by omega
  simp (maxSteps:=1000000) [go_sem,c3,c4.1,z4]
  exact ret (hx:=by simp[go_sem,zg,leA,leT,leP,qf])
 rw[if_neg c4]at hE
 by_cases c5:b=59
 ·rw[if_pos c5]at hE
  have c5':=hb.trans c5
  by_cases d1:n<0
  ·rw[if_pos d1]at hE
   subst hE
   have d2:¬(2:Int)<k:=fun h=>c4 ⟨d1,by omega⟩
   simp (maxSteps:=1000000) [go_sem,c3,d1,d2,hk,c5',w1]
   refine zD n2 ?_ (ha':=by simp[go_sem])
   simp (maxSteps:=1000000) [go_sem,d1]
   exact ret (hx:=by simp[go_sem,zg,leA,leT,leP,qf])
  rw[if_neg d1]at hE
  simp (maxSteps:=1000000) [go_sem,c3,d1,hk,c5',w1]
  refine zD n2 ?_ (ha':=by simp[go_sem])
  have w2:IntKind.i64.wrap (n-1)=n-1:=wrap64 (by omega) (by omega)
  have w3:IntKind.i64.wrap (m-1)=m-1:=wrap64 (by omega) (by omega)
  have w4:IntKind.i64.wrap ((j:Int)+1)=(j:Int)+1:=wrap64 (by omega) (by omega)
  by_cases d3:m<0
  ·rw[if_pos d3]at hE
   subst hE
   simp (maxSteps:=1000000) [go_sem,d1,d3]
   exact ret (hx:=by simp[go_sem,zg,leA,leT,leP,qf])
  rw[if_neg d3]at hE
  by_cases d4:s.length≤j
  ·rw[if_pos d4]at hE
   subst hE
   simp (maxSteps:=1000000) [go_sem,d1,d3,d4]
   exact ret (hx:=by simp[go_sem,zg,leA,leT,leP,qf])
  rw[if_neg d4]at hE
  have hj:j<s.length:=by omega
  by_cases d5:zB s j≠72
  ·rw[if_pos d5]at hE
   subst hE
   simp (maxSteps:=1000000) [go_sem,d1,d3,d4,hj,d5]
   exact ret (hx:=by simp[go_sem,zg,leA,leT,leP,qf])
  rw[if_neg d5]at hE
  have d5:zB s j=72:=Decidable.not_not.1 d5
  subst hE
  simp (maxSteps:=1000000) [go_sem,d1,d3,d4,hj,d5,w2,w3,w4]
  exact ret (hx:=by simp[go_sem,zg,leA,leT,leP])
 rw[if_neg c5]at hE
 have c5':¬zB s k=59:=by rw[hb];exact c5
 by_cases c6:b=75∧n<0
 ·rw[if_pos c6]at hE
  subst hE
  have d2:¬(2:Int)<k:=fun h=>c4 ⟨c6.2,by omega⟩
  have c6':=hb.trans c6.1
  simp (maxSteps:=1000000) [go_sem,c3,c6.2,d2,hk,c6',w1]
  exact ret (hx:=by simp[go_sem,zg,leA,leT,leP])
 rw[if_neg c6]at hE
 have c6':zB s k=75→¬n<0:=by rw[hb];exact fun h1 h2=>c6 ⟨h1,h2⟩
 by_cases c7:b=74∧n=2
 ·rw[if_pos c7]at hE
  subst hE
  have c7':=hb.trans c7.1
  have c7'':=c7.2
  subst c7''
  simp (maxSteps:=1000000) [go_sem,c3,hk,c7',w1]
  exact ret (hx:=by simp[go_sem,zg,leA,leT,leP])
 rw[if_neg c7]at hE
 have c7':zB s k=74→¬n=2:=by rw[hb];exact fun h1 h2=>c7 ⟨h1,h2⟩
 by_cases c8:n=1
 ·rw[if_pos c8]at hE
  subst hE
  subst c8
  by_cases e1:zB s k=75
  ·simp (maxSteps:=1000000) [go_sem,c3,hk,e1]
   exact ret (hx:=by simp[go_sem,zg,leA,leT,leP,qf])
  ·by_cases e2:zB s k=74
   ·simp (maxSteps:=1000000) [go_sem,c3,hk,e2]
    exact ret (hx:=by simp[go_sem,zg,leA,leT,leP,qf])
   ·simp (maxSteps:=1000000) [go_sem,c3,hk,e1,e2,c5']
    exact ret (hx:=by simp[go_sem,zg,leA,leT,leP,qf])
 rw[if_neg c8]at hE
 by_cases d1:n<0
 ·have d2:¬(2:Int)<k:=fun h=>c4 ⟨d1,by omega⟩
  have c6'':¬zB s k=75:=fun h=>c6' h d1
  have d7:¬n=2:=by omega
  rw[if_pos d1]at hE
  simp (maxSteps:=1000000) [go_sem,c3,d1,d2,hk,c5',c6'',d7,c8]
  refine loop (fun i:Nat=>i≤4∧(1≤i→b≠67)∧(2≤i→b≠68)∧(3≤i→b≠65)∧(4≤i→b≠66)) (fun i=>[(8,.p (.int .i64 i))]) (fun _=>[]) (fun i=>4-i) 0 ⟨by omega,by omega,by omega,by omega,by omega⟩ (fun i hi=>?_)
  obtain⟨i0,i1,i2,i3,i4⟩:=hi
  rcases(show i=0∨i=1∨i=2∨i=3∨i=4 by omega)with rfl|rfl|rfl|rfl|rfl
  ·by_cases e:b=67
   ·have hv:E=(⟨8,1,0,[]⟩,k+1):=by rw[hE];unfold Qg;rw[if_pos e]
    subst hv
    simp (maxSteps:=1000000) [go_sem,hk,hb,e,w1,jH,jD]
    exact ret (hx:=by simp[go_sem,zg,leA,leT,leP])
   ·simp (maxSteps:=1000000) [go_sem,hk,hb,e,jH,jD]
    exact next 1 (by omega) (h3:=by show 4-1<4-0;omega)
  ·by_cases e:b=68
   ·have hv:E=(⟨9,1,0,[]⟩,k+1):=by rw[hE];unfold Qg;rw[if_neg (i1 (by omega)),if_pos e]
    subst hv
    simp (maxSteps:=1000000) [go_sem,hk,hb,e,w1,jH,jD]
    exact ret (hx:=by simp[go_sem,zg,leA,leT,leP])
   ·simp (maxSteps:=1000000) [go_sem,hk,hb,e,jH,jD]
    exact next 2 (by omega) (h3:=by show 4-2<4-1;omega)
  ·by_cases e:b=65
   ·have hv:E=(⟨10,1,0,[]⟩,k+1):=by rw[hE];unfold Qg;rw[if_neg (i1 (by omega)),if_neg (i2 (by omega)),if_pos e]
    subst hv
    simp (maxSteps:=1000000) [go_sem,hk,hb,e,w1,jH,jD]
    exact ret (hx:=by simp[go_sem,zg,leA,leT,leP])
   ·simp (maxSteps:=1000000) [go_sem,hk,hb,e,jH,jD]
    exact next 3 (by omega) (h3:=by show 4-3<4-2;omega)
  ·by_cases e:b=66
   ·have hv:E=(⟨11,1,0,[]⟩,k+1):=by rw[hE];unfold Qg;rw[if_neg (i1 (by omega)),if_neg (i2 (by omega)),if_neg (i3 (by omega)),if_pos e]
    subst hv
    simp (maxSteps:=1000000) [go_sem,hk,hb,e,w1,jH,jD]
    exact ret (hx:=by simp[go_sem,zg,leA,leT,leP])
   ·simp (maxSteps:=1000000) [go_sem,hk,hb,e,jH,jD]
    exact next 4 (by omega) (h3:=by show 4-4<4-3;omega)
  ·have hv:E=qf:=by rw[hE];unfold Qg;rw[if_neg (i1 (by omega)),if_neg (i2 (by omega)),if_neg (i3 (by omega)),if_neg (i4 (by omega))]
   subst hv
   simp (maxSteps:=1000000) [go_sem]
   exact ret (hx:=by simp[go_sem,zg,leA,leT,leP,qf])
 ·rw[if_neg d1]at hE
  simp (maxSteps:=1000000) [go_sem,c3,d1,hk,c5']
  by_cases e7:zB s k=74
  ·have d7:=c7' e7
   simp (maxSteps:=1000000) [go_sem,e7,d7,c8,d1]
   refine loop (fun i:Nat=>i≤4∧(1≤i→b≠67)∧(2≤i→b≠68)∧(3≤i→b≠65)∧(4≤i→b≠66)) (fun i=>[(8,.p (.int .i64 i))]) (fun _=>[]) (fun i=>4-i) 0 ⟨by omega,by omega,by omega,by omega,by omega⟩ (fun i hi=>?_)
   obtain⟨i0,i1,i2,i3,i4⟩:=hi
   rcases(show i=0∨i=1∨i=2∨i=3∨i=4 by omega)with rfl|rfl|rfl|rfl|rfl
   ·by_cases e:b=67
    ·have hv:E=(⟨8,n,0,[]⟩,k+1):=by rw[hE];unfold Qg;rw[if_pos e]
     subst hv
     simp (maxSteps:=1000000) [go_sem,hk,hb,e,w1,jH,jD]
     exact ret (hx:=by simp[go_sem,zg,leA,leT,leP])
    ·simp (maxSteps:=1000000) [go_sem,hk,hb,e,jH,jD]
     exact next 1 (by omega) (h3:=by show 4-1<4-0;omega)
   ·by_cases e:b=68
    ·have hv:E=(⟨9,n,0,[]⟩,k+1):=by rw[hE];unfold Qg;rw[if_neg (i1 (by omega)),if_pos e]
     subst hv
     simp (maxSteps:=1000000) [go_sem,hk,hb,e,w1,jH,jD]
     exact ret (hx:=by simp[go_sem,zg,leA,leT,leP])
    ·simp (maxSteps:=1000000) [go_sem,hk,hb,e,jH,jD]
     exact next 2 (by omega) (h3:=by show 4-2<4-1;omega)
   ·by_cases e:b=65
    ·have hv:E=(⟨10,n,0,[]⟩,k+1):=by rw[hE];unfold Qg;rw[if_neg (i1 (by omega)),if_neg (i2 (by omega)),if_pos e]
     subst hv
     simp (maxSteps:=1000000) [go_sem,hk,hb,e,w1,jH,jD]
     exact ret (hx:=by simp[go_sem,zg,leA,leT,leP])
    ·simp (maxSteps:=1000000) [go_sem,hk,hb,e,jH,jD]
     exact next 3 (by omega) (h3:=by show 4-3<4-2;omega)
   ·by_cases e:b=66
    ·have hv:E=(⟨11,n,0,[]⟩,k+1):=by rw[hE];unfold Qg;rw[if_neg (i1 (by omega)),if_neg (i2 (by omega)),if_neg (i3 (by omega)),if_pos e]
     subst hv
     simp (maxSteps:=1000000) [go_sem,hk,hb,e,w1,jH,jD]
     exact ret (hx:=by simp[go_sem,zg,leA,leT,leP])
    ·simp (maxSteps:=1000000) [go_sem,hk,hb,e,jH,jD]
     exact next 4 (by omega) (h3:=by show 4-4<4-3;omega)
   ·have hv:E=qf:=by rw[hE];unfold Qg;rw[if_neg (i1 (by omega)),if_neg (i2 (by omega)),if_neg (i3 (by omega)),if_neg (i4 (by omega))]
    subst hv
    simp (maxSteps:=1000000) [go_sem]
    exact ret (hx:=by simp[go_sem,zg,leA,leT,leP,qf])
  ·simp (maxSteps:=1000000) [go_sem,e7,c8,d1]
   refine loop (fun i:Nat=>i≤4∧(1≤i→b≠67)∧(2≤i→b≠68)∧(3≤i→b≠65)∧(4≤i→b≠66)) (fun i=>[(8,.p (.int .i64 i))]) (fun _=>[]) (fun i=>4-i) 0 ⟨by omega,by omega,by omega,by omega,by omega⟩ (fun i hi=>?_)
   obtain⟨i0,i1,i2,i3,i4⟩:=hi
   rcases(show i=0∨i=1∨i=2∨i=3∨i=4 by omega)with rfl|rfl|rfl|rfl|rfl
   ·by_cases e:b=67
    ·have hv:E=(⟨8,n,0,[]⟩,k+1):=by rw[hE];unfold Qg;rw[if_pos e]
     subst hv
     simp (maxSteps:=1000000) [go_sem,hk,hb,e,w1,jH,jD]
     exact ret (hx:=by simp[go_sem,zg,leA,leT,leP])
    ·simp (maxSteps:=1000000) [go_sem,hk,hb,e,jH,jD]
     exact next 1 (by omega) (h3:=by show 4-1<4-0;omega)
   ·by_cases e:b=68
    ·have hv:E=(⟨9,n,0,[]⟩,k+1):=by rw[hE];unfold Qg;rw[if_neg (i1 (by omega)),if_pos e]
     subst hv
     simp (maxSteps:=1000000) [go_sem,hk,hb,e,w1,jH,jD]
     exact ret (hx:=by simp[go_sem,zg,leA,leT,leP])
    ·simp (maxSteps:=1000000) [go_sem,hk,hb,e,jH,jD]
     exact next 2 (by omega) (h3:=by show 4-2<4-1;omega)
   ·by_cases e:b=65
    ·have hv:E=(⟨10,n,0,[]⟩,k+1):=by rw[hE];unfold Qg;rw[if_neg (i1 (by omega)),if_neg (i2 (by omega)),if_pos e]
     subst hv
     simp (maxSteps:=1000000) [go_sem,hk,hb,e,w1,jH,jD]
     exact ret (hx:=by simp[go_sem,zg,leA,leT,leP])
    ·simp (maxSteps:=1000000) [go_sem,hk,hb,e,jH,jD]
     exact next 3 (by omega) (h3:=by show 4-3<4-2;omega)
   ·by_cases e:b=66
    ·have hv:E=(⟨11,n,0,[]⟩,k+1):=by rw[hE];unfold Qg;rw[if_neg (i1 (by omega)),if_neg (i2 (by omega)),if_neg (i3 (by omega)),if_pos e]
     subst hv
     simp (maxSteps:=1000000) [go_sem,hk,hb,e,w1,jH,jD]
     exact ret (hx:=by simp[go_sem,zg,leA,leT,leP])
    ·simp (maxSteps:=1000000) [go_sem,hk,hb,e,jH,jD]
     exact next 4 (by omega) (h3:=by show 4-4<4-3;omega)
   ·have hv:E=qf:=by rw[hE];unfold Qg;rw[if_neg (i1 (by omega)),if_neg (i2 (by omega)),if_neg (i3 (by omega)),if_neg (i4 (by omega))]
    subst hv
    simp (maxSteps:=1000000) [go_sem]
    exact ret (hx:=by simp[go_sem,zg,leA,leT,leP,qf])
def plB(b:UInt8):Bool:=decide (32≤b.toNat)&&!decide (b.toNat=127)
def qu(s:List UInt8)(i:Nat):Nat:=i+((s.drop i).takeWhile plB).length
def ZD(s:List UInt8)(i:Nat):AOp×Nat:=
 if zB s i=7 then(⟨5,0,0,[]⟩,1)else if zB s i=13 then(⟨6,0,0,[]⟩,1)else if zB s i=10 then(⟨7,0,0,[]⟩,1)
 else if zB s i=27 then jn (s.drop i)else(⟨0,0,0,[]⟩,1)
def QC(s:List UInt8):Nat→Nat→List AOp→List AOp×Nat×Int
 |0,_,out=>(out,0,0)
 |f+1,i,out=>if s.length≤i then(out,0,0)else if plB (s.getD i 0)then QC s f (qu s i) (out++[⟨1,0,0,(s.drop i).take (qu s i-i)⟩])
  else if(ZD s i).1.k=0 then([],i,4)else QC s f (i+(ZD s i).2) (out++[(ZD s i).1])
def tkL(s:List UInt8):List AOp×Nat×Int:=QC s s.length 0 []
theorem uf(s:List UInt8) {i:Nat}(h:i≤s.length):i≤qu s i∧qu s i≤s.length:=by
 have h1:((s.drop i).takeWhile plB).length≤(s.drop i).length:=(List.takeWhile_prefix _).length_le
 rw[List.length_drop]at h1
 unfold qu
 omega
theorem Jt(s:List UInt8) {i p:Nat}(h1:i≤p)(h2:p<qu s i):plB (s.getD p 0)=true:=by
 have hl:p-i< ((s.drop i).takeWhile plB).length:=by unfold qu at h2;omega
 have h:=List.all_eq_true.1 (List.all_takeWhile (p:=plB) (l:=s.drop i)) _ (List.getElem_mem hl)
 have e:((s.drop i).takeWhile plB)[p-i]?=(s.drop i)[p-i]?:=by
  obtain⟨t,ht⟩:=List.takeWhile_prefix (l:=s.drop i) plB
  conv=>rhs;rw[←ht]
  rw[List.getElem?_append_left hl]
 rw[List.getElem?_eq_getElem hl,List.getElem?_drop,show i+(p-i)=p by omega]at e
 rw[List.getD_eq_getElem?_getD,←e]
 exact h
theorem kN(s:List UInt8) {i:Nat}(h:qu s i<s.length):plB (s.getD (qu s i) 0)=false:=by
 have ha:=List.takeWhile_append_dropWhile (p:=plB) (l:=s.drop i)
 have hn:(s.drop i).length=s.length-i:=List.length_drop
 have hx:∀x t,(s.drop i).dropWhile plB=x::t→plB x=false:=fun x t hd=>by
  have:=List.head_dropWhile_not (p:=plB) (l:=s.drop i) (by rw[hd];simp)
  simpa[hd]using this
 unfold qu at h⊢
 generalize (s.drop i).takeWhile plB=X at h ha⊢
 cases hd:(s.drop i).dropWhile plB with
 |nil=>
  rw[hd,List.append_nil]at ha
  rw[ha]at h
  omega
 |cons x t=>
  have e:(s.drop i)[X.length]?=some x:=by
   rw[←ha,hd,List.getElem?_append_right (Nat.le_refl _)]
   simp
  rw[List.getElem?_drop]at e
  rw[List.getD_eq_getElem?_getD,e]
  exact hx x t hd
theorem zx {α:Type} {Q:α→Prop} {c:Prop}[Decidable c] {a b:α}(h1:c→Q a)(h2:¬c→Q b):Q (if c then a else b):=by split<;>simp_all
def Um(n:Nat)(e:AOp×Nat):Prop:=e.2≤n∧(e.1.k≠0→1≤e.2)
theorem Xi(n:Nat):Um n qf:=⟨Nat.zero_le _,fun h=>absurd rfl h⟩
theorem zgD(s:List UInt8):Um s.length (jn s):=by
 have N:=Xi s.length
 have k2:=Ye s (qk s 2+1)
 unfold jn
 refine zx (fun _=>N) fun _=>zx (fun _=>N) fun _=>zx (fun _=>N) fun h=>zx (fun _=>N) fun _=>zx (fun _=>?_) fun _=>?_
 ·refine zx (fun _=>N) fun _=>zx (fun _=>N) fun _=>zx (fun _=>N) fun _=>zx (fun _=>N) fun _=>⟨?_,fun _=>?_⟩<;>simp only<;>omega
 have D:∀k a b,Um s.length ((⟨k,a,b,[]⟩:AOp),qk s 2+1):=fun k a b=>⟨by simp only;omega,fun _=>by simp only;omega⟩
 refine zx (fun _=>D _ _ _) fun _=>zx (fun _=>D _ _ _) fun _=>zx (fun _=>N) fun _=>?_
 unfold Qg
 exact zx (fun _=>D _ _ _) fun _=>zx (fun _=>D _ _ _) fun _=>zx (fun _=>D _ _ _) fun _=>zx (fun _=>D _ _ _) fun _=>N
theorem uA(s:List UInt8) {i:Nat}(h:i<s.length):Um (s.length-i) (ZD s i):=by
 have D:∀k,Um (s.length-i) ((⟨k,0,0,[]⟩:AOp),1):=fun k=>⟨by simp only;omega,fun _=>Nat.le_refl _⟩
 have E:=zgD (s.drop i)
 rw[List.length_drop]at E
 unfold ZD
 exact zx (fun _=>D _) fun _=>zx (fun _=>D _) fun _=>zx (fun _=>D _) fun _=>zx (fun _=>E) fun _=>D _
theorem YF [Gi](s:List UInt8)(hs:s.length≤100000):CR Tryz.prog 41 [] [.p (.str s)] [] (is (.tup [.p (vD (tkL s).1),.p (.int .i64 (tkL s).2.1),.p (.int .i64 (tkL s).2.2)])):=by
 obtain⟨RES,hRES⟩:∃RES,RES=tkL s:=⟨_,rfl⟩
 rw[←hRES]
 refine walk Tryz.func41 10 [43] [] [] ?_
 simp (maxSteps:=1000000) [go_sem,Tryz.f41]
 refine loop (fun x:Nat×List AOp=>x.1≤s.length∧x.2.length≤x.1∧∃f,s.length≤x.1+f∧RES=QC s f x.1 x.2) (fun x=>[(5,.os [5] 4 (x.2.map opP)),(6,.p (.int .i64 x.1)),(7,.zK),(8,.zK),(9,.zK)]) (fun _=>[]) (fun x=>s.length-x.1) (0,[]) ⟨Nat.zero_le _,Nat.zero_le _,s.length,by simp,hRES⟩ (fun x hx=>?_)
 obtain⟨i,out⟩:=x
 obtain⟨hi,ho,f,hf,hr⟩:=hx
 simp only at hi ho hf hr
 have cv:∀p,CR Tryz.prog 93 [] [.p (.int .u8 (zB s p))] [] (is (.p (.bool (plB (s.getD p 0))))):=fun p=>zcV (s.getD p 0)
 by_cases c1:i<s.length
 ·cases f with
  |zero=>omega
  |succ f=>
   rw[QC,if_neg (by omega)]at hr
   have rb:=uf s hi
   simp (maxSteps:=1000000) [go_sem,c1]
   refine zD (cv i) ?_
   by_cases c2:plB (s.getD i 0)=true
   ·rw[if_pos c2]at hr
    rw[c2]
    simp (maxSteps:=1000000) [go_sem]
    refine xU 2 (fun _:Unit=>True) (fun _=>[(7,.p (.int .i64 (qu s i)))]) (fun _=>[]) ?_ ?_
    ·refine loop (fun p:Nat=>i≤p∧p≤qu s i) (fun p=>[(7,.p (.int .i64 p))]) (fun _=>[]) (fun p=>qu s i-p) i ⟨Nat.le_refl _,rb.1⟩ (fun p hp=>?_)
     obtain⟨hp1,hp2⟩:=hp
     by_cases d1:p<s.length
     ·simp (maxSteps:=1000000) [go_sem,d1]
      refine zD (cv p) ?_
      by_cases d2:plB (s.getD p 0)=true
      ·have d3:p<qu s i:=by
        rcases Nat.lt_or_ge p (qu s i)with h|h
        ·exact h
        ·have e:p=qu s i:=by omega
         have:=kN s (i:=i) (by omega)
         rw[←e,d2]at this
         cases this
       have w1:IntKind.i64.wrap ((p:Int)+1)=(p:Int)+1:=wrap64 (by omega) (by omega)
       rw[d2]
       simp (maxSteps:=1000000) [go_sem,w1]
       exact next (p+1) (by omega) (h3:=by show qu s i- (p+1)<qu s i-p;omega)
      ·have d3:p=qu s i:=by
        rcases Nat.lt_or_ge p (qu s i)with h|h
        ·exact absurd (Jt s hp1 h) d2
        ·omega
       have d2':plB (s.getD p 0)=false:=by simpa using d2
       rw[d2']
       simp (maxSteps:=1000000) [go_sem]
       exact ZY () trivial (by simp[go_sem,d3])
     ·have d3:p=qu s i:=by omega
      simp (maxSteps:=1000000) [go_sem,d1]
      exact ZY () trivial (by simp[go_sem,d3])
    ·rintro _ ts _
     have ec:cut s (i:Int) (qu s i:Int)=(s.drop i).take (qu s i-i):=by simp[cut]
     have hg:i<qu s i:=by
      have h:=Jt
      rcases Nat.lt_or_ge i (qu s i)with h|h
      ·exact h
      ·have e:qu s i=i:=by omega
       have:=kN s (i:=i) (by omega)
       rw[e,c2]at this
       cases this
     generalize qu s i=r at*
     generalize (s.drop i).take (r-i)=t at*
     simp (maxSteps:=1000000) [go_sem,ec,rb.1,rb.2]
     refine⟨by omega,?_⟩
     exact next (r,out++[⟨1,0,0,t⟩]) ⟨by show r≤_;omega,by show(out++_).length≤r;simp;omega,f,by show s.length≤r+f;omega,hr⟩ (h3:=by show s.length-r<s.length-i;omega) (h2:=by simp[go_sem,LeS,leV,leR,leA,opP])
   ·have c2':plB (s.getD i 0)=false:=by simpa using c2
    rw[if_neg c2]at hr
    rw[c2']
    have ob:=uA s c1
    have fin:∀k:Int,k≠0→ZD s i=((⟨k,0,0,[]⟩:AOp),1)→RES=QC s f (i+1) (out++[⟨k,0,0,[]⟩]):=fun k hk e=>by
     rw[e]at hr
     rwa[if_neg hk]at hr
    have w1:IntKind.i64.wrap ((i:Int)+1)=(i:Int)+1:=wrap64 (by omega) (by omega)
    simp (maxSteps:=1000000) [go_sem,c1]
    by_cases b7:zB s i=7
    ·have hr:=fin 5 (by decide) (by unfold ZD;rw[if_pos b7])
     simp (maxSteps:=1000000) [go_sem,b7,w1]
     refine⟨by omega,?_⟩
     exact next (i+1,out++[⟨5,0,0,[]⟩]) ⟨by show i+1≤_;omega,by show(out++_).length≤i+1;simp;omega,f,by show s.length≤i+1+f;omega,hr⟩ (h3:=by show s.length- (i+1)<s.length-i;omega) (h2:=by simp[go_sem,LeS,leV,leR,leA,opP])
    by_cases b13:zB s i=13
    ·have hr:=fin 6 (by decide) (by unfold ZD;rw[if_neg b7,if_pos b13])
     simp (maxSteps:=1000000) [go_sem,b13,w1]
     refine⟨by omega,?_⟩
     exact next (i+1,out++[⟨6,0,0,[]⟩]) ⟨by show i+1≤_;omega,by show(out++_).length≤i+1;simp;omega,f,by show s.length≤i+1+f;omega,hr⟩ (h3:=by show s.length- (i+1)<s.length-i;omega) (h2:=by simp[go_sem,LeS,leV,leR,leA,opP])
    by_cases b10:zB s i=10
    ·have hr:=fin 7 (by decide) (by unfold ZD;rw[if_neg b7,if_neg b13,if_pos b10])
     simp (maxSteps:=1000000) [go_sem,b10,w1]
     refine⟨by omega,?_⟩
     exact next (i+1,out++[⟨7,0,0,[]⟩]) ⟨by show i+1≤_;omega,by show(out++_).length≤i+1;simp;omega,f,by show s.length≤i+1+f;omega,hr⟩ (h3:=by show s.length- (i+1)<s.length-i;omega) (h2:=by simp[go_sem,LeS,leV,leR,leA,opP])
    by_cases b27:zB s i=27
    ·have eo:ZD s i=jn (s.drop i):=by unfold ZD;rw[if_neg b7,if_neg b13,if_neg b10,if_pos b27]
     have es:=zbd (s.drop i) (by rw[List.length_drop];omega)
     have ec:cut s (i:Int) (s.length:Int)=s.drop i:=by
      have:((s.drop i).length)=s.length-i:=List.length_drop
      unfold cut
      rw[Int.toNat_natCast,Int.toNat_natCast]
      exact List.take_of_length_le (by omega)
     rw[eo]at hr ob
     generalize jn (s.drop i)=e at*
     obtain⟨⟨k,a,b,t⟩,n⟩:=e
     obtain⟨ob1,ob2⟩:=ob
     simp only[opP]at hr ob1 ob2 es
     simp (maxSteps:=1000000) [go_sem,b27,ec,hi]
     refine zD es ?_
     by_cases hk:k=0
     ·rw[if_pos hk]at hr
      subst hr
      simp (maxSteps:=1000000) [go_sem,hk]
      exact ret (hx:=by simp[go_sem,zg,leA,leT,leP,vD])
     ·rw[if_neg hk]at hr
      have hn:=ob2 hk
      have w2:IntKind.i64.wrap ((i:Int)+n)=(i:Int)+n:=wrap64 (by omega) (by omega)
      simp (maxSteps:=1000000) [go_sem,hk,w2]
      refine⟨by omega,?_⟩
      exact next (i+n,out++[⟨k,a,b,t⟩]) ⟨by show i+n≤_;omega,by show(out++_).length≤i+n;simp;omega,f,by show s.length≤i+n+f;omega,hr⟩ (h3:=by show s.length- (i+n)<s.length-i;omega) (h2:=by simp[go_sem,LeS,leV,leR,leA,opP])
    have eo:ZD s i=((⟨0,0,0,[]⟩:AOp),1):=by unfold ZD;rw[if_neg b7,if_neg b13,if_neg b10,if_neg b27]
    rw[eo]at hr
    simp only[if_true]at hr
    subst hr
    simp (maxSteps:=1000000) [go_sem,b7,b13,b10,b27]
    exact ret (hx:=by simp[go_sem,zg,leA,leT,leP,vD])
 ·have hr':RES=(out,0,0):=by
   rw[hr]
   cases f with
   |zero=>rfl
   |succ f=>rw[QC,if_pos (by omega)]
  subst hr'
  simp (maxSteps:=1000000) [go_sem,c1]
  exact ret (hx:=by simp[go_sem,zg,leA,leT,leP,vD])
end
section
open Go.AM Go.RowKit
def pfx(s t:List UInt8):Bool:=decide (t.length≤s.length)&&decide (s.take t.length=t)
theorem JN [Gi](s t:List UInt8):CR Tryz.prog 230 [] [.p (.str s),.p (.str t)] [] (is (.p (.bool (pfx s t)))):=by
 refine walk Tryz.func230 5 [] [] [] ?_
 unfold pfx
 by_cases c:t.length≤s.length
 ·have e:cut s 0 (t.length:Int)=s.take t.length:=by simp[cut]
  simp (maxSteps:=1000000) [go_sem,Tryz.f230,c,e]
  exact ret
 ·simp (maxSteps:=1000000) [go_sem,Tryz.f230,c]
  exact ret
theorem Yk [Gi](s t:List UInt8):CR Tryz.prog 187 [] [.p (.str s),.p (.str t)] [] (is (.tup [.p (.str (if pfx s t then s.drop t.length else s)),.p (.bool (pfx s t))])):=by
 have hi:CR Tryz.prog 216 [] [.p (.str s),.p (.str t)] [] (is (.tup [.p (.str (if pfx s t then s.drop t.length else s)),.p (.bool (pfx s t))])):=by
  have hp:=JN s t
  refine walk Tryz.func216 6 [] [] [] ?_
  cases c:pfx s t with
  |true=>
   have hl:t.length≤s.length:=by
    unfold pfx at c
    simp only[Bool.and_eq_true,decide_eq_true_eq]at c
    exact c.1
   rw[c]at hp
   have e:cut s (t.length:Int) (s.length:Int)=s.drop t.length:=by
    unfold cut
    rw[Int.toNat_natCast,Int.toNat_natCast]
    exact List.take_of_length_le (by rw[List.length_drop];omega)
   simp (maxSteps:=1000000) [go_sem,Tryz.f216]
   refine zD hp ?_
   simp (maxSteps:=1000000) [go_sem,hl,e]
   exact ret
  |false=>
   rw[c]at hp
   simp (maxSteps:=1000000) [go_sem,Tryz.f216]
   refine zD hp ?_
   simp (maxSteps:=1000000) [go_sem]
   exact ret
 refine walk Tryz.func187 6 [] [] [] ?_
 generalize (if pfx s t then s.drop t.length else s)=r at*
 simp (maxSteps:=1000000) [go_sem,Tryz.f187]
 refine zD hi ?_
 simp (maxSteps:=1000000) [go_sem]
 exact ret
theorem uh [Gi] {f:FuncId} {args:List AV} {R:AV→List (Tok×List AV)→Prop}(h:∀w g vs,zm g w args vs→GS g w []→Calls Tryz.prog f vs.toArray w fun e w'=>∃v x,e=.returned v∧R x []∧Below w.heap.size w w'∧∀g':Gh,g'.fr=g.fr→za g' w' x v):CR Tryz.prog f [] args [] R:=by
 intro w g vs hargs hG
 refine(h w g vs hargs hG).mono ?_
 rintro e w' ⟨v,x,rfl,hR,hB,hr⟩
 let g2:Gh:=⟨g.fr,fun _=>.prot⟩
 have hmono:=hB.size
 have hx:Ext g.fr w g2.fr w':=fun d o ho=>⟨ho,zP (hB.block d (by
  rcases Nat.lt_or_ge d w.heap.size with h|h
  ·exact h
  ·have:=hG.frb d h;omega))⟩
 have hA:Aft g w g2 w' []:=⟨fun d hd _=>⟨hB.block d hd,rfl,rfl⟩,hx,⟨hB.os,hB.tape,hB.output⟩,hmono,fun b t _ ht=>(by cases ht)⟩
 exact⟨v,x,[],g2,rfl,hR,hr g2 rfl,⟨fun b t h=>(by cases h),fun b b' t h=>(by cases h),fun b b' t h=>(by cases h),fun b h=>absurd rfl h,fun b hb=>hG.frb b (by omega),hG.gl.aft hA⟩,hA⟩
theorem zdc [Gi](s:List UInt8)(c:UInt8):CR Tryz.prog 233 [] [.p (.str s),.p (.int .u8 c.toNat)] [] (is (.p (.int .i64 (Lib.indexByte s c)))):=by
 refine uh fun w g vs hargs hG=>?_
 simp only[zm,za,zi]at hargs
 obtain⟨v,vs',rfl,rfl,v2,vs2,rfl,rfl,rfl⟩:=hargs
 refine(Tryz.stringslite_IndexByte _ _ w).mono ?_
 rintro e w' ⟨rfl,rfl⟩
 have ec:((c.toNat:Int)).toNat.toUInt8=c:=by simp
 rw[ec]
 exact⟨_,_,rfl,⟨rfl,rfl⟩,Below.refl _ _,fun g' _=>by simp only[za,zi]⟩
theorem zcL [Gi](s:List UInt8)(c:UInt8):CR Tryz.prog 220 [] [.p (.str s),.p (.int .u8 c.toNat)] [] (is (.p (.int .i64 (Lib.indexByte s c)))):=by
 refine uh fun w g vs hargs hG=>?_
 simp only[zm,za,zi]at hargs
 obtain⟨v,vs',rfl,rfl,v2,vs2,rfl,rfl,rfl⟩:=hargs
 refine(Tryz.strings_IndexByte _ _ w).mono ?_
 rintro e w' ⟨rfl,rfl⟩
 have ec:((c.toNat:Int)).toNat.toUInt8=c:=by simp
 rw[ec]
 exact⟨_,_,rfl,⟨rfl,rfl⟩,Below.refl _ _,fun g' _=>by simp only[za,zi]⟩
theorem zdh [Gi](s:List UInt8)(c:UInt8):CR Tryz.prog 242 [] [.p (.str s),.p (.str [c])] [] (is (.p (.int .i64 (Lib.indexByte s c)))):=by
 have ib:=zdc s c
 refine walk Tryz.func242 14 [] [] [] ?_
 have hz:zB [c] 0=(c.toNat:Int):=rfl
 by_cases h0:[c]=s
 ·have e0:Lib.indexByte s c=0:=by rw[←h0];simp[Lib.indexByte]
  simp (maxSteps:=1000000) [go_sem,Tryz.f242,h0]
  rw[e0]
  exact ret
 ·simp (maxSteps:=1000000) [go_sem,Tryz.f242,h0,hz]
  refine zD ib ?_
  simp (maxSteps:=1000000) [go_sem]
  exact ret
end
section
open Go.AM
theorem uP:∀(s:List UInt8) (c:UInt8), -1≤Lib.indexByte s c∧Lib.indexByte s c<s.length
 | [],c=>by simp[Lib.indexByte]
 |b::l,c=>by
  have h:=uP l c
  unfold Lib.indexByte
  split
  ·simp only[List.length_cons];omega
  ·split
   ·simp;omega
   ·rename_i h1 h2
    simp at h2⊢
    omega
def qt(s:List UInt8)(c:UInt8):List UInt8×List UInt8×Bool:=if 0≤Lib.indexByte s c then(s.take (Lib.indexByte s c).toNat,s.drop ((Lib.indexByte s c).toNat+1),true)else(s,[],false)
theorem zgn [Gi](s:List UInt8)(c:UInt8)(hs:s.length≤100000):CR Tryz.prog 218 [] [.p (.str s),.p (.str [c])] [] (is (.tup [.p (.str (qt s c).1),.p (.str (qt s c).2.1),.p (.bool (qt s c).2.2)])):=by
 have hi:CR Tryz.prog 231 [] [.p (.str s),.p (.str [c])] [] (is (.tup [.p (.str (qt s c).1),.p (.str (qt s c).2.1),.p (.bool (qt s c).2.2)])):=by
  have ix:=zdh s c
  have bd:=uP s c
  unfold qt
  refine walk Tryz.func231 8 [] [3] [] ?_
  simp (maxSteps:=1000000) [go_sem,Tryz.f231]
  refine zD ix ?_
  by_cases h:0≤Lib.indexByte s c
  ·rw[if_pos h]
   obtain⟨i,hi⟩:∃i:Nat,Lib.indexByte s c=i:=⟨_,(Int.toNat_of_nonneg h).symm⟩
   rw[hi]at bd⊢
   have w1:IntKind.i64.wrap ((i:Int)+1)=(i:Int)+1:=wrap64 (by omega) (by omega)
   have hl:i<s.length:=by omega
   have hl1:(i:Int)+1≤s.length:=by omega
   have e1:cut s 0 (i:Int)=s.take i:=by simp[cut]
   have e2:cut s ((i:Int)+1) (s.length:Int)=s.drop (i+1):=by
    unfold cut
    rw[show(((i:Int)+1).toNat)=i+1 by omega,Int.toNat_natCast]
    exact List.take_of_length_le (by rw[List.length_drop];omega)
   simp (maxSteps:=1000000) [go_sem,w1,hl1,e1,e2]
   exact⟨by omega,by omega,ret⟩
  ·rw[if_neg h]
   simp (maxSteps:=1000000) [go_sem,h]
   exact ret
 refine walk Tryz.func218 7 [] [] [] ?_
 generalize (qt s c).1=r1 at*
 generalize (qt s c).2.1=r2 at*
 generalize (qt s c).2.2=r3 at*
 simp (maxSteps:=1000000) [go_sem,Tryz.f218]
 refine zD hi ?_
 simp (maxSteps:=1000000) [go_sem]
 exact ret
end
end Go.Proofs.YtfjdbbpimklecaaGreatDoor
