/- A part of the proof of this seat's statements, by an abstract machine: what each operation does to values, and what the law's functions compute. Conditions: as each law says. -/
import Derived.Test.YtjefahhmkcfiiaaGreatN39
import Derived.Test.YtjefahhmkcfiiaaGreatN40
import Derived.Test.YtjefahhmkcfiiaaGreatN28
section
namespace Go.Proofs.YtjefahhmkcfiiaaGreat
open Go.AM
set_option maxHeartbeats 4000000
set_option maxRecDepth 10000
def y7(need:Int):List (List Int)→Nat
 | []=>0
 |c::C=>if need≤0 then 0 else y7 (need-c.length) C+1
theorem zag:∀a b:List Int,yM a b≤a.length∧yM a b≤b.length
 | [],b=>by simp[yM]
 |a::l,[]=>by simp[yM]
 |a::l,b::m=>by
  have:=zag l m
  unfold yM
  split<;>simp only[List.length_cons]<;>omega
theorem zgp(a b:List Int):yR a b≤a.length∧yR a b≤b.length:=by
 have:=zag a.reverse b.reverse
 simp only[List.length_reverse]at this
 exact this
def xL(nfc:List Int→List Int)(clus:List Int→List (List Int))(L:List (List Int))(a f e:Int)(s:List Int):List (List Int)×Int×Bool:=
 if f<0∨e<f∨(L.length:Int)<e then(L,a,false)
 else
  let rest:=(L.drop e.toNat).flatten
  let x:=nfc ((L.take f.toNat).flatten++(s++rest))
  if 65536<x.length then(L,a,false)
  else(clus x,(y7 ((x.length:Int)-yR x rest) (clus x):Nat),true)
def ky(L:List (List Int))(a:Int):List AV:=[.p (zr L),.p (.int .i64 a)]
def U8(r:List (List Int)×Int×Bool):AV:=.tup [.p (zF r.1 r.2.1),.p (.bool r.2.2)]
theorem zlW [Gi] {t:zR} {c b j f p:PV}(h:Qp t c b j f p)(hz:Z3 t)(hP:Wi t)(m:List (Za×Int))(sk sx:List PV)(l:List Int)(hn:l.length<2^20)(hr:∀x∈l,zL x)
  (hn2:(xJ t m l).length<2^31) (hr2:∀x∈xJ t m l,zL x):
  CR Tryz.prog 18 [] [.p (zE c b j f p (ckP m) (cxP m) sk sx),.p (zh l)] [] (is (.p (zF (QN t (xJ t m l)) 0))):=by
 refine zm mixed 5 [] Tryz.func18 rfl (by kernel_rfl) rfl (by simp) (by simp) ?_
 simp (maxSteps:=1000000) [go_sem,Tryz.f18,zh,zE]
 refine⟨rfl,⟨rfl,by simp[Tryz.f72]⟩,zb [] (zea h hz hP m sk sx l hn hr) (by simp[go_sem]) ⟨by simp[go_sem],by simp[go_sem,zh,zE]⟩ (by simp[go_sem]) ?_⟩
 rintro _ rs ⟨rfl,rfl⟩
 simp (maxSteps:=1000000) [go_sem]
 refine⟨⟨rfl,by simp[Tryz.f71]⟩,zb [] (Ki h hz (ckP m) (cxP m) sk sx (xJ t m l) hn2 hr2) (by simp[go_sem]) ⟨by simp[go_sem],by simp[go_sem,zh,zE]⟩ (by simp[go_sem]) ?_⟩
 rintro _ rs ⟨rfl,rfl⟩
 simp (maxSteps:=1000000) [go_sem,zr]
 refine⟨rfl,?_⟩
 exact zg (.p (zF (QN t (xJ t m l)) 0)) rfl (by simp[go_sem,zf,leA,leT,zF,zr]) ⟨rfl,rfl⟩
theorem ziM [Gi] {rows:List Row}(hw:qP rows)(l:List Int)(hn:l.length<2^20)(hr:∀x∈l,zL x)
  (hn2:(Zu rows l).length<2^31) (hr2:∀x∈Zu rows l,zL x):
  CR Tryz.prog 19 [] [.p (zC rows),.p (zh l)] [] (is (.p (zF (qR rows (Zu rows l)) 0))):=by
 refine zm mixed 5 [] Tryz.func19 rfl (by kernel_rfl) rfl (by simp) (by simp) ?_
 simp (maxSteps:=1000000) [go_sem,Tryz.f19,zh]
 refine⟨rfl,⟨rfl,by simp[Tryz.f32]⟩,zb [] (uF rows hw l hn hr) (by simp[go_sem]) ⟨by simp[go_sem],by simp[go_sem,zh]⟩ (by simp[go_sem]) ?_⟩
 rintro _ rs ⟨rfl,rfl⟩
 simp (maxSteps:=1000000) [go_sem]
 refine⟨⟨rfl,by simp[Tryz.f73]⟩,zb [] (zbn hw (Zu rows l) hn2 hr2) (by simp[go_sem]) ⟨by simp[go_sem],by simp[go_sem,zh]⟩ (by simp[go_sem]) ?_⟩
 rintro _ rs ⟨rfl,rfl⟩
 simp (maxSteps:=1000000) [go_sem,zr]
 refine⟨rfl,?_⟩
 exact zg (.p (zF (qR rows (Zu rows l)) 0)) rfl (by simp[go_sem,zf,leA,leT,zF,zr]) ⟨rfl,rfl⟩
end Go.Proofs.YtjefahhmkcfiiaaGreat
end
section
namespace Go.Proofs.YtjefahhmkcfiiaaGreat
open Go.AM
set_option maxHeartbeats 4000000
set_option maxRecDepth 10000
structure Jl(nfc:List Int→List Int)(clus:List Int→List (List Int)):Prop where
 len:∀l:List Int,l.length<2^20→(nfc l).length<2^31
 rune:∀l:List Int,l.length<2^20→(∀x∈l,zL x)→∀x∈nfc l,zL x
 flat:∀l,(clus l).flatten=l
 num:∀l,(clus l).length≤l.length
structure zd9(L:List (List Int)):Prop where
 num:L.length≤qi L
 len:qi L≤65536
 rune:∀x∈L.flatten,zL x
theorem Jl.sum {nfc clus}(h:Jl nfc clus)(x:List Int):qi (clus x)=x.length:=by rw[←Zm,h.flat]
theorem YE(L:List (List Int))(k:Nat):cut (zW L) 0 k=zW (L.take k):=by simp[cut,zW]
theorem Yu(L:List (List Int))(k:Nat):cut (zW L) k L.length=zW (L.drop k):=by simp[cut,zW,List.take_of_length_le]
theorem XH(L:List (List Int))(k:Nat):qi (L.take k)+qi (L.drop k)=qi L:=by
 rw[←Zm,←Zm,←Zm,←List.length_append,←List.flatten_append,List.take_append_drop]
theorem VF {C:List (List Int)} {i:Nat}(h:i<C.length)(need:Int):y7 (need-qi (C.take i)) (C.drop i)=if need≤qi (C.take i)then 0 else y7 (need-qi (C.take (i+1))) (C.drop (i+1))+1:=by
 rw[List.drop_eq_getElem_cons h,y7,jM h]
 by_cases q:need≤qi (C.take i)
 ·rw[if_pos (by omega),if_pos q]
 ·rw[if_neg (by omega),if_neg q]
  congr 2;omega
end Go.Proofs.YtjefahhmkcfiiaaGreat
end
section
namespace Go.Proofs.YtjefahhmkcfiiaaGreat
open Go.AM
set_option maxHeartbeats 4000000
set_option maxRecDepth 10000
theorem zkp [Gi] {t:zR} {c b j p p':PV}(h:Qp t c b j p p')(hz:Z3 t)(hP:Wi t)(m:List (Za×Int))(sk sx:List PV)(hF:Jl (xJ t m) (QN t))(L:List (List Int))(hL:zd9 L)(a f e:Int)(s:List Int)(hs:s.length≤1000)(hr:∀x∈s,zL x):
  CR Tryz.prog 20 [] [.p (zF L a),.p (zE c b j p p' (ckP m) (cxP m) sk sx),.p (.int .i64 f),.p (.int .i64 e),.p (zh s)] [] (is (U8 (xL (xJ t m) (QN t) L a f e s))):=by
 refine zm mixed 16 [] Tryz.func20 rfl (by kernel_rfl) rfl (by simp) (by simp) ?_
 have hl1:=hL.num
 have hl2:=hL.len
 by_cases c1:f<0
 ·have ev:xL (xJ t m) (QN t) L a f e s=(L,a,false):=by unfold xL;rw[if_pos (Or.inl c1)]
  rw[ev]
  simp (maxSteps:=1000000) [go_sem,Tryz.f20,zF,zr,zo,c1]
  refine⟨rfl,?_⟩
  exact zg (U8 (L,a,false)) rfl (by simp[go_sem,zf,leA,leT,leP,U8,zF,zr]) ⟨rfl,rfl⟩
 by_cases c2:e<f
 ·have ev:xL (xJ t m) (QN t) L a f e s=(L,a,false):=by unfold xL;rw[if_pos (Or.inr (Or.inl c2))]
  rw[ev]
  simp (maxSteps:=1000000) [go_sem,Tryz.f20,zF,zr,zo,c1,c2]
  refine⟨rfl,?_⟩
  exact zg (U8 (L,a,false)) rfl (by simp[go_sem,zf,leA,leT,leP,U8,zF,zr]) ⟨rfl,rfl⟩
 by_cases c3:(L.length:Int)<e
 ·have ev:xL (xJ t m) (QN t) L a f e s=(L,a,false):=by unfold xL;rw[if_pos (Or.inr (Or.inr c3))]
  rw[ev]
  simp (maxSteps:=1000000) [go_sem,Tryz.f20,zF,zr,zo,c1,c2,c3]
  refine⟨rfl,?_⟩
  exact zg (U8 (L,a,false)) rfl (by simp[go_sem,zf,leA,leT,leP,U8,zF,zr]) ⟨rfl,rfl⟩
 obtain⟨nf,rfl⟩:∃nf:Nat,f=nf:=⟨f.toNat,by omega⟩
 obtain⟨ne,rfl⟩:∃ne:Nat,e=ne:=⟨e.toNat,by omega⟩
 have ev:∀R P X:List Int,R=(L.drop ne).flatten→P=(L.take nf).flatten→X=xJ t m (P++(s++R))→xL (xJ t m) (QN t) L a nf ne s=if 65536<X.length then(L,a,false)else(QN t X,(y7 ((X.length:Int)-yR X R) (QN t X):Nat),true):=by
  rintro R P X rfl rfl rfl
  unfold xL
  rw[if_neg (by omega)]
  simp only[Int.toNat_natCast]
 have g1:ne≤L.length:=by omega
 have g2:nf≤L.length:=by omega
 have q1:=XH L ne
 have q2:=XH L nf
 have jR:=um (L.drop ne) (by rw[List.length_drop];omega) (by omega)
 have jP:=um (L.take nf) (by rw[List.length_take];omega) (by omega)
 have lR:(L.drop ne).flatten.length=qi (L.drop ne):=Zm _
 have lP:(L.take nf).flatten.length=qi (L.take nf):=Zm _
 have rR:∀x∈(L.drop ne).flatten,zL x:=fun x hx=>hL.rune x (List.mem_flatten.2 (by
  obtain⟨y,hy,hxy⟩:=List.mem_flatten.1 hx
  exact⟨y,List.mem_of_mem_drop hy,hxy⟩))
 have rP:∀x∈(L.take nf).flatten,zL x:=fun x hx=>hL.rune x (List.mem_flatten.2 (by
  obtain⟨y,hy,hxy⟩:=List.mem_flatten.1 hx
  exact⟨y,List.mem_of_mem_take hy,hxy⟩))
 obtain⟨R,hR⟩:∃R,R=(L.drop ne).flatten:=⟨_,rfl⟩
 obtain⟨P,hPP⟩:∃P,P=(L.take nf).flatten:=⟨_,rfl⟩
 obtain⟨X,hX⟩:∃X,X=xJ t m (P++(s++R)):=⟨_,rfl⟩
 have e1:=ev R P X hR hPP hX
 rw[e1]
 rw[←hR]at jR lR rR
 rw[←hPP]at jP lP rP
 have hal:=(zgp X R).1
 have rPR:∀x∈P++(s++R),zL x:=fun x hx=>by
  rcases List.mem_append.1 hx with hx|hx
  ·exact rP x hx
  ·rcases List.mem_append.1 hx with hx|hx
   ·exact hr x hx
   ·exact rR x hx
 have f3:[P,s,R].flatten=P++(s++R):=by simp
 have j3:=um [P,s,R] (by simp) (by simp[qi];omega)
 rw[f3]at j3
 have lPR:(P++(s++R)).length<2^20:=by simp only[List.length_append];omega
 have jN:=zea h hz hP m sk sx _ lPR rPR
 have lX:=hF.len _ lPR
 have rX:=hF.rune _ lPR rPR
 rw[←hX]at jN lX rX
 have jA:=zjB X R lX (by omega)
 clear ev e1
 simp (maxSteps:=1000000) [go_sem,Tryz.f20,zF,zr,zo,c1,c2,c3,Yu]
 refine⟨rfl,g1,⟨rfl,by simp[Tryz.f74]⟩,zb [] jR (by simp[go_sem]) ⟨by simp[go_sem],by simp[go_sem,zr]⟩ (by simp[go_sem]) ?_⟩
 rintro _ rs ⟨rfl,rfl⟩
 simp (maxSteps:=1000000) [go_sem,zo,YE,zh]
 refine⟨g2,⟨rfl,by simp[Tryz.f74]⟩,zb [] jP (by simp[go_sem]) ⟨by simp[go_sem],by simp[go_sem,zr]⟩ (by simp[go_sem]) ?_⟩
 rintro _ rs ⟨rfl,rfl⟩
 simp (maxSteps:=1000000) [go_sem,zh]
 refine⟨⟨by decide,rfl⟩,⟨rfl,by simp[Tryz.f74]⟩,zb [] j3 (by simp[go_sem]) ⟨by simp[go_sem],by simp[go_sem,zh,zr,zW]⟩ (by simp[go_sem]) ?_⟩
 rintro _ rs ⟨rfl,rfl⟩
 simp (maxSteps:=1000000) [go_sem,zh]
 refine⟨⟨rfl,by simp[Tryz.f72]⟩,zb [] jN (by simp[go_sem]) ⟨by simp[go_sem],by simp[go_sem,zh,zE]⟩ (by simp[go_sem]) ?_⟩
 rintro _ rs ⟨rfl,rfl⟩
 by_cases c4:65536<X.length
 ·have c4':(65536:Int)<X.length:=by omega
  rw[if_pos c4]
  simp (maxSteps:=1000000) [go_sem,zh,zp,c4']
  exact zg (U8 (L,a,false)) rfl (by simp[go_sem,zf,leA,leT,leP,U8,zF,zr]) ⟨rfl,rfl⟩
 have c4':¬(65536:Int)<X.length:=by omega
 rw[if_neg c4]
 have jC:=Ki h hz (ckP m) (cxP m) sk sx X lX rX
 have sC:=hF.sum X
 have nC:=hF.num X
 generalize QN t X=C at jC sC nC⊢
 simp (maxSteps:=1000000) [go_sem,zh,zp,c4']
 refine⟨⟨rfl,by simp[Tryz.f71]⟩,zb [] jC (by simp[go_sem]) ⟨by simp[go_sem],by simp[go_sem,zh,zE]⟩ (by simp[go_sem]) ?_⟩
 rintro _ rs ⟨rfl,rfl⟩
 simp (maxSteps:=1000000) [go_sem,zr]
 refine⟨rfl,⟨rfl,by simp[Tryz.f75]⟩,zb [] jA (by simp[go_sem]) ⟨by simp[go_sem],by simp[go_sem,zh]⟩ (by simp[go_sem]) ?_⟩
 rintro _ rs ⟨rfl,rfl⟩
 obtain⟨k,hk⟩:∃k,k=yR X R:=⟨_,rfl⟩
 rw[←hk]at hal⊢
 obtain⟨K,hK⟩:∃K,K=y7 ((X.length:Int)-k) C:=⟨_,rfl⟩
 rw[←hK]
 have w0:IntKind.i64.wrap ((X.length:Int)-k)=((X.length-k:Nat):Int):=Q6 (by omega) (by omega)
 obtain⟨N,hN⟩:∃N,N=X.length-k:=⟨_,rfl⟩
 rw[←hN]at w0
 simp (maxSteps:=1000000) [go_sem,zp,w0]
 refine zi (fun i:Nat=>i≤C.length∧K=i+y7 ((X.length:Int)-k-qi (C.take i)) (C.drop i)) (fun _=>[]) (fun i=>[([14],ky C (i:Nat))]) (fun i=>C.length-i) 0 ⟨by omega,by simp[hK,qi]⟩ (by simp[go_sem,LeS,leV,leR,leA,leL,ky,zr]) (fun i hi=>?_)
 obtain⟨i1,i2⟩:=hi
 have jD:=Je C i (by omega) (by omega)
 have cl:j9 C i=i:=by unfold j9;omega
 rw[J0,cl]at jD
 have hti:=QF C i
 simp (maxSteps:=1000000) [go_sem,ky,zr]
 refine⟨⟨rfl,by simp[Tryz.f26]⟩,zb [] jD (by simp[go_sem]) ⟨by simp[go_sem],by simp[go_sem,zr,zF]⟩ (by simp[go_sem]) ?_⟩
 rintro _ rs ⟨rfl,rfl⟩
 by_cases c5:qi (C.take i)<N
 ·have hil:i<C.length:=by
   refine Nat.lt_of_not_le (fun h=>?_)
   rw[List.take_of_length_le h]at c5
   omega
  have c5':(qi (C.take i):Int)<N:=by omega
  have w1:IntKind.i64.wrap ((i:Int)+1)=((i+1:Nat):Int):=zP (by omega)
  rw[VF hil,if_neg (by omega)]at i2
  simp (maxSteps:=1000000) [go_sem,c5',w1]
  exact zc (i+1) ⟨by omega,by omega⟩ (by simp[go_sem,LeS,leV,leR,leA,leL]) (by omega)
 ·have c5':¬(qi (C.take i):Int)<N:=by omega
  have e2:K=i:=by
   rw[i2]
   by_cases hil:i<C.length
   ·rw[VF hil,if_pos (by omega)];rfl
   ·rw[List.drop_eq_nil_of_le (by omega)];rfl
  rw[e2]
  simp (maxSteps:=1000000) [go_sem,c5']
  exact zg (U8 (C,(i:Nat),true)) rfl (by simp[go_sem,zf,leA,leT,leP,U8,zF,zr]) ⟨rfl,rfl⟩
end Go.Proofs.YtjefahhmkcfiiaaGreat
end
section
namespace Go.Proofs.YtjefahhmkcfiiaaGreat
open Go.AM
set_option maxHeartbeats 4000000
set_option maxRecDepth 100000
theorem U7(k i:Int)(h:0≤i∧i≤1114111):∀l:List Row,(l.find? (jG k i)).map jE=atL (zO l k) i
 | []=>rfl
 |r::l=>by
  have ih:=U7 k i h l
  have e:zO (r::l) k=if r.k=k then jE r::zO l k else zO l k:=by
   by_cases hk:r.k=k<;>simp[zO,hk]
  rw[e,List.find?_cons]
  by_cases hk:r.k=k
  ·rw[if_pos hk]
   unfold atL at ih⊢
   rw[List.find?_cons]
   by_cases hq:r.f≤i∧i≤r.t
   ·have h1:jG k i r=true:=by simp[jG,hk,hq.1,hq.2]
    have h2:decide ((jE r).f≤i∧i≤(jE r).t)=true:=decide_eq_true (show max r.f 0≤i∧i≤min r.t 1114111 from⟨by omega,by omega⟩)
    rw[h1,h2];rfl
   ·have h1:jG k i r=false:=by
     unfold jG
     by_cases q1:r.f≤i
     ·have:¬i≤r.t:=fun q2=>hq ⟨q1,q2⟩
      simp[this]
     ·simp[q1]
    have h2:decide ((jE r).f≤i∧i≤(jE r).t)=false:=decide_eq_false (show ¬(max r.f 0≤i∧i≤min r.t 1114111)from fun q=>hq ⟨by omega,by omega⟩)
    rw[h1,h2];exact ih
  ·rw[if_neg hk]
   have h1:jG k i r=false:=by simp[jG,hk]
   rw[h1];exact ih
def spA(l:List Span)(i:Int):Int:=match atL l i with|some s=>s.a|none=>0
theorem VK(l:List Row)(k i:Int)(h:0≤i∧i≤1114111):aL l k i=spA (zO l k) i:=by
 have e:=U7 k i h l
 unfold aL spA rowAt
 rw[if_neg (by omega),←e]
 cases l.find? (jG k i)<;>rfl
theorem K0(i:Int):∀l:List Span,qN 0 i (l.map QU)=spA l i
 | []=>rfl
 |s::l=>by
  have ih:=K0 i l
  simp only[List.map_cons,qN]
  unfold spA atL at ih⊢
  rw[List.find?_cons]
  by_cases h:s.f≤i∧i≤s.t
  ·have h1:decide (s.f≤i∧i≤s.t)=true:=by simpa using h
   rw[if_pos (by exact h),h1];rfl
  ·have h1:decide (s.f≤i∧i≤s.t)=false:=by simpa using h
   rw[if_neg (by exact h),h1];exact ih
theorem kj1:qj za 1=zO za 1:=by decide+kernel
theorem kj2:qj za 2=zO za 2:=by decide+kernel
theorem kj4:qj za 4=zO za 4:=by decide+kernel
theorem kj5:qj za 5=zO za 5:=by decide+kernel
theorem kj6:qj za 6=zO za 6:=by decide+kernel
theorem Yl(l:List Row)(k i:Int)(h:¬(0≤i∧i≤1114111)):aL l k i=0:=by
 unfold aL rowAt
 rw[if_pos (by omega)]
theorem zku(r:Int):T0.cls (rn r)=aL za 1 r:=by
 by_cases h:0≤r∧r≤1114111
 ·rw[VK _ _ _ h,←kj1,←K0,VN (by omega)];exact congrArg (fun x=>qN 0 x ((qj za 1).map QU)) (Int.toNat_of_nonneg h.1)
 ·rw[wI (by omega),Yl _ _ _ h];exact je.c
theorem zk6(r:Int):T0.brk (rn r)=aL za 4 r:=by
 by_cases h:0≤r∧r≤1114111
 ·rw[VK _ _ _ h,←kj4,←K0,VN (by omega)];exact congrArg (fun x=>qN 0 x ((qj za 4).map QU)) (Int.toNat_of_nonneg h.1)
 ·rw[wI (by omega),Yl _ _ _ h];exact je.b
theorem zkY(r:Int):T0.cnj (rn r)=aL za 6 r:=by
 by_cases h:0≤r∧r≤1114111
 ·rw[VK _ _ _ h,←kj6,←K0,VN (by omega)];exact congrArg (fun x=>qN 0 x ((qj za 6).map QU)) (Int.toNat_of_nonneg h.1)
 ·rw[wI (by omega),Yl _ _ _ h];exact je.j
theorem zfE(r:Int):(T0.flg (rn r)).p=decide (aL za 5 r=1):=by
 by_cases h:0≤r∧r≤1114111
 ·have e:(T0.flg (rn r)).p=qZ (qj za 5) r:=by
   rw[VN (by omega)];exact congrArg (qZ (qj za 5)) (Int.toNat_of_nonneg h.1)
  rw[e,VK _ _ _ h,kj5]
  unfold qZ spA
  cases atL (zO za 5) r with
  |none=>rfl
  |some s=>simp only;rfl
 ·rw[wI (by omega),Yl _ _ _ h,je.f];rfl
def zfQ(l:List Span)(i:Int):Za:=match atL l i with|some s=>⟨s.a,s.b⟩|none=>⟨0,0⟩
theorem zgg(i:Int):∀l:List Span,qN ⟨0,0⟩ i (l.map jx)=zfQ l i
 | []=>rfl
 |s::l=>by
  have ih:=zgg i l
  simp only[List.map_cons,qN]
  unfold zfQ atL at ih⊢
  rw[List.find?_cons]
  by_cases h:s.f≤i∧i≤s.t
  ·have h1:decide (s.f≤i∧i≤s.t)=true:=by simpa using h
   rw[if_pos (by exact h),h1];rfl
  ·have h1:decide (s.f≤i∧i≤s.t)=false:=by simpa using h
   rw[if_neg (by exact h),h1];exact ih
theorem zkV(r:Int):T0.par (rn r)=(match ZE za r with|some p=>⟨p.1,p.2⟩|none=>⟨0,0⟩):=by
 by_cases h:0≤r∧r≤1114111
 ·have e:T0.par (rn r)=zfQ (zO za 2) r:=by
   rw[←kj2,←zgg,VN (by omega)];exact congrArg (fun x=>qN (⟨0,0⟩:Za) x ((qj za 2).map jx)) (Int.toNat_of_nonneg h.1)
  rw[e]
  have q:=U7 2 r h za
  unfold zfQ ZE rowAt
  rw[if_neg (by omega),←q]
  cases za.find? (jG 2 r)with
  |none=>rfl
  |some x=>
   simp only[Option.map_some,jE]
   by_cases h0:x.a=0∧x.b=0
   ·rw[if_pos h0];simp[h0.1,h0.2]
   ·rw[if_neg h0]
 ·have e:ZE za r=none:=by unfold ZE rowAt;rw[if_pos (by omega)]
  rw[wI (by omega),je.p,e]
theorem YQ:∀(d:Nat) (r:Int),qL T0 d r=qk za d r
 |0,r=>rfl
 |d+1,r=>by
  unfold qL qk
  split
  ·rfl
  ·have e:=zkV r
   cases hp:ZE za r with
   |none=>
    rw[hp]at e
    rw[e];simp
   |some p=>
    rw[hp]at e
    have h0:¬(p.1=0∧p.2=0):=by
     intro h0
     unfold ZE at hp
     cases hr:rowAt za 2 r with
     |none=>rw[hr]at hp;simp at hp
     |some x=>
      rw[hr]at hp
      simp only at hp
      split at hp
      ·simp at hp
      ·rename_i hx
       have:=Option.some.inj hp
       rw[←this]at h0
       exact hx h0
    rw[e]
    simp only
    rw[if_neg h0,YQ d p.1,YQ d p.2]
theorem zhD(l:List Int):Qe T0 l=QH za l:=by
 unfold Qe QH
 congr 1;funext r;exact YQ 8 r
theorem zfN:zI T0=kD za:=by funext r;exact zku r
end Go.Proofs.YtjefahhmkcfiiaaGreat
end
section
namespace Go.Proofs.YtjefahhmkcfiiaaGreat
open Go.AM
set_option maxHeartbeats 4000000
set_option maxRecDepth 100000
theorem zfG(k:Int→Int)(x y:Int)(h:k x<k y):∀S:List Int,uS k x (S++[y])=uS k x S++[y]
 | []=>by simp[uS,h]
 |z::S=>by
  simp only[List.cons_append,uS]
  split
  ·rfl
  ·rw[zfG k x y h S];rfl
theorem zfB(k:Int→Int)(x:Int):∀S:List Int,(∀z∈S,k z≤k x)→uS k x S=S++[x]
 | [],_=>rfl
 |z::S,h=>by
  simp only[uS]
  rw[if_neg (by have:=h z (by simp);omega),zfB k x S (fun y hy=>h y (by simp[hy]))];rfl
def znH(k:Int→Int)(D:List Int):Prop:=D=[]∨∃D' d,D=D'++[d]∧k d=0
theorem zas {k:Int→Int}(hk:∀x,0≤k x) {D:List Int}(hD:znH k D)(x:Int)(hx:k x≠0):∀(n:Nat) (S:List Int),S.length=n→qn k S→Q1 k (D++S) x=D++uS k x S
 |0,S,hn,_=>by
  obtain rfl:=List.eq_nil_of_length_eq_zero hn
  rcases hD with rfl|⟨D',d,rfl,hd⟩
  ·rfl
  ·have:=hk x
   unfold Q1
   simp only[List.append_nil,List.reverse_append,List.reverse_cons,List.reverse_nil,List.nil_append,List.singleton_append,zX]
   rw[if_neg (by omega)]
   simp[uS]
 |n+1,S,hn,hs=>by
  obtain⟨S',y,rfl⟩:=wA (A:=S) (fun e=>by rw[e]at hn;simp at hn)
  have hs':qn k S':=(List.pairwise_append.1 hs).1
  have hle:∀z∈S',k z≤k y:=fun z hz=>(List.pairwise_append.1 hs).2.2 z hz y (by simp)
  by_cases h:k x<k y
  ·rw[zfG k x y h,←List.append_assoc,←List.append_assoc,←zas hk hD x hx n S' (by simpa using hn) hs']
   unfold Q1
   rw[List.reverse_append,List.reverse_cons,List.reverse_nil,List.nil_append,List.singleton_append,zX,if_pos ⟨hx,h⟩,List.reverse_cons]
  ·rw[zfB k x (S'++[y]) (fun z hz=>by
    rcases List.mem_append.1 hz with hz|hz
    ·have:=hle z hz;omega
    ·rw[List.mem_singleton.1 hz];omega)]
   unfold Q1
   rw[←List.append_assoc,List.reverse_append,List.reverse_cons,List.reverse_nil,List.nil_append,List.singleton_append,zX,if_neg (by omega)]
   simp
theorem zgy {k:Int→Int}(O:List Int)(x:Int)(hx:k x=0):Q1 k O x=O++[x]:=by
 unfold Q1
 cases h:O.reverse with
 |nil=>rw[List.reverse_eq_nil_iff.1 h];rfl
 |cons y l=>
  have e:O=(y::l).reverse:=by rw[←h,List.reverse_reverse]
  rw[zX,if_neg (by omega),e];simp
theorem zeW(k:Int→Int)(run:List Int)(x:Int):QP k (run++[x])=uS k x (QP k run):=by simp[QP,List.foldl_append]
theorem ze1 {k:Int→Int}(hk:∀x,0≤k x):∀(l run D:List Int),znH k D→l.foldl (Q1 k) (D++QP k run)=D++Q4 k run l
 | [],run,D,_=>rfl
 |x::l,run,D,hD=>by
  simp only[List.foldl_cons,Q4]
  by_cases hx:k x=0
  ·rw[if_pos hx,zgy _ _ hx]
   have ih:=ze1 hk l [] (D++QP k run++[x]) (.inr ⟨_,_,rfl,hx⟩)
   simp only[QP,List.foldl_nil,List.append_nil]at ih⊢
   rw[ih];simp
  ·rw[if_neg hx,zas hk hD x hx _ _ rfl (wz k run).1,←zeW]
   exact ze1 hk l (run++[x]) D hD
theorem zjw {k:Int→Int}(hk:∀x,0≤k x)(l:List Int):jS k l=Yo k l:=by
 have:=ze1 hk l [] [] (.inl rfl)
 simpa[jS,Yo,QP]using this
theorem zd8 {l:List Row} {k r:Int}(h:aL l k r≠0):∃w∈l,w.k=k∧w.f≤r∧r≤w.t∧aL l k r=w.a:=by
 unfold aL at h⊢
 cases e:rowAt l k r with
 |none=>rw[e]at h;exact absurd rfl h
 |some w=>
  unfold rowAt at e
  split at e
  ·simp at e
  ·have h1:=List.mem_of_find?_eq_some e
   have h2:=List.find?_some e
   simp only[jG,Bool.and_eq_true,decide_eq_true_eq]at h2
   exact⟨w,h1,h2.1.1,h2.1.2,h2.2,rfl⟩
def zom:Bool:=za.all fun w=>!decide (w.k=1) || (decide (0≤w.a)&&(decide (w.t<44032) || decide (55203<w.f)))
theorem zk7:zom=true:=by decide+kernel
theorem zfU {w:Row}(h:w∈za)(hk:w.k=1):0≤w.a∧(w.t<44032∨55203<w.f):=by
 have:=List.all_eq_true.1 zk7 w h
 simpa[hk]using this
theorem zj0(x:Int):0≤kD za x:=by
 by_cases h:aL za 1 x=0
 ·show 0≤aL za 1 x;omega
 ·obtain⟨w,h1,h2,_,_,e⟩:=zd8 h
  show 0≤aL za 1 x
  rw[e];exact(zfU h1 h2).1
theorem zkd(l:List Int):KO T0 l=xv za l:=by
 unfold KO xv
 rw[zfN,zhD,zjw zj0]
theorem zjc(a b:Int):ym a b=zS a b:=by
 unfold ym zS
 by_cases h1:4352≤a∧a<4371∧4449≤b∧b<4470
 ·rw[if_pos h1,if_pos (by omega)];congr 1;omega
 ·have n1:¬(4352≤a∧a≤4370∧4449≤b∧b≤4469):=fun g=>h1 ⟨g.1,by omega,g.2.2.1,by omega⟩
  rw[if_neg h1,if_neg n1]
  by_cases h2:Zc a=true∧(a-44032)%28=0∧4519<b∧b<4547
  ·rw[if_pos h2,if_pos (by obtain⟨g1,g2,g3,g4⟩:=h2;exact⟨g1,g2,by omega,by omega⟩)];congr 1;omega
  ·rw[if_neg h2,if_neg (fun g=>h2 ⟨g.1,g.2.1,by omega,by omega⟩)]
def Wq(l:List Row)(w:Row):Option (Za×Int):=if w.k=2∧w.b≠0∧ZE l w.f=some (w.a,w.b)∧uV l w.f=false then some (⟨w.a,w.b⟩,w.f)else none
def zb7(l:List Row):List (Za×Int):=l.filterMap (Wq l)
end Go.Proofs.YtjefahhmkcfiiaaGreat
end
section
namespace Go.Proofs.YtjefahhmkcfiiaaGreat
open Go.AM
set_option maxHeartbeats 4000000
set_option maxRecDepth 100000
theorem zgj:M0.1=zb7 za:=by decide+kernel
def zj5:List (Za×Int)→Bool
 | []=>true
 |c::l=>l.all (fun d=>!decide (d.1=c.1))&&zj5 l
theorem zgw:zj5 (zb7 za)=true:=by decide+kernel
end Go.Proofs.YtjefahhmkcfiiaaGreat
end
section
namespace Go.Proofs.YtjefahhmkcfiiaaGreat
open Go.AM
set_option maxHeartbeats 400000
attribute [local irreducible] za
set_option maxRecDepth 100000
def kS(x y:Int)(acc:Option Int)(c:Za×Int):Option Int:=if c.1=⟨x,y⟩∧(∀z,acc=some z→c.2<z)then some c.2 else acc
theorem zgD(l:List Row)(x y:Int)(acc:Option Int)(w:Row):ZM l x y acc w=(match Wq l w with|some c=>kS x y acc c|none=>acc):=by
 unfold ZM Wq
 by_cases h:w.k=2∧w.b≠0∧ZE l w.f=some (w.a,w.b)∧uV l w.f=false
 ·rw[if_pos h]
  obtain⟨h1,h2,h3,h4⟩:=h
  unfold kS
  simp only
  by_cases g:(⟨w.a,w.b⟩:Za)=⟨x,y⟩∧∀z,acc=some z→w.f<z
  ·obtain⟨g1,g2⟩:=g
   injection g1 with ga gb
   subst ga;subst gb
   rw[if_pos ⟨h1,rfl,rfl,h2,h3,h4,g2⟩,if_pos ⟨rfl,g2⟩]
  ·rw[if_neg g,if_neg (fun q=>g ⟨by rw[q.2.1,q.2.2.1],q.2.2.2.2.2.2⟩)]
 ·rw[if_neg h,if_neg (fun q=>h ⟨q.1,by rw[q.2.2.1];exact q.2.2.2.1,by rw[q.2.1,q.2.2.1];exact q.2.2.2.2.1,q.2.2.2.2.2.1⟩)]
theorem X4(l:List Row)(x y:Int):∀(ws:List Row) (acc:Option Int),ws.foldl (ZM l x y) acc=(ws.filterMap (Wq l)).foldl (kS x y) acc
 | [],_=>rfl
 |w::ws,acc=>by
  rw[List.foldl_cons,zgD,X4 l x y ws,List.filterMap_cons]
  cases Wq l w<;>rfl
theorem zdh(x y:Int):∀(cs:List (Za×Int)) (acc:Option Int),(∀c∈cs,c.1≠⟨x,y⟩)→cs.foldl (kS x y) acc=acc
 | [],_,_=>rfl
 |c::cs,acc,h=>by
  have e:kS x y acc c=acc:=if_neg (fun q=>h c (by simp) q.1)
  rw[List.foldl_cons,e,zdh x y cs acc (fun d hd=>h d (by simp[hd]))]
theorem zaj(x y:Int):∀cs:List (Za×Int),zj5 cs=true→cs.foldl (kS x y) none=mkB cs ⟨x,y⟩
 | [],_=>rfl
 |c::cs,h=>by
  simp only[zj5,Bool.and_eq_true,List.all_eq_true]at h
  rw[List.foldl_cons]
  unfold mkB
  rw[List.find?_cons]
  by_cases e:c.1=⟨x,y⟩
  ·have e1:kS x y none c=some c.2:=if_pos ⟨e,fun z hz=>by cases hz⟩
   have e2:(c.1==(⟨x,y⟩:Za))=true:=by rw[e];exact beq_self_eq_true _
   rw[e1,e2,zdh x y cs _ (fun d hd q=>by
    have:=h.1 d hd
    rw[q,e]at this;simp at this)]
   rfl
  ·have e1:kS x y none c=none:=if_neg (fun q=>e q.1)
   have e2:(c.1==(⟨x,y⟩:Za))=false:=by simpa using e
   rw[e1,e2]
   exact zaj x y cs h.2
theorem UP(x y:Int):xI za x y=mkB (zb7 za) ⟨x,y⟩:=by
 unfold xI
 rw[X4]
 exact zaj x y _ zgw
theorem zaE {m:List (Za×Int)} {q:Za} {r:Int}(h:mkB m q=some r):(q,r)∈m:=by
 unfold mkB at h
 cases e:m.find? (fun x=>x.1==q)with
 |none=>rw[e]at h;simp at h
 |some c=>
  rw[e]at h
  have h1:=List.mem_of_find?_eq_some e
  have h2:c.1=q:=by simpa using List.find?_some e
  have h3:c.2=r:=by simpa using h
  rw[←h2,←h3];exact h1
theorem zaq {q:Za} {r:Int}(h:(q,r)∈zb7 za):q.b≠0∧aL za 1 r=0:=by
 obtain⟨w,_,hw⟩:=List.mem_filterMap.1 h
 unfold Wq at hw
 split at hw
 ·rename_i g
  injection hw with hw
  injection hw with h1 h2
  subst h1;subst h2
  refine⟨g.2.1,?_⟩
  have:=g.2.2.2
  unfold uV at this
  rw[g.2.2.1]at this
  simp only[Bool.or_eq_false_iff,Bool.not_eq_false',decide_eq_true_eq]at this
  exact this.1.2
 ·simp at hw
theorem zl7:mk2 M0.1=mkD za:=by
 funext a b
 unfold mk2 mkD
 rw[zjc,zgj,UP]
 by_cases hb:b=0
 ·rw[if_pos hb]
  cases e:mkB (zb7 za) ⟨a,b⟩with
  |none=>rfl
  |some r=>exact absurd hb (zaq (zaE e)).1
 ·rw[if_neg hb]
theorem zh7(a b c:Int)(h:mkD za a b=some c):kD za c=0:=by
 unfold mkD at h
 cases hj:zS a b with
 |none=>
  rw[hj,Option.none_or,UP]at h
  exact(zaq (zaE h)).2
 |some z=>
  rw[hj,Option.some_or]at h
  have hz:z=c:=Option.some.inj h
  subst hz
  have hr:44032≤z∧z≤55203:=by
   unfold zS at hj
   split at hj
   ·have:=Option.some.inj hj;omega
   ·split at hj
    ·rename_i g
     have:=Option.some.inj hj
     have g1:=g.1
     simp only[Zc,Bool.and_eq_true,decide_eq_true_eq]at g1
     omega
    ·simp at hj
  by_cases h0:aL za 1 z=0
  ·exact h0
  ·obtain⟨w,h1,h2,h3,h4,_⟩:=zd8 h0
   have:=(zfU h1 h2).2
   omega
theorem zeC(k:Int→Int)(c:Int)(hc:k c=0):∀O:List Int,0≤qf k O→qf k (O.set (qf k O).toNat c)=qf k O:=by
 refine fun O=>vw (P:=fun O=>0≤qf k O→qf k (O.set (qf k O).toNat c)=qf k O) (fun h=>by rw[yX]at h;omega) (fun o y ih h=>?_) O.length O rfl
 rw[ZH]at h⊢
 by_cases hy:k y=0
 ·rw[if_pos hy,Int.toNat_natCast]
  have e:(o++[y]).set o.length c=o++[c]:=by
   rw[List.set_append_right _ _ (Nat.le_refl _)];simp
  rw[e,ZH,if_pos hc]
 ·rw[if_neg hy]at h⊢
  have hlt:=(V8 k o).2
  have e:(o++[y]).set (qf k o).toNat c=o.set (qf k o).toNat c++[y]:=List.set_append_left _ _ (by omega)
  rw[e,ZH,if_neg hy,ih h]
theorem zek(k:Int→Int)(O:List Int)(h0:O≠ [])(h:qf k O<O.length-1):k (O[O.length-1]?.getD 0)≠0:=by
 obtain⟨o,y,rfl⟩:=wA h0
 rw[ZH]at h
 have e:(o++[y])[(o++[y]).length-1]?.getD 0=y:=by simp
 rw[e]
 intro hy
 rw[if_pos hy,List.length_append,List.length_singleton]at h
 omega
structure zdG(k:Int→Int)(z:Cst)(O:List Int):Prop where
 o:z.o=O
 s:z.s=qf k O
 l:O≠ []→qf k O<O.length-1→z.l=k (O[O.length-1]?.getD 0)
theorem zdG.push {k:Int→Int} {z:Cst} {O:List Int}(h:zdG k z O)(x:Int):zdG k (ZL k z x) (O++[x]):=by
 obtain⟨h1,h2,h3⟩:=h
 refine⟨by simp[ZL,h1],?_,fun _ _=>by simp[ZL]⟩
 rw[ZH];simp[ZL,h1,h2]
theorem zdG.step {k:Int→Int} {mk:Int→Int→Option Int}(hm:∀a b c,mk a b=some c→k c=0) {z:Cst} {O:List Int}(h:zdG k z O)(x:Int):zdG k (yr k mk z x) (kj k mk O x):=by
 have hp:=h.push x
 obtain⟨h1,h2,h3⟩:=h
 subst h1
 have hlt:=V8 k z.o
 have hfree:Xz k z x↔0≤qf k z.o∧KI k z.o (qf k z.o) x=true:=by
  unfold Xz KI
  rw[h2]
  simp only[Bool.or_eq_true,decide_eq_true_eq]
  by_cases h0:0≤qf k z.o
  ·have hne:z.o≠ []:=fun e=>by rw[e,yX]at h0;omega
   by_cases he:qf k z.o=z.o.length-1
   ·simp[he]
   ·have hl:=h3 hne (by omega)
    have hk:=zek k z.o hne (by omega)
    rw[←hl]at hk⊢
    simp[h0,he,hk]
  ·simp[h0]
 unfold yr kj
 by_cases hf:Xz k z x
 ·have hf2:=hfree.1 hf
  rw[if_pos hf,if_pos hf2,h2]
  cases e:mk (z.o[(qf k z.o).toNat]?.getD 0) x with
  |none=>simp only;exact hp
  |some c=>
   have hc:=hm _ _ _ e
   have es:=zeC k c hc z.o hf2.1
   refine⟨rfl,es.symm,fun h4 h5=>?_⟩
   simp only at h4 h5⊢
   rw[es,List.length_set]at h5
   have hne:z.o≠ []:=fun e=>by rw[e]at h4;simp at h4
   rw[h3 hne h5,List.length_set,List.getElem?_set_ne (by omega)]
 ·rw[if_neg hf,if_neg (fun g=>hf (hfree.2 g))]
  exact hp
theorem zhr {k:Int→Int} {mk:Int→Int→Option Int}(hm:∀a b c,mk a b=some c→k c=0)(l:List Int):(Zv k mk l).o=ZG k mk l:=by
 have H:∀l:List Int,zdG k (Zv k mk l) (ZG k mk l):=fun l=>by
  refine vw (P:=fun l=>zdG k (Zv k mk l) (ZG k mk l)) ⟨rfl,rfl,fun h=>absurd rfl h⟩ (fun o y ih=>?_) l.length l rfl
  rw[JQ,ua]
  exact ih.step hm y
 exact(H l).o
theorem zfw(l:List Int):xJ T0 M0.1 l=Zu za l:=by
 unfold xJ Zu zjQ Vm
 rw[zkd,zfN,zl7,zhr zh7]
end Go.Proofs.YtjefahhmkcfiiaaGreat
end
section
namespace Go.Proofs.YtjefahhmkcfiiaaGreat
open Go.AM
set_option maxHeartbeats 1000000
set_option maxRecDepth 100000
def yd(k:Int):List Row:=za.filter fun w=>decide (w.k=k)
def zfi(w v:Row):Bool:=decide (w.t<v.f) || decide (v.t<w.f)
def znl:Bool:=(yd 5).all fun w=>(yd 4).all fun v=>zfi w v || (!decide (v.a=1)&&!decide (v.a=2)&&!decide (v.a=3)&&!decide (v.a=5))
def znv:Bool:=(yd 6).all fun w=>(yd 4).all fun v=>zfi w v || (!decide (v.a=1)&&!decide (v.a=2)&&!decide (v.a=3))
def znx:Bool:=(yd 6).all fun w=>decide (w.a=2) || (decide (w.a=1)&&decide (w.f=w.t)&&decide (zJ za w.f=4))
theorem zia:znl=true:=by decide+kernel
theorem zjg:znv=true:=by decide+kernel
theorem zcj:znx=true:=by decide+kernel
theorem Jm(x:Int):wo T0 x=zJ za x:=by unfold wo zJ;rw[zk6]
theorem zcy(x:Int):KL T0 x=ZC za x:=by unfold KL ZC;rw[Jm,zkY]
attribute [local irreducible] za
theorem row_in {k x:Int}(h:aL za k x≠0):∃w∈yd k,w.f≤x∧x≤w.t∧aL za k x=w.a:=by
 obtain⟨w,h1,h2,h3,h4,h5⟩:=zd8 h
 exact⟨w,List.mem_filter.2 ⟨h1,by simp[h2]⟩,h3,h4,h5⟩
theorem zbA {w v:Row} {x:Int}(h1:w.f≤x)(h2:x≤w.t)(h3:v.f≤x)(h4:x≤v.t):zfi w v=false:=by
 unfold zfi
 simp only[Bool.or_eq_false_iff,decide_eq_false_iff_not]
 omega
theorem zg2(x:Int):zJ za x=12∨zJ za x=13∨zJ za x=aL za 4 x:=by
 unfold zJ
 split
 ·split
  ·exact .inl rfl
  ·exact .inr (.inl rfl)
 ·exact .inr (.inr rfl)
theorem ziA {x b:Int}(hb:zJ za x=b)(h0:b≠0)(h12:b≠12)(h13:b≠13):∃v∈yd 4,v.f≤x∧x≤v.t∧v.a=b:=by
 rcases zg2 x with e|e|e
 ·exact absurd (hb.symm.trans e) h12
 ·exact absurd (hb.symm.trans e) h13
 ·have e2:aL za 4 x=b:=e.symm.trans hb
  obtain⟨v,h1,h2,h3,h4⟩:=row_in (k:=4) (x:=x) (by rw[e2];exact h0)
  exact⟨v,h1,h2,h3,by rw[←h4,e2]⟩
theorem f1 {x:Int}(h:aL za 5 x=1):zJ za x≠1∧zJ za x≠2∧zJ za x≠3∧zJ za x≠5:=by
 obtain⟨w,h1,h2,h3,_⟩:=row_in (k:=5) (x:=x) (by rw[h];decide)
 have key:∀b:Int,b≠0→b≠12→b≠13→(b=1∨b=2∨b=3∨b=5)→zJ za x≠b:=by
  intro b b0 b1 b2 hb e
  obtain⟨v,g1,g2,g3,g4⟩:=ziA e b0 b1 b2
  have f:=List.all_eq_true.1 (List.all_eq_true.1 zia w h1) v g1
  rw[zbA h2 h3 g2 g3]at f
  simp only[Bool.false_or,Bool.and_eq_true,Bool.not_eq_true',decide_eq_false_iff_not]at f
  omega
 exact⟨key 1 (by decide) (by decide) (by decide) (by decide),key 2 (by decide) (by decide) (by decide) (by decide),key 3 (by decide) (by decide) (by decide) (by decide),key 5 (by decide) (by decide) (by decide) (by decide)⟩
theorem f4(x:Int):ZC za x=0∨ZC za x=1∨ZC za x=2∨ZC za x=3:=by
 unfold ZC
 split
 ·rename_i h
  obtain⟨w,h1,_,_,h4⟩:=row_in h
  have f:=List.all_eq_true.1 zcj w h1
  simp only[Bool.or_eq_true,Bool.and_eq_true,decide_eq_true_eq]at f
  omega
 ·split<;>simp
theorem f3 {x:Int}(h:ZC za x=1∨ZC za x=3):zJ za x=4∨zJ za x=5:=by
 unfold ZC at h
 split at h
 ·rename_i h0
  obtain⟨w,h1,h2,h3,h4⟩:=row_in h0
  have f:=List.all_eq_true.1 zcj w h1
  simp only[Bool.or_eq_true,Bool.and_eq_true,decide_eq_true_eq]at f
  have:x=w.f:=by omega
  rw[this]
  exact .inl (by omega)
 ·split at h
  ·rename_i g;exact g.1
  ·omega
theorem f2 {x:Int}(h:ZC za x≠0):zJ za x≠1∧zJ za x≠2∧zJ za x≠3:=by
 by_cases h0:aL za 6 x=0
 ·have e:ZC za x=if(zJ za x=4∨zJ za x=5)∧x≠8204 then 3 else 0:=by unfold ZC;rw[if_neg (fun q=>q h0)]
  rw[e]at h
  split at h
  ·rename_i g;have:=g.1;omega
  ·exact absurd rfl h
 ·obtain⟨w,h1,h2,h3,_⟩:=row_in h0
  have key:∀b:Int,b≠0→b≠12→b≠13→(b=1∨b=2∨b=3)→zJ za x≠b:=by
   intro b b0 b1 b2 hb e
   obtain⟨v,g1,g2,g3,g4⟩:=ziA e b0 b1 b2
   have f:=List.all_eq_true.1 (List.all_eq_true.1 zjg w h1) v g1
   rw[zbA h2 h3 g2 g3]at f
   simp only[Bool.false_or,Bool.and_eq_true,Bool.not_eq_true',decide_eq_false_iff_not]at f
   omega
  exact⟨key 1 (by decide) (by decide) (by decide) (by decide),key 2 (by decide) (by decide) (by decide) (by decide),key 3 (by decide) (by decide) (by decide) (by decide)⟩
end Go.Proofs.YtjefahhmkcfiiaaGreat
end
