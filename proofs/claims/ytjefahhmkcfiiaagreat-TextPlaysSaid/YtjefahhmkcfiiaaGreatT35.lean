/- A part of the proof of this seat's statements, by an abstract machine: what each operation does to values, and what the law's functions compute. Conditions: as each law says. -/
import Derived.Test.YtjefahhmkcfiiaaGreatT34
import Derived.Test.YtjefahhmkcfiiaaGreatT24
section
namespace Go.Proofs.YtjefahhmkcfiiaaGreat
open Go.AM
set_option maxHeartbeats 4000000
set_option maxRecDepth 100000
theorem KS(k i:Int)(h:0≤i∧i≤1114111):∀l:List Row,(l.find? (ke k i)).map j9=atL (zU l k) i
 | []=>rfl
 |r::l=>by
  have ih:=KS k i h l
  have e:zU (r::l) k=if r.k=k then j9 r::zU l k else zU l k:=by
   by_cases hk:r.k=k<;>simp[zU,hk]
  rw[e,List.find?_cons]
  by_cases hk:r.k=k
  ·rw[if_pos hk]
   unfold atL at ih⊢
   rw[List.find?_cons]
   by_cases hq:r.f≤i∧i≤r.t
   ·have h1:ke k i r=true:=by simp[ke,hk,hq.1,hq.2]
    have h2:decide ((j9 r).f≤i∧i≤(j9 r).t)=true:=decide_eq_true (show max r.f 0≤i∧i≤min r.t 1114111 from⟨by omega,by omega⟩)
    rw[h1,h2];rfl
   ·have h1:ke k i r=false:=by
     unfold ke
     by_cases q1:r.f≤i
     ·have:¬i≤r.t:=fun q2=>hq ⟨q1,q2⟩
      simp[this]
     ·simp[q1]
    have h2:decide ((j9 r).f≤i∧i≤(j9 r).t)=false:=decide_eq_false (show ¬(max r.f 0≤i∧i≤min r.t 1114111)from fun q=>hq ⟨by omega,by omega⟩)
    rw[h1,h2];exact ih
  ·rw[if_neg hk]
   have h1:ke k i r=false:=by simp[ke,hk]
   rw[h1];exact ih
def spA(l:List Span)(i:Int):Int:=match atL l i with|some s=>s.a|none=>0
theorem WA(l:List Row)(k i:Int)(h:0≤i∧i≤1114111):aL l k i=spA (zU l k) i:=by
 have e:=KS k i h l
 unfold aL spA rowAt
 rw[if_neg (by omega),←e]
 cases l.find? (ke k i)<;>rfl
theorem Yf(i:Int):∀l:List Span,qY 0 i (l.map jc)=spA l i
 | []=>rfl
 |s::l=>by
  have ih:=Yf i l
  simp only[List.map_cons,qY]
  unfold spA atL at ih⊢
  rw[List.find?_cons]
  by_cases h:s.f≤i∧i≤s.t
  ·have h1:decide (s.f≤i∧i≤s.t)=true:=by simpa using h
   rw[if_pos (by exact h),h1];rfl
  ·have h1:decide (s.f≤i∧i≤s.t)=false:=by simpa using h
   rw[if_neg (by exact h),h1];exact ih
theorem kj1:qt za 1=zU za 1:=by decide+kernel
theorem kj2:qt za 2=zU za 2:=by decide+kernel
theorem kj4:qt za 4=zU za 4:=by decide+kernel
theorem kj5:qt za 5=zU za 5:=by decide+kernel
theorem kj6:qt za 6=zU za 6:=by decide+kernel
theorem Kx(l:List Row)(k i:Int)(h:¬(0≤i∧i≤1114111)):aL l k i=0:=by
 unfold aL rowAt
 rw[if_pos (by omega)]
theorem Yg(r:Int):T0.cls (rn r)=aL za 1 r:=by
 by_cases h:0≤r∧r≤1114111
 ·rw[WA _ _ _ h,←kj1,←Yf,Vf (by omega)];exact congrArg (fun x=>qY 0 x ((qt za 1).map jc)) (Int.toNat_of_nonneg h.1)
 ·rw[wg (by omega),Kx _ _ _ h];exact Z3.c
theorem zm2(r:Int):T0.brk (rn r)=aL za 4 r:=by
 by_cases h:0≤r∧r≤1114111
 ·rw[WA _ _ _ h,←kj4,←Yf,Vf (by omega)];exact congrArg (fun x=>qY 0 x ((qt za 4).map jc)) (Int.toNat_of_nonneg h.1)
 ·rw[wg (by omega),Kx _ _ _ h];exact Z3.b
theorem zmz(r:Int):T0.cnj (rn r)=aL za 6 r:=by
 by_cases h:0≤r∧r≤1114111
 ·rw[WA _ _ _ h,←kj6,←Yf,Vf (by omega)];exact congrArg (fun x=>qY 0 x ((qt za 6).map jc)) (Int.toNat_of_nonneg h.1)
 ·rw[wg (by omega),Kx _ _ _ h];exact Z3.j
theorem zhj(r:Int):(T0.flg (rn r)).p=decide (aL za 5 r=1):=by
 by_cases h:0≤r∧r≤1114111
 ·have e:(T0.flg (rn r)).p=qV (qt za 5) r:=by
   rw[Vf (by omega)];exact congrArg (qV (qt za 5)) (Int.toNat_of_nonneg h.1)
  rw[e,WA _ _ _ h,kj5]
  unfold qV spA
  cases atL (zU za 5) r with
  |none=>rfl
  |some s=>simp only;rfl
 ·rw[wg (by omega),Kx _ _ _ h,Z3.f];rfl
def zh0(l:List Span)(i:Int):Zh:=match atL l i with|some s=>⟨s.a,s.b⟩|none=>⟨0,0⟩
theorem zhV(i:Int):∀l:List Span,qY ⟨0,0⟩ i (l.map jV)=zh0 l i
 | []=>rfl
 |s::l=>by
  have ih:=zhV i l
  simp only[List.map_cons,qY]
  unfold zh0 atL at ih⊢
  rw[List.find?_cons]
  by_cases h:s.f≤i∧i≤s.t
  ·have h1:decide (s.f≤i∧i≤s.t)=true:=by simpa using h
   rw[if_pos (by exact h),h1];rfl
  ·have h1:decide (s.f≤i∧i≤s.t)=false:=by simpa using h
   rw[if_neg (by exact h),h1];exact ih
theorem zh3(r:Int):T0.par (rn r)=(match Zk za r with|some p=>⟨p.1,p.2⟩|none=>⟨0,0⟩):=by
 by_cases h:0≤r∧r≤1114111
 ·have e:T0.par (rn r)=zh0 (zU za 2) r:=by
   rw[←kj2,←zhV,Vf (by omega)];exact congrArg (fun x=>qY (⟨0,0⟩:Zh) x ((qt za 2).map jV)) (Int.toNat_of_nonneg h.1)
  rw[e]
  have q:=KS 2 r h za
  unfold zh0 Zk rowAt
  rw[if_neg (by omega),←q]
  cases za.find? (ke 2 r)with
  |none=>rfl
  |some x=>
   simp only[Option.map_some,j9]
   by_cases h0:x.a=0∧x.b=0
   ·rw[if_pos h0];simp[h0.1,h0.2]
   ·rw[if_neg h0]
 ·have e:Zk za r=none:=by unfold Zk rowAt;rw[if_pos (by omega)]
  rw[wg (by omega),Z3.p,e]
theorem vf:∀(d:Nat) (r:Int),qX T0 d r=qj za d r
 |0,r=>rfl
 |d+1,r=>by
  unfold qX qj
  split
  ·rfl
  ·have e:=zh3 r
   cases hp:Zk za r with
   |none=>
    rw[hp]at e
    rw[e];simp
   |some p=>
    rw[hp]at e
    have h0:¬(p.1=0∧p.2=0):=by
     intro h0
     unfold Zk at hp
     cases hr:rowAt za 2 r with
     |none=>rw[hr]at hp;simp at hp
     |some x=>
      rw[hr]at hp
      simp only at hp
      split at hp
      ·simp at hp
      ·rename_i hx
       have:=Option.some.inj hp
       rw[←this]at h0
       exact hx h0
    rw[e]
    simp only
    rw[if_neg h0,vf d p.1,vf d p.2]
theorem zjB(l:List Int):QC T0 l=ZF za l:=by
 unfold QC ZF
 congr 1;funext r;exact vf 8 r
theorem zhl:zQ T0=kD za:=by funext r;exact Yg r
end Go.Proofs.YtjefahhmkcfiiaaGreat
end
section
namespace Go.Proofs.YtjefahhmkcfiiaaGreat
open Go.AM
set_option maxHeartbeats 4000000
set_option maxRecDepth 100000
theorem zh6(k:Int→Int)(x y:Int)(h:k x<k y):∀S:List Int,WX k x (S++[y])=WX k x S++[y]
 | []=>by simp[WX,h]
 |z::S=>by
  simp only[List.cons_append,WX]
  split
  ·rfl
  ·rw[zh6 k x y h S];rfl
theorem zhI(k:Int→Int)(x:Int):∀S:List Int,(∀z∈S,k z≤k x)→WX k x S=S++[x]
 | [],_=>rfl
 |z::S,h=>by
  simp only[WX]
  rw[if_neg (by have:=h z (by simp);omega),zhI k x S (fun y hy=>h y (by simp[hy]))];rfl
def zpT(k:Int→Int)(D:List Int):Prop:=D=[]∨∃D' d,D=D'++[d]∧k d=0
theorem zbn {k:Int→Int}(hk:∀x,0≤k x) {D:List Int}(hD:zpT k D)(x:Int)(hx:k x≠0):∀(n:Nat) (S:List Int),S.length=n→qw k S→QK k (D++S) x=D++WX k x S
 |0,S,hn,_=>by
  obtain rfl:=List.eq_nil_of_length_eq_zero hn
  rcases hD with rfl|⟨D',d,rfl,hd⟩
  ·rfl
  ·have:=hk x
   unfold QK
   simp only[List.append_nil,List.reverse_append,List.reverse_cons,List.reverse_nil,List.nil_append,List.singleton_append,qf]
   rw[if_neg (by omega)]
   simp[WX]
 |n+1,S,hn,hs=>by
  obtain⟨S',y,rfl⟩:=vX (A:=S) (fun e=>by rw[e]at hn;simp at hn)
  have hs':qw k S':=(List.pairwise_append.1 hs).1
  have hle:∀z∈S',k z≤k y:=fun z hz=>(List.pairwise_append.1 hs).2.2 z hz y (by simp)
  by_cases h:k x<k y
  ·rw[zh6 k x y h,←List.append_assoc,←List.append_assoc,←zbn hk hD x hx n S' (by simpa using hn) hs']
   unfold QK
   rw[List.reverse_append,List.reverse_cons,List.reverse_nil,List.nil_append,List.singleton_append,qf,if_pos ⟨hx,h⟩,List.reverse_cons]
  ·rw[zhI k x (S'++[y]) (fun z hz=>by
    rcases List.mem_append.1 hz with hz|hz
    ·have:=hle z hz;omega
    ·rw[List.mem_singleton.1 hz];omega)]
   unfold QK
   rw[←List.append_assoc,List.reverse_append,List.reverse_cons,List.reverse_nil,List.nil_append,List.singleton_append,qf,if_neg (by omega)]
   simp
theorem ziD {k:Int→Int}(O:List Int)(x:Int)(hx:k x=0):QK k O x=O++[x]:=by
 unfold QK
 cases h:O.reverse with
 |nil=>rw[List.reverse_eq_nil_iff.1 h];rfl
 |cons y l=>
  have e:O=(y::l).reverse:=by rw[←h,List.reverse_reverse]
  rw[qf,if_neg (by omega),e];simp
theorem zgH(k:Int→Int)(run:List Int)(x:Int):Q6 k (run++[x])=WX k x (Q6 k run):=by simp[Q6,List.foldl_append]
theorem zhf {k:Int→Int}(hk:∀x,0≤k x):∀(l run D:List Int),zpT k D→l.foldl (QK k) (D++Q6 k run)=D++jq k run l
 | [],run,D,_=>rfl
 |x::l,run,D,hD=>by
  simp only[List.foldl_cons,jq]
  by_cases hx:k x=0
  ·rw[if_pos hx,ziD _ _ hx]
   have ih:=zhf hk l [] (D++Q6 k run++[x]) (.inr ⟨_,_,rfl,hx⟩)
   simp only[Q6,List.foldl_nil,List.append_nil]at ih⊢
   rw[ih];simp
  ·rw[if_neg hx,zbn hk hD x hx _ _ rfl (vC k run).1,←zgH]
   exact zhf hk l (run++[x]) D hD
theorem zkH {k:Int→Int}(hk:∀x,0≤k x)(l:List Int):jK k l=Xa k l:=by
 have:=zhf hk l [] [] (.inl rfl)
 simpa[jK,Xa,Q6]using this
theorem zgU {l:List Row} {k r:Int}(h:aL l k r≠0):∃w∈l,w.k=k∧w.f≤r∧r≤w.t∧aL l k r=w.a:=by
 unfold aL at h⊢
 cases e:rowAt l k r with
 |none=>rw[e]at h;exact absurd rfl h
 |some w=>
  unfold rowAt at e
  split at e
  ·simp at e
  ·have h1:=List.mem_of_find?_eq_some e
   have h2:=List.find?_some e
   simp only[ke,Bool.and_eq_true,decide_eq_true_eq]at h2
   exact⟨w,h1,h2.1.1,h2.1.2,h2.2,rfl⟩
def zqo:Bool:=za.all fun w=>!decide (w.k=1) || (decide (0≤w.a)&&(decide (w.t<44032) || decide (55203<w.f)))
theorem zmD:zqo=true:=by decide+kernel
theorem zhq {w:Row}(h:w∈za)(hk:w.k=1):0≤w.a∧(w.t<44032∨55203<w.f):=by
 have:=List.all_eq_true.1 zmD w h
 simpa[hk]using this
theorem zhb(x:Int):0≤kD za x:=by
 by_cases h:aL za 1 x=0
 ·show 0≤aL za 1 x;omega
 ·obtain⟨w,h1,h2,_,_,e⟩:=zgU h
  show 0≤aL za 1 x
  rw[e];exact(zhq h1 h2).1
theorem zmp(l:List Int):J3 T0 l=ky za l:=by
 unfold J3 ky
 rw[zhl,zjB,zkH zhb]
theorem zkl(a b:Int):yV a b=z7 a b:=by
 unfold yV z7
 by_cases h1:4352≤a∧a<4371∧4449≤b∧b<4470
 ·rw[if_pos h1,if_pos (by omega)];congr 1;omega
 ·have n1:¬(4352≤a∧a≤4370∧4449≤b∧b≤4469):=fun g=>h1 ⟨g.1,by omega,g.2.2.1,by omega⟩
  rw[if_neg h1,if_neg n1]
  by_cases h2:Zm a=true∧(a-44032)%28=0∧4519<b∧b<4547
  ·rw[if_pos h2,if_pos (by obtain⟨g1,g2,g3,g4⟩:=h2;exact⟨g1,g2,by omega,by omega⟩)];congr 1;omega
  ·rw[if_neg h2,if_neg (fun g=>h2 ⟨g.1,g.2.1,by omega,by omega⟩)]
def vA(l:List Row)(w:Row):Option (Zh×Int):=if w.k=2∧w.b≠0∧Zk l w.f=some (w.a,w.b)∧yQ l w.f=false then some (⟨w.a,w.b⟩,w.f)else none
def Ul(l:List Row):List (Zh×Int):=l.filterMap (vA l)
end Go.Proofs.YtjefahhmkcfiiaaGreat
end
section
namespace Go.Proofs.YtjefahhmkcfiiaaGreat
open Go.AM
set_option maxHeartbeats 4000000
set_option maxRecDepth 100000
theorem zbT:M0.1=Ul za:=by decide+kernel
def zmj:List (Zh×Int)→Bool
 | []=>true
 |c::l=>l.all (fun d=>!decide (d.1=c.1))&&zmj l
theorem zjF:zmj (Ul za)=true:=by decide+kernel
end Go.Proofs.YtjefahhmkcfiiaaGreat
end
section
namespace Go.Proofs.YtjefahhmkcfiiaaGreat
open Go.AM
set_option maxHeartbeats 400000
attribute [local irreducible] za
set_option maxRecDepth 100000
def yu(x y:Int)(acc:Option Int)(c:Zh×Int):Option Int:=if c.1=⟨x,y⟩∧(∀z,acc=some z→c.2<z)then some c.2 else acc
theorem zi4(l:List Row)(x y:Int)(acc:Option Int)(w:Row):Z0 l x y acc w=(match vA l w with|some c=>yu x y acc c|none=>acc):=by
 unfold Z0 vA
 by_cases h:w.k=2∧w.b≠0∧Zk l w.f=some (w.a,w.b)∧yQ l w.f=false
 ·rw[if_pos h]
  obtain⟨h1,h2,h3,h4⟩:=h
  unfold yu
  simp only
  by_cases g:(⟨w.a,w.b⟩:Zh)=⟨x,y⟩∧∀z,acc=some z→w.f<z
  ·obtain⟨g1,g2⟩:=g
   injection g1 with ga gb
   subst ga;subst gb
   rw[if_pos ⟨h1,rfl,rfl,h2,h3,h4,g2⟩,if_pos ⟨rfl,g2⟩]
  ·rw[if_neg g,if_neg (fun q=>g ⟨by rw[q.2.1,q.2.2.1],q.2.2.2.2.2.2⟩)]
 ·rw[if_neg h,if_neg (fun q=>h ⟨q.1,by rw[q.2.2.1];exact q.2.2.2.1,by rw[q.2.1,q.2.2.1];exact q.2.2.2.2.1,q.2.2.2.2.2.1⟩)]
theorem zbc(l:List Row)(x y:Int):∀(ws:List Row) (acc:Option Int),ws.foldl (Z0 l x y) acc=(ws.filterMap (vA l)).foldl (yu x y) acc
 | [],_=>rfl
 |w::ws,acc=>by
  rw[List.foldl_cons,zi4,zbc l x y ws,List.filterMap_cons]
  cases vA l w<;>rfl
theorem ze7(x y:Int):∀(cs:List (Zh×Int)) (acc:Option Int),(∀c∈cs,c.1≠⟨x,y⟩)→cs.foldl (yu x y) acc=acc
 | [],_,_=>rfl
 |c::cs,acc,h=>by
  have e:yu x y acc c=acc:=if_neg (fun q=>h c (by simp) q.1)
  rw[List.foldl_cons,e,ze7 x y cs acc (fun d hd=>h d (by simp[hd]))]
theorem zbb(x y:Int):∀cs:List (Zh×Int),zmj cs=true→cs.foldl (yu x y) none=mkB cs ⟨x,y⟩
 | [],_=>rfl
 |c::cs,h=>by
  simp only[zmj,Bool.and_eq_true,List.all_eq_true]at h
  rw[List.foldl_cons]
  unfold mkB
  rw[List.find?_cons]
  by_cases e:c.1=⟨x,y⟩
  ·have e1:yu x y none c=some c.2:=if_pos ⟨e,fun z hz=>by cases hz⟩
   have e2:(c.1==(⟨x,y⟩:Zh))=true:=by rw[e];exact beq_self_eq_true _
   rw[e1,e2,ze7 x y cs _ (fun d hd q=>by
    have:=h.1 d hd
    rw[q,e]at this;simp at this)]
   rfl
  ·have e1:yu x y none c=none:=if_neg (fun q=>e q.1)
   have e2:(c.1==(⟨x,y⟩:Zh))=false:=by simpa using e
   rw[e1,e2]
   exact zbb x y cs h.2
theorem WS(x y:Int):wY za x y=mkB (Ul za) ⟨x,y⟩:=by
 unfold wY
 rw[zbc]
 exact zbb x y _ zjF
theorem Yh {m:List (Zh×Int)} {q:Zh} {r:Int}(h:mkB m q=some r):(q,r)∈m:=by
 unfold mkB at h
 cases e:m.find? (fun x=>x.1==q)with
 |none=>rw[e]at h;simp at h
 |some c=>
  rw[e]at h
  have h1:=List.mem_of_find?_eq_some e
  have h2:c.1=q:=by simpa using List.find?_some e
  have h3:c.2=r:=by simpa using h
  rw[←h2,←h3];exact h1
theorem zbM {q:Zh} {r:Int}(h:(q,r)∈Ul za):q.b≠0∧aL za 1 r=0:=by
 obtain⟨w,_,hw⟩:=List.mem_filterMap.1 h
 unfold vA at hw
 split at hw
 ·rename_i g
  injection hw with hw
  injection hw with h1 h2
  subst h1;subst h2
  refine⟨g.2.1,?_⟩
  have:=g.2.2.2
  unfold yQ at this
  rw[g.2.2.1]at this
  simp only[Bool.or_eq_false_iff,Bool.not_eq_false',decide_eq_true_eq]at this
  exact this.1.2
 ·simp at hw
theorem zn5:mk2 M0.1=mkD za:=by
 funext a b
 unfold mk2 mkD
 rw[zkl,zbT,WS]
 by_cases hb:b=0
 ·rw[if_pos hb]
  cases e:mkB (Ul za) ⟨a,b⟩with
  |none=>rfl
  |some r=>exact absurd hb (zbM (Yh e)).1
 ·rw[if_neg hb]
theorem zkB(a b c:Int)(h:mkD za a b=some c):kD za c=0:=by
 unfold mkD at h
 cases hj:z7 a b with
 |none=>
  rw[hj,Option.none_or,WS]at h
  exact(zbM (Yh h)).2
 |some z=>
  rw[hj,Option.some_or]at h
  have hz:z=c:=Option.some.inj h
  subst hz
  have hr:44032≤z∧z≤55203:=by
   unfold z7 at hj
   split at hj
   ·have:=Option.some.inj hj;omega
   ·split at hj
    ·rename_i g
     have:=Option.some.inj hj
     have g1:=g.1
     simp only[Zm,Bool.and_eq_true,decide_eq_true_eq]at g1
     omega
    ·simp at hj
  by_cases h0:aL za 1 z=0
  ·exact h0
  ·obtain⟨w,h1,h2,h3,h4,_⟩:=zgU h0
   have:=(zhq h1 h2).2
   omega
theorem zf1(k:Int→Int)(c:Int)(hc:k c=0):∀O:List Int,0≤zY k O→zY k (O.set (zY k O).toNat c)=zY k O:=by
 refine fun O=>xE (P:=fun O=>0≤zY k O→zY k (O.set (zY k O).toNat c)=zY k O) (fun h=>by rw[xn]at h;omega) (fun o y ih h=>?_) O.length O rfl
 rw[Zg]at h⊢
 by_cases hy:k y=0
 ·rw[if_pos hy,Int.toNat_natCast]
  have e:(o++[y]).set o.length c=o++[c]:=by
   rw[List.set_append_right _ _ (Nat.le_refl _)];simp
  rw[e,Zg,if_pos hc]
 ·rw[if_neg hy]at h⊢
  have hlt:=(wQ k o).2
  have e:(o++[y]).set (zY k o).toNat c=o.set (zY k o).toNat c++[y]:=List.set_append_left _ _ (by omega)
  rw[e,Zg,if_neg hy,ih h]
theorem zf6(k:Int→Int)(O:List Int)(h0:O≠ [])(h:zY k O<O.length-1):k (O[O.length-1]?.getD 0)≠0:=by
 obtain⟨o,y,rfl⟩:=vX h0
 rw[Zg]at h
 have e:(o++[y])[(o++[y]).length-1]?.getD 0=y:=by simp
 rw[e]
 intro hy
 rw[if_pos hy,List.length_append,List.length_singleton]at h
 omega
structure zdj(k:Int→Int)(z:Cst)(O:List Int):Prop where
 o:z.o=O
 s:z.s=zY k O
 l:O≠ []→zY k O<O.length-1→z.l=k (O[O.length-1]?.getD 0)
theorem zdj.push {k:Int→Int} {z:Cst} {O:List Int}(h:zdj k z O)(x:Int):zdj k (ZY k z x) (O++[x]):=by
 obtain⟨h1,h2,h3⟩:=h
 refine⟨by simp[ZY,h1],?_,fun _ _=>by simp[ZY]⟩
 rw[Zg];simp[ZY,h1,h2]
theorem zdj.step {k:Int→Int} {mk:Int→Int→Option Int}(hm:∀a b c,mk a b=some c→k c=0) {z:Cst} {O:List Int}(h:zdj k z O)(x:Int):zdj k (yU k mk z x) (QG k mk O x):=by
 have hp:=h.push x
 obtain⟨h1,h2,h3⟩:=h
 subst h1
 have hlt:=wQ k z.o
 have hfree:zbI k z x↔0≤zY k z.o∧uh k z.o (zY k z.o) x=true:=by
  unfold zbI uh
  rw[h2]
  simp only[Bool.or_eq_true,decide_eq_true_eq]
  by_cases h0:0≤zY k z.o
  ·have hne:z.o≠ []:=fun e=>by rw[e,xn]at h0;omega
   by_cases he:zY k z.o=z.o.length-1
   ·simp[he]
   ·have hl:=h3 hne (by omega)
    have hk:=zf6 k z.o hne (by omega)
    rw[←hl]at hk⊢
    simp[h0,he,hk]
  ·simp[h0]
 unfold yU QG
 by_cases hf:zbI k z x
 ·have hf2:=hfree.1 hf
  rw[if_pos hf,if_pos hf2,h2]
  cases e:mk (z.o[(zY k z.o).toNat]?.getD 0) x with
  |none=>simp only;exact hp
  |some c=>
   have hc:=hm _ _ _ e
   have es:=zf1 k c hc z.o hf2.1
   refine⟨rfl,es.symm,fun h4 h5=>?_⟩
   simp only at h4 h5⊢
   rw[es,List.length_set]at h5
   have hne:z.o≠ []:=fun e=>by rw[e]at h4;simp at h4
   rw[h3 hne h5,List.length_set,List.getElem?_set_ne (by omega)]
 ·rw[if_neg hf,if_neg (fun g=>hf (hfree.2 g))]
  exact hp
theorem ziC {k:Int→Int} {mk:Int→Int→Option Int}(hm:∀a b c,mk a b=some c→k c=0)(l:List Int):(ZL k mk l).o=Zp k mk l:=by
 have H:∀l:List Int,zdj k (ZL k mk l) (Zp k mk l):=fun l=>by
  refine xE (P:=fun l=>zdj k (ZL k mk l) (Zp k mk l)) ⟨rfl,rfl,fun h=>absurd rfl h⟩ (fun o y ih=>?_) l.length l rfl
  rw[zaa,Wf]
  exact ih.step hm y
 exact(H l).o
theorem zhW(l:List Int):vi T0 M0.1 l=zZ za l:=by
 unfold vi zZ zlq vO
 rw[zmp,zhl,zn5,ziC zkB]
end Go.Proofs.YtjefahhmkcfiiaaGreat
end
section
namespace Go.Proofs.YtjefahhmkcfiiaaGreat
open Go.AM
set_option maxHeartbeats 1000000
set_option maxRecDepth 100000
def yX(k:Int):List Row:=za.filter fun w=>decide (w.k=k)
def zgj(w v:Row):Bool:=decide (w.t<v.f) || decide (v.t<w.f)
def zqh:Bool:=(yX 5).all fun w=>(yX 4).all fun v=>zgj w v || (!decide (v.a=1)&&!decide (v.a=2)&&!decide (v.a=3)&&!decide (v.a=5))
def zqc:Bool:=(yX 6).all fun w=>(yX 4).all fun v=>zgj w v || (!decide (v.a=1)&&!decide (v.a=2)&&!decide (v.a=3))
def zp7:Bool:=(yX 6).all fun w=>decide (w.a=2) || (decide (w.a=1)&&decide (w.f=w.t)&&decide (zP za w.f=4))
theorem zkG:zqh=true:=by decide+kernel
theorem zj0:zqc=true:=by decide+kernel
theorem zd9:zp7=true:=by decide+kernel
theorem Xf(x:Int):vK T0 x=zP za x:=by unfold vK zP;rw[zm2]
theorem zfc(x:Int):J0 T0 x=ZT za x:=by unfold J0 ZT;rw[Xf,zmz]
attribute [local irreducible] za
theorem row_in {k x:Int}(h:aL za k x≠0):∃w∈yX k,w.f≤x∧x≤w.t∧aL za k x=w.a:=by
 obtain⟨w,h1,h2,h3,h4,h5⟩:=zgU h
 exact⟨w,List.mem_filter.2 ⟨h1,by simp[h2]⟩,h3,h4,h5⟩
theorem zcW {w v:Row} {x:Int}(h1:w.f≤x)(h2:x≤w.t)(h3:v.f≤x)(h4:x≤v.t):zgj w v=false:=by
 unfold zgj
 simp only[Bool.or_eq_false_iff,decide_eq_false_iff_not]
 omega
theorem zi7(x:Int):zP za x=12∨zP za x=13∨zP za x=aL za 4 x:=by
 unfold zP
 split
 ·split
  ·exact .inl rfl
  ·exact .inr (.inl rfl)
 ·exact .inr (.inr rfl)
theorem zk6 {x b:Int}(hb:zP za x=b)(h0:b≠0)(h12:b≠12)(h13:b≠13):∃v∈yX 4,v.f≤x∧x≤v.t∧v.a=b:=by
 rcases zi7 x with e|e|e
 ·exact absurd (hb.symm.trans e) h12
 ·exact absurd (hb.symm.trans e) h13
 ·have e2:aL za 4 x=b:=e.symm.trans hb
  obtain⟨v,h1,h2,h3,h4⟩:=row_in (k:=4) (x:=x) (by rw[e2];exact h0)
  exact⟨v,h1,h2,h3,by rw[←h4,e2]⟩
theorem f1 {x:Int}(h:aL za 5 x=1):zP za x≠1∧zP za x≠2∧zP za x≠3∧zP za x≠5:=by
 obtain⟨w,h1,h2,h3,_⟩:=row_in (k:=5) (x:=x) (by rw[h];decide)
 have key:∀b:Int,b≠0→b≠12→b≠13→(b=1∨b=2∨b=3∨b=5)→zP za x≠b:=by
  intro b b0 b1 b2 hb e
  obtain⟨v,g1,g2,g3,g4⟩:=zk6 e b0 b1 b2
  have f:=List.all_eq_true.1 (List.all_eq_true.1 zkG w h1) v g1
  rw[zcW h2 h3 g2 g3]at f
  simp only[Bool.false_or,Bool.and_eq_true,Bool.not_eq_true',decide_eq_false_iff_not]at f
  omega
 exact⟨key 1 (by decide) (by decide) (by decide) (by decide),key 2 (by decide) (by decide) (by decide) (by decide),key 3 (by decide) (by decide) (by decide) (by decide),key 5 (by decide) (by decide) (by decide) (by decide)⟩
theorem f4(x:Int):ZT za x=0∨ZT za x=1∨ZT za x=2∨ZT za x=3:=by
 unfold ZT
 split
 ·rename_i h
  obtain⟨w,h1,_,_,h4⟩:=row_in h
  have f:=List.all_eq_true.1 zd9 w h1
  simp only[Bool.or_eq_true,Bool.and_eq_true,decide_eq_true_eq]at f
  omega
 ·split<;>simp
theorem f3 {x:Int}(h:ZT za x=1∨ZT za x=3):zP za x=4∨zP za x=5:=by
 unfold ZT at h
 split at h
 ·rename_i h0
  obtain⟨w,h1,h2,h3,h4⟩:=row_in h0
  have f:=List.all_eq_true.1 zd9 w h1
  simp only[Bool.or_eq_true,Bool.and_eq_true,decide_eq_true_eq]at f
  have:x=w.f:=by omega
  rw[this]
  exact .inl (by omega)
 ·split at h
  ·rename_i g;exact g.1
  ·omega
theorem f2 {x:Int}(h:ZT za x≠0):zP za x≠1∧zP za x≠2∧zP za x≠3:=by
 by_cases h0:aL za 6 x=0
 ·have e:ZT za x=if(zP za x=4∨zP za x=5)∧x≠8204 then 3 else 0:=by unfold ZT;rw[if_neg (fun q=>q h0)]
  rw[e]at h
  split at h
  ·rename_i g;have:=g.1;omega
  ·exact absurd rfl h
 ·obtain⟨w,h1,h2,h3,_⟩:=row_in h0
  have key:∀b:Int,b≠0→b≠12→b≠13→(b=1∨b=2∨b=3)→zP za x≠b:=by
   intro b b0 b1 b2 hb e
   obtain⟨v,g1,g2,g3,g4⟩:=zk6 e b0 b1 b2
   have f:=List.all_eq_true.1 (List.all_eq_true.1 zj0 w h1) v g1
   rw[zcW h2 h3 g2 g3]at f
   simp only[Bool.false_or,Bool.and_eq_true,Bool.not_eq_true',decide_eq_false_iff_not]at f
   omega
  exact⟨key 1 (by decide) (by decide) (by decide) (by decide),key 2 (by decide) (by decide) (by decide) (by decide),key 3 (by decide) (by decide) (by decide) (by decide)⟩
end Go.Proofs.YtjefahhmkcfiiaaGreat
end
section
namespace Go.Proofs.YtjefahhmkcfiiaaGreat
open Go.AM
set_option maxHeartbeats 1000000
set_option maxRecDepth 10000
attribute [local irreducible] za
def pcD(x:Int):Bool:=decide (aL za 5 x=1)
structure KE(s:xP)(p:Int)(pre:List Int):Prop where
 so:s.some=true
 la:s.last=zP za p
 p2:s.pict=2↔(zP za p=5∧kU za pre=true)
 p1:s.pict=1↔kU za (p::pre)=true
 od:s.odd=decide (QU za (p::pre)%2=1)
 c2:s.conj=2↔QP za false (p::pre)=true
 c0:s.conj≠0↔QP za true (p::pre)=true
theorem KE.next {s:xP} {p:Int} {pre:List Int}(h:KE s p pre)(x:Int):KE (Zy s (zP za x) (pcD x) (ZT za x)) x (p::pre):=by
 obtain⟨h1,h2,h3,h4,h5,h6,h7⟩:=h
 have q1:= @f1 x
 have q4:=f4 x
 have b7:QP za true (p::pre)=decide (s.conj≠0):=by rw[Bool.eq_iff_iff,decide_eq_true_eq,h7]
 have b6:QP za false (p::pre)=decide (s.conj=2):=by rw[Bool.eq_iff_iff,decide_eq_true_eq,h6]
 refine⟨rfl,rfl,?_,?_,?_,?_,?_⟩
 ·simp only[Zy,pcD]
  by_cases a:aL za 5 x=1
  ·have:=q1 a
   simp[a,this.2.2.2]
  ·simp only[a,decide_false,Bool.false_eq_true,if_false]
   rw[←h4]
   by_cases b:s.pict=1
   ·by_cases e4:zP za x=4
    ·simp[b,e4]
    ·by_cases e5:zP za x=5<;>simp[b,e5,e4]
   ·simp[b]
 ·simp only[Zy,pcD]
  rw[kU]
  by_cases a:aL za 5 x=1
  ·simp[a]
  ·simp only[a,decide_false,Bool.false_eq_true,if_false]
   by_cases e4:zP za x=4
   ·rw[if_pos e4,←h4]
    by_cases b:s.pict=1<;>simp[b,e4]
   ·rw[if_neg e4]
    by_cases b:s.pict=1∧zP za x=5
    ·simp[b.1,b.2]
    ·simp[e4,b]
 ·simp only[Zy]
  rw[QU,h5]
  by_cases e6:zP za x=6
  ·rw[if_pos e6]
   simp only[e6,decide_true,Bool.true_and]
   rw[←decide_not,decide_eq_decide]
   omega
  ·rw[if_neg e6];simp[e6]
 ·simp only[Zy]
  rw[QP]
  rcases q4 with c|c|c|c<;>by_cases z:s.conj=0<;>simp[c,b6,b7,z]
 ·simp only[Zy]
  rw[QP]
  rcases q4 with c|c|c|c<;>by_cases z:s.conj=0<;>simp[c,b7,z]
theorem KE.cut {s:xP} {p:Int} {pre:List Int}(h:KE s p pre)(x:Int):yR s (zP za x) (pcD x) (ZT za x)=xJ za p pre x:=by
 obtain⟨h1,h2,h3,h4,h5,h6,h7⟩:=h
 obtain⟨P,hP⟩:∃P,P=(decide (s.pict=2)&&pcD x):=⟨_,rfl⟩
 obtain⟨C,hC⟩:∃C,C=(decide (s.conj=2)&&decide (ZT za x=2)):=⟨_,rfl⟩
 obtain⟨O,hO⟩:∃O,O=(s.odd&&decide (zP za x=6)):=⟨_,rfl⟩
 have eP:W5 za p pre x=P:=by
  rw[hP];unfold W5 pcD
  by_cases a:aL za 5 x=1
  ·by_cases b:zP za p=5
   ·rw[if_pos a,if_pos b]
    have:decide (s.pict=2)=kU za pre:=by
     rw[Bool.eq_iff_iff,decide_eq_true_eq,h3];simp[b]
    rw[this];simp[a]
   ·rw[if_pos a,if_neg b]
    have:¬s.pict=2:=fun q=>b (h3.1 q).1
    simp[this]
  ·rw[if_neg a];simp[a]
 have eC:W6 za (p::pre) x=C:=by
  rw[hC];unfold W6
  by_cases a:ZT za x=2
  ·rw[if_pos a]
   have:decide (s.conj=2)=QP za false (p::pre):=by
    rw[Bool.eq_iff_iff,decide_eq_true_eq,h6]
   rw[this];simp[a]
  ·rw[if_neg a];simp[a]
 have eO:uz za (p::pre) x=O:=by
  rw[hO];unfold uz
  by_cases a:zP za x=6
  ·rw[if_pos a,h5];simp[a]
  ·rw[if_neg a];simp[a]
 unfold xJ yR
 rw[eP,eC,eO,←hP,←hC,←hO,h2]
 have kP:P=true→¬(zP za p=1∨zP za p=2∨zP za p=3)∧¬(zP za x=1∨zP za x=2∨zP za x=3):=by
  intro q
  rw[hP]at q
  simp only[pcD,Bool.and_eq_true,decide_eq_true_eq]at q
  have a:=f1 q.2
  have b:=(h3.1 q.1).1
  omega
 have kC:C=true→¬(zP za p=1∨zP za p=2∨zP za p=3)∧¬(zP za x=1∨zP za x=2∨zP za x=3):=by
  intro q
  rw[hC]at q
  simp only[Bool.and_eq_true,decide_eq_true_eq]at q
  have a:=f2 (x:=x) (by omega)
  have b:=h6.1 q.1
  have c:=f2 (x:=p) (fun z=>by
   rw[QP,if_neg (by omega),if_pos z]at b
   exact absurd b (by decide))
  omega
 have kO:O=true→¬(zP za p=1∨zP za p=2∨zP za p=3)∧¬(zP za x=1∨zP za x=2∨zP za x=3):=by
  intro q
  rw[hO,h5]at q
  simp only[Bool.and_eq_true,decide_eq_true_eq]at q
  have b:zP za p=6:=by
   by_cases z:zP za p=6
   ·exact z
   ·have:=q.1
    rw[QU,if_neg z]at this
    omega
  omega
 clear hP hC hO eP eC eO h1 h2 h3 h4 h5 h6 h7
 generalize zP za p=a at*
 generalize zP za x=b at*
 by_cases hh:(a=1∨a=2∨a=3)∨(b=1∨b=2∨b=3)
 ·have P0:P=false:=by cases P with|false=>rfl|true=>have:=kP rfl;exact absurd hh (by omega)
  have C0:C=false:=by cases C with|false=>rfl|true=>have:=kC rfl;exact absurd hh (by omega)
  have O0:O=false:=by cases O with|false=>rfl|true=>have:=kO rfl;exact absurd hh (by omega)
  subst P0;subst C0;subst O0
  simp only[Bool.not_false,Bool.and_true]
  have hard:(ja a || ja b)=true:=by
   simp only[ja,Bool.or_eq_true,decide_eq_true_eq];omega
  rw[hard]
  unfold zT
  by_cases a1:a=1
  ·by_cases b2:b=2<;>simp[a1,b2]
  ·by_cases a2:a=2∨a=3
   ·rw[if_neg a1,if_pos a2,if_neg (fun q=>a1 q.1)];rfl
   ·have b3:b=1∨b=2∨b=3:=by omega
    rw[if_neg a1,if_neg a2,if_pos b3,if_neg (fun q=>a1 q.1)];rfl
 ·have hard:(ja a || ja b)=false:=by
   simp only[ja,Bool.or_eq_false_iff,decide_eq_false_iff_not];omega
  have e1:zT a b=(if b=4∨b=5∨b=8 then true else if a=7 then true else QN a b):=by
   unfold zT QN
   rw[if_neg (show ¬a=1 by omega),if_neg (show ¬(a=2∨a=3) by omega),if_neg (show ¬(b=1∨b=2∨b=3) by omega)]
   simp only[Bool.or_assoc]
  rw[e1,hard,if_neg (show ¬(a=1∧b=2) by omega)]
  clear e1 kP kC kO
  generalize QN a b=H
  by_cases b1:b=4∨b=5∨b=8
  ·rw[if_pos b1,if_pos (show b=4∨b=5∨b=8∨a=7 by omega)]
   cases H<;>rfl
  ·rw[if_neg b1]
   by_cases a7:a=7
   ·rw[if_pos a7,if_pos (show b=4∨b=5∨b=8∨a=7 by omega)]
    cases H<;>rfl
   ·rw[if_neg a7,if_neg (show ¬(b=4∨b=5∨b=8∨a=7) by omega)]
    cases H<;>cases C<;>cases P<;>cases O<;>rfl
def Beg(pre:List Int)(x:Int):Prop:=pre=[]∨∃p pre',pre=p::pre'∧xJ za p pre' x=true
theorem KE.start {pre:List Int} {x:Int}(h:Beg pre x):KE (Zy Z6 (zP za x) (pcD x) (ZT za x)) x pre:=by
 have q1:= @f1 x
 have q3:= @f3 x
 have q4:=f4 x
 have kp:zP za x=4∨zP za x=5→kU za pre=false∧∀sn,QP za sn pre=false:=by
  intro hb
  rcases h with rfl|⟨p,pre',rfl,hg⟩
  ·exact⟨rfl,fun _=>rfl⟩
  ·have hp:zP za p=1∨zP za p=2∨zP za p=3:=by
    unfold xJ at hg
    rw[if_neg (by omega)]at hg
    by_cases z:(ja (zP za p) || ja (zP za x))=true
    ·simp only[ja,Bool.or_eq_true,decide_eq_true_eq]at z;omega
    ·rw[if_neg z]at hg
     split at hg
     ·exact absurd hg (by decide)
     ·rw[if_pos (by omega)]at hg
      exact absurd hg (by decide)
   constructor
   ·have a:¬aL za 5 p=1:=fun q=>by have:=f1 q;omega
    rw[kU,if_neg a,if_neg (by omega)]
   ·intro sn
    have c:ZT za p=0:=by
     by_cases c:ZT za p=0
     ·exact c
     ·have:=f2 c;omega
    rw[QP,if_neg (by omega),if_pos c]
 have kf:zP za x=6→QU za pre%2=0:=by
  intro hb
  rcases h with rfl|⟨p,pre',rfl,hg⟩
  ·rfl
  ·by_cases hp:zP za p=6
   ·unfold xJ at hg
    rw[if_neg (by omega),if_neg (by rw[hp,hb];decide),if_neg (by rw[hp,hb];decide),if_neg (by omega)]at hg
    split at hg
    ·exact absurd hg (by decide)
    ·split at hg
     ·exact absurd hg (by decide)
     ·unfold uz at hg
      rw[if_pos hb]at hg
      simp only[Bool.not_eq_true',decide_eq_false_iff_not]at hg
      omega
   ·rw[QU,if_neg hp]
 refine⟨rfl,rfl,?_,?_,?_,?_,?_⟩
 ·have e:(Zy Z6 (zP za x) (pcD x) (ZT za x)).pict=if pcD x then 1 else 0:=by simp[Zy,Z6]
  rw[e]
  constructor
  ·intro z;split at z<;>omega
  ·rintro⟨z1,z2⟩
   rw[(kp (.inr z1)).1]at z2
   exact absurd z2 (by decide)
 ·have e:(Zy Z6 (zP za x) (pcD x) (ZT za x)).pict=if pcD x then 1 else 0:=by simp[Zy,Z6]
  rw[e,kU]
  by_cases a:aL za 5 x=1
  ·simp[pcD,a]
  ·rw[if_neg a]
   simp only[pcD,a,decide_false,Bool.false_eq_true,if_false]
   by_cases e4:zP za x=4
   ·rw[if_pos e4,(kp (.inl e4)).1];simp
   ·rw[if_neg e4];simp
 ·simp only[Zy,Z6,Bool.not_false,Bool.and_true]
  rw[QU,decide_eq_decide]
  by_cases e6:zP za x=6
  ·have:=kf e6
   rw[if_pos e6]
   constructor
   ·intro _;omega
   ·intro _;exact e6
  ·rw[if_neg e6];simp[e6]
 ·have e:(Zy Z6 (zP za x) (pcD x) (ZT za x)).conj=if ZT za x=2 then 1 else 0:=by simp[Zy,Z6]
  rw[e,QP]
  rcases q4 with c|c|c|c
  ·simp[c]
  ·rw[(kp (q3 (.inl c))).2];simp[c]
  ·simp[c]
  ·rw[(kp (q3 (.inr c))).2];simp[c]
 ·have e:(Zy Z6 (zP za x) (pcD x) (ZT za x)).conj=if ZT za x=2 then 1 else 0:=by simp[Zy,Z6]
  rw[e,QP]
  rcases q4 with c|c|c|c
  ·simp[c]
  ·rw[(kp (q3 (.inl c))).2];simp[c]
  ·simp[c]
  ·rw[(kp (q3 (.inr c))).2];simp[c]
theorem xF(s:xP)(x:Int):qQ T0 s x=(Zy s (zP za x) (pcD x) (ZT za x),!s.some || yR s (zP za x) (pcD x) (ZT za x)):=by
 unfold qQ pcD
 rw[Xf,zfc,zhj]
theorem zb7:∀(l:List Int) (s:xP) (p:Int) (pre:List Int),KE s p pre→ku T0 s l=Q5 za p pre l
 | [],_,_,_,_=>rfl
 |x::l,s,p,pre,h=>by
  have hc:=h.cut x
  have ih:=zb7 l _ _ _ (h.next x)
  rw[ku,Q5,xF]
  simp only
  rw[h.so,hc,ih]
  simp only[Bool.not_true,Bool.false_or]
  split
  ·rfl
  ·omega
theorem zet:∀(l:List Int) (p:Int) (pre:List Int) (y:Int) (ys:List Int),l.drop (Q5 za p pre l)=y::ys→Beg ((l.take (Q5 za p pre l)).reverse++p::pre) y
 | [],_,_,_,_,h=>by simp at h
 |x::l,p,pre,y,ys,h=>by
  rw[Q5]at h⊢
  by_cases g:xJ za p pre x=true
  ·rw[if_pos g]at h⊢
   simp only[List.drop_zero]at h
   injection h with h1 _
   subst h1
   exact .inr ⟨p,pre,by simp,g⟩
  ·rw[if_neg g]at h⊢
   rw[List.drop_succ_cons]at h
   have ih:=zet l x (p::pre) y ys h
   rw[List.take_succ_cons,List.reverse_cons,List.append_assoc]
   exact ih
theorem zhy:∀(n:Nat) (l pre:List Int),(∀y ys,l=y::ys→Beg pre y)→xL T0 n l=q8 za n pre l
 |0,_,_,_=>rfl
 |_+1,[],_,_=>rfl
 |n+1,x::l,pre,h=>by
  have hb:=h x l rfl
  have e:ku T0 (qQ T0 Z6 x).1 l=Q5 za x pre l:=by
   rw[xF]
   exact zb7 l _ _ _ (KE.start hb)
  rw[xL,q8,e]
  congr 1
  exact zhy n _ _ (fun y ys hy=>zet l x pre y ys hy)
theorem yF(l:List Int):Zs T0 l=zL za l:=zhy l.length l [] (fun _ _ _=>.inl rfl)
end Go.Proofs.YtjefahhmkcfiiaaGreat
end
section
namespace Go.Proofs.YtjefahhmkcfiiaaGreat
open Go.AM
set_option maxHeartbeats 1000000
set_option maxRecDepth 100000
def zqi:Bool:=za.all fun x=>!decide (x.k=2) || (decide (0≤x.f)&&decide (x.f<1114112)&&decide (0≤x.a)&&decide (x.a<1114112)&&decide (0≤x.b)&&decide (x.b<1114112))
theorem zkm:zqi=true:=by decide+kernel
theorem zoD:decide (za=[])=false:=by decide+kernel
theorem ZN:qS za:=⟨of_decide_eq_false zoD,zp6,fun x hx hk=>by
 have:=List.all_eq_true.1 zkm x hx
 simp only[hk,decide_true,Bool.not_true,Bool.false_or,Bool.and_eq_true,decide_eq_true_eq]at this
 omega⟩
theorem Xk:Vb T0:=fun i=>by
 have hp:=zpO
 simp only[zgI,Bool.and_eq_true,decide_eq_true_eq,List.all_eq_true]at hp
 rcases zdb (⟨0,0⟩:Zh) i ((qt za 2).map jV)with h|⟨q,hq,h⟩
 ·have e:T0.par i=⟨0,0⟩:=h
  rw[e];decide
 ·have e:T0.par i=q.v:=h
  obtain⟨s,hs,rfl⟩:=List.mem_map.1 hq
  have:=hp s hs
  rw[e]
  exact⟨this.1.1.1,this.1.1.2,this.1.2,this.2⟩
attribute [local irreducible] za
theorem wL(k:Int→Int)(mk:Int→Int→Option Int):∀(l O:List Int),(l.foldl (QG k mk) O).length≤O.length+l.length
 | [],O=>by simp
 |x::l,O=>by
  have ih:=wL k mk l (QG k mk O x)
  have h:(QG k mk O x).length≤O.length+1:=by
   unfold QG
   split
   ·split
    ·rw[List.length_set];omega
    ·simp
   ·simp
  rw[List.foldl_cons,List.length_cons];omega
theorem Vm(rows:List Row):∀(n:Nat) (pre l:List Int),l.length≤n→(q8 rows n pre l).flatten=l∧(q8 rows n pre l).length≤l.length
 |0,_,l,h=>by
  obtain rfl:=List.eq_nil_of_length_eq_zero (Nat.le_zero.1 h)
  exact⟨rfl,Nat.le_refl _⟩
 |_+1,_,[],_=>⟨rfl,Nat.le_refl _⟩
 |n+1,pre,x::l,h=>by
  simp only[List.length_cons]at h
  rw[q8]
  generalize Q5 rows x pre l=k
  obtain⟨h1,h2⟩:=Vm rows n ((l.take k).reverse++x::pre) (l.drop k) (by rw[List.length_drop];omega)
  constructor
  ·rw[List.flatten_cons,h1];simp
  ·rw[List.length_cons,List.length_cons]
   rw[List.length_drop]at h2
   omega
theorem Zr:Vr (zZ za) (zL za)where
 len l h:=by
  have h1:=Xz za l
  have h2:=wL (kD za) (mkD za) (ky za l) []
  unfold zZ vO Zp
  simp only[List.length_nil]at h2
  omega
 rune l _ hr:=(Kv ZN (ky za l) (zbq ZN hr)).r
 flat l:=(Vm za l.length [] l (Nat.le_refl _)).1
 num l:=(Vm za l.length [] l (Nat.le_refl _)).2
theorem zce:vi T0 M0.1=zZ za:=funext zhW
theorem XB:Zs T0=zL za:=funext yF
theorem zkX:Vr (vi T0 M0.1) (Zs T0):=by rw[zce,XB];exact Zr
theorem zoH:zZ za [101,120]=[101,120]:=by decide+kernel
theorem zoE:zL za [101,120]=[[101],[120]]:=by decide+kernel
theorem zoA:Qt (zZ za) (zL za) [[101],[120]] 0 1 1 [769]=([[233],[120]],1,true):=by decide+kernel
end Go.Proofs.YtjefahhmkcfiiaaGreat
end
section
namespace Go.Proofs.YtjefahhmkcfiiaaGreat
open Go.AM
set_option maxHeartbeats 4000000
set_option maxRecDepth 10000
attribute [local irreducible] za
theorem zcu [Gi] {c b j f p:PV}(h:QS T0 c b j f p)(sk sx:List PV)(l:List Int)(hn:l.length<2^20)(hr:∀x∈l,zB x):
  CR Tryz.prog 18 [] [.p (zF c b j f p (ckP M0.1) (cxP M0.1) sk sx),.p (zg l)] [] (is (.p (zG (zL za (zZ za l)) 0))):=by
 have:=zoI h Z3 Xk M0.1 sk sx l hn hr (zkX.len l hn) (zkX.rune l hn hr)
 rw[zce,XB]at this
 exact this
theorem xp [Gi] {c b j f p:PV}(h:QS T0 c b j f p)(sk sx:List PV)(L:List (List Int))(hL:xv L)(a f' e:Int)(s:List Int)(hs:s.length≤1000)(hr:∀x∈s,zB x):
  CR Tryz.prog 20 [] [.p (zG L a),.p (zF c b j f p (ckP M0.1) (cxP M0.1) sk sx),.p (.int .i64 f'),.p (.int .i64 e),.p (zg s)] [] (is (jt (Qt (zZ za) (zL za) L a f' e s))):=by
 have:=zmv h Z3 Xk M0.1 sk sx zkX L hL a f' e s hs hr
 rw[zce,XB]at this
 exact this
theorem zm0 [Gi](l:List Int)(hn:l.length<2^20)(hr:∀x∈l,zB x):CR Tryz.prog 19 [] [.p (zK za),.p (zg l)] [] (is (.p (zG (zL za (zZ za l)) 0))):=
 zj4 ZN l hn hr (Zr.len l hn) (Zr.rune l hn hr)
theorem zig:xv [[101],[120]]:=⟨by decide,by decide,by simp[zB]⟩
theorem xH [Gi]:CR Tryz.prog 27 [] [] [] (is (.p (.bool true))):=by
 refine zm mixed 4 [] Tryz.func27 rfl (by kernel_rfl) rfl (by simp) (by simp) ?_
 simp (maxSteps:=1000000) [go_sem,Tryz.f27]
 refine⟨⟨rfl,by simp[Tryz.f16]⟩,zb [] xV (by simp[go_sem]) ⟨by simp[go_sem],by simp[go_sem]⟩ (by simp[go_sem]) ?_⟩
 rintro _ rs ⟨rfl,rfl⟩
 simp (maxSteps:=1000000) [go_sem,zK]
 refine⟨⟨rfl,by simp[Tryz.f17]⟩,zb [] K4 (by simp[go_sem]) ⟨by simp[go_sem],by simp[go_sem,zK]⟩ (by simp[go_sem]) ?_⟩
 rintro _ rs ⟨rfl,e,rfl,c,b,j,f,p,hT,rfl⟩
 simp (maxSteps:=1000000) [go_sem,zF]
 have g1:=zcu hT (Zl M0.2) (qi M0.2) [101,120] (by decide) (by simp[zB])
 rw[zoH,zoE]at g1
 have g2:=xp hT (Zl M0.2) (qi M0.2) [[101],[120]] zig 0 1 1 [769] (by decide) (by simp[zB])
 rw[zoA]at g2
 have g3:=yJ [[233],[120]] 1 (by decide) (by decide)
 have e3:wy [[233],[120]] 1=1:=by decide
 rw[e3]at g3
 have g4:=jz [[233],[120]] (by decide) (by decide)
 refine⟨by decide,⟨rfl,by simp[Tryz.f18]⟩,zb [] g1 (by simp[go_sem]) ⟨by simp[go_sem],by simp[go_sem,zF,zg,zu]⟩ (by simp[go_sem]) ?_⟩
 rintro _ rs ⟨rfl,rfl⟩
 simp (maxSteps:=1000000) [go_sem,zG,zk,qD]
 refine⟨⟨rfl,by simp[Tryz.f20]⟩,zb [] g2 (by simp[go_sem]) ⟨by simp[go_sem],by simp[go_sem,zF,zg,zu,zG,zk,qD]⟩ (by simp[go_sem]) ?_⟩
 rintro _ rs ⟨rfl,rfl⟩
 simp (maxSteps:=1000000) [go_sem,jt,zG,zk,qD,zg,zu]
 refine⟨rfl,⟨rfl,by simp[Tryz.f26]⟩,zb [] g3 (by simp[go_sem]) ⟨by simp[go_sem],by simp[go_sem,zG,zk,qD,zg,zu]⟩ (by simp[go_sem]) ?_⟩
 rintro _ rs ⟨rfl,rfl⟩
 simp (maxSteps:=1000000) [go_sem]
 refine⟨⟨by decide,rfl⟩,⟨rfl,by simp[Tryz.f22]⟩,zb [] g4 (by simp[go_sem]) ⟨by simp[go_sem],by simp[go_sem,zk,qD,zg,zu]⟩ (by simp[go_sem]) ?_⟩
 rintro _ rs ⟨rfl,rfl⟩
 simp (maxSteps:=1000000) [go_sem]
 exact zh (.p (.bool true)) rfl (by simp[go_sem,zd,leA,leT]) ⟨rfl,rfl⟩
end Go.Proofs.YtjefahhmkcfiiaaGreat
end
section
namespace Go.Proofs.YtjefahhmkcfiiaaGreat
open Go.AM
set_option maxHeartbeats 8000000
set_option maxRecDepth 10000
attribute [local irreducible] za
structure WW where
 f:Int
 b:Int
 k:List Int
def kj(x:WW):PV:=.agg [.int .i64 x.f,.int .i64 x.b,zg x.k]
def Z9(l:List WW):PV:=.sl 3 (l.map kj)
theorem Ue {nfc:List Int→List Int} {clus:List Int→List (List Int)}(L:List (List Int))(a:Nat)(ha:a≤L.length)(f e:Int)(s:List Int):∃a':Nat,(Qt nfc clus L a f e s).2.1=(a':Int)∧a'≤(Qt nfc clus L a f e s).1.length:=by
 unfold Qt
 split
 ·exact⟨a,rfl,ha⟩
 ·simp only
  split
  ·exact⟨a,rfl,ha⟩
  ·exact⟨_,rfl,Xr _ _⟩
theorem xz {L:List (List Int)}(h:xv L):∀x∈L,x.length<2^31:=fun x hx=>by
 have h1:=h.len
 have h2:x.length≤L.flatten.length:=by
  obtain⟨i,hi,rfl⟩:=List.mem_iff_getElem.1 hx
  have:=ZB L (i+1)
  rw[xh hi]at this
  rw[z8];omega
 rw[z8]at h2
 omega
theorem zio(l:List Int)(hn:l.length≤40)(hr:∀x∈l,zB x):xv (zL za (zZ za l))where
 num:=by rw[Zr.sum];exact Zr.num _
 len:=by
  rw[Zr.sum]
  have h1:=Xz za l
  have h2:=wL (kD za) (mkD za) (ky za l) []
  unfold zZ vO Zp
  simp only[List.length_nil]at h2
  omega
 rune:=by rw[Zr.flat];exact Zr.rune l (by omega) hr
end Go.Proofs.YtjefahhmkcfiiaaGreat
end
