/- A part of the proof of this seat's statements, by an abstract machine: what each operation does to values, and what the law's functions compute. Conditions: as each law says. -/
import Derived.Test.YthbmelihnabkaaaGreatW37
import Derived.Test.YthbmelihnabkaaaGreatW17
import Derived.OpenVars
section
namespace Go.Proofs.YthbmelihnabkaaaGreat
open Go.AM
set_option maxHeartbeats 4000000
set_option maxRecDepth 100000
theorem zgg(k:Int→Int)(x y:Int)(h:k x<k y):∀S:List Int,uT k x (S++[y])=uT k x S++[y]
 | []=>by simp[uT,h]
 |z::S=>by
  simp only[List.cons_append,uT]
  split
  ·rfl
  ·rw[zgg k x y h S];rfl
theorem zgB(k:Int→Int)(x:Int):∀S:List Int,(∀z∈S,k z≤k x)→uT k x S=S++[x]
 | [],_=>rfl
 |z::S,h=>by
  simp only[uT]
  rw[if_neg (by have:=h z (by simp);omega),zgB k x S (fun y hy=>h y (by simp[hy]))];rfl
def zoA(k:Int→Int)(D:List Int):Prop:=D=[]∨∃D' d,D=D'++[d]∧k d=0
theorem XH {k:Int→Int}(hk:∀x,0≤k x) {D:List Int}(hD:zoA k D)(x:Int)(hx:k x≠0):∀(n:Nat) (S:List Int),S.length=n→qm k S→Q4 k (D++S) x=D++uT k x S
 |0,S,hn,_=>by
  obtain rfl:=List.eq_nil_of_length_eq_zero hn
  rcases hD with rfl|⟨D',d,rfl,hd⟩
  ·rfl
  ·have:=hk x
   unfold Q4
   simp only[List.append_nil,List.reverse_append,List.reverse_cons,List.reverse_nil,List.nil_append,List.singleton_append,z5]
   rw[if_neg (by omega)]
   simp[uT]
 |n+1,S,hn,hs=>by
  obtain⟨S',y,rfl⟩:=wH (A:=S) (fun e=>by rw[e]at hn;simp at hn)
  have hs':qm k S':=(List.pairwise_append.1 hs).1
  have hle:∀z∈S',k z≤k y:=fun z hz=>(List.pairwise_append.1 hs).2.2 z hz y (by simp)
  by_cases h:k x<k y
  ·rw[zgg k x y h,←List.append_assoc,←List.append_assoc,←XH hk hD x hx n S' (by simpa using hn) hs']
   unfold Q4
   rw[List.reverse_append,List.reverse_cons,List.reverse_nil,List.nil_append,List.singleton_append,z5,if_pos ⟨hx,h⟩,List.reverse_cons]
  ·rw[zgB k x (S'++[y]) (fun z hz=>by
    rcases List.mem_append.1 hz with hz|hz
    ·have:=hle z hz;omega
    ·rw[List.mem_singleton.1 hz];omega)]
   unfold Q4
   rw[←List.append_assoc,List.reverse_append,List.reverse_cons,List.reverse_nil,List.nil_append,List.singleton_append,z5,if_neg (by omega)]
   simp
theorem zh5 {k:Int→Int}(O:List Int)(x:Int)(hx:k x=0):Q4 k O x=O++[x]:=by
 unfold Q4
 cases h:O.reverse with
 |nil=>rw[List.reverse_eq_nil_iff.1 h];rfl
 |cons y l=>
  have e:O=(y::l).reverse:=by rw[←h,List.reverse_reverse]
  rw[z5,if_neg (by omega),e];simp
theorem zeY(k:Int→Int)(run:List Int)(x:Int):QY k (run++[x])=uT k x (QY k run):=by simp[QY,List.foldl_append]
theorem zfv {k:Int→Int}(hk:∀x,0≤k x):∀(l run D:List Int),zoA k D→l.foldl (Q4 k) (D++QY k run)=D++Q7 k run l
 | [],run,D,_=>rfl
 |x::l,run,D,hD=>by
  simp only[List.foldl_cons,Q7]
  by_cases hx:k x=0
  ·rw[if_pos hx,zh5 _ _ hx]
   have ih:=zfv hk l [] (D++QY k run++[x]) (.inr ⟨_,_,rfl,hx⟩)
   simp only[QY,List.foldl_nil,List.append_nil]at ih⊢
   rw[ih];simp
  ·rw[if_neg hx,XH hk hD x hx _ _ rfl (wL k run).1,←zeY]
   exact zfv hk l (run++[x]) D hD
theorem ziC {k:Int→Int}(hk:∀x,0≤k x)(l:List Int):jU k l=K6 k l:=by
 have:=zfv hk l [] [] (.inl rfl)
 simpa[jU,K6,QY]using this
theorem zer {l:List Row} {k r:Int}(h:aL l k r≠0):∃w∈l,w.k=k∧w.f≤r∧r≤w.t∧aL l k r=w.a:=by
 unfold aL at h⊢
 cases e:rowAt l k r with
 |none=>rw[e]at h;exact absurd rfl h
 |some w=>
  unfold rowAt at e
  split at e
  ·simp at e
  ·have h1:=List.mem_of_find?_eq_some e
   have h2:=List.find?_some e
   simp only[jC,Bool.and_eq_true,decide_eq_true_eq]at h2
   exact⟨w,h1,h2.1.1,h2.1.2,h2.2,rfl⟩
def zo8:Bool:=za.all fun w=>!decide (w.k=1) || (decide (0≤w.a)&&(decide (w.t<44032) || decide (55203<w.f)))
theorem zla:zo8=true:=by decide+kernel
theorem zgy {w:Row}(h:w∈za)(hk:w.k=1):0≤w.a∧(w.t<44032∨55203<w.f):=by
 have:=List.all_eq_true.1 zla w h
 simpa[hk]using this
theorem zkg(x:Int):0≤kD za x:=by
 by_cases h:aL za 1 x=0
 ·show 0≤aL za 1 x;omega
 ·obtain⟨w,h1,h2,_,_,e⟩:=zer h
  show 0≤aL za 1 x
  rw[e];exact(zgy h1 h2).1
theorem KY(l:List Int):vM T0 l=ZO za l:=by
 unfold vM ZO
 rw[zgn,zgW,ziC zkg]
theorem zjY(a b:Int):yz a b=zT a b:=by
 unfold yz zT
 by_cases h1:4352≤a∧a<4371∧4449≤b∧b<4470
 ·rw[if_pos h1,if_pos (by omega)];congr 1;omega
 ·have n1:¬(4352≤a∧a≤4370∧4449≤b∧b≤4469):=fun g=>h1 ⟨g.1,by omega,g.2.2.1,by omega⟩
  rw[if_neg h1,if_neg n1]
  by_cases h2:Zc a=true∧(a-44032)%28=0∧4519<b∧b<4547
  ·rw[if_pos h2,if_pos (by obtain⟨g1,g2,g3,g4⟩:=h2;exact⟨g1,g2,by omega,by omega⟩)];congr 1;omega
  ·rw[if_neg h2,if_neg (fun g=>h2 ⟨g.1,g.2.1,by omega,by omega⟩)]
def wI(l:List Row)(w:Row):Option (Zd×Int):=if w.k=2∧w.b≠0∧Za l w.f=some (w.a,w.b)∧yk l w.f=false then some (⟨w.a,w.b⟩,w.f)else none
def Ks(l:List Row):List (Zd×Int):=l.filterMap (wI l)
end Go.Proofs.YthbmelihnabkaaaGreat
end
section
namespace Go.Proofs.YthbmelihnabkaaaGreat
open Go.AM
set_option maxHeartbeats 4000000
set_option maxRecDepth 100000
theorem XF:M0.1=Ks za:=by decide+kernel
def zln:List (Zd×Int)→Bool
 | []=>true
 |c::l=>l.all (fun d=>!decide (d.1=c.1))&&zln l
theorem zhl:zln (Ks za)=true:=by decide+kernel
end Go.Proofs.YthbmelihnabkaaaGreat
end
section
namespace Go.Proofs.YthbmelihnabkaaaGreat
open Go.AM
set_option maxHeartbeats 400000
attribute [local irreducible] za
set_option maxRecDepth 100000
def kZ(x y:Int)(acc:Option Int)(c:Zd×Int):Option Int:=if c.1=⟨x,y⟩∧(∀z,acc=some z→c.2<z)then some c.2 else acc
theorem zhL(l:List Row)(x y:Int)(acc:Option Int)(w:Row):ZS l x y acc w=(match wI l w with|some c=>kZ x y acc c|none=>acc):=by
 unfold ZS wI
 by_cases h:w.k=2∧w.b≠0∧Za l w.f=some (w.a,w.b)∧yk l w.f=false
 ·rw[if_pos h]
  obtain⟨h1,h2,h3,h4⟩:=h
  unfold kZ
  simp only
  by_cases g:(⟨w.a,w.b⟩:Zd)=⟨x,y⟩∧∀z,acc=some z→w.f<z
  ·obtain⟨g1,g2⟩:=g
   injection g1 with ga gb
   subst ga;subst gb
   rw[if_pos ⟨h1,rfl,rfl,h2,h3,h4,g2⟩,if_pos ⟨rfl,g2⟩]
  ·rw[if_neg g,if_neg (fun q=>g ⟨by rw[q.2.1,q.2.2.1],q.2.2.2.2.2.2⟩)]
 ·rw[if_neg h,if_neg (fun q=>h ⟨q.1,by rw[q.2.2.1];exact q.2.2.2.1,by rw[q.2.1,q.2.2.1];exact q.2.2.2.2.1,q.2.2.2.2.2.1⟩)]
theorem XM(l:List Row)(x y:Int):∀(ws:List Row) (acc:Option Int),ws.foldl (ZS l x y) acc=(ws.filterMap (wI l)).foldl (kZ x y) acc
 | [],_=>rfl
 |w::ws,acc=>by
  rw[List.foldl_cons,zhL,XM l x y ws,List.filterMap_cons]
  cases wI l w<;>rfl
theorem zcp(x y:Int):∀(cs:List (Zd×Int)) (acc:Option Int),(∀c∈cs,c.1≠⟨x,y⟩)→cs.foldl (kZ x y) acc=acc
 | [],_,_=>rfl
 |c::cs,acc,h=>by
  have e:kZ x y acc c=acc:=if_neg (fun q=>h c (by simp) q.1)
  rw[List.foldl_cons,e,zcp x y cs acc (fun d hd=>h d (by simp[hd]))]
theorem Xu(x y:Int):∀cs:List (Zd×Int),zln cs=true→cs.foldl (kZ x y) none=mkB cs ⟨x,y⟩
 | [],_=>rfl
 |c::cs,h=>by
  simp only[zln,Bool.and_eq_true,List.all_eq_true]at h
  rw[List.foldl_cons]
  unfold mkB
  rw[List.find?_cons]
  by_cases e:c.1=⟨x,y⟩
  ·have e1:kZ x y none c=some c.2:=if_pos ⟨e,fun z hz=>by cases hz⟩
   have e2:(c.1==(⟨x,y⟩:Zd))=true:=by rw[e];exact beq_self_eq_true _
   rw[e1,e2,zcp x y cs _ (fun d hd q=>by
    have:=h.1 d hd
    rw[q,e]at this;simp at this)]
   rfl
  ·have e1:kZ x y none c=none:=if_neg (fun q=>e q.1)
   have e2:(c.1==(⟨x,y⟩:Zd))=false:=by simpa using e
   rw[e1,e2]
   exact Xu x y cs h.2
theorem UF(x y:Int):xN za x y=mkB (Ks za) ⟨x,y⟩:=by
 unfold xN
 rw[XM]
 exact Xu x y _ zhl
theorem zaU {m:List (Zd×Int)} {q:Zd} {r:Int}(h:mkB m q=some r):(q,r)∈m:=by
 unfold mkB at h
 cases e:m.find? (fun x=>x.1==q)with
 |none=>rw[e]at h;simp at h
 |some c=>
  rw[e]at h
  have h1:=List.mem_of_find?_eq_some e
  have h2:c.1=q:=by simpa using List.find?_some e
  have h3:c.2=r:=by simpa using h
  rw[←h2,←h3];exact h1
theorem zau {q:Zd} {r:Int}(h:(q,r)∈Ks za):q.b≠0∧aL za 1 r=0:=by
 obtain⟨w,_,hw⟩:=List.mem_filterMap.1 h
 unfold wI at hw
 split at hw
 ·rename_i g
  injection hw with hw
  injection hw with h1 h2
  subst h1;subst h2
  refine⟨g.2.1,?_⟩
  have:=g.2.2.2
  unfold yk at this
  rw[g.2.2.1]at this
  simp only[Bool.or_eq_false_iff,Bool.not_eq_false',decide_eq_true_eq]at this
  exact this.1.2
 ·simp at hw
theorem zmS:mk2 M0.1=mkD za:=by
 funext a b
 unfold mk2 mkD
 rw[zjY,XF,UF]
 by_cases hb:b=0
 ·rw[if_pos hb]
  cases e:mkB (Ks za) ⟨a,b⟩with
  |none=>rfl
  |some r=>exact absurd hb (zau (zaU e)).1
 ·rw[if_neg hb]
theorem zjp(a b c:Int)(h:mkD za a b=some c):kD za c=0:=by
 unfold mkD at h
 cases hj:zT a b with
 |none=>
  rw[hj,Option.none_or,UF]at h
  exact(zau (zaU h)).2
 |some z=>
  rw[hj,Option.some_or]at h
  have hz:z=c:=Option.some.inj h
  subst hz
  have hr:44032≤z∧z≤55203:=by
   unfold zT at hj
   split at hj
   ·have:=Option.some.inj hj;omega
   ·split at hj
    ·rename_i g
     have:=Option.some.inj hj
     have g1:=g.1
     simp only[Zc,Bool.and_eq_true,decide_eq_true_eq]at g1
     omega
    ·simp at hj
  by_cases h0:aL za 1 z=0
  ·exact h0
  ·obtain⟨w,h1,h2,h3,h4,_⟩:=zer h0
   have:=(zgy h1 h2).2
   omega
theorem zef(k:Int→Int)(c:Int)(hc:k c=0):∀O:List Int,0≤qi k O→qi k (O.set (qi k O).toNat c)=qi k O:=by
 refine fun O=>vH (P:=fun O=>0≤qi k O→qi k (O.set (qi k O).toNat c)=qi k O) (fun h=>by rw[y4]at h;omega) (fun o y ih h=>?_) O.length O rfl
 rw[ZL]at h⊢
 by_cases hy:k y=0
 ·rw[if_pos hy,Int.toNat_natCast]
  have e:(o++[y]).set o.length c=o++[c]:=by
   rw[List.set_append_right _ _ (Nat.le_refl _)];simp
  rw[e,ZL,if_pos hc]
 ·rw[if_neg hy]at h⊢
  have hlt:=(Uw k o).2
  have e:(o++[y]).set (qi k o).toNat c=o.set (qi k o).toNat c++[y]:=List.set_append_left _ _ (by omega)
  rw[e,ZL,if_neg hy,ih h]
theorem zek(k:Int→Int)(O:List Int)(h0:O≠ [])(h:qi k O<O.length-1):k (O[O.length-1]?.getD 0)≠0:=by
 obtain⟨o,y,rfl⟩:=wH h0
 rw[ZL]at h
 have e:(o++[y])[(o++[y]).length-1]?.getD 0=y:=by simp
 rw[e]
 intro hy
 rw[if_pos hy,List.length_append,List.length_singleton]at h
 omega
structure zc7(k:Int→Int)(z:Cst)(O:List Int):Prop where
 o:z.o=O
 s:z.s=qi k O
 l:O≠ []→qi k O<O.length-1→z.l=k (O[O.length-1]?.getD 0)
theorem zc7.push {k:Int→Int} {z:Cst} {O:List Int}(h:zc7 k z O)(x:Int):zc7 k (ZT k z x) (O++[x]):=by
 obtain⟨h1,h2,h3⟩:=h
 refine⟨by simp[ZT,h1],?_,fun _ _=>by simp[ZT]⟩
 rw[ZL];simp[ZT,h1,h2]
theorem zc7.step {k:Int→Int} {mk:Int→Int→Option Int}(hm:∀a b c,mk a b=some c→k c=0) {z:Cst} {O:List Int}(h:zc7 k z O)(x:Int):zc7 k (yx k mk z x) (yc k mk O x):=by
 have hp:=h.push x
 obtain⟨h1,h2,h3⟩:=h
 subst h1
 have hlt:=Uw k z.o
 have hfree:zaB k z x↔0≤qi k z.o∧Ka k z.o (qi k z.o) x=true:=by
  unfold zaB Ka
  rw[h2]
  simp only[Bool.or_eq_true,decide_eq_true_eq]
  by_cases h0:0≤qi k z.o
  ·have hne:z.o≠ []:=fun e=>by rw[e,y4]at h0;omega
   by_cases he:qi k z.o=z.o.length-1
   ·simp[he]
   ·have hl:=h3 hne (by omega)
    have hk:=zek k z.o hne (by omega)
    rw[←hl]at hk⊢
    simp[h0,he,hk]
  ·simp[h0]
 unfold yx yc
 by_cases hf:zaB k z x
 ·have hf2:=hfree.1 hf
  rw[if_pos hf,if_pos hf2,h2]
  cases e:mk (z.o[(qi k z.o).toNat]?.getD 0) x with
  |none=>simp only;exact hp
  |some c=>
   have hc:=hm _ _ _ e
   have es:=zef k c hc z.o hf2.1
   refine⟨rfl,es.symm,fun h4 h5=>?_⟩
   simp only at h4 h5⊢
   rw[es,List.length_set]at h5
   have hne:z.o≠ []:=fun e=>by rw[e]at h4;simp at h4
   rw[h3 hne h5,List.length_set,List.getElem?_set_ne (by omega)]
 ·rw[if_neg hf,if_neg (fun g=>hf (hfree.2 g))]
  exact hp
theorem zhH {k:Int→Int} {mk:Int→Int→Option Int}(hm:∀a b c,mk a b=some c→k c=0)(l:List Int):(ZE k mk l).o=ZK k mk l:=by
 have H:∀l:List Int,zc7 k (ZE k mk l) (ZK k mk l):=fun l=>by
  refine vH (P:=fun l=>zc7 k (ZE k mk l) (ZK k mk l)) ⟨rfl,rfl,fun h=>absurd rfl h⟩ (fun o y ih=>?_) l.length l rfl
  rw[Yl,vT]
  exact ih.step hm y
 exact(H l).o
theorem zlo(l:List Int):zkw T0 M0.1 l=qN za l:=by
 unfold zkw qN zi6 Vv
 rw[KY,zgn,zmS,zhH zjp]
end Go.Proofs.YthbmelihnabkaaaGreat
end
section
namespace Go.Proofs.YthbmelihnabkaaaGreat
open Go.AM
set_option maxHeartbeats 1000000
set_option maxRecDepth 100000
def yA(k:Int):List Row:=za.filter fun w=>decide (w.k=k)
def ze5(w v:Row):Bool:=decide (w.t<v.f) || decide (v.t<w.f)
def zoP:Bool:=(yA 5).all fun w=>(yA 4).all fun v=>ze5 w v || (!decide (v.a=1)&&!decide (v.a=2)&&!decide (v.a=3)&&!decide (v.a=5))
def zoh:Bool:=(yA 6).all fun w=>(yA 4).all fun v=>ze5 w v || (!decide (v.a=1)&&!decide (v.a=2)&&!decide (v.a=3))
def zoK:Bool:=(yA 6).all fun w=>decide (w.a=2) || (decide (w.a=1)&&decide (w.f=w.t)&&decide (zL za w.f=4))
theorem zjd:zoP=true:=by decide+kernel
theorem zku:zoh=true:=by decide+kernel
theorem zcH:zoK=true:=by decide+kernel
theorem JQ(x:Int):wx T0 x=zL za x:=by unfold wx zL;rw[zkP]
theorem zb8(x:Int):KI T0 x=ZI za x:=by unfold KI ZI;rw[JQ,zkG]
attribute [local irreducible] za
theorem row_in {k x:Int}(h:aL za k x≠0):∃w∈yA k,w.f≤x∧x≤w.t∧aL za k x=w.a:=by
 obtain⟨w,h1,h2,h3,h4,h5⟩:=zer h
 exact⟨w,List.mem_filter.2 ⟨h1,by simp[h2]⟩,h3,h4,h5⟩
theorem zbt {w v:Row} {x:Int}(h1:w.f≤x)(h2:x≤w.t)(h3:v.f≤x)(h4:x≤v.t):ze5 w v=false:=by
 unfold ze5
 simp only[Bool.or_eq_false_iff,decide_eq_false_iff_not]
 omega
theorem zgK(x:Int):zL za x=12∨zL za x=13∨zL za x=aL za 4 x:=by
 unfold zL
 split
 ·split
  ·exact .inl rfl
  ·exact .inr (.inl rfl)
 ·exact .inr (.inr rfl)
theorem zkb {x b:Int}(hb:zL za x=b)(h0:b≠0)(h12:b≠12)(h13:b≠13):∃v∈yA 4,v.f≤x∧x≤v.t∧v.a=b:=by
 rcases zgK x with e|e|e
 ·exact absurd (hb.symm.trans e) h12
 ·exact absurd (hb.symm.trans e) h13
 ·have e2:aL za 4 x=b:=e.symm.trans hb
  obtain⟨v,h1,h2,h3,h4⟩:=row_in (k:=4) (x:=x) (by rw[e2];exact h0)
  exact⟨v,h1,h2,h3,by rw[←h4,e2]⟩
theorem f1 {x:Int}(h:aL za 5 x=1):zL za x≠1∧zL za x≠2∧zL za x≠3∧zL za x≠5:=by
 obtain⟨w,h1,h2,h3,_⟩:=row_in (k:=5) (x:=x) (by rw[h];decide)
 have key:∀b:Int,b≠0→b≠12→b≠13→(b=1∨b=2∨b=3∨b=5)→zL za x≠b:=by
  intro b b0 b1 b2 hb e
  obtain⟨v,g1,g2,g3,g4⟩:=zkb e b0 b1 b2
  have f:=List.all_eq_true.1 (List.all_eq_true.1 zjd w h1) v g1
  rw[zbt h2 h3 g2 g3]at f
  simp only[Bool.false_or,Bool.and_eq_true,Bool.not_eq_true',decide_eq_false_iff_not]at f
  omega
 exact⟨key 1 (by decide) (by decide) (by decide) (by decide),key 2 (by decide) (by decide) (by decide) (by decide),key 3 (by decide) (by decide) (by decide) (by decide),key 5 (by decide) (by decide) (by decide) (by decide)⟩
theorem f4(x:Int):ZI za x=0∨ZI za x=1∨ZI za x=2∨ZI za x=3:=by
 unfold ZI
 split
 ·rename_i h
  obtain⟨w,h1,_,_,h4⟩:=row_in h
  have f:=List.all_eq_true.1 zcH w h1
  simp only[Bool.or_eq_true,Bool.and_eq_true,decide_eq_true_eq]at f
  omega
 ·split<;>simp
theorem f3 {x:Int}(h:ZI za x=1∨ZI za x=3):zL za x=4∨zL za x=5:=by
 unfold ZI at h
 split at h
 ·rename_i h0
  obtain⟨w,h1,h2,h3,h4⟩:=row_in h0
  have f:=List.all_eq_true.1 zcH w h1
  simp only[Bool.or_eq_true,Bool.and_eq_true,decide_eq_true_eq]at f
  have:x=w.f:=by omega
  rw[this]
  exact .inl (by omega)
 ·split at h
  ·rename_i g;exact g.1
  ·omega
theorem f2 {x:Int}(h:ZI za x≠0):zL za x≠1∧zL za x≠2∧zL za x≠3:=by
 by_cases h0:aL za 6 x=0
 ·have e:ZI za x=if(zL za x=4∨zL za x=5)∧x≠8204 then 3 else 0:=by unfold ZI;rw[if_neg (fun q=>q h0)]
  rw[e]at h
  split at h
  ·rename_i g;have:=g.1;omega
  ·exact absurd rfl h
 ·obtain⟨w,h1,h2,h3,_⟩:=row_in h0
  have key:∀b:Int,b≠0→b≠12→b≠13→(b=1∨b=2∨b=3)→zL za x≠b:=by
   intro b b0 b1 b2 hb e
   obtain⟨v,g1,g2,g3,g4⟩:=zkb e b0 b1 b2
   have f:=List.all_eq_true.1 (List.all_eq_true.1 zku w h1) v g1
   rw[zbt h2 h3 g2 g3]at f
   simp only[Bool.false_or,Bool.and_eq_true,Bool.not_eq_true',decide_eq_false_iff_not]at f
   omega
  exact⟨key 1 (by decide) (by decide) (by decide) (by decide),key 2 (by decide) (by decide) (by decide) (by decide),key 3 (by decide) (by decide) (by decide) (by decide)⟩
end Go.Proofs.YthbmelihnabkaaaGreat
end
section
namespace Go.Proofs.YthbmelihnabkaaaGreat
open Go.AM
set_option maxHeartbeats 1000000
set_option maxRecDepth 10000
attribute [local irreducible] za
def pcD(x:Int):Bool:=decide (aL za 5 x=1)
structure VY(s:xe)(p:Int)(pre:List Int):Prop where
 so:s.some=true
 la:s.last=zL za p
 p2:s.pict=2↔(zL za p=5∧kI za pre=true)
 p1:s.pict=1↔kI za (p::pre)=true
 od:s.odd=decide (QA za (p::pre)%2=1)
 c2:s.conj=2↔Qw za false (p::pre)=true
 c0:s.conj≠0↔Qw za true (p::pre)=true
theorem VY.next {s:xe} {p:Int} {pre:List Int}(h:VY s p pre)(x:Int):VY (Zn s (zL za x) (pcD x) (ZI za x)) x (p::pre):=by
 obtain⟨h1,h2,h3,h4,h5,h6,h7⟩:=h
 have q1:= @f1 x
 have q4:=f4 x
 have b7:Qw za true (p::pre)=decide (s.conj≠0):=by rw[Bool.eq_iff_iff,decide_eq_true_eq,h7]
 have b6:Qw za false (p::pre)=decide (s.conj=2):=by rw[Bool.eq_iff_iff,decide_eq_true_eq,h6]
 refine⟨rfl,rfl,?_,?_,?_,?_,?_⟩
 ·simp only[Zn,pcD]
  by_cases a:aL za 5 x=1
  ·have:=q1 a
   simp[a,this.2.2.2]
  ·simp only[a,decide_false,Bool.false_eq_true,if_false]
   rw[←h4]
   by_cases b:s.pict=1
   ·by_cases e4:zL za x=4
    ·simp[b,e4]
    ·by_cases e5:zL za x=5<;>simp[b,e5,e4]
   ·simp[b]
 ·simp only[Zn,pcD]
  rw[kI]
  by_cases a:aL za 5 x=1
  ·simp[a]
  ·simp only[a,decide_false,Bool.false_eq_true,if_false]
   by_cases e4:zL za x=4
   ·rw[if_pos e4,←h4]
    by_cases b:s.pict=1<;>simp[b,e4]
   ·rw[if_neg e4]
    by_cases b:s.pict=1∧zL za x=5
    ·simp[b.1,b.2]
    ·simp[e4,b]
 ·simp only[Zn]
  rw[QA,h5]
  by_cases e6:zL za x=6
  ·rw[if_pos e6]
   simp only[e6,decide_true,Bool.true_and]
   rw[←decide_not,decide_eq_decide]
   omega
  ·rw[if_neg e6];simp[e6]
 ·simp only[Zn]
  rw[Qw]
  rcases q4 with c|c|c|c<;>by_cases z:s.conj=0<;>simp[c,b6,b7,z]
 ·simp only[Zn]
  rw[Qw]
  rcases q4 with c|c|c|c<;>by_cases z:s.conj=0<;>simp[c,b7,z]
theorem VY.cut {s:xe} {p:Int} {pre:List Int}(h:VY s p pre)(x:Int):yr s (zL za x) (pcD x) (ZI za x)=y9 za p pre x:=by
 obtain⟨h1,h2,h3,h4,h5,h6,h7⟩:=h
 obtain⟨P,hP⟩:∃P,P=(decide (s.pict=2)&&pcD x):=⟨_,rfl⟩
 obtain⟨C,hC⟩:∃C,C=(decide (s.conj=2)&&decide (ZI za x=2)):=⟨_,rfl⟩
 obtain⟨O,hO⟩:∃O,O=(s.odd&&decide (zL za x=6)):=⟨_,rfl⟩
 have eP:u9 za p pre x=P:=by
  rw[hP];unfold u9 pcD
  by_cases a:aL za 5 x=1
  ·by_cases b:zL za p=5
   ·rw[if_pos a,if_pos b]
    have:decide (s.pict=2)=kI za pre:=by
     rw[Bool.eq_iff_iff,decide_eq_true_eq,h3];simp[b]
    rw[this];simp[a]
   ·rw[if_pos a,if_neg b]
    have:¬s.pict=2:=fun q=>b (h3.1 q).1
    simp[this]
  ·rw[if_neg a];simp[a]
 have eC:We za (p::pre) x=C:=by
  rw[hC];unfold We
  by_cases a:ZI za x=2
  ·rw[if_pos a]
   have:decide (s.conj=2)=Qw za false (p::pre):=by
    rw[Bool.eq_iff_iff,decide_eq_true_eq,h6]
   rw[this];simp[a]
  ·rw[if_neg a];simp[a]
 have eO:ue za (p::pre) x=O:=by
  rw[hO];unfold ue
  by_cases a:zL za x=6
  ·rw[if_pos a,h5];simp[a]
  ·rw[if_neg a];simp[a]
 unfold y9 yr
 rw[eP,eC,eO,←hP,←hC,←hO,h2]
 have kP:P=true→¬(zL za p=1∨zL za p=2∨zL za p=3)∧¬(zL za x=1∨zL za x=2∨zL za x=3):=by
  intro q
  rw[hP]at q
  simp only[pcD,Bool.and_eq_true,decide_eq_true_eq]at q
  have a:=f1 q.2
  have b:=(h3.1 q.1).1
  omega
 have kC:C=true→¬(zL za p=1∨zL za p=2∨zL za p=3)∧¬(zL za x=1∨zL za x=2∨zL za x=3):=by
  intro q
  rw[hC]at q
  simp only[Bool.and_eq_true,decide_eq_true_eq]at q
  have a:=f2 (x:=x) (by omega)
  have b:=h6.1 q.1
  have c:=f2 (x:=p) (fun z=>by
   rw[Qw,if_neg (by omega),if_pos z]at b
   exact absurd b (by decide))
  omega
 have kO:O=true→¬(zL za p=1∨zL za p=2∨zL za p=3)∧¬(zL za x=1∨zL za x=2∨zL za x=3):=by
  intro q
  rw[hO,h5]at q
  simp only[Bool.and_eq_true,decide_eq_true_eq]at q
  have b:zL za p=6:=by
   by_cases z:zL za p=6
   ·exact z
   ·have:=q.1
    rw[QA,if_neg z]at this
    omega
  omega
 clear hP hC hO eP eC eO h1 h2 h3 h4 h5 h6 h7
 generalize zL za p=a at*
 generalize zL za x=b at*
 by_cases hh:(a=1∨a=2∨a=3)∨(b=1∨b=2∨b=3)
 ·have P0:P=false:=by cases P with|false=>rfl|true=>have:=kP rfl;exact absurd hh (by omega)
  have C0:C=false:=by cases C with|false=>rfl|true=>have:=kC rfl;exact absurd hh (by omega)
  have O0:O=false:=by cases O with|false=>rfl|true=>have:=kO rfl;exact absurd hh (by omega)
  subst P0;subst C0;subst O0
  simp only[Bool.not_false,Bool.and_true]
  have hard:(QZ a || QZ b)=true:=by
   simp only[QZ,Bool.or_eq_true,decide_eq_true_eq];omega
  rw[hard]
  unfold zO
  by_cases a1:a=1
  ·by_cases b2:b=2<;>simp[a1,b2]
  ·by_cases a2:a=2∨a=3
   ·rw[if_neg a1,if_pos a2,if_neg (fun q=>a1 q.1)];rfl
   ·have b3:b=1∨b=2∨b=3:=by omega
    rw[if_neg a1,if_neg a2,if_pos b3,if_neg (fun q=>a1 q.1)];rfl
 ·have hard:(QZ a || QZ b)=false:=by
   simp only[QZ,Bool.or_eq_false_iff,decide_eq_false_iff_not];omega
  have e1:zO a b=(if b=4∨b=5∨b=8 then true else if a=7 then true else QD a b):=by
   unfold zO QD
   rw[if_neg (show ¬a=1 by omega),if_neg (show ¬(a=2∨a=3) by omega),if_neg (show ¬(b=1∨b=2∨b=3) by omega)]
   simp only[Bool.or_assoc]
  rw[e1,hard,if_neg (show ¬(a=1∧b=2) by omega)]
  clear e1 kP kC kO
  generalize QD a b=H
  by_cases b1:b=4∨b=5∨b=8
  ·rw[if_pos b1,if_pos (show b=4∨b=5∨b=8∨a=7 by omega)]
   cases H<;>rfl
  ·rw[if_neg b1]
   by_cases a7:a=7
   ·rw[if_pos a7,if_pos (show b=4∨b=5∨b=8∨a=7 by omega)]
    cases H<;>rfl
   ·rw[if_neg a7,if_neg (show ¬(b=4∨b=5∨b=8∨a=7) by omega)]
    cases H<;>cases C<;>cases P<;>cases O<;>rfl
def Beg(pre:List Int)(x:Int):Prop:=pre=[]∨∃p pre',pre=p::pre'∧y9 za p pre' x=true
theorem VY.start {pre:List Int} {x:Int}(h:Beg pre x):VY (Zn Qy (zL za x) (pcD x) (ZI za x)) x pre:=by
 have q1:= @f1 x
 have q3:= @f3 x
 have q4:=f4 x
 have kp:zL za x=4∨zL za x=5→kI za pre=false∧∀sn,Qw za sn pre=false:=by
  intro hb
  rcases h with rfl|⟨p,pre',rfl,hg⟩
  ·exact⟨rfl,fun _=>rfl⟩
  ·have hp:zL za p=1∨zL za p=2∨zL za p=3:=by
    unfold y9 at hg
    rw[if_neg (by omega)]at hg
    by_cases z:(QZ (zL za p) || QZ (zL za x))=true
    ·simp only[QZ,Bool.or_eq_true,decide_eq_true_eq]at z;omega
    ·rw[if_neg z]at hg
     split at hg
     ·exact absurd hg (by decide)
     ·rw[if_pos (by omega)]at hg
      exact absurd hg (by decide)
   constructor
   ·have a:¬aL za 5 p=1:=fun q=>by have:=f1 q;omega
    rw[kI,if_neg a,if_neg (by omega)]
   ·intro sn
    have c:ZI za p=0:=by
     by_cases c:ZI za p=0
     ·exact c
     ·have:=f2 c;omega
    rw[Qw,if_neg (by omega),if_pos c]
 have kf:zL za x=6→QA za pre%2=0:=by
  intro hb
  rcases h with rfl|⟨p,pre',rfl,hg⟩
  ·rfl
  ·by_cases hp:zL za p=6
   ·unfold y9 at hg
    rw[if_neg (by omega),if_neg (by rw[hp,hb];decide),if_neg (by rw[hp,hb];decide),if_neg (by omega)]at hg
    split at hg
    ·exact absurd hg (by decide)
    ·split at hg
     ·exact absurd hg (by decide)
     ·unfold ue at hg
      rw[if_pos hb]at hg
      simp only[Bool.not_eq_true',decide_eq_false_iff_not]at hg
      omega
   ·rw[QA,if_neg hp]
 refine⟨rfl,rfl,?_,?_,?_,?_,?_⟩
 ·have e:(Zn Qy (zL za x) (pcD x) (ZI za x)).pict=if pcD x then 1 else 0:=by simp[Zn,Qy]
  rw[e]
  constructor
  ·intro z;split at z<;>omega
  ·rintro⟨z1,z2⟩
   rw[(kp (.inr z1)).1]at z2
   exact absurd z2 (by decide)
 ·have e:(Zn Qy (zL za x) (pcD x) (ZI za x)).pict=if pcD x then 1 else 0:=by simp[Zn,Qy]
  rw[e,kI]
  by_cases a:aL za 5 x=1
  ·simp[pcD,a]
  ·rw[if_neg a]
   simp only[pcD,a,decide_false,Bool.false_eq_true,if_false]
   by_cases e4:zL za x=4
   ·rw[if_pos e4,(kp (.inl e4)).1];simp
   ·rw[if_neg e4];simp
 ·simp only[Zn,Qy,Bool.not_false,Bool.and_true]
  rw[QA,decide_eq_decide]
  by_cases e6:zL za x=6
  ·have:=kf e6
   rw[if_pos e6]
   constructor
   ·intro _;omega
   ·intro _;exact e6
  ·rw[if_neg e6];simp[e6]
 ·have e:(Zn Qy (zL za x) (pcD x) (ZI za x)).conj=if ZI za x=2 then 1 else 0:=by simp[Zn,Qy]
  rw[e,Qw]
  rcases q4 with c|c|c|c
  ·simp[c]
  ·rw[(kp (q3 (.inl c))).2];simp[c]
  ·simp[c]
  ·rw[(kp (q3 (.inr c))).2];simp[c]
 ·have e:(Zn Qy (zL za x) (pcD x) (ZI za x)).conj=if ZI za x=2 then 1 else 0:=by simp[Zn,Qy]
  rw[e,Qw]
  rcases q4 with c|c|c|c
  ·simp[c]
  ·rw[(kp (q3 (.inl c))).2];simp[c]
  ·simp[c]
  ·rw[(kp (q3 (.inr c))).2];simp[c]
theorem yP(s:xe)(x:Int):Zf T0 s x=(Zn s (zL za x) (pcD x) (ZI za x),!s.some || yr s (zL za x) (pcD x) (ZI za x)):=by
 unfold Zf pcD
 rw[JQ,zb8,zga]
theorem zbx:∀(l:List Int) (s:xe) (p:Int) (pre:List Int),VY s p pre→yp T0 s l=jd za p pre l
 | [],_,_,_,_=>rfl
 |x::l,s,p,pre,h=>by
  have hc:=h.cut x
  have ih:=zbx l _ _ _ (h.next x)
  rw[yp,jd,yP]
  simp only
  rw[h.so,hc,ih]
  simp only[Bool.not_true,Bool.false_or]
  split
  ·rfl
  ·omega
theorem zdx:∀(l:List Int) (p:Int) (pre:List Int) (y:Int) (ys:List Int),l.drop (jd za p pre l)=y::ys→Beg ((l.take (jd za p pre l)).reverse++p::pre) y
 | [],_,_,_,_,h=>by simp at h
 |x::l,p,pre,y,ys,h=>by
  rw[jd]at h⊢
  by_cases g:y9 za p pre x=true
  ·rw[if_pos g]at h⊢
   simp only[List.drop_zero]at h
   injection h with h1 _
   subst h1
   exact .inr ⟨p,pre,by simp,g⟩
  ·rw[if_neg g]at h⊢
   rw[List.drop_succ_cons]at h
   have ih:=zdx l x (p::pre) y ys h
   rw[List.take_succ_cons,List.reverse_cons,List.append_assoc]
   exact ih
theorem zfZ:∀(n:Nat) (l pre:List Int),(∀y ys,l=y::ys→Beg pre y)→xx T0 n l=ZY za n pre l
 |0,_,_,_=>rfl
 |_+1,[],_,_=>rfl
 |n+1,x::l,pre,h=>by
  have hb:=h x l rfl
  have e:yp T0 (Zf T0 Qy x).1 l=jd za x pre l:=by
   rw[yP]
   exact zbx l _ _ _ (VY.start hb)
  rw[xx,ZY,e]
  congr 1
  exact zfZ n _ _ (fun y ys hy=>zdx l x pre y ys hy)
theorem W7(l:List Int):ku T0 l=qn za l:=zfZ l.length l [] (fun _ _ _=>.inl rfl)
end Go.Proofs.YthbmelihnabkaaaGreat
end
section
namespace Go.Proofs.YthbmelihnabkaaaGreat
open Go.AM
set_option maxHeartbeats 1000000
set_option maxRecDepth 100000
def zoH:Bool:=za.all fun x=>!decide (x.k=2) || (decide (0≤x.f)&&decide (x.f<1114112)&&decide (0≤x.a)&&decide (x.a<1114112)&&decide (0≤x.b)&&decide (x.b<1114112))
theorem ziZ:zoH=true:=by decide+kernel
theorem zmT:decide (za=[])=false:=by decide+kernel
theorem Zr:qX za:=⟨of_decide_eq_false zmT,zmq,fun x hx hk=>by
 have:=List.all_eq_true.1 ziZ x hx
 simp only[hk,decide_true,Bool.not_true,Bool.false_or,Bool.and_eq_true,decide_eq_true_eq]at this
 omega⟩
theorem UJ:VH T0:=fun i=>by
 have hp:=zob
 simp only[zfc,Bool.and_eq_true,decide_eq_true_eq,List.all_eq_true]at hp
 rcases zbe (⟨0,0⟩:Zd) i ((qg za 2).map jA)with h|⟨q,hq,h⟩
 ·have e:T0.par i=⟨0,0⟩:=h
  rw[e];decide
 ·have e:T0.par i=q.v:=h
  obtain⟨s,hs,rfl⟩:=List.mem_map.1 hq
  have:=hp s hs
  rw[e]
  exact⟨this.1.1.1,this.1.1.2,this.1.2,this.2⟩
attribute [local irreducible] za
theorem V0(k:Int→Int)(mk:Int→Int→Option Int):∀(l O:List Int),(l.foldl (yc k mk) O).length≤O.length+l.length
 | [],O=>by simp
 |x::l,O=>by
  have ih:=V0 k mk l (yc k mk O x)
  have h:(yc k mk O x).length≤O.length+1:=by
   unfold yc
   split
   ·split
    ·rw[List.length_set];omega
    ·simp
   ·simp
  rw[List.foldl_cons,List.length_cons];omega
theorem Wq(rows:List Row):∀(n:Nat) (pre l:List Int),l.length≤n→(ZY rows n pre l).flatten=l∧(ZY rows n pre l).length≤l.length
 |0,_,l,h=>by
  obtain rfl:=List.eq_nil_of_length_eq_zero (Nat.le_zero.1 h)
  exact⟨rfl,Nat.le_refl _⟩
 |_+1,_,[],_=>⟨rfl,Nat.le_refl _⟩
 |n+1,pre,x::l,h=>by
  simp only[List.length_cons]at h
  rw[ZY]
  generalize jd rows x pre l=k
  obtain⟨h1,h2⟩:=Wq rows n ((l.take k).reverse++x::pre) (l.drop k) (by rw[List.length_drop];omega)
  constructor
  ·rw[List.flatten_cons,h1];simp
  ·rw[List.length_cons,List.length_cons]
   rw[List.length_drop]at h2
   omega
theorem kd:zfd (qN za) (qn za)where
 len l h:=by
  have h1:=zdM za l
  have h2:=V0 (kD za) (mkD za) (ZO za l) []
  unfold qN Vv ZK
  simp only[List.length_nil]at h2
  omega
 rune l _ hr:=(Ux Zr (ZO za l) (X9 Zr hr)).r
 flat l:=(Wq za l.length [] l (Nat.le_refl _)).1
 num l:=(Wq za l.length [] l (Nat.le_refl _)).2
end Go.Proofs.YthbmelihnabkaaaGreat
end
section
namespace Go.Proofs.YthbmelihnabkaaaGreat
open Go.AM
set_option maxHeartbeats 4000000
set_option maxRecDepth 10000
attribute [local irreducible] za
end Go.Proofs.YthbmelihnabkaaaGreat
end
section
namespace Go.Proofs.YthbmelihnabkaaaGreat
open Go.AM
set_option maxHeartbeats 8000000
set_option maxRecDepth 10000
attribute [local irreducible] za
structure zpq where
 f:Int
 b:Int
 k:List Int
end Go.Proofs.YthbmelihnabkaaaGreat
end
section
namespace Go.AM
open Go.ChangeShapes Go.RowKit
def Yes:AV→List (Tok×List AV)→Prop:=fun x rs=>rs=[]∧x=.p (.bool true)
theorem Value.zhR {v:Value}(h:v.oneCell'=true):v.cells.toList=[v]:=by
 cases v<;>simp_all [Value.oneCell',Value.cells]
theorem zi2 {P:Program} {w:World} {r:Reach} {base:Nat} {t:TypeId} {v:Value}(h:Cell.okWide P w r base t v):v.oneCell'=true:=by
 unfold Cell.okWide at h
 split at h<;>try rfl
 all_goals unfold Cell.ok at h;split at h<;>first|rfl|exact h.elim
theorem zdW {P:Program} {w:World} {r:Reach} {base:Nat} {t:TypeId} {v:Value}(h:Value.okWide P w r base t v)(hf:(match P.underlying t with|some (.struct _)=>false|some (.array _ _)=>false|_=>true)=true):v.oneCell'=true:=by
 unfold Value.okWide at h
 split at h
 ·rename_i e;rw[e]at hf;cases hf
 ·rename_i e;rw[e]at hf;cases hf
 ·exact zi2 h
section
variable {H:Type} {enc:TypeId×Value→H} {P:Program}
def zl0(enc:TypeId×Value→H)(P:Program)(t:TypeId)(Q:PV→Prop):Prop:=
 ∀(W:World) (base:Nat) (v:Value) (d:DataW H) (p:List MemPlace),Value.okWide P W .any base t v→DataW.Trod enc P W 0 (fun _=>true) true t v d p→∃x,Q x∧zl (frW W) W x v
theorem zb0 {t:TypeId} {Q:PV→Prop}(hf:(match P.underlying t with|some (.struct _)=>false|some (.array _ _)=>false|_=>true)=true)(h:∀W,Yp enc P W 0 (fun _=>true) true t fun xs=>∃x,xs=[x]∧Q x):zl0 enc P t Q:=by
 intro W base v d p ho ht
 obtain⟨fuel,ht⟩:=ht
 obtain⟨xs,⟨x,rfl,q⟩,r⟩:=h W _ _ _ ht
 have h1:=zdW ho hf
 rw[Value.zhR h1]at r
 simp only[zH]at r
 obtain⟨v',vs',e,_,r,_⟩:=r
 injection e with e;subst e
 exact⟨x,q,r⟩
def zaM(enc:TypeId×Value→H)(P:Program):List TypeId→List (PV→Prop)→Prop
 | [],[]=>True
 |t::ts,Q::Qs=>zl0 enc P t Q∧zaM enc P ts Qs
 |_,_=>False
def znd:List (PV→Prop)→List PV→Prop
 | [],[]=>True
 |Q::Qs,x::xs=>Q x∧znd Qs xs
 |_,_=>False
theorem zas {W:World} {base:Nat} {g:Gh}(hg:g.fr=frW W):∀{ts:List TypeId} {Qs:List (PV→Prop)} {vs:List Value} {ds:List (DataW H)} {p:List MemPlace},zaM enc P ts Qs→
  (∀(j:Nat) t v,ts[j]?=some t→vs[j]?=some v→Value.okWide P W .any base t v)→DataW.TrodAll enc P W 0 (fun _=>true) true ts vs ds p→∃xs,znd Qs xs∧zp g W (xs.map .p) vs
 | [],[],[],_,_,_,_,_=>⟨[],trivial,by simp[zp]⟩
 | [],[],_::_,_,_,_,_,h=>h.elim
 | [],_::_,_,_,_,h,_,_=>h.elim
 |_::_,[],_,_,_,h,_,_=>h.elim
 |_::_,_::_,[],_,_,_,_,h=>by simp[DataW.TrodAll]at h
 |_::_,_::_,_::_,[],_,_,_,h=>by simp[DataW.TrodAll]at h
 |t::ts,Q::Qs,v::vs,d::ds,p,ha,ho,h=>by
  obtain⟨p',q',h1,h2,rfl⟩:=h
  obtain⟨x,qx,rx⟩:=ha.1 W base v d p' (ho 0 t v rfl rfl) h1
  obtain⟨xs,qs,rs⟩:=zas hg ha.2 (fun j t' v' e1 e2=>ho (j+1) t' v' e1 e2) h2
  refine⟨x::xs,⟨qx,qs⟩,?_⟩
  simp only[List.map_cons,zp]
  exact⟨v,vs,rfl,by simp only[zb];rw[hg];exact rx,rs⟩
theorem Wh(hl:laidOutB P=true) {W W':World} {sp:Nat→Bool}(hb:Below W.heap.size W W'):∀{ts:List TypeId} {vs:List Value} {ds:List (DataW H)} {p:List MemPlace},ts.all (fun t=>P.readableRec t&&decide (t<P.types.size))=true→
  DataW.TrodAll enc P W 0 (fun _=>true) true ts vs ds p→(∀x∈p,x.block<W.heap.size∧sp x.block=true)→DataW.TrodAll enc P W' 0 sp true ts vs ds p
 | [],[],[],_,_,h,_=>h
 | [],[],_::_,_,_,h,_=>h.elim
 | [],_::_,_,_,_,h,_=>h.elim
 |_::_,[],_,_,_,h,_=>h.elim
 |_::_,_::_,[],_,_,h,_=>h.elim
 |t::ts,v::vs,d::ds,p,hr,h,hlt=>by
  obtain⟨p',q',h1,h2,rfl⟩:=h
  simp only[List.all_cons,Bool.and_eq_true,decide_eq_true_eq]at hr
  refine⟨p',q',WideElems.Trod_stays hl hr.1.1 hr.1.2 h1 (fun x hx=>hb.same (hlt x (by simp[hx])).1) (fun x hx=>(hlt x (by simp[hx])).2),Wh hl hb hr.2 h2 (fun x hx=>hlt x (by simp[hx])),rfl⟩
theorem zjN {f:Func} {s:ChangeSpec} {apart fresh handsOn again:Bool} {W W':World} {args:Array Value} {ds gs:List (DataW H)} {before:List MemPlace} {tb:TypeId}
  (hl:laidOutB P=true) (hb:Below W.heap.size W W') (hW:DataW.Whole enc P f.params.toList s.vars apart W args.toList ds gs before) (hv:s.vars=[]) (hgs:gs=[])
  (hr:f.params.toList.all (fun t=>P.readableRec t&&decide (t<P.types.size))=true) (ht:f.resultTypes= #[tb]) (hbo:P.underlying tb=some .bool)
  (h1:(s.fn H (ds++gs)).results=[.lit (.bool true)]) (h2:(s.fn H (ds++gs)).args=ds) (h3:(s.fn H (ds++gs)).vars=[]):
  s.post enc P f apart fresh handsOn again W args (.bool true) W':=by
 have hlt:∀x∈before,x.block<W.heap.size:=fun p hp=>by simpa using hW.lt p hp
 have hW':=hW
 obtain⟨p,q,hA,hV,rfl,hz,hn⟩:=hW
 have hq:q=[]:=by
  rw[hv,hgs]at hV
  exact hV
 subst hq
 have hres:∀(b:Nat) (sp:Nat→Bool) (hd:Bool),DataW.TrodAll enc P W' b sp hd f.resultTypes.toList ((Value.bool true).resultList f.resultTypes.size) [.lit (.bool true)] []:=by
  intro b sp hd
  rw[ht]
  show DataW.TrodAll enc P W' b sp hd [tb] [.bool true] _ _
  exact⟨[],[],shut_bool hbo true,rfl,rfl⟩
 have hargs:∀sp:Nat→Bool,(∀x∈p++[],sp x.block=true)→DataW.TrodAll enc P W' 0 sp true f.params.toList args.toList ds p:=fun sp hsp=>
  Wh hl hb hr hA (fun x hx=>⟨hlt x (by simp[hx]),hsp x (by simp[hx])⟩)
 refine⟨ds,gs,p++[],[],p,[],hW',?_,?_,?_,hb.frame _,fun _=>⟨?_,?_⟩⟩
 ·rw[h1];exact hres _ _ _
 ·rw[h2];exact hargs _ fun x hx=>by simpa using hlt x hx
 ·rw[h3,hv];exact rfl
 ·intro j t' r hj hvj
  rw[ht]at hj hvj
  match j,hj,hvj with
  |0,hj,hvj=>
   simp[Value.resultList]at hj hvj
   subst hj;subst hvj
   simp[Value.okWide,hbo,Cell.okWide,Cell.ok]
  |j+1,hj,_=>simp at hj
 ·refine⟨_,_,([]++p)++[],⟨[]++p,[],trodAll_append (hargs _ (fun _ _=>rfl)) (hres _ _ _),(by rw[hv];exact rfl:DataW.TrodVars enc P W' (fun _=>true) s.vars [] []),rfl,?_,?_⟩,?_⟩
  ·intro b off hp
   rw[hb.frozen (hlt _ (by simpa using hp))]
   exact hz b off (by simpa using hp)
  ·intro ha
   simpa using hn ha
  ·intro x hx _
   simpa using hx
theorem zcI [Gi] {C:Checked} {fn:Func} {n:FuncId} {s:ChangeSpec} {apart fresh handsOn again:Bool} {Qs:List (PV→Prop)} {tb:TypeId}(hl:laidOutB C.prog=true)(hv:s.vars=[])
  (hr:fn.params.toList.all (fun t=>C.prog.readableRec t&&decide (t<C.prog.types.size))=true) (ht:fn.resultTypes= #[tb]) (hbo:C.prog.underlying tb=some .bool)
  (hs:∀ds:List (DataW H),ds.length=fn.params.size→s.fn H ds={results:=[.lit (.bool true)],args:=ds})
  (hQ:zaM enc C.prog fn.params.toList Qs) (hC:∀xs,znd Qs xs→CR C.prog n [] (xs.map .p) [] Yes)
  (W:World) (base:Nat) (args:Array Value) (ds gs:List (DataW H)) (before:List MemPlace)
  (hval:∀(j:Nat) t v,fn.params[j]?=some t→args[j]?=some v→Value.okWide C.prog W .any base t v)
  (hW:DataW.Whole enc C.prog fn.params.toList s.vars apart W args.toList ds gs before) (hgl:zbj ⟨frW W,fun _=>.prot⟩ W):
  Calls C.prog n args W fun e W'=>∃v,e=.returned v∧s.post enc C.prog fn apart fresh handsOn again W args v W':=by
 have hW0:=hW
 obtain⟨p,q,hA,hV,_,_,_⟩:=hW
 have hgs:gs=[]:=by
  rw[hv]at hV
  cases gs with
  |nil=>rfl
  |cons _ _=>exact hV.elim
 obtain⟨xs,qx,rx⟩:=zas (g:=⟨frW W,fun _=>.prot⟩) rfl hQ (fun j t v e1 e2=>hval j t v (by simpa using e1) (by simpa using e2)) hA
 have hG:GS ⟨frW W,fun _=>.prot⟩ W []:=by
  refine⟨fun b t h=>?_,fun b b' t h=>?_,fun b b' t h=>?_,fun b h=>absurd rfl h,fun b hb=>?_,hgl⟩
  ·cases h
  ·cases h
  ·cases h
  ·show frW W b=0
   have hb':W.heap[b]?=none:=by simpa using hb
   unfold frW
   rw[hb']
 have hc:=hC xs qx W _ _ rx hG
 rw[Array.toArray_toList]at hc
 refine hc.mono ?_
 rintro e W' ⟨v,x,rs',g',rfl,⟨rfl,rfl⟩,r,_,hAft⟩
 simp only[zb,zl]at r
 subst r
 have hB:Below W.heap.size W W':=⟨hAft.out.1,hAft.out.2.1,hAft.out.2.2,hAft.mono,fun k hk=>(hAft.frame k hk rfl).1⟩
 have hlen:ds.length=fn.params.size:=by
  have:∀{ts:List TypeId} {vs:List Value} {ds:List (DataW H)} {p:List MemPlace},DataW.TrodAll enc C.prog W 0 (fun _=>true) true ts vs ds p→ds.length=ts.length:=by
   intro ts
   induction ts with
   |nil=>intro vs ds p h;cases vs<;>cases ds<;>simp_all [DataW.TrodAll]
   |cons t ts ih=>
    intro vs ds p h
    cases vs<;>cases ds<;>simp_all [DataW.TrodAll]
    obtain⟨_,_,_,h2,_⟩:=h
    exact ih h2
  simpa using this hA
 exact⟨_,rfl,zjN hl hB hW0 hv hgs hr ht hbo (by rw[hgs,List.append_nil,hs ds hlen]) (by rw[hgs,List.append_nil,hs ds hlen]) (by rw[hgs,List.append_nil,hs ds hlen])⟩
end
end Go.AM
end
section
namespace Go.Proofs.YthbmelihnabkaaaGreat
open Go.ChangeShapes Go.WideShapes Go.ChangeAt Go.RowKit Go.AM
set_option maxRecDepth 100000
theorem Tryz.own:ownKnob Tryz.prog.godebug=none:=by kernel_rfl
theorem Tryz.laidOut:laidOutB Tryz.prog=true:=by kernel_rfl
theorem zi3 {α:Type} {f:α→PV} {Q:α→Prop}:∀{es:List PV},(∀el∈es,∃a,Q a∧el=f a)→∃l:List α,(∀a∈l,Q a)∧es=l.map f
 | [],_=>⟨[],by simp,rfl⟩
 |x::xs,h=>by
  obtain⟨a,q,rfl⟩:=h x (by simp)
  obtain⟨l,ql,rfl⟩:=zi3 (es:=xs) fun el hel=>h el (by simp[hel])
  exact⟨a::l,by simpa using ⟨q,ql⟩,rfl⟩
@[reducible] def zo1 : Gi := ⟨fun _ => none⟩
section
variable {H:Type} {enc:TypeId×Value→H} {W:World}
abbrev QI:List PV→Prop:=fun xs=>∃x,xs=[x]∧∃n,x=.int .i64 n∧ -9223372036854775808≤n∧n≤9223372036854775807
abbrev QR:List PV→Prop:=fun xs=>∃x,xs=[x]∧∃n,x=.int .i32 n∧zu n
abbrev QT:List PV→Prop:=fun xs=>∃x,xs=[x]∧∃l:List Int,(∀r∈l,zu r)∧x=yV l
theorem zf9:Yp enc Tryz.prog W 0 (fun _=>true) true 3 QI:=by
 intro fuel cs x h
 obtain⟨xs,⟨n,rfl,hw⟩,r⟩:=Xx (k:=.i64) (by kernel_rfl) _ _ _ h
 simp[Lit.wf,IntKind.min,IntKind.max,IntKind.signed,IntKind.bits]at hw
 exact⟨_,⟨_,rfl,n,rfl,by omega⟩,r⟩
theorem zk6:Yp enc Tryz.prog W 0 (fun _=>true) true 21 QR:=by
 intro fuel cs x h
 obtain⟨xs,⟨n,rfl,hw⟩,r⟩:=Xx (k:=.i32) (by kernel_rfl) _ _ _ h
 simp[Lit.wf,IntKind.min,IntKind.max,IntKind.signed,IntKind.bits]at hw
 exact⟨_,⟨_,rfl,n,rfl,⟨by omega,by omega⟩⟩,r⟩
theorem zlh:Yp enc Tryz.prog W 0 (fun _=>true) true 22 QT:=by
 intro fuel cs x h
 obtain⟨xs,⟨es,rfl,he⟩,r⟩:=zdg (e:=21) (QE:=fun el=>∃n,zu n∧el=PV.int .i32 n) (by kernel_rfl) (of_decide_eq_true (by kernel_rfl)) (fun fuel cs x h=>by
  obtain⟨el,v,⟨n,rfl,q⟩,r⟩:=zmu zk6 _ _ _ h
  exact⟨_,v,⟨n,q,rfl⟩,r⟩) _ _ _ h
 obtain⟨l,ql,rfl⟩:=zi3 he
 exact⟨_,⟨_,rfl,l,ql,rfl⟩,r⟩
end
end Go.Proofs.YthbmelihnabkaaaGreat
end
