/- A part of this seat's proofs, by an abstract machine. Conditions: each law's. -/
import Derived.Test.YtfjdbbpimklecaaGreatDoorT17
import Derived.Test.YtfjdbbpimklecaaGreatDoorT16
set_option maxHeartbeats 4000000
set_option maxRecDepth 10000
namespace Go.AM
section
def frz(g:Gh)(w:World)(rt:Tok→Bool):Gh:=
 ⟨fun b=>match g.K b with
  |.root t=>if rt t then g.fr b else frW w b
  |_=>g.fr b,(g.fil rt ftt).K⟩
theorem kI {g:Gh} {w:World} {rt:Tok→Bool} {b:Nat}(h:∀t,g.K b=.root t→rt t=true):(frz g w rt).fr b=g.fr b:=by
 simp only[frz]
 split
 ·rename_i t e;rw[if_pos (h t e)]
 ·rfl
theorem xm {g:Gh} {w:World} {rt:Tok→Bool} {b:Nat} {t:Tok}(h:g.K b=.root t)(ht:rt t=false):(frz g w rt).fr b=frW w b:=by
 simp only[frz,h,ht,Bool.false_eq_true,if_false]
theorem uO [Gi] {g:Gh} {w:World} {rs:List (Tok×List AV)}(hG:GS g w rs)(rt:Tok→Bool):Ext g.fr w (frz g w rt).fr w:=fun b o ho=>by
 refine⟨?_,rfl,rfl⟩
 by_cases h:∃t,g.K b=.root t
 ·obtain⟨t,ht⟩:=h
  obtain⟨_,_,h0,_⟩:=hG.roots b t ht
  omega
 ·rw[kI (fun t e=>absurd ⟨t,e⟩ h)]
  exact ho
theorem zkx [Gi] {g:Gh} {w:World} {rs:List (Tok×List AV)}(hG:GS g w rs)(rt:Tok→Bool):vu g w (frz g w rt) w rt ftt:=
 ⟨uO hG rt,fun b t ht hk=>⟨Gh.qc.2 ⟨hk,ht⟩,fun _ h=>h⟩,fun b t ht hk=>⟨Gh.qT.2 ⟨hk,ht⟩,kI (fun u e=>by rw[hk]at e;cases e),rfl⟩⟩
def Yi(rt:Tok→Bool)(rs:List (Tok×List AV)):List (Tok×List AV):=(rs.filter fun x=>rt x.1).map fun x=>(x.1,x.2.map (AV.upd (fil rt ftt)))
theorem Ky {rt:Tok→Bool} {t:Tok}(ht:rt t=true):∀{rs:List (Tok×List AV)} {cs:List AV},zn rs t=some cs→zn (Yi rt rs) t=some (cs.map (AV.upd (fil rt ftt)))
 | [],_,h=>by simp[zn]at h
 |(k,y)::l,cs,h=>by
  simp only[zn]at h
  split at h
  ·rename_i e
   injection h with h
   subst e;subst h
   simp[Yi,ht,zn]
  ·rename_i e
   have ih:=Ky ht h
   unfold Yi at ih⊢
   rw[List.filter_cons]
   split
   ·simp only[List.map_cons,zn,if_neg e];exact ih
   ·exact ih
theorem zoU [Gi] {g:Gh} {w:World} {rs:List (Tok×List AV)}(hG:GS g w rs)(rt:Tok→Bool):GS (frz g w rt) w (Yi rt rs):=by
 have k:=zkx hG rt
 refine⟨fun b t hk=>?_,fun b b' t hk hk'=>hG.ur b b' t (Gh.qc.1 hk).1 (Gh.qc.1 hk').1,fun b b' t hk hk'=>hG.ut b b' t (Gh.qT.1 hk).1 (Gh.qT.1 hk').1,fun b hb=>hG.own b ?_,fun b hb=>?_,fun b arr e=>?_⟩
 ·obtain⟨hk1,ht⟩:=Gh.qc.1 hk
  obtain⟨cs,hl,h0,arr,T,hb,hle,hc⟩:=hG.roots b t hk1
  refine⟨cs.map (AV.upd (fil rt ftt)),Ky ht hl,?_,arr,T,hb,by simpa using hle,fun j x hj=>?_⟩
  ·rw[kI (fun u e=>by rw[hk1]at e;injection e with e;subst e;exact ht)];exact h0
  ·simp only[List.getElem?_map,Option.map_eq_some_iff]at hj
   obtain⟨y,hy,rfl⟩:=hj
   obtain⟨v,hv,h1,r⟩:=hc j y hy
   exact⟨v,hv,h1,zb.upd k _ _ r⟩
 ·intro e;apply hb;show(g.K b).fil rt ftt=.prot;rw[e];rfl
 ·have:g.K b=.prot:=by
   rcases h:g.K b with _|t|t
   ·rfl
   all_goals exact absurd (hG.own b (by rw[h];simp)) (by omega)
  rw[kI (fun t e=>by rw[this]at e;cases e)]
  exact hG.frb b hb
 ·obtain⟨h1,h2⟩:=hG.gl b arr e
  exact⟨by show(g.K b).fil rt ftt=.prot;rw[h1];rfl,h2⟩
def zb9 [Gi](rt:Tok→Bool)(rs:List (Tok×List AV))(x x':AV):Prop:=∀g w v,GS g w rs→zb g w x v→zb (frz g w rt) w x' v
theorem CR.freeze [Gi] {P:Program} {f:FuncId} {pin:List Tok} {args:List AV} {rs:List (Tok×List AV)} {R R':AV→List (Tok×List AV)→Prop}(h:CR P f pin args rs R)(rt:Tok→Bool)(hp:pin.all rt=true)
  (hr:∀x rs',R x rs'→∃x',zb9 rt rs' x x'∧R' x' (Yi rt rs')):CR P f pin args rs R':=by
 intro w g vs h1 h2
 refine(h w g vs h1 h2).mono ?_
 rintro e w' ⟨v,x,rs',g',rfl,hR,hx,hG,hA⟩
 obtain⟨x',hf,hR'⟩:=hr x rs' hR
 refine⟨v,x',_,frz g' w' rt,rfl,hR',hf g' w' v hG hx,zoU hG rt,⟨fun b hb hk=>?_,hA.ext.trans (uO hG rt),hA.out,hA.mono,fun b t hk ht=>?_⟩⟩
 ·obtain⟨a1,a2,a3⟩:=hA.frame b hb hk
  exact⟨a1,by rw[kI (fun t e=>by rw[a3]at e;cases e)];exact a2,by show(g'.K b).fil rt ftt=.prot;rw[a3];rfl⟩
 ·obtain⟨a1,a2⟩:=hA.pins b t hk ht
  exact⟨Gh.qc.2 ⟨a1,List.all_eq_true.1 hp t ht⟩,a2⟩
theorem zbl {fr:Nat→Nat} {w:World}:∀{ps:List PV} {vs:List Value},vs.length=ps.length→(∀(j:Nat) (p:PV),ps[j]?=some p→∃v,vs[j]?=some v∧v.oneCell'=true∧zl fr w p v)→zw fr w ps vs
 | [],vs,hl,_=>by simp only[zw];exact List.eq_nil_of_length_eq_zero hl
 |p::ps,[],hl,_=>by simp at hl
 |p::ps,u::vs,hl,h=>by
  simp only[zw]
  obtain⟨v,hv,h1,h2⟩:=h 0 p rfl
  simp at hv;subst hv
  exact⟨u,vs,rfl,h1,h2,zbl (by simpa using hl) fun j q hq=>by simpa using h (j+1) q (by simpa using hq)⟩
theorem Uf [Gi] {g:Gh} {w:World} {rs:List (Tok×List AV)}(hG:GS g w rs) {rt:Tok→Bool} {t:Tok} {z n:Nat} {es:List PV}(ext:List AV)(h0:0<n)(hl:zn rs t=some ((es.flatMap PV.cells).map .p++ext))(ht:rt t=false)(hn:es.length=n)
  (hz:∀e∈es,e.cells.length=z∧e.fits=true) {v:Value} (hv:zb g w (.la t z 0 n) v):zl (frz g w rt).fr w (.sl z es) v:=by
 simp only[zb]at hv
 obtain⟨b,o',cap,hk,rfl,hcap,ho,hblk⟩:=hv
 obtain rfl:o'=0:=ho.resolve_left (by omega)
 obtain⟨cs,hl',hfr,arr,T,hb,hle,hc⟩:=hG.roots b t hk
 rw[hl]at hl';injection hl' with hl';subst hl'
 have hx:=uO hG rt
 have hlen:(es.flatMap PV.cells).length=es.length*z:=by
  clear hl hn hle hc
  induction es with
  |nil=>simp
  |cons e es ih=>
   rw[List.flatMap_cons,List.length_append,ih (fun x hx=>hz x (by simp[hx])),(hz e (by simp)).1,List.length_cons,Nat.add_mul]
   omega
 rw[List.length_append,List.length_map,hlen]at hle
 have hfb:(frz g w rt).fr b=arr.size:=by rw[xm hk ht];simp[frW,hb]
 simp only[zl]
 refine .inr ⟨b,0,cap,by rw[hn],by omega,by rw[hfb];omega,?_⟩
 refine wo (vs:=arr.toList.take (es.length*z)) (zbl (by rw[hlen];simp;omega) fun j p hj=>?_) hz (fun j u hj=>?_)
 ·obtain⟨u,h1,h2,h3⟩:=hc j (.p p) (by rw[List.getElem?_append_left (by rw[List.length_map];exact(List.getElem?_eq_some_iff.1 hj).1),List.getElem?_map,hj];rfl)
  have hjl:j<es.length*z:=by rw[←hlen];exact(List.getElem?_eq_some_iff.1 hj).1
  simp only[zb]at h3
  exact⟨u,by rw[List.getElem?_take,if_pos hjl];simpa using h1,h2,h3.ext hx⟩
 ·rw[List.getElem?_take]at hj
  split at hj
  ·rw[z8 hb,Nat.zero_add];simpa using hj
  ·cases hj
theorem zb4 [Gi] {g:Gh} {w:World} {rs:List (Tok×List AV)}(hG:GS g w rs) {rt:Tok→Bool} {t:Tok} {z n:Nat} {es:List PV}(h0:0<n)(hl:zn rs t=some ((es.flatMap PV.cells).map .p))(ht:rt t=false)(hn:es.length=n)
  (hz:∀e∈es,e.cells.length=z∧e.fits=true) {v:Value} (hv:zb g w (.la t z 0 n) v):zl (frz g w rt).fr w (.sl z es) v:=
 Uf hG [] h0 (by simpa using hl) ht hn hz hv
theorem zji [Gi] {g:Gh} {w:World} {rs:List (Tok×List AV)}(hG:GS g w rs) {rt:Tok→Bool} {t0:Tok} {z n:Nat} {ts:List Tok} {X:List (List PV)}(h0:0<n)(hR:0<ts.length)(hl:zn rs t0=some (ts.map fun t=>.la t z 0 n))(ht0:rt t0=false)(hX:X.length=ts.length)
  (hrow:∀(i:Nat) (t:Tok),ts[i]?=some t→rt t=false∧∃es,X[i]?=some es∧es.length=n∧(∀e∈es,e.cells.length=z∧e.fits=true)∧zn rs t=some ((es.flatMap PV.cells).map .p))
  {v:Value} (hv:zb g w (.la t0 1 0 ts.length) v):zl (frz g w rt).fr w (.sl 1 (X.map (.sl z))) v:=by
 simp only[zb]at hv
 obtain⟨b,o',cap,hk,rfl,hcap,ho,hblk⟩:=hv
 obtain rfl:o'=0:=ho.resolve_left (by omega)
 obtain⟨cs,hl',hfr,arr,T,hb,hle,hc⟩:=hG.roots b t0 hk
 rw[hl]at hl';injection hl' with hl';subst hl'
 rw[List.length_map]at hle
 have hfb:(frz g w rt).fr b=arr.size:=by rw[xm hk ht0];simp[frW,hb]
 simp only[zl]
 refine .inr ⟨b,0,cap,by simp[hX],by simp[hX];omega,by rw[hfb];simp[hX];omega,?_⟩
 refine qJ.mk fun i el hi=>?_
 rw[List.getElem?_map,Option.map_eq_some_iff]at hi
 obtain⟨es,he,rfl⟩:=hi
 have hit:i<ts.length:=by rw[←hX];exact(List.getElem?_eq_some_iff.1 he).1
 obtain⟨hrt,es',he',hn,hz,hlt⟩:=hrow i ts[i] (List.getElem?_eq_getElem hit)
 rw[he]at he';injection he' with he';subst he'
 obtain⟨u,hu,h1,h2⟩:=hc i (.la ts[i] z 0 n) (by rw[List.getElem?_map,List.getElem?_eq_getElem hit];rfl)
 have hcell:u.cells= #[u]:=by cases u<;>simp_all [Value.oneCell',Value.cells]
 refine⟨u,zb4 hG h0 hlt hrt hn hz h2,by rw[hcell];rfl,fun j c hj=>?_⟩
 rw[hcell]at hj
 have hj0:j=0∧c=u:=by
  match j,hj with
  |0,hj=>simp at hj;exact⟨rfl,hj.symm⟩
  |j+1,hj=>simp at hj
 obtain⟨rfl,rfl⟩:=hj0
 refine⟨h1,?_⟩
 rw[z8 hb]
 simpa using hu
@[go_sem] theorem zpQ (l : List PV) : KE (l.map .p) = some l := by
 induction l with
 |nil=>rfl
 |cons x l ih=>simp[KE,ih]
@[go_sem] theorem zhj (rt tt : Tok → Bool) : (AV.upd (fil rt tt) ∘ AV.p) = AV.p := rfl
@[go_sem] theorem zpT (t : Tok) (ks xs : List PV) : (AV.upd (AM.fz t ks xs) ∘ AV.p) = AV.p := rfl
@[go_sem] theorem zrg (f : Tok → Option Tok) : (AV.ren f ∘ AV.p) = AV.p := rfl
theorem Qk {l:List PV} {n:Nat}(h:l.length=n):(l.map AV.p).take n=l.map .p:=List.take_of_length_le (by simp[h])
theorem zcu:∀(a:List PV),eqC a a=true
 | []=>by simp[eqC]
 |x::xs=>by cases x<;>simp[eqC,zcu xs]
theorem jS {kc:List Kc} {key:List PV}(hk:okC kc key=true):∀{ks xs:List PV} {i:Nat},ks.all (fun k=>okC kc k.cells)=true→ks.length=xs.length→(Zd key ks xs i=none↔∀k∈ks,k.cells≠key)
 | [],[],i,_,_=>by simp[Zd]
 | [],x::xs,i,_,h=>by simp at h
 |k::ks,[],i,_,h=>by simp at h
 |k::ks,x::xs,i,h1,h2=>by
  simp only[List.all_cons,Bool.and_eq_true]at h1
  unfold Zd
  by_cases hc:eqC key k.cells=true
  ·rw[if_pos hc]
   have:=Uz hk h1.1 hc
   simp[this]
  ·rw[if_neg hc,jS hk h1.2 (by simpa using h2)]
   have hne:k.cells≠key:=fun e=>hc (by rw[e];exact zcu _)
   simp[hne]
theorem ZS {kc:List Kc} {key:List PV}(hk:okC kc key=true):∀{ks xs:List PV} {i j:Nat} {x:PV},ks.all (fun k=>okC kc k.cells)=true→Zd key ks xs i=some (j,x)→i≤j∧∃k,ks[j-i]?=some k∧k.cells=key∧xs[j-i]?=some x
 | [],xs,i,j,x,_,h=>by simp[Zd]at h
 |k::ks,[],i,j,x,_,h=>by simp[Zd]at h
 |k::ks,y::xs,i,j,x,h1,h=>by
  simp only[List.all_cons,Bool.and_eq_true]at h1
  unfold Zd at h
  by_cases hc:eqC key k.cells=true
  ·rw[if_pos hc]at h
   injection h with h;injection h with e1 e2;subst e1;subst e2
   exact⟨Nat.le_refl _,k,by simp,(Uz hk h1.1 hc).symm,by simp⟩
  ·rw[if_neg hc]at h
   obtain⟨h2,k',h3,h4,h5⟩:=ZS hk h1.2 h
   have e:j-i=(j- (i+1))+1:=by omega
   exact⟨by omega,k',by rw[e];simpa using h3,h4,by rw[e];simpa using h5⟩
def St.zcH(S:St)(vs:List (Nat×AV))(rs:List (Tok×List AV)):St:={S with vs:=vs.foldl (fun l x=>zaE l x.1 x.2) S.vs,ts:=[],rs:=rs.foldl (fun l x=>QW l x.1 x.2) S.rs}
attribute [go_sem] St.zcH
theorem zH [Gi] {P:Program} {D:List Nat} {c:Code} {Q:Exit→St→Prop} {S:St} {ι:Type}(inv:ι→Prop)(V:ι→List (Nat×AV))(R:ι→List (Tok×List AV))(m:ι→Nat)(i:ι)(hi:inv i)(h0:LeS S (S.zcH (V i) (R i)))
  (h:∀i,inv i→wpA P D c (Kf inv (fun i=>S.zcH (V i) (R i)) m i Q) (S.zcH (V i) (R i))):wpA P D (.loop c) Q S:=
 qM inv (fun i=>S.zcH (V i) (R i)) m i hi h0 h
def St.KA(S:St)(vs:List (Nat×AV))(rs:List (Tok×List AV))(ts:List (Nat×AV)):St:={S with vs:=vs.foldl (fun l x=>zaE l x.1 x.2) S.vs,ts:=ts,rs:=rs.foldl (fun l x=>QW l x.1 x.2) S.rs}
attribute [go_sem] St.KA
def Kt {ι:Type}(S:St)(inv:ι→Prop)(V:ι→List (Nat×AV))(R:ι→List (Tok×List AV))(Q:Exit→St→Prop):Exit→St→Prop:=fun e S'=>match e with|.normal=>∃i ts,inv i∧S'=S.KA (V i) (R i) ts|e=>Q e S'
@[go_sem] theorem znX {ι : Type} {S : St} {inv : ι → Prop} {V : ι → List (Nat × AV)} {R : ι → List (Tok × List AV)} {Q : Exit → St → Prop} {S' : St} {k : Nat} : Kt S inv V R Q (.exit k) S' = Q (.exit k) S' := rfl
@[go_sem] theorem zpg {ι : Type} {S : St} {inv : ι → Prop} {V : ι → List (Nat × AV)} {R : ι → List (Tok × List AV)} {Q : Exit → St → Prop} {S' : St} : Kt S inv V R Q .ret S' = Q .ret S' := rfl
theorem zO {ι:Type} {S:St} {inv:ι→Prop} {V:ι→List (Nat×AV)} {R:ι→List (Tok×List AV)} {Q:Exit→St→Prop} {S':St}(i:ι)(hi:inv i)(h:S'=S.KA (V i) (R i) S'.ts):Kt S inv V R Q .normal S':=⟨i,_,hi,h⟩
theorem Zp [Gi] {P:Program} {D:List Nat} {x y rest:Code} {Q:Exit→St→Prop} {S:St} {v:AV} {ι:Type}(inv:ι→Prop)(V:ι→List (Nat×AV))(R:ι→List (Tok×List AV))(h:kJ P D x y (Kt S inv V R Q) S v)
  (hr:∀i ts,inv i→wpA P D rest Q (S.KA (V i) (R i) ts)):kJ P D x y (zbK P D rest Q) S v:=by
 have hq:∀e S',Kt S inv V R Q e S'→zbK P D rest Q e S':=fun e S' h=>by
  cases e with
  |normal=>obtain⟨i,ts,hi,rfl⟩:=h;exact hr i ts hi
  |_=>exact h
 unfold kJ at h⊢
 split at h
 ·exact⟨fun e=>ZO x hq (h.1 e),fun e=>ZO y hq (h.2 e)⟩
 ·exact h.elim
end
end Go.AM
namespace Go.Proofs.YtfjdbbpimklecaaGreatDoor
section
open Go.AM
def y7:Int:=65533
structure Dk where
 need:Nat
 hv:Nat
 lo:Nat
 hi:Nat
 v:Nat
def dz:Dk:=⟨0,0,0,0,0⟩
def jB(b:Nat):Nat:=if b<224 then 1 else if b<240 then 2 else 3
def loD(b:Nat):Nat:=if b=224 then 160 else if b=240 then 144 else 128
def hiD(b:Nat):Nat:=if b=237 then 159 else if b=244 then 143 else 191
def uX(b:Nat):Nat:=if b<224 then b%32 else if b<240 then b%16 else b%8
def qL(b:Nat):Dk×List Int:=
 if b<128 then(dz,[(b:Int)])else if b<194∨244<b then(dz,[y7])
 else(⟨jB b,1,loD b,hiD b,uX b⟩,[])
def Z8(d:Dk)(b:Nat):Dk×List Int:=
 if d.need=0 then qL b
 else if b<d.lo∨d.hi<b then((qL b).1,y7::(qL b).2)
 else if d.need=1 then(dz,[((d.v*64+b%64:Nat):Int)])
 else(⟨d.need-1,d.hv+1,128,191,d.v*64+b%64⟩,[])
def QG(d:Dk):List Nat→List Int
 | []=>if d.need=0 then []else [y7]
 |b::s=>(Z8 d b).2++QG (Z8 d b).1 s
theorem Ua(d:Dk)(b:Nat)(s:List Nat):QG d (b::s)=(Z8 d b).2++QG (Z8 d b).1 s:=rfl
def QY:Nat→Nat→Nat→List Nat→Nat
 |0,_,_,_=>0
 |_+1,_,_,[]=>0
 |k+1,lo,hi,b::s=>if lo≤b∧b≤hi then QY k 128 191 s+1 else 0
theorem zar:∀(k lo hi:Nat) (s:List Nat),QY k lo hi s≤s.length
 |0,_,_,_=>by simp[QY]
 |k+1,_,_,[]=>by simp[QY]
 |k+1,lo,hi,b::s=>by
  have:=zar k 128 191 s
  unfold QY;split<;>simp<;>omega
def zln(v:Nat):List Nat→Nat
 | []=>v
 |b::s=>zln (v*64+b%64) s
theorem zfY(b:Nat):Z8 dz b=qL b:=by unfold Z8;exact if_pos rfl
theorem zcN:∀(k hv lo hi v:Nat) (s:List Nat),QG ⟨k+1,hv,lo,hi,v⟩ s=
  if QY (k+1) lo hi s=k+1 then((zln v (s.take (k+1)):Nat):Int)::QG dz (s.drop (k+1))else y7::QG dz (s.drop (QY (k+1) lo hi s))
 |k,hv,lo,hi,v,[]=>by simp[QG,QY,dz]
 |k,hv,lo,hi,v,b::s=>by
  rw[Ua]
  unfold Z8 QY
  rw[if_neg (by simp)]
  by_cases h:lo≤b∧b≤hi
  ·rw[if_neg (by simp only;omega),if_pos h]
   cases k with
   |zero=>
    simp[QY,zln]
   |succ k=>
    rw[if_neg (by simp)]
    have ih:=zcN k (hv+1) 128 191 (v*64+b%64) s
    simp only[Nat.add_sub_cancel,List.nil_append]
    rw[ih]
    by_cases c:QY (k+1) 128 191 s=k+1
    ·rw[if_pos c,if_pos (by omega)];rfl
    ·rw[if_neg c,if_neg (by omega)];rfl
  ·rw[if_pos (by simp only;omega),if_neg h,if_neg (by omega)]
   have e:QG dz ((b::s).drop 0)=(qL b).2++QG (qL b).1 s:=by
    show(Z8 dz b).2++QG (Z8 dz b).1 s=_
    rw[zfY]
   rw[e];rfl
def Z2(c:Nat):Nat:=if c<128 then 1 else if c<224 then 2 else if c<240 then 3 else 4
def Xp (c b i : Nat) : Bool :=
  if i = 0 then decide (c < 128) || (decide (194 ≤ c) && decide (c ≤ 244))
  else if i = 1 then
    (if c = 224 then decide (160 ≤ b) && decide (b ≤ 191) else if c = 237 then decide (128 ≤ b) && decide (b ≤ 159)
     else if c = 240 then decide (144 ≤ b) && decide (b ≤ 191) else if c = 244 then decide (128 ≤ b) && decide (b ≤ 143) else decide (128 ≤ b) && decide (b ≤ 191))
  else decide (128 ≤ b) && decide (b ≤ 191)
def ya(s:List Nat):Nat→Nat→Nat
 |n,0=>n
 |n,f+1=>if n<s.length∧n<Z2 (s.getD 0 0)∧Xp (s.getD 0 0) (s.getD n 0) n=true then ya s (n+1) f else n
def kW(s:List Nat):Nat:=ya s 0 4
def Qo(s:List Nat):Bool:=decide (0<kW s)&&decide (kW s=Z2 (s.getD 0 0))
def JW:Int→List Nat→Int
 |v,[]=>v
 |v,b::s=>JW (64*v+b-128) s
def k8:List Nat→Int
 | []=>0
 | [c]=>c
 |c::s=>JW ((c:Int)- (if s.length=3 then 240 else if s.length=2 then 224 else 192)) s
def xX:Nat→List Nat→List Int
 |0,_=>[]
 |_+1,[]=>[]
 |f+1,c::s=>(if Qo (c::s)=true then k8 ((c::s).take (kW (c::s)))else y7)::xX f ((c::s).drop (max (kW (c::s)) 1))
def zfP(s:List Nat):List Int:=xX s.length s
theorem XA(c:Nat)(t:List Nat):∀(f n:Nat),1≤n→Z2 c≤n+f→ya (c::t) n f=n+QY (Z2 c-n) (if n=1 then loD c else 128) (if n=1 then hiD c else 191) (t.drop (n-1))
 |0,n,h1,h2=>by
  have:Z2 c-n=0:=by omega
  rw[this];simp[ya,QY]
 |f+1,n,h1,h2=>by
  obtain⟨m,rfl⟩:∃m,n=m+1:=⟨n-1,by omega⟩
  unfold ya
  simp only[List.length_cons,List.getD_cons_zero,List.getD_cons_succ,Nat.add_sub_cancel]
  by_cases a:m+1<t.length+1∧m+1<Z2 c
  ·obtain⟨k,hk⟩:∃k,Z2 c- (m+1)=k+1:=⟨Z2 c- (m+1)-1,by omega⟩
   have hm:m<t.length:=by omega
   have ed:t.drop m=t[m]::t.drop (m+1):=List.drop_eq_getElem_cons hm
   have eg:t.getD m 0=t[m]:=by rw[List.getD_eq_getElem?_getD,List.getElem?_eq_getElem hm];rfl
   rw[hk,ed,eg]
   have hmay:Xp c t[m] (m+1)=(decide ((if m+1=1 then loD c else 128)≤t[m])&&decide (t[m]≤(if m+1=1 then hiD c else 191))):=by
    unfold Xp
    rw[if_neg (by omega)]
    by_cases q:m+1=1
    ·rw[if_pos q,if_pos q,if_pos q]
     unfold loD hiD
     by_cases c1:c=224
     ·subst c1;rfl
     rw[if_neg c1,if_neg c1]
     by_cases c2:c=237
     ·subst c2;rfl
     rw[if_neg c2,if_neg c2]
     by_cases c3:c=240
     ·subst c3;rfl
     rw[if_neg c3,if_neg c3]
     by_cases c4:c=244
     ·subst c4;rfl
     rw[if_neg c4,if_neg c4]
    ·rw[if_neg q,if_neg q,if_neg q]
   have ih:=XA c t f (m+1+1) (by omega) (by omega)
   rw[if_neg (by omega),if_neg (by omega),show Z2 c- (m+1+1)=k by omega,show m+1+1-1=m+1 by omega]at ih
   unfold QY
   by_cases b:(if m+1=1 then loD c else 128)≤t[m]∧t[m]≤(if m+1=1 then hiD c else 191)
   ·rw[if_pos ⟨a.1,a.2,by rw[hmay];simp only[Bool.and_eq_true,decide_eq_true_eq];exact b⟩,if_pos b,ih];omega
   ·rw[if_neg (fun h=>b (by have:=h.2.2;rw[hmay]at this;simpa only[Bool.and_eq_true,decide_eq_true_eq]using this)),if_neg b]
  ·rw[if_neg (fun h=>a ⟨h.1,h.2.1⟩)]
   have:Z2 c- (m+1)=0∨t.drop m=[]:=by
    by_cases q:Z2 c≤m+1
    ·left;omega
    ·right;exact List.drop_eq_nil_of_le (by omega)
   rcases this with e|e
   ·rw[e];simp[QY]
   ·rw[e];cases Z2 c- (m+1)<;>simp[QY]
theorem zdx:∀(s:List Nat) (v:Nat),(∀b∈s,128≤b∧b≤191)→JW v s=(zln v s:Nat)
 | [],v,_=>rfl
 |b::s,v,h=>by
  have hb:=h b (by simp)
  have e:(64*(v:Int)+b-128)=((v*64+b%64:Nat):Int):=by omega
  unfold JW zln
  rw[e,zdx s _ fun x hx=>h x (by simp[hx])]
theorem zac:∀(k lo hi:Nat) (s:List Nat),128≤lo→hi≤191→∀b∈s.take (QY k lo hi s),128≤b∧b≤191
 |0,_,_,_,_,_,b,hb=>by simp[QY]at hb
 |k+1,_,_,[],_,_,b,hb=>by simp[QY]at hb
 |k+1,lo,hi,c::s,h1,h2,b,hb=>by
  unfold QY at hb
  split at hb
  ·rename_i hc
   rw[List.take_succ_cons]at hb
   rcases List.mem_cons.1 hb with rfl|hb
   ·omega
   ·exact zac k 128 191 s (by omega) (by omega) b hb
  ·simp at hb
theorem ku:∀(f:Nat) (s:List Nat),s.length≤f→xX f s=QG dz s
 |0,s,h=>by
  obtain rfl:s=[]:=List.eq_nil_of_length_eq_zero (by omega)
  rfl
 |f+1,[],h=>rfl
 |f+1,c::s,h=>by
  simp only[List.length_cons]at h
  have e0:QG dz (c::s)=(qL c).2++QG (qL c).1 s:=by
   show(Z8 dz c).2++QG (Z8 dz c).1 s=_
   rw[zfY]
  have h4:Z2 c≤4:=by unfold Z2;split<;>(try split)<;>(try split)<;>omega
  have hm:=XA c s 3 1 (Nat.le_refl _) (by omega)
  rw[if_pos rfl,if_pos rfl,Nat.sub_self,List.drop_zero]at hm
  have er:kW (c::s)=if c<128∨(194≤c∧c≤244)then ya (c::s) 1 3 else 0:=by
   have h1:0<Z2 c:=by unfold Z2;split<;>(try split)<;>(try split)<;>omega
   have e4:ya (c::s) 0 4=if 0< (c::s).length∧0<Z2 ((c::s).getD 0 0)∧Xp ((c::s).getD 0 0) ((c::s).getD 0 0) 0=true then ya (c::s) 1 3 else 0:=rfl
   unfold kW
   rw[e4]
   simp only[List.length_cons,List.getD_cons_zero]
   by_cases q:c<128∨(194≤c∧c≤244)
   ·rw[if_pos q,if_pos ⟨by omega,h1,by simpa[Xp]using q⟩]
   ·rw[if_neg q,if_neg (fun k=>q (by simpa[Xp]using k.2.2))]
  unfold xX
  rw[e0]
  by_cases c1:c<128
  ·have el:Z2 c=1:=by unfold Z2;rw[if_pos c1]
   rw[if_pos (.inl c1),hm,el]at er
   have er':kW (c::s)=1:=by rw[er];simp[QY]
   have ew:Qo (c::s)=true:=by unfold Qo;rw[er'];simp[el]
   have ef:qL c=(dz,[(c:Int)]):=by unfold qL;rw[if_pos c1]
   rw[ew,er',if_pos rfl,ef]
   show k8 [c]::xX f s=_
   rw[ku f s (by omega)];rfl
  ·by_cases c2:c<194∨244<c
   ·rw[if_neg (by omega)]at er
    have ew:Qo (c::s)=false:=by unfold Qo;rw[er];rfl
    have ef:qL c=(dz,[y7]):=by unfold qL;rw[if_neg c1,if_pos c2]
    rw[ew,er,if_neg (by decide),ef]
    show y7::xX f s=_
    rw[ku f s (by omega)];rfl
   ·rw[if_pos (by omega),hm]at er
    have ef:qL c=(⟨jB c,1,loD c,hiD c,uX c⟩,[]):=by unfold qL;rw[if_neg c1,if_neg c2]
    have en:Z2 c=jB c+1:=by
     unfold Z2 jB
     rw[if_neg c1]
     split
     ·rfl
     ·split<;>rfl
    obtain⟨k,hk⟩:∃k,jB c=k+1:=⟨jB c-1,by unfold jB;split<;>(try split)<;>omega⟩
    rw[en,hk,show k+1+1-1=k+1 by omega]at er
    rw[ef]
    simp only[List.nil_append]
    rw[hk,zcN]
    have hle:=zar (k+1) (loD c) (hiD c) s
    have hl1:128≤loD c:=by unfold loD;split<;>(try split)<;>omega
    have hl2:hiD c≤191:=by unfold hiD;split<;>(try split)<;>omega
    have hmem:=zac (k+1) (loD c) (hiD c) s hl1 hl2
    generalize QY (k+1) (loD c) (hiD c) s=m at er hle hmem
    have e1:max (kW (c::s)) 1=m+1:=by omega
    rw[e1,List.drop_succ_cons,ku f (s.drop m) (by rw[List.length_drop];omega)]
    by_cases q:m=k+1
    ·have ew:Qo (c::s)=true:=by unfold Qo;rw[er,List.getD_cons_zero,en,hk,q];simp;omega
     rw[ew,if_pos rfl,if_pos q,er,q,show 1+(k+1)=(k+1)+1 by omega,List.take_succ_cons]
     congr 1
     rw[←q]
     have hl:(s.take m).length=k+1:=by rw[List.length_take];omega
     have hv:k8 (c::s.take m)=JW (uX c:Nat) (s.take m):=by
      have hne:s.take m≠ []:=fun e=>by rw[e]at hl;simp at hl
      have:k8 (c::s.take m)=JW ((c:Int)- (if(s.take m).length=3 then 240 else if(s.take m).length=2 then 224 else 192)) (s.take m):=by
       cases hs:s.take m with
       |nil=>exact absurd hs hne
       |cons x xs=>rfl
      rw[this,hl]
      congr 1
      unfold jB at hk
      unfold uX
      split at hk
      ·rename_i g
       rw[if_pos g]
       obtain rfl:k=0:=by omega
       simp;omega
      ·rename_i g
       rw[if_neg g]
       split at hk
       ·rename_i g2
        rw[if_pos g2]
        obtain rfl:k=1:=by omega
        simp;omega
       ·rename_i g2
        rw[if_neg g2]
        obtain rfl:k=2:=by omega
        simp;omega
     rw[hv]
     exact zdx _ _ hmem
    ·have ew:Qo (c::s)=false:=by unfold Qo;rw[er,List.getD_cons_zero,en,hk];simp;omega
     rw[ew,if_neg (by decide),if_neg q]
theorem zj6(s:List Nat):zfP s=QG dz s:=ku s.length s (Nat.le_refl _)
def u8(n:Nat):UInt8:=UInt8.ofNat n
def QH(n:Nat):List UInt8:=
 if n<128 then [u8 n]else if n<2048 then [u8 (192+n/64),u8 (128+n%64)]
 else if n<65536 then [u8 (224+n/4096),u8 (128+n/64%64),u8 (128+n%64)]
 else [u8 (240+n/262144),u8 (128+n/4096%64),u8 (128+n/64%64),u8 (128+n%64)]
def Zl(r:Int):Bool:=(decide (0≤r)&&decide (r<55296)) || (decide (57343<r)&&decide (r≤1114111))
def zcG(r:Int):Nat:=if Zl r=true then r.toNat else 65533
def jc(r:Int):List UInt8:=QH (zcG r)
def yg(l:List Int):List UInt8:=l.flatMap jc
theorem zcR(n:Nat):1≤(QH n).length∧(QH n).length≤4:=by
 unfold QH
 split
 ·simp
 ·split
  ·simp
  ·split<;>simp
theorem J4(l:List Int):(yg l).length≤4*l.length:=by
 induction l with
 |nil=>simp[yg]
 |cons x l ih=>
  have h:=(zcR (zcG x)).2
  have e:yg (x::l)=jc x++yg l:=rfl
  rw[e,List.length_append,List.length_cons]
  unfold jc
  omega
structure Cl where
 t:List UInt8
 w:Int
 deriving DecidableEq,Inhabited
def blk:Cl:=⟨[32],1⟩
def clP(c:Cl):PV:=.agg [.str c.t,.int .i64 c.w]
abbrev zt:=List Cl
def yB(x:Cl):Prop:=x.w=1∨x.w=2
def yK(C:Int)(s:Int×Int)(g:Cl):Int×Int:=if C<s.2+g.w then(s.1+1,0)else s
def Uc(C:Int)(s:Int×Int)(g:Cl):Int×Int:=((yK C s g).1,(yK C s g).2+g.w)
def stG(C:Int)(l:List Cl):Nat→Int×Int
 |0=>(0,0)
 |i+1=>Uc C (stG C l i) (l.getD i blk)
def zbW(C:Int)(s:Int×Int):Int×Int:=if C≤s.2 then(s.1+1,0)else s
def qu(C:Int)(l:List Cl)(i:Nat):Int×Int:=if i<l.length then yK C (stG C l i) (l.getD i blk)else zbW C (stG C l l.length)
def Qx(C:Int)(l:List Cl):List (Int×Int):=(List.range (l.length+1)).map (qu C l)
theorem YC {C:Int}(hC:2≤C) {l:List Cl}(h:∀x∈l,yB x):∀i:Nat,i≤l.length→(0≤(stG C l i).1∧(stG C l i).1≤i)∧0≤(stG C l i).2∧(stG C l i).2≤C
 |0,_=>by simp[stG];omega
 |i+1,hi=>by
  have ih:=YC hC h i (by omega)
  have e:l.getD i blk=l[i]:=by rw[List.getD_eq_getElem?_getD,List.getElem?_eq_getElem (by omega)];rfl
  have hw:=h l[i] (List.getElem_mem (by omega))
  unfold stG Uc yK
  rw[e]
  unfold yB at hw
  split<;>(try simp)<;>omega
theorem wD {C:Int}(hC:2≤C) {l:List Cl}(h:∀x∈l,yB x)(i:Nat):(0≤(qu C l i).1∧(qu C l i).1≤l.length+1)∧0≤(qu C l i).2∧(qu C l i).2<C:=by
 unfold qu
 split
 ·rename_i hi
  have ih:=YC hC h i (by omega)
  have e:l.getD i blk=l[i]:=by rw[List.getD_eq_getElem?_getD,List.getElem?_eq_getElem (by omega)];rfl
  have hw:=h l[i] (List.getElem_mem (by omega))
  unfold yK
  rw[e]
  unfold yB at hw
  split<;>(try simp)<;>omega
 ·have ih:=YC hC h l.length (Nat.le_refl _)
  unfold zbW
  split<;>(try simp)<;>omega
def xx(all rows row:Int):Int:=max (min (row-rows.tdiv 2) (all-rows)) 0
theorem zqB [Gi] {x:Nat}(h:x<2^50):IntKind.i64.wrap (x:Int)=(x:Int):=wrap64 (by omega) (by omega)
theorem zox [Gi] {x:Nat}(h:x<2^50):IntKind.u64.wrap (x:Int)=(x:Int):=by simp[IntKind.wrap,IntKind.signed,IntKind.bits];omega
theorem zhA [Gi] {x y z:Nat}(h:z<2^50)(e:z=x+y):IntKind.i64.wrap ((x:Int)+y)=(z:Int):=by rw[wrap64 (by omega) (by omega)];omega
theorem zG [Gi] {x:Nat}(h:x<2^50):IntKind.i64.wrap ((x:Int)+1)=((x+1:Nat):Int):=by rw[wrap64 (by omega) (by omega)];rfl
theorem zh8 {x y:Nat}(e:y=x/2):(x:Int).fdiv 2=(y:Int):=by rw[Int.fdiv_eq_ediv_of_nonneg _ (by omega)];omega
def zP(l:List Int):List PV:=l.map fun r=>.int .i32 r
def kL(k r:Int)(x:Row):Bool:=decide (x.k=k)&&decide (x.f≤r)&&decide (r≤x.t)
def rowAt(l:List Row)(k r:Int):Option Row:=if r<0∨1114111<r then none else l.find? (kL k r)
def zqt(l:List Row)(k r j:Int):Prop:=(j= -1∧rowAt l k r=none)∨∃(i:Nat) (h:i<l.length),j=(i:Int)∧rowAt l k r=some l[i]
theorem zjY [Gi](l:List Row)(k r:Int)(hn:l.length<2^31):CR Tryz.prog 236 [] [.p (z6 l),.p (.int .i64 k),.p (.int .i64 r)] [] (fun x rs=>rs=[]∧∃j,x=.p (.int .i64 j)∧zqt l k r j):=by
 refine zx mixed 8 [] Tryz.func236 rfl (by kernel_rfl) rfl (by simp) (by simp) ?_
 by_cases h0:r<0
 ·simp[go_sem,Tryz.f236,h0]
  exact zg (.p (.int .i64 (-1))) rfl (by simp[go_sem,zf,leA,leT]) ⟨rfl, -1,rfl,.inl ⟨rfl,if_pos (.inl h0)⟩⟩
 by_cases h1:1114111<r
 ·simp[go_sem,Tryz.f236,h0,h1]
  exact zg (.p (.int .i64 (-1))) rfl (by simp[go_sem,zf,leA,leT]) ⟨rfl, -1,rfl,.inl ⟨rfl,if_pos (.inr h1)⟩⟩
 have hR:rowAt l k r=l.find? (kL k r):=if_neg (by omega)
 simp (maxSteps:=1000000) [go_sem,Tryz.f236,h0,h1,z6]
 refine zH (fun i:Nat=>i≤l.length∧l.find? (kL k r)=(l.drop i).find? (kL k r)) (fun i=>[(7,.p (.int .i64 (i:Nat)))]) (fun _=>[]) (fun i=>l.length-i) 0 ⟨by omega,rfl⟩ (by simp[go_sem,LeS,leV,leR,leA]) (fun i hi=>?_)
 obtain⟨hi,hf⟩:=hi
 simp (maxSteps:=1000000) [go_sem]
 refine zh (fun h=>?_) (fun h=>?_)
 ·have hil:i<l.length:=by omega
  have em:=zp rowP l i hil
  have w1:IntKind.i64.wrap ((i:Int)+1)=((i+1:Nat):Int):=by rw[wrap64 (by omega) (by omega)];rfl
  have hd:l.drop i=l[i]::l.drop (i+1):=List.drop_eq_getElem_cons hil
  rw[hd,List.find?_cons]at hf
  have hsome:kL k r l[i]=true→rowAt l k r=some l[i]:=fun h2=>by rw[hR,hf,h2]
  have hnext:kL k r l[i]=false→l.find? (kL k r)=(l.drop (i+1)).find? (kL k r):=fun h2=>by rw[hf,h2]
  obtain⟨x,hx⟩:∃x,x=l[i]:=⟨_,rfl⟩
  rw[←hx]at em hsome hnext
  by_cases c1:x.k=k
  ·by_cases c2:x.f≤r
   ·by_cases c3:r≤x.t
    ·have hb:kL k r x=true:=by simp[kL,c1,c2,c3]
     simp (maxSteps:=1000000) [go_sem,em,hil,rowP,c1,c2,c3]
     exact zg (.p (.int .i64 i)) rfl (by simp[go_sem,zf,leA,leT]) ⟨rfl,i,rfl,.inr ⟨i,hil,rfl,by rw[hsome hb,hx]⟩⟩
    ·have hb:kL k r x=false:=by simp[kL,c3]
     simp (maxSteps:=1000000) [go_sem,em,hil,rowP,c1,c2,c3,w1]
     exact zi (i+1) ⟨by omega,hnext hb⟩ (by simp[go_sem,LeS,leV,leR,leA]) (by omega)
   ·have hb:kL k r x=false:=by simp[kL,c2]
    simp (maxSteps:=1000000) [go_sem,em,hil,rowP,c1,c2,w1]
    exact zi (i+1) ⟨by omega,hnext hb⟩ (by simp[go_sem,LeS,leV,leR,leA]) (by omega)
  ·have hb:kL k r x=false:=by simp[kL,c1]
   simp (maxSteps:=1000000) [go_sem,em,hil,rowP,c1,w1]
   exact zi (i+1) ⟨by omega,hnext hb⟩ (by simp[go_sem,LeS,leV,leR,leA]) (by omega)
 ·have hil:i=l.length:=by omega
  subst hil
  simp (maxSteps:=1000000) [go_sem]
  exact zg (.p (.int .i64 (-1))) rfl (by simp[go_sem,zf,leA,leT]) ⟨rfl, -1,rfl,.inl ⟨rfl,by rw[hR,hf];simp⟩⟩
def aL(l:List Row)(k r:Int):Int:=match rowAt l k r with
 |some x=>x.a
 |none=>0
theorem zqI [Gi](l:List Row)(k r:Int)(hn:l.length<2^31):CR Tryz.prog 223 [] [.p (z6 l),.p (.int .i64 k),.p (.int .i64 r)] [] (is (.p (.int .i64 (aL l k r)))):=by
 refine zx mixed 8 [] Tryz.func223 rfl (by kernel_rfl) rfl (by simp) (by simp) ?_
 simp[go_sem,Tryz.f223]
 refine⟨⟨rfl,by simp[Tryz.f236]⟩,zd [] (zjY l k r hn) (by simp[go_sem]) ⟨by simp[go_sem],by simp[go_sem]⟩ (by simp[go_sem]) ?_⟩
 rintro _ rs ⟨rfl,j,rfl,hj⟩
 rcases hj with ⟨rfl,hj⟩|⟨i,hi,rfl,hj⟩
 ·have e:aL l k r=0:=by unfold aL;rw[hj]
  rw[e]
  simp (maxSteps:=1000000) [go_sem]
  exact zg (.p (.int .i64 0)) rfl (by simp[go_sem,zf,leA,leT]) ⟨rfl,rfl⟩
 ·have e:aL l k r=l[i].a:=by unfold aL;rw[hj]
  rw[e]
  have em:=zp rowP l i hi
  generalize l[i]=x at em
  have h0:¬((i:Int)<0):=by omega
  simp (maxSteps:=1000000) [go_sem,em,hi,z6,rowP,h0]
  exact zg (.p (.int .i64 x.a)) rfl (by simp[go_sem,zf,leA,leT]) ⟨rfl,rfl⟩
theorem Wr [Gi](l:List Row)(k r:Int)(hn:l.length<2^31)(hr: -2147483648≤r∧r<2147483648):CR Tryz.prog 194 [] [.p (z6 l),.p (.int .i64 k),.p (.int .i32 r)] [] (is (.p (.int .i64 (aL l k r)))):=by
 refine zx mixed 7 [] Tryz.func194 rfl (by kernel_rfl) rfl (by simp) (by simp) ?_
 have w1:IntKind.i64.wrap r=r:=wrap64 (by omega) (by omega)
 simp[go_sem,Tryz.f194,w1]
 refine⟨⟨rfl,by simp[Tryz.f223]⟩,zd [] (zqI l k r hn) (by simp[go_sem]) ⟨by simp[go_sem],by simp[go_sem]⟩ (by simp[go_sem]) ?_⟩
 rintro _ rs ⟨rfl,rfl⟩
 simp[go_sem]
 exact zg (.p (.int .i64 (aL l k r))) rfl (by simp[go_sem,zf,leA,leT]) ⟨rfl,rfl⟩
def za:List Row:=JY++zfA++ziZ++zbt++zeD++zfk++zeB++J0
theorem zm2 [Gi](a b c d e f g h:List Row)(c0:CR Tryz.prog 49 [] [] [] (is (.p (z6 a))))(c1:CR Tryz.prog 50 [] [] [] (is (.p (z6 b))))(c2:CR Tryz.prog 51 [] [] [] (is (.p (z6 c))))(c3:CR Tryz.prog 52 [] [] [] (is (.p (z6 d))))(c4:CR Tryz.prog 53 [] [] [] (is (.p (z6 e))))(c5:CR Tryz.prog 54 [] [] [] (is (.p (z6 f))))(c6:CR Tryz.prog 55 [] [] [] (is (.p (z6 g))))(c7:CR Tryz.prog 56 [] [] [] (is (.p (z6 h))))(l0:a.length≤200)(l1:b.length≤200)(l2:c.length≤200)(l3:d.length≤200)(l4:e.length≤200)(l5:f.length≤200)(l6:g.length≤200)(l7:h.length≤200):
  CR Tryz.prog 12 [] [] [] (is (.p (z6 (a++b++c++d++e++f++g++h)))):=by
 refine zx mixed 2 [] Tryz.func12 rfl (by kernel_rfl) rfl (by simp) (by simp) ?_
 simp (disch:=omega) [go_sem,Tryz.f12]
 refine⟨⟨rfl,by simp[Tryz.f49]⟩,zd [] c0 (by simp[go_sem]) ⟨by simp[go_sem],by simp[go_sem]⟩ (by simp[go_sem]) ?_⟩
 rintro y rs ⟨rfl,rfl⟩
 simp (disch:=omega) [go_sem,z6]
 refine⟨by omega,⟨rfl,by simp[Tryz.f50]⟩,zd [] c1 (by simp[go_sem]) ⟨by simp[go_sem],by simp[go_sem]⟩ (by simp[go_sem]) ?_⟩
 rintro y rs ⟨rfl,rfl⟩
 simp (disch:=omega) [go_sem,z6]
 refine⟨by omega,⟨rfl,by simp[Tryz.f51]⟩,zd [] c2 (by simp[go_sem]) ⟨by simp[go_sem],by simp[go_sem]⟩ (by simp[go_sem]) ?_⟩
 rintro y rs ⟨rfl,rfl⟩
 simp (disch:=omega) [go_sem,z6]
 refine⟨by omega,⟨rfl,by simp[Tryz.f52]⟩,zd [] c3 (by simp[go_sem]) ⟨by simp[go_sem],by simp[go_sem]⟩ (by simp[go_sem]) ?_⟩
 rintro y rs ⟨rfl,rfl⟩
 simp (disch:=omega) [go_sem,z6]
 refine⟨by omega,⟨rfl,by simp[Tryz.f53]⟩,zd [] c4 (by simp[go_sem]) ⟨by simp[go_sem],by simp[go_sem]⟩ (by simp[go_sem]) ?_⟩
 rintro y rs ⟨rfl,rfl⟩
 simp (disch:=omega) [go_sem,z6]
 refine⟨by omega,⟨rfl,by simp[Tryz.f54]⟩,zd [] c5 (by simp[go_sem]) ⟨by simp[go_sem],by simp[go_sem]⟩ (by simp[go_sem]) ?_⟩
 rintro y rs ⟨rfl,rfl⟩
 simp (disch:=omega) [go_sem,z6]
 refine⟨by omega,⟨rfl,by simp[Tryz.f55]⟩,zd [] c6 (by simp[go_sem]) ⟨by simp[go_sem],by simp[go_sem]⟩ (by simp[go_sem]) ?_⟩
 rintro y rs ⟨rfl,rfl⟩
 simp (disch:=omega) [go_sem,z6]
 refine⟨by omega,⟨rfl,by simp[Tryz.f56]⟩,zd [] c7 (by simp[go_sem]) ⟨by simp[go_sem],by simp[go_sem]⟩ (by simp[go_sem]) ?_⟩
 rintro y rs ⟨rfl,rfl⟩
 simp (disch:=omega) [go_sem,z6]
 exact⟨by omega,zg (.p (z6 (a++b++c++d++e++f++g++h))) rfl (by simp[go_sem,zf,leA,z6]) ⟨rfl,by simp[z6]⟩⟩
theorem Vm [Gi]:CR Tryz.prog 12 [] [] [] (is (.p (z6 za))):=
 zm2 _ _ _ _ _ _ _ _ zfB zjt zmu zhY zk1 zkF zjm zex (by decide) (by decide) (by decide) (by decide) (by decide) (by decide) (by decide) (by decide)
def zbY(l:List Int):PV:=.sl 1 (l.map fun r=>.int .i32 r)
theorem zkm [Gi](l:List Int)(n:Nat)(_:n<2^31):CR Tryz.prog 83 [] [.p (zbY l),.p (.int .i64 n)] [] (is (.p (zbY (l.take n)))):=by
 refine zx mixed 5 [] Tryz.func83 rfl (by kernel_rfl) rfl (by simp) (by simp) ?_
 simp (disch:=omega) [go_sem,Tryz.f83,zbY]
 refine zh (fun h=>?_) (fun h=>?_)
 ·simp (disch:=omega) [go_sem]
  exact⟨by omega,zg (.p (.sl 1 ((l.take n).map fun r=>PV.int .i32 r))) rfl (by simp[go_sem,zf,leA,cut,List.map_take]) ⟨rfl,by simp⟩⟩
 ·simp (disch:=omega) [go_sem]
  exact zg (.p (.sl 1 (l.map fun r=>PV.int .i32 r))) rfl (by simp[go_sem,zf,leA]) ⟨rfl,by rw[List.take_of_length_le (by simp;omega)]⟩
structure Span where
 f:Int
 t:Int
 a:Int
 b:Int
 deriving DecidableEq
def zZ(s:Span):PV:=.agg [.int .i64 s.f,.int .i64 s.t,.int .i64 s.a,.int .i64 s.b]
def zF(l:List Span):PV:=.sl 4 (l.map zZ)
theorem zmz [Gi](s:Span)(l:List Span)(h0:s.f≤s.t)(hl:∀x∈l,x.t<s.f)(hn:l.length<2^31):CR Tryz.prog 109 [] [.p (zZ s),.p (zF l)] [] (is (.p (zF [s]))):=by
 refine zx mixed 11 [] Tryz.func109 rfl (by kernel_rfl) rfl (by simp) (by simp) ?_
 simp (disch:=omega) [go_sem,Tryz.f109,zZ,zF]
 refine qM (fun i:Nat=>i≤l.length) (fun i=>{n:=59,nv:=11,vs:=[(2,.lp [2] 0),(5,.os [5] 4 []),(8,.p (zF l)),(9,.p (.int .i64 l.length)),(10,.p (.int .i64 i))],ts:=[],rs:=[([2],[.p (.int .i64 s.f),.p (.int .i64 s.t),.p (.int .i64 s.a),.p (.int .i64 s.b)])]}) (fun i=>l.length-i) 0 (by simp) (by simp[go_sem,LeS,leV,leR,leA,leL,zF]) ?_
 intro i hi
 simp (disch:=omega) [go_sem,zF]
 refine zh (fun h=>?_) (fun h=>?_)
 ·have em:=zp zZ l i h
  have hx:=hl l[i] (List.getElem_mem h)
  have w1:IntKind.i64.wrap ((i:Int)+1)=(i:Int)+1:=wrap64 (by omega) (by omega)
  generalize l[i]=x at em hx
  simp[go_sem,em,h,zZ,hx,w1]
  exact zi (i+1) (by omega) (by simp[go_sem,LeS,leV,leR,leA,leL]) (by omega)
 ·simp[go_sem,h0]
  exact zg (.p (zF [s])) rfl (by simp[go_sem,zf,leA,zF,zZ]) ⟨rfl,rfl⟩
end
end Go.Proofs.YtfjdbbpimklecaaGreatDoor
