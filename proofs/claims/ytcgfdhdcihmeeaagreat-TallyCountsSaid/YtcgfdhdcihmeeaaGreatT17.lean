/- A part of the proof of this seat's statements, by an abstract machine: what each operation does to values, and what the law's functions compute. Conditions: as each law says. -/
import Derived.Test.YtcgfdhdcihmeeaaGreatT16
import Derived.Test.YtcgfdhdcihmeeaaGreatChecked
import Derived.Eval
section
namespace Go.AM
def frz(g:Gh)(w:World)(rt:Tok→Bool):Gh:=
 ⟨fun b=>match g.K b with
  |.root t=>if rt t then g.fr b else frW w b
  |_=>g.fr b,(g.fil rt ftt).K⟩
theorem kb {g:Gh} {w:World} {rt:Tok→Bool} {b:Nat}(h:∀t,g.K b=.root t→rt t=true):(frz g w rt).fr b=g.fr b:=by
 simp only[frz]
 split
 ·rename_i t e;rw[if_pos (h t e)]
 ·rfl
theorem yI {g:Gh} {w:World} {rt:Tok→Bool} {b:Nat} {t:Tok}(h:g.K b=.root t)(ht:rt t=false):(frz g w rt).fr b=frW w b:=by
 simp only[frz,h,ht,Bool.false_eq_true,if_false]
theorem WS [Gi] {g:Gh} {w:World} {rs:List (Tok×List AV)}(hG:GS g w rs)(rt:Tok→Bool):Ext g.fr w (frz g w rt).fr w:=fun b o ho=>by
 refine⟨?_,rfl,rfl⟩
 by_cases h:∃t,g.K b=.root t
 ·obtain⟨t,ht⟩:=h
  obtain⟨_,_,h0,_⟩:=hG.roots b t ht
  omega
 ·rw[kb (fun t e=>absurd ⟨t,e⟩ h)]
  exact ho
theorem zhq [Gi] {g:Gh} {w:World} {rs:List (Tok×List AV)}(hG:GS g w rs)(rt:Tok→Bool):wx g w (frz g w rt) w rt ftt:=
 ⟨WS hG rt,fun b t ht hk=>⟨Gh.zW.2 ⟨hk,ht⟩,fun _ h=>h⟩,fun b t ht hk=>⟨Gh.qD.2 ⟨hk,ht⟩,kb (fun u e=>by rw[hk]at e;cases e),rfl⟩⟩
def Xc(rt:Tok→Bool)(rs:List (Tok×List AV)):List (Tok×List AV):=(rs.filter fun x=>rt x.1).map fun x=>(x.1,x.2.map (AV.upd (fil rt ftt)))
theorem UB {rt:Tok→Bool} {t:Tok}(ht:rt t=true):∀{rs:List (Tok×List AV)} {cs:List AV},zl rs t=some cs→zl (Xc rt rs) t=some (cs.map (AV.upd (fil rt ftt)))
 | [],_,h=>by simp[zl]at h
 |(k,y)::l,cs,h=>by
  simp only[zl]at h
  split at h
  ·rename_i e
   injection h with h
   subst e;subst h
   simp[Xc,ht,zl]
  ·rename_i e
   have ih:=UB ht h
   unfold Xc at ih⊢
   rw[List.filter_cons]
   split
   ·simp only[List.map_cons,zl,if_neg e];exact ih
   ·exact ih
theorem zlQ [Gi] {g:Gh} {w:World} {rs:List (Tok×List AV)}(hG:GS g w rs)(rt:Tok→Bool):GS (frz g w rt) w (Xc rt rs):=by
 have k:=zhq hG rt
 refine⟨fun b t hk=>?_,fun b b' t hk hk'=>hG.ur b b' t (Gh.zW.1 hk).1 (Gh.zW.1 hk').1,fun b b' t hk hk'=>hG.ut b b' t (Gh.qD.1 hk).1 (Gh.qD.1 hk').1,fun b hb=>hG.own b ?_,fun b hb=>?_,fun b arr e=>?_⟩
 ·obtain⟨hk1,ht⟩:=Gh.zW.1 hk
  obtain⟨cs,hl,h0,arr,T,hb,hle,hc⟩:=hG.roots b t hk1
  refine⟨cs.map (AV.upd (fil rt ftt)),UB ht hl,?_,arr,T,hb,by simpa using hle,fun j x hj=>?_⟩
  ·rw[kb (fun u e=>by rw[hk1]at e;injection e with e;subst e;exact ht)];exact h0
  ·simp only[List.getElem?_map,Option.map_eq_some_iff]at hj
   obtain⟨y,hy,rfl⟩:=hj
   obtain⟨v,hv,h1,r⟩:=hc j y hy
   exact⟨v,hv,h1,zb.upd k _ _ r⟩
 ·intro e;apply hb;show(g.K b).fil rt ftt=.prot;rw[e];rfl
 ·have:g.K b=.prot:=by
   rcases h:g.K b with _|t|t
   ·rfl
   all_goals exact absurd (hG.own b (by rw[h];simp)) (by omega)
  rw[kb (fun t e=>by rw[this]at e;cases e)]
  exact hG.frb b hb
 ·obtain⟨h1,h2⟩:=hG.gl b arr e
  exact⟨by show(g.K b).fil rt ftt=.prot;rw[h1];rfl,h2⟩
def zcv [Gi](rt:Tok→Bool)(rs:List (Tok×List AV))(x x':AV):Prop:=∀g w v,GS g w rs→zb g w x v→zb (frz g w rt) w x' v
theorem CR.freeze [Gi] {P:Program} {f:FuncId} {pin:List Tok} {args:List AV} {rs:List (Tok×List AV)} {R R':AV→List (Tok×List AV)→Prop}(h:CR P f pin args rs R)(rt:Tok→Bool)(hp:pin.all rt=true)
  (hr:∀x rs',R x rs'→∃x',zcv rt rs' x x'∧R' x' (Xc rt rs')):CR P f pin args rs R':=by
 intro w g vs h1 h2
 refine(h w g vs h1 h2).mono ?_
 rintro e w' ⟨v,x,rs',g',rfl,hR,hx,hG,hA⟩
 obtain⟨x',hf,hR'⟩:=hr x rs' hR
 refine⟨v,x',_,frz g' w' rt,rfl,hR',hf g' w' v hG hx,zlQ hG rt,⟨fun b hb hk=>?_,hA.ext.trans (WS hG rt),hA.out,hA.mono,fun b t hk ht=>?_⟩⟩
 ·obtain⟨a1,a2,a3⟩:=hA.frame b hb hk
  exact⟨a1,by rw[kb (fun t e=>by rw[a3]at e;cases e)];exact a2,by show(g'.K b).fil rt ftt=.prot;rw[a3];rfl⟩
 ·obtain⟨a1,a2⟩:=hA.pins b t hk ht
  exact⟨Gh.zW.2 ⟨a1,List.all_eq_true.1 hp t ht⟩,a2⟩
theorem zaC {fr:Nat→Nat} {w:World}:∀{ps:List PV} {vs:List Value},vs.length=ps.length→(∀(j:Nat) (p:PV),ps[j]?=some p→∃v,vs[j]?=some v∧v.oneCell'=true∧zj fr w p v)→zr fr w ps vs
 | [],vs,hl,_=>by simp only[zr];exact List.eq_nil_of_length_eq_zero hl
 |p::ps,[],hl,_=>by simp at hl
 |p::ps,u::vs,hl,h=>by
  simp only[zr]
  obtain⟨v,hv,h1,h2⟩:=h 0 p rfl
  simp at hv;subst hv
  exact⟨u,vs,rfl,h1,h2,zaC (by simpa using hl) fun j q hq=>by simpa using h (j+1) q (by simpa using hq)⟩
theorem VB [Gi] {g:Gh} {w:World} {rs:List (Tok×List AV)}(hG:GS g w rs) {rt:Tok→Bool} {t:Tok} {z n:Nat} {es:List PV}(ext:List AV)(h0:0<n)(hl:zl rs t=some ((es.flatMap PV.cells).map .p++ext))(ht:rt t=false)(hn:es.length=n)
  (hz:∀e∈es,e.cells.length=z∧e.fits=true) {v:Value} (hv:zb g w (.la t z 0 n) v):zj (frz g w rt).fr w (.sl z es) v:=by
 simp only[zb]at hv
 obtain⟨b,o',cap,hk,rfl,hcap,ho,hblk⟩:=hv
 obtain rfl:o'=0:=ho.resolve_left (by omega)
 obtain⟨cs,hl',hfr,arr,T,hb,hle,hc⟩:=hG.roots b t hk
 rw[hl]at hl';injection hl' with hl';subst hl'
 have hx:=WS hG rt
 have hlen:(es.flatMap PV.cells).length=es.length*z:=by
  clear hl hn hle hc
  induction es with
  |nil=>simp
  |cons e es ih=>
   rw[List.flatMap_cons,List.length_append,ih (fun x hx=>hz x (by simp[hx])),(hz e (by simp)).1,List.length_cons,Nat.add_mul]
   omega
 rw[List.length_append,List.length_map,hlen]at hle
 have hfb:(frz g w rt).fr b=arr.size:=by rw[yI hk ht];simp[frW,hb]
 simp only[zj]
 refine .inr ⟨b,0,cap,by rw[hn],by omega,by rw[hfb];omega,?_⟩
 refine xP (vs:=arr.toList.take (es.length*z)) (zaC (by rw[hlen];simp;omega) fun j p hj=>?_) hz (fun j u hj=>?_)
 ·obtain⟨u,h1,h2,h3⟩:=hc j (.p p) (by rw[List.getElem?_append_left (by rw[List.length_map];exact(List.getElem?_eq_some_iff.1 hj).1),List.getElem?_map,hj];rfl)
  have hjl:j<es.length*z:=by rw[←hlen];exact(List.getElem?_eq_some_iff.1 hj).1
  simp only[zb]at h3
  exact⟨u,by rw[List.getElem?_take,if_pos hjl];simpa using h1,h2,h3.ext hx⟩
 ·rw[List.getElem?_take]at hj
  split at hj
  ·rw[zV hb,Nat.zero_add];simpa using hj
  ·cases hj
theorem za9 [Gi] {g:Gh} {w:World} {rs:List (Tok×List AV)}(hG:GS g w rs) {rt:Tok→Bool} {t:Tok} {z n:Nat} {es:List PV}(h0:0<n)(hl:zl rs t=some ((es.flatMap PV.cells).map .p))(ht:rt t=false)(hn:es.length=n)
  (hz:∀e∈es,e.cells.length=z∧e.fits=true) {v:Value} (hv:zb g w (.la t z 0 n) v):zj (frz g w rt).fr w (.sl z es) v:=
 VB hG [] h0 (by simpa using hl) ht hn hz hv
theorem ziO [Gi] {g:Gh} {w:World} {rs:List (Tok×List AV)}(hG:GS g w rs) {rt:Tok→Bool} {t0:Tok} {z n:Nat} {ts:List Tok} {X:List (List PV)}(h0:0<n)(hR:0<ts.length)(hl:zl rs t0=some (ts.map fun t=>.la t z 0 n))(ht0:rt t0=false)(hX:X.length=ts.length)
  (hrow:∀(i:Nat) (t:Tok),ts[i]?=some t→rt t=false∧∃es,X[i]?=some es∧es.length=n∧(∀e∈es,e.cells.length=z∧e.fits=true)∧zl rs t=some ((es.flatMap PV.cells).map .p))
  {v:Value} (hv:zb g w (.la t0 1 0 ts.length) v):zj (frz g w rt).fr w (.sl 1 (X.map (.sl z))) v:=by
 simp only[zb]at hv
 obtain⟨b,o',cap,hk,rfl,hcap,ho,hblk⟩:=hv
 obtain rfl:o'=0:=ho.resolve_left (by omega)
 obtain⟨cs,hl',hfr,arr,T,hb,hle,hc⟩:=hG.roots b t0 hk
 rw[hl]at hl';injection hl' with hl';subst hl'
 rw[List.length_map]at hle
 have hfb:(frz g w rt).fr b=arr.size:=by rw[yI hk ht0];simp[frW,hb]
 simp only[zj]
 refine .inr ⟨b,0,cap,by simp[hX],by simp[hX];omega,by rw[hfb];simp[hX];omega,?_⟩
 refine qk.mk fun i el hi=>?_
 rw[List.getElem?_map,Option.map_eq_some_iff]at hi
 obtain⟨es,he,rfl⟩:=hi
 have hit:i<ts.length:=by rw[←hX];exact(List.getElem?_eq_some_iff.1 he).1
 obtain⟨hrt,es',he',hn,hz,hlt⟩:=hrow i ts[i] (List.getElem?_eq_getElem hit)
 rw[he]at he';injection he' with he';subst he'
 obtain⟨u,hu,h1,h2⟩:=hc i (.la ts[i] z 0 n) (by rw[List.getElem?_map,List.getElem?_eq_getElem hit];rfl)
 have hcell:u.cells= #[u]:=by cases u<;>simp_all [Value.oneCell',Value.cells]
 refine⟨u,za9 hG h0 hlt hrt hn hz h2,by rw[hcell];rfl,fun j c hj=>?_⟩
 rw[hcell]at hj
 have hj0:j=0∧c=u:=by
  match j,hj with
  |0,hj=>simp at hj;exact⟨rfl,hj.symm⟩
  |j+1,hj=>simp at hj
 obtain⟨rfl,rfl⟩:=hj0
 refine⟨h1,?_⟩
 rw[zV hb]
 simpa using hu
end Go.AM
end
section
namespace Go.AM
@[go_sem] theorem zno (l : List PV) : UO (l.map .p) = some l := by
 induction l with
 |nil=>rfl
 |cons x l ih=>simp[UO,ih]
@[go_sem] theorem zgb (rt tt : Tok → Bool) : (AV.upd (fil rt tt) ∘ AV.p) = AV.p := rfl
@[go_sem] theorem zob (t : Tok) (ks xs : List PV) : (AV.upd (AM.fz t ks xs) ∘ AV.p) = AV.p := rfl
@[go_sem] theorem zoQ (f : Tok → Option Tok) : (AV.ren f ∘ AV.p) = AV.p := rfl
theorem Z8 {l:List PV} {n:Nat}(h:l.length=n):(l.map AV.p).take n=l.map .p:=List.take_of_length_le (by simp[h])
theorem zaZ:∀(a:List PV),eqC a a=true
 | []=>by simp[eqC]
 |x::xs=>by cases x<;>simp[eqC,zaZ xs]
theorem jw {kc:List Kc} {key:List PV}(hk:okC kc key=true):∀{ks xs:List PV} {i:Nat},ks.all (fun k=>okC kc k.cells)=true→ks.length=xs.length→(qQ key ks xs i=none↔∀k∈ks,k.cells≠key)
 | [],[],i,_,_=>by simp[qQ]
 | [],x::xs,i,_,h=>by simp at h
 |k::ks,[],i,_,h=>by simp at h
 |k::ks,x::xs,i,h1,h2=>by
  simp only[List.all_cons,Bool.and_eq_true]at h1
  unfold qQ
  by_cases hc:eqC key k.cells=true
  ·rw[if_pos hc]
   have:=Vs hk h1.1 hc
   simp[this]
  ·rw[if_neg hc,jw hk h1.2 (by simpa using h2)]
   have hne:k.cells≠key:=fun e=>hc (by rw[e];exact zaZ _)
   simp[hne]
theorem Zz {kc:List Kc} {key:List PV}(hk:okC kc key=true):∀{ks xs:List PV} {i j:Nat} {x:PV},ks.all (fun k=>okC kc k.cells)=true→qQ key ks xs i=some (j,x)→i≤j∧∃k,ks[j-i]?=some k∧k.cells=key∧xs[j-i]?=some x
 | [],xs,i,j,x,_,h=>by simp[qQ]at h
 |k::ks,[],i,j,x,_,h=>by simp[qQ]at h
 |k::ks,y::xs,i,j,x,h1,h=>by
  simp only[List.all_cons,Bool.and_eq_true]at h1
  unfold qQ at h
  by_cases hc:eqC key k.cells=true
  ·rw[if_pos hc]at h
   injection h with h;injection h with e1 e2;subst e1;subst e2
   exact⟨Nat.le_refl _,k,by simp,(Vs hk h1.1 hc).symm,by simp⟩
  ·rw[if_neg hc]at h
   obtain⟨h2,k',h3,h4,h5⟩:=Zz hk h1.2 h
   have e:j-i=(j- (i+1))+1:=by omega
   exact⟨by omega,k',by rw[e];simpa using h3,h4,by rw[e];simpa using h5⟩
def St.za0(S:St)(vs:List (Nat×AV))(rs:List (Tok×List AV)):St:={S with vs:=vs.foldl (fun l x=>zal l x.1 x.2) S.vs,ts:=[],rs:=rs.foldl (fun l x=>QB l x.1 x.2) S.rs}
attribute [go_sem] St.za0
theorem zE [Gi] {P:Program} {D:List Nat} {c:Code} {Q:Exit→St→Prop} {S:St} {ι:Type}(inv:ι→Prop)(V:ι→List (Nat×AV))(R:ι→List (Tok×List AV))(m:ι→Nat)(i:ι)(hi:inv i)(h0:LeS S (S.za0 (V i) (R i)))
  (h:∀i,inv i→wpA P D c (Uu inv (fun i=>S.za0 (V i) (R i)) m i Q) (S.za0 (V i) (R i))):wpA P D (.loop c) Q S:=
 Z7 inv (fun i=>S.za0 (V i) (R i)) m i hi h0 h
def St.Ja(S:St)(vs:List (Nat×AV))(rs:List (Tok×List AV))(ts:List (Nat×AV)):St:={S with vs:=vs.foldl (fun l x=>zal l x.1 x.2) S.vs,ts:=ts,rs:=rs.foldl (fun l x=>QB l x.1 x.2) S.rs}
attribute [go_sem] St.Ja
def Yj {ι:Type}(S:St)(inv:ι→Prop)(V:ι→List (Nat×AV))(R:ι→List (Tok×List AV))(Q:Exit→St→Prop):Exit→St→Prop:=fun e S'=>match e with|.normal=>∃i ts,inv i∧S'=S.Ja (V i) (R i) ts|e=>Q e S'
@[go_sem] theorem zlt {ι : Type} {S : St} {inv : ι → Prop} {V : ι → List (Nat × AV)} {R : ι → List (Tok × List AV)} {Q : Exit → St → Prop} {S' : St} {k : Nat} : Yj S inv V R Q (.exit k) S' = Q (.exit k) S' := rfl
@[go_sem] theorem zm9 {ι : Type} {S : St} {inv : ι → Prop} {V : ι → List (Nat × AV)} {R : ι → List (Tok × List AV)} {Q : Exit → St → Prop} {S' : St} : Yj S inv V R Q .ret S' = Q .ret S' := rfl
theorem zP {ι:Type} {S:St} {inv:ι→Prop} {V:ι→List (Nat×AV)} {R:ι→List (Tok×List AV)} {Q:Exit→St→Prop} {S':St}(i:ι)(hi:inv i)(h:S'=S.Ja (V i) (R i) S'.ts):Yj S inv V R Q .normal S':=⟨i,_,hi,h⟩
theorem Zw [Gi] {P:Program} {D:List Nat} {x y rest:Code} {Q:Exit→St→Prop} {S:St} {v:AV} {ι:Type}(inv:ι→Prop)(V:ι→List (Nat×AV))(R:ι→List (Tok×List AV))(h:yB P D x y (Yj S inv V R Q) S v)
  (hr:∀i ts,inv i→wpA P D rest Q (S.Ja (V i) (R i) ts)):yB P D x y (zab P D rest Q) S v:=by
 have hq:∀e S',Yj S inv V R Q e S'→zab P D rest Q e S':=fun e S' h=>by
  cases e with
  |normal=>obtain⟨i,ts,hi,rfl⟩:=h;exact hr i ts hi
  |_=>exact h
 unfold yB at h⊢
 split at h
 ·exact⟨fun e=>Z6 x hq (h.1 e),fun e=>Z6 y hq (h.2 e)⟩
 ·exact h.elim
end Go.AM
end
section
namespace Go.Proofs.YtcgfdhdcihmeeaaGreat
open Go.AM
def ym:Int:=65533
structure Dk where
 need:Nat
 hv:Nat
 lo:Nat
 hi:Nat
 v:Nat
def dz:Dk:=⟨0,0,0,0,0⟩
def je(b:Nat):Nat:=if b<224 then 1 else if b<240 then 2 else 3
def loD(b:Nat):Nat:=if b=224 then 160 else if b=240 then 144 else 128
def hiD(b:Nat):Nat:=if b=237 then 159 else if b=244 then 143 else 191
def vZ(b:Nat):Nat:=if b<224 then b%32 else if b<240 then b%16 else b%8
def qz(b:Nat):Dk×List Int:=
 if b<128 then(dz,[(b:Int)])else if b<194∨244<b then(dz,[ym])
 else(⟨je b,1,loD b,hiD b,vZ b⟩,[])
def ZJ(d:Dk)(b:Nat):Dk×List Int:=
 if d.need=0 then qz b
 else if b<d.lo∨d.hi<b then((qz b).1,ym::(qz b).2)
 else if d.need=1 then(dz,[((d.v*64+b%64:Nat):Int)])
 else(⟨d.need-1,d.hv+1,128,191,d.v*64+b%64⟩,[])
def Qg(d:Dk):List Nat→List Int
 | []=>if d.need=0 then []else [ym]
 |b::s=>(ZJ d b).2++Qg (ZJ d b).1 s
theorem Vz(d:Dk)(b:Nat)(s:List Nat):Qg d (b::s)=(ZJ d b).2++Qg (ZJ d b).1 s:=rfl
def QF:Nat→Nat→Nat→List Nat→Nat
 |0,_,_,_=>0
 |_+1,_,_,[]=>0
 |k+1,lo,hi,b::s=>if lo≤b∧b≤hi then QF k 128 191 s+1 else 0
theorem YW:∀(k lo hi:Nat) (s:List Nat),QF k lo hi s≤s.length
 |0,_,_,_=>by simp[QF]
 |k+1,_,_,[]=>by simp[QF]
 |k+1,lo,hi,b::s=>by
  have:=YW k 128 191 s
  unfold QF;split<;>simp<;>omega
def zhl(v:Nat):List Nat→Nat
 | []=>v
 |b::s=>zhl (v*64+b%64) s
theorem zfg(b:Nat):ZJ dz b=qz b:=by unfold ZJ;exact if_pos rfl
theorem za5:∀(k hv lo hi v:Nat) (s:List Nat),Qg ⟨k+1,hv,lo,hi,v⟩ s=
  if QF (k+1) lo hi s=k+1 then((zhl v (s.take (k+1)):Nat):Int)::Qg dz (s.drop (k+1))else ym::Qg dz (s.drop (QF (k+1) lo hi s))
 |k,hv,lo,hi,v,[]=>by simp[Qg,QF,dz]
 |k,hv,lo,hi,v,b::s=>by
  rw[Vz]
  unfold ZJ QF
  rw[if_neg (by simp)]
  by_cases h:lo≤b∧b≤hi
  ·rw[if_neg (by simp only;omega),if_pos h]
   cases k with
   |zero=>
    simp[QF,zhl]
   |succ k=>
    rw[if_neg (by simp)]
    have ih:=za5 k (hv+1) 128 191 (v*64+b%64) s
    simp only[Nat.add_sub_cancel,List.nil_append]
    rw[ih]
    by_cases c:QF (k+1) 128 191 s=k+1
    ·rw[if_pos c,if_pos (by omega)];rfl
    ·rw[if_neg c,if_neg (by omega)];rfl
  ·rw[if_pos (by simp only;omega),if_neg h,if_neg (by omega)]
   have e:Qg dz ((b::s).drop 0)=(qz b).2++Qg (qz b).1 s:=by
    show(ZJ dz b).2++Qg (ZJ dz b).1 s=_
    rw[zfg]
   rw[e];rfl
def ZO(c:Nat):Nat:=if c<128 then 1 else if c<224 then 2 else if c<240 then 3 else 4
def Yb (c b i : Nat) : Bool :=
  if i = 0 then decide (c < 128) || (decide (194 ≤ c) && decide (c ≤ 244))
  else if i = 1 then
    (if c = 224 then decide (160 ≤ b) && decide (b ≤ 191) else if c = 237 then decide (128 ≤ b) && decide (b ≤ 159)
     else if c = 240 then decide (144 ≤ b) && decide (b ≤ 191) else if c = 244 then decide (128 ≤ b) && decide (b ≤ 143) else decide (128 ≤ b) && decide (b ≤ 191))
  else decide (128 ≤ b) && decide (b ≤ 191)
def ky(s:List Nat):Nat→Nat→Nat
 |n,0=>n
 |n,f+1=>if n<s.length∧n<ZO (s.getD 0 0)∧Yb (s.getD 0 0) (s.getD n 0) n=true then ky s (n+1) f else n
def kB(s:List Nat):Nat:=ky s 0 4
def Z9(s:List Nat):Bool:=decide (0<kB s)&&decide (kB s=ZO (s.getD 0 0))
def Ks:Int→List Nat→Int
 |v,[]=>v
 |v,b::s=>Ks (64*v+b-128) s
def kj:List Nat→Int
 | []=>0
 | [c]=>c
 |c::s=>Ks ((c:Int)- (if s.length=3 then 240 else if s.length=2 then 224 else 192)) s
def vr:Nat→List Nat→List Int
 |0,_=>[]
 |_+1,[]=>[]
 |f+1,c::s=>(if Z9 (c::s)=true then kj ((c::s).take (kB (c::s)))else ym)::vr f ((c::s).drop (max (kB (c::s)) 1))
def zd4(s:List Nat):List Int:=vr s.length s
theorem Xh(c:Nat)(t:List Nat):∀(f n:Nat),1≤n→ZO c≤n+f→ky (c::t) n f=n+QF (ZO c-n) (if n=1 then loD c else 128) (if n=1 then hiD c else 191) (t.drop (n-1))
 |0,n,h1,h2=>by
  have:ZO c-n=0:=by omega
  rw[this];simp[ky,QF]
 |f+1,n,h1,h2=>by
  obtain⟨m,rfl⟩:∃m,n=m+1:=⟨n-1,by omega⟩
  unfold ky
  simp only[List.length_cons,List.getD_cons_zero,List.getD_cons_succ,Nat.add_sub_cancel]
  by_cases a:m+1<t.length+1∧m+1<ZO c
  ·obtain⟨k,hk⟩:∃k,ZO c- (m+1)=k+1:=⟨ZO c- (m+1)-1,by omega⟩
   have hm:m<t.length:=by omega
   have ed:t.drop m=t[m]::t.drop (m+1):=List.drop_eq_getElem_cons hm
   have eg:t.getD m 0=t[m]:=by rw[List.getD_eq_getElem?_getD,List.getElem?_eq_getElem hm];rfl
   rw[hk,ed,eg]
   have hmay:Yb c t[m] (m+1)=(decide ((if m+1=1 then loD c else 128)≤t[m])&&decide (t[m]≤(if m+1=1 then hiD c else 191))):=by
    unfold Yb
    rw[if_neg (by omega)]
    by_cases q:m+1=1
    ·rw[if_pos q,if_pos q,if_pos q]
     unfold loD hiD
     by_cases c1:c=224
     ·subst c1;rfl
     rw[if_neg c1,if_neg c1]
     by_cases c2:c=237
     ·subst c2;rfl
     rw[if_neg c2,if_neg c2]
     by_cases c3:c=240
     ·subst c3;rfl
     rw[if_neg c3,if_neg c3]
     by_cases c4:c=244
     ·subst c4;rfl
     rw[if_neg c4,if_neg c4]
    ·rw[if_neg q,if_neg q,if_neg q]
   have ih:=Xh c t f (m+1+1) (by omega) (by omega)
   rw[if_neg (by omega),if_neg (by omega),show ZO c- (m+1+1)=k by omega,show m+1+1-1=m+1 by omega]at ih
   unfold QF
   by_cases b:(if m+1=1 then loD c else 128)≤t[m]∧t[m]≤(if m+1=1 then hiD c else 191)
   ·rw[if_pos ⟨a.1,a.2,by rw[hmay];simp only[Bool.and_eq_true,decide_eq_true_eq];exact b⟩,if_pos b,ih];omega
   ·rw[if_neg (fun h=>b (by have:=h.2.2;rw[hmay]at this;simpa only[Bool.and_eq_true,decide_eq_true_eq]using this)),if_neg b]
  ·rw[if_neg (fun h=>a ⟨h.1,h.2.1⟩)]
   have:ZO c- (m+1)=0∨t.drop m=[]:=by
    by_cases q:ZO c≤m+1
    ·left;omega
    ·right;exact List.drop_eq_nil_of_le (by omega)
   rcases this with e|e
   ·rw[e];simp[QF]
   ·rw[e];cases ZO c- (m+1)<;>simp[QF]
theorem zcJ:∀(s:List Nat) (v:Nat),(∀b∈s,128≤b∧b≤191)→Ks v s=(zhl v s:Nat)
 | [],v,_=>rfl
 |b::s,v,h=>by
  have hb:=h b (by simp)
  have e:(64*(v:Int)+b-128)=((v*64+b%64:Nat):Int):=by omega
  unfold Ks zhl
  rw[e,zcJ s _ fun x hx=>h x (by simp[hx])]
theorem YU:∀(k lo hi:Nat) (s:List Nat),128≤lo→hi≤191→∀b∈s.take (QF k lo hi s),128≤b∧b≤191
 |0,_,_,_,_,_,b,hb=>by simp[QF]at hb
 |k+1,_,_,[],_,_,b,hb=>by simp[QF]at hb
 |k+1,lo,hi,c::s,h1,h2,b,hb=>by
  unfold QF at hb
  split at hb
  ·rename_i hc
   rw[List.take_succ_cons]at hb
   rcases List.mem_cons.1 hb with rfl|hb
   ·omega
   ·exact YU k 128 191 s (by omega) (by omega) b hb
  ·simp at hb
theorem kM:∀(f:Nat) (s:List Nat),s.length≤f→vr f s=Qg dz s
 |0,s,h=>by
  obtain rfl:s=[]:=List.eq_nil_of_length_eq_zero (by omega)
  rfl
 |f+1,[],h=>rfl
 |f+1,c::s,h=>by
  simp only[List.length_cons]at h
  have e0:Qg dz (c::s)=(qz c).2++Qg (qz c).1 s:=by
   show(ZJ dz c).2++Qg (ZJ dz c).1 s=_
   rw[zfg]
  have h4:ZO c≤4:=by unfold ZO;split<;>(try split)<;>(try split)<;>omega
  have hm:=Xh c s 3 1 (Nat.le_refl _) (by omega)
  rw[if_pos rfl,if_pos rfl,Nat.sub_self,List.drop_zero]at hm
  have er:kB (c::s)=if c<128∨(194≤c∧c≤244)then ky (c::s) 1 3 else 0:=by
   have h1:0<ZO c:=by unfold ZO;split<;>(try split)<;>(try split)<;>omega
   have e4:ky (c::s) 0 4=if 0< (c::s).length∧0<ZO ((c::s).getD 0 0)∧Yb ((c::s).getD 0 0) ((c::s).getD 0 0) 0=true then ky (c::s) 1 3 else 0:=rfl
   unfold kB
   rw[e4]
   simp only[List.length_cons,List.getD_cons_zero]
   by_cases q:c<128∨(194≤c∧c≤244)
   ·rw[if_pos q,if_pos ⟨by omega,h1,by simpa[Yb]using q⟩]
   ·rw[if_neg q,if_neg (fun k=>q (by simpa[Yb]using k.2.2))]
  unfold vr
  rw[e0]
  by_cases c1:c<128
  ·have el:ZO c=1:=by unfold ZO;rw[if_pos c1]
   rw[if_pos (.inl c1),hm,el]at er
   have er':kB (c::s)=1:=by rw[er];simp[QF]
   have ew:Z9 (c::s)=true:=by unfold Z9;rw[er'];simp[el]
   have ef:qz c=(dz,[(c:Int)]):=by unfold qz;rw[if_pos c1]
   rw[ew,er',if_pos rfl,ef]
   show kj [c]::vr f s=_
   rw[kM f s (by omega)];rfl
  ·by_cases c2:c<194∨244<c
   ·rw[if_neg (by omega)]at er
    have ew:Z9 (c::s)=false:=by unfold Z9;rw[er];rfl
    have ef:qz c=(dz,[ym]):=by unfold qz;rw[if_neg c1,if_pos c2]
    rw[ew,er,if_neg (by decide),ef]
    show ym::vr f s=_
    rw[kM f s (by omega)];rfl
   ·rw[if_pos (by omega),hm]at er
    have ef:qz c=(⟨je c,1,loD c,hiD c,vZ c⟩,[]):=by unfold qz;rw[if_neg c1,if_neg c2]
    have en:ZO c=je c+1:=by
     unfold ZO je
     rw[if_neg c1]
     split
     ·rfl
     ·split<;>rfl
    obtain⟨k,hk⟩:∃k,je c=k+1:=⟨je c-1,by unfold je;split<;>(try split)<;>omega⟩
    rw[en,hk,show k+1+1-1=k+1 by omega]at er
    rw[ef]
    simp only[List.nil_append]
    rw[hk,za5]
    have hle:=YW (k+1) (loD c) (hiD c) s
    have hl1:128≤loD c:=by unfold loD;split<;>(try split)<;>omega
    have hl2:hiD c≤191:=by unfold hiD;split<;>(try split)<;>omega
    have hmem:=YU (k+1) (loD c) (hiD c) s hl1 hl2
    generalize QF (k+1) (loD c) (hiD c) s=m at er hle hmem
    have e1:max (kB (c::s)) 1=m+1:=by omega
    rw[e1,List.drop_succ_cons,kM f (s.drop m) (by rw[List.length_drop];omega)]
    by_cases q:m=k+1
    ·have ew:Z9 (c::s)=true:=by unfold Z9;rw[er,List.getD_cons_zero,en,hk,q];simp;omega
     rw[ew,if_pos rfl,if_pos q,er,q,show 1+(k+1)=(k+1)+1 by omega,List.take_succ_cons]
     congr 1
     rw[←q]
     have hl:(s.take m).length=k+1:=by rw[List.length_take];omega
     have hv:kj (c::s.take m)=Ks (vZ c:Nat) (s.take m):=by
      have hne:s.take m≠ []:=fun e=>by rw[e]at hl;simp at hl
      have:kj (c::s.take m)=Ks ((c:Int)- (if(s.take m).length=3 then 240 else if(s.take m).length=2 then 224 else 192)) (s.take m):=by
       cases hs:s.take m with
       |nil=>exact absurd hs hne
       |cons x xs=>rfl
      rw[this,hl]
      congr 1
      unfold je at hk
      unfold vZ
      split at hk
      ·rename_i g
       rw[if_pos g]
       obtain rfl:k=0:=by omega
       simp;omega
      ·rename_i g
       rw[if_neg g]
       split at hk
       ·rename_i g2
        rw[if_pos g2]
        obtain rfl:k=1:=by omega
        simp;omega
       ·rename_i g2
        rw[if_neg g2]
        obtain rfl:k=2:=by omega
        simp;omega
     rw[hv]
     exact zcJ _ _ hmem
    ·have ew:Z9 (c::s)=false:=by unfold Z9;rw[er,List.getD_cons_zero,en,hk];simp;omega
     rw[ew,if_neg (by decide),if_neg q]
theorem zhe(s:List Nat):zd4 s=Qg dz s:=kM s.length s (Nat.le_refl _)
end Go.Proofs.YtcgfdhdcihmeeaaGreat
end
section
namespace Go.Proofs.YtcgfdhdcihmeeaaGreat
open Go.AM
set_option maxRecDepth 10000
def u8(n:Nat):UInt8:=UInt8.ofNat n
def Qp(n:Nat):List UInt8:=
 if n<128 then [u8 n]else if n<2048 then [u8 (192+n/64),u8 (128+n%64)]
 else if n<65536 then [u8 (224+n/4096),u8 (128+n/64%64),u8 (128+n%64)]
 else [u8 (240+n/262144),u8 (128+n/4096%64),u8 (128+n/64%64),u8 (128+n%64)]
def qU(r:Int):Bool:=(decide (0≤r)&&decide (r<55296)) || (decide (57343<r)&&decide (r≤1114111))
def zbs(r:Int):Nat:=if qU r=true then r.toNat else 65533
def QN(r:Int):List UInt8:=Qp (zbs r)
def kE(l:List Int):List UInt8:=l.flatMap QN
theorem zbQ(n:Nat):1≤(Qp n).length∧(Qp n).length≤4:=by
 unfold Qp
 split
 ·simp
 ·split
  ·simp
  ·split<;>simp
theorem KO(l:List Int):(kE l).length≤4*l.length:=by
 induction l with
 |nil=>simp[kE]
 |cons x l ih=>
  have h:=(zbQ (zbs x)).2
  have e:kE (x::l)=QN x++kE l:=rfl
  rw[e,List.length_append,List.length_cons]
  unfold QN
  omega
structure Cl where
 t:List UInt8
 w:Int
 deriving DecidableEq,Inhabited
def blk:Cl:=⟨[32],1⟩
def clP(c:Cl):PV:=.agg [.str c.t,.int .i64 c.w]
abbrev zw:=List Cl
def k9(x:Cl):Prop:=x.w=1∨x.w=2
def yC(C:Int)(s:Int×Int)(g:Cl):Int×Int:=if C<s.2+g.w then(s.1+1,0)else s
def Jt(C:Int)(s:Int×Int)(g:Cl):Int×Int:=((yC C s g).1,(yC C s g).2+g.w)
def stG(C:Int)(l:List Cl):Nat→Int×Int
 |0=>(0,0)
 |i+1=>Jt C (stG C l i) (l.getD i blk)
def zcS(C:Int)(s:Int×Int):Int×Int:=if C≤s.2 then(s.1+1,0)else s
def qp(C:Int)(l:List Cl)(i:Nat):Int×Int:=if i<l.length then yC C (stG C l i) (l.getD i blk)else zcS C (stG C l l.length)
def Qt(C:Int)(l:List Cl):List (Int×Int):=(List.range (l.length+1)).map (qp C l)
theorem Kr {C:Int}(hC:2≤C) {l:List Cl}(h:∀x∈l,k9 x):∀i:Nat,i≤l.length→(0≤(stG C l i).1∧(stG C l i).1≤i)∧0≤(stG C l i).2∧(stG C l i).2≤C
 |0,_=>by simp[stG];omega
 |i+1,hi=>by
  have ih:=Kr hC h i (by omega)
  have e:l.getD i blk=l[i]:=by rw[List.getD_eq_getElem?_getD,List.getElem?_eq_getElem (by omega)];rfl
  have hw:=h l[i] (List.getElem_mem (by omega))
  unfold stG Jt yC
  rw[e]
  unfold k9 at hw
  split<;>(try simp)<;>omega
theorem vu {C:Int}(hC:2≤C) {l:List Cl}(h:∀x∈l,k9 x)(i:Nat):(0≤(qp C l i).1∧(qp C l i).1≤l.length+1)∧0≤(qp C l i).2∧(qp C l i).2<C:=by
 unfold qp
 split
 ·rename_i hi
  have ih:=Kr hC h i (by omega)
  have e:l.getD i blk=l[i]:=by rw[List.getD_eq_getElem?_getD,List.getElem?_eq_getElem (by omega)];rfl
  have hw:=h l[i] (List.getElem_mem (by omega))
  unfold yC
  rw[e]
  unfold k9 at hw
  split<;>(try simp)<;>omega
 ·have ih:=Kr hC h l.length (Nat.le_refl _)
  unfold zcS
  split<;>(try simp)<;>omega
def xr(all rows row:Int):Int:=max (min (row-rows.tdiv 2) (all-rows)) 0
end Go.Proofs.YtcgfdhdcihmeeaaGreat
end
section
namespace Go.Proofs.YtcgfdhdcihmeeaaGreat
open Go.AM
theorem mixed:Tryz.prog.follows .mixedOrders=true:=Tryz.checked.mixed
@[go_sem] theorem ty3 : ty Tryz.prog 3 = some ⟨.int .i64, 1, 8, some [.int .i64 0]⟩ := by kernel_rfl
@[go_sem] theorem ty4 : ty Tryz.prog 4 = some ⟨.bool, 1, 1, some [.bool false]⟩ := by kernel_rfl
@[go_sem] theorem ty5 : ty Tryz.prog 5 = some ⟨.int .u8, 1, 1, some [.int .u8 0]⟩ := by kernel_rfl
@[go_sem] theorem ty9 : ty Tryz.prog 9 = some ⟨.string, 1, 16, some [.str []]⟩ := by kernel_rfl
@[go_sem] theorem ty21 : ty Tryz.prog 21 = some ⟨.int .i32, 1, 4, some [.int .i32 0]⟩ := by kernel_rfl
@[go_sem] theorem ty22 : ty Tryz.prog 22 = some ⟨.slice 23, 1, 24, some [.opq (.slice none 0 0)]⟩ := by kernel_rfl
@[go_sem] theorem ty23 : ty Tryz.prog 23 = some ⟨.slice 21, 1, 24, some [.opq (.slice none 0 0)]⟩ := by kernel_rfl
@[go_sem] theorem ty25 : ty Tryz.prog 25 = some ⟨Tryz.t24.desc, 3, 56, some [.opq (.slice none 0 0), .opq (.slice none 0 0), .int .i64 0]⟩ := by kernel_rfl
@[go_sem] theorem ty27 : ty Tryz.prog 27 = some ⟨.slice 109, 1, 24, some [.opq (.slice none 0 0)]⟩ := by kernel_rfl
@[go_sem] theorem ty29 : ty Tryz.prog 29 = some ⟨.pointer 68, 1, 8, some [.opq (.pointer none)]⟩ := by kernel_rfl
@[go_sem] theorem ty32 : ty Tryz.prog 32 = some ⟨Tryz.t31.desc, 2, 16, some [.int .i64 0, .int .i64 0]⟩ := by kernel_rfl
@[go_sem] theorem ty34 : ty Tryz.prog 34 = some ⟨.pointer 157, 1, 8, some [.opq (.pointer none)]⟩ := by kernel_rfl
@[go_sem] theorem ty36 : ty Tryz.prog 36 = some ⟨Tryz.t35.desc, 2, 16, some [.int .i64 0, .int .i64 0]⟩ := by kernel_rfl
@[go_sem] theorem ty38 : ty Tryz.prog 38 = some ⟨Tryz.t37.desc, 3, 24, some [.opq (.pointer none), .int .i64 0, .int .i64 0]⟩ := by kernel_rfl
@[go_sem] theorem ty40 : ty Tryz.prog 40 = some ⟨Tryz.t24.desc, 3, 56, some [.opq (.slice none 0 0), .opq (.slice none 0 0), .int .i64 0]⟩ := by kernel_rfl
@[go_sem] theorem ty42 : ty Tryz.prog 42 = some ⟨.slice 48, 1, 24, some [.opq (.slice none 0 0)]⟩ := by kernel_rfl
@[go_sem] theorem ty43 : ty Tryz.prog 43 = some ⟨Tryz.t35.desc, 2, 16, some [.int .i64 0, .int .i64 0]⟩ := by kernel_rfl
@[go_sem] theorem ty45 : ty Tryz.prog 45 = some ⟨Tryz.t44.desc, 3, 40, some [.opq (.slice none 0 0), .int .i64 0, .int .i64 0]⟩ := by kernel_rfl
@[go_sem] theorem ty48 : ty Tryz.prog 48 = some ⟨.slice 50, 1, 24, some [.opq (.slice none 0 0)]⟩ := by kernel_rfl
@[go_sem] theorem ty50 : ty Tryz.prog 50 = some ⟨Tryz.t49.desc, 2, 24, some [.str [], .int .i64 0]⟩ := by kernel_rfl
@[go_sem] theorem ty56 : ty Tryz.prog 56 = some ⟨.int .u16, 1, 2, some [.int .u16 0]⟩ := by kernel_rfl
@[go_sem] theorem ty60 : ty Tryz.prog 60 = some ⟨.pointer 184, 1, 8, some [.opq (.pointer none)]⟩ := by kernel_rfl
@[go_sem] theorem ty62 : ty Tryz.prog 62 = some ⟨.pointer 199, 1, 8, some [.opq (.pointer none)]⟩ := by kernel_rfl
@[go_sem] theorem ty64 : ty Tryz.prog 64 = some ⟨.map 75 21, 1, 8, some [.opq (.map none)]⟩ := by kernel_rfl
@[go_sem] theorem ty65 : ty Tryz.prog 65 = some ⟨.map 21 4, 1, 8, some [.opq (.map none)]⟩ := by kernel_rfl
@[go_sem] theorem ty66 : ty Tryz.prog 66 = some ⟨.pointer 135, 1, 8, some [.opq (.pointer none)]⟩ := by kernel_rfl
@[go_sem] theorem ty68 : ty Tryz.prog 68 = some ⟨Tryz.t67.desc, 7, 56, some [.opq (.pointer none), .opq (.pointer none), .opq (.pointer none), .opq (.pointer none), .opq (.pointer none), .opq (.map none), .opq (.map none)]⟩ := by kernel_rfl
@[go_sem] theorem ty69 : ty Tryz.prog 69 = some ⟨.slice 77, 1, 24, some [.opq (.slice none 0 0)]⟩ := by kernel_rfl
@[go_sem] theorem ty70 : ty Tryz.prog 70 = some ⟨.slice 73, 1, 24, some [.opq (.slice none 0 0)]⟩ := by kernel_rfl
@[go_sem] theorem ty73 : ty Tryz.prog 73 = some ⟨Tryz.t72.desc, 4, 32, some [.int .i64 0, .int .i64 0, .int .i64 0, .int .i64 0]⟩ := by kernel_rfl
@[go_sem] theorem ty75 : ty Tryz.prog 75 = some ⟨Tryz.t74.desc, 2, 8, some [.int .i32 0, .int .i32 0]⟩ := by kernel_rfl
@[go_sem] theorem ty77 : ty Tryz.prog 77 = some ⟨Tryz.t76.desc, 4, 24, some [.int .i64 0, .int .i64 0, .int .i32 0, .int .i32 0]⟩ := by kernel_rfl
@[go_sem] theorem ty82 : ty Tryz.prog 82 = some ⟨.slice 85, 1, 24, some [.opq (.slice none 0 0)]⟩ := by kernel_rfl
@[go_sem] theorem ty85 : ty Tryz.prog 85 = some ⟨Tryz.t84.desc, 5, 48, some [.int .i64 0, .int .i64 0, .int .i64 0, .str [], .bool false]⟩ := by kernel_rfl
@[go_sem] theorem ty86 : ty Tryz.prog 86 = some ⟨.slice 88, 1, 24, some [.opq (.slice none 0 0)]⟩ := by kernel_rfl
@[go_sem] theorem ty88 : ty Tryz.prog 88 = some ⟨Tryz.t49.desc, 2, 24, some [.str [], .int .i64 0]⟩ := by kernel_rfl
@[go_sem] theorem ty89 : ty Tryz.prog 89 = some ⟨.slice 172, 1, 24, some [.opq (.slice none 0 0)]⟩ := by kernel_rfl
@[go_sem] theorem ty92 : ty Tryz.prog 92 = some ⟨.slice 36, 1, 24, some [.opq (.slice none 0 0)]⟩ := by kernel_rfl
@[go_sem] theorem ty96 : ty Tryz.prog 96 = some ⟨.slice 176, 1, 24, some [.opq (.slice none 0 0)]⟩ := by kernel_rfl
@[go_sem] theorem ty97 : ty Tryz.prog 97 = some ⟨.slice 3, 1, 24, some [.opq (.slice none 0 0)]⟩ := by kernel_rfl
@[go_sem] theorem ty101 : ty Tryz.prog 101 = some ⟨.slice 43, 1, 24, some [.opq (.slice none 0 0)]⟩ := by kernel_rfl
@[go_sem] theorem ty109 : ty Tryz.prog 109 = some ⟨Tryz.t108.desc, 5, 40, some [.int .i64 0, .int .i64 0, .int .i64 0, .int .i64 0, .int .i64 0]⟩ := by kernel_rfl
@[go_sem] theorem ty110 : ty Tryz.prog 110 = some ⟨.slice 112, 1, 24, some [.opq (.slice none 0 0)]⟩ := by kernel_rfl
@[go_sem] theorem ty112 : ty Tryz.prog 112 = some ⟨Tryz.t111.desc, 3, 24, some [.int .i64 0, .int .i64 0, .int .i64 0]⟩ := by kernel_rfl
@[go_sem] theorem ty114 : ty Tryz.prog 114 = some ⟨.array 4 3, 4, 32, some [.int .i64 0, .int .i64 0, .int .i64 0, .int .i64 0]⟩ := by kernel_rfl
@[go_sem] theorem ty115 : ty Tryz.prog 115 = some ⟨.array 4 70, 4, 96, some [.opq (.slice none 0 0), .opq (.slice none 0 0), .opq (.slice none 0 0), .opq (.slice none 0 0)]⟩ := by kernel_rfl
@[go_sem] theorem ty116 : ty Tryz.prog 116 = some ⟨.slice 126, 1, 24, some [.opq (.slice none 0 0)]⟩ := by kernel_rfl
@[go_sem] theorem ty118 : ty Tryz.prog 118 = some ⟨.slice 70, 1, 24, some [.opq (.slice none 0 0)]⟩ := by kernel_rfl
@[go_sem] theorem ty119 : ty Tryz.prog 119 = some ⟨.array 4 4, 4, 4, some [.bool false, .bool false, .bool false, .bool false]⟩ := by kernel_rfl
@[go_sem] theorem ty124 : ty Tryz.prog 124 = some ⟨Tryz.t123.desc, 4, 4, some [.bool false, .bool false, .bool false, .bool false]⟩ := by kernel_rfl
@[go_sem] theorem ty126 : ty Tryz.prog 126 = some ⟨Tryz.t125.desc, 6, 24, some [.int .i64 0, .int .i64 0, .bool false, .bool false, .bool false, .bool false]⟩ := by kernel_rfl
@[go_sem] theorem ty133 : ty Tryz.prog 133 = some ⟨.slice 144, 1, 24, some [.opq (.slice none 0 0)]⟩ := by kernel_rfl
@[go_sem] theorem ty135 : ty Tryz.prog 135 = some ⟨Tryz.t134.desc, 3, 56, some [.int .i64 0, .opq (.slice none 0 0), .opq (.slice none 0 0)]⟩ := by kernel_rfl
@[go_sem] theorem ty137 : ty Tryz.prog 137 = some ⟨.map 144 3, 1, 8, some [.opq (.map none)]⟩ := by kernel_rfl
@[go_sem] theorem ty138 : ty Tryz.prog 138 = some ⟨.map 75 3, 1, 8, some [.opq (.map none)]⟩ := by kernel_rfl
@[go_sem] theorem ty140 : ty Tryz.prog 140 = some ⟨Tryz.t139.desc, 3, 24, some [.opq (.pointer none), .opq (.map none), .opq (.map none)]⟩ := by kernel_rfl
@[go_sem] theorem ty144 : ty Tryz.prog 144 = some ⟨.array 128 75, 256, 1024, some (qt 128 [.int .i32 0, .int .i32 0])⟩ := by kernel_rfl
@[go_sem] theorem ty157 : ty Tryz.prog 157 = some ⟨Tryz.t156.desc, 3, 40, some [.int .i64 0, .int .i64 0, .opq (.slice none 0 0)]⟩ := by kernel_rfl
@[go_sem] theorem ty159 : ty Tryz.prog 159 = some ⟨Tryz.t158.desc, 5, 24, some [.int .i64 0, .int .i64 0, .int .u8 0, .int .u8 0, .int .i32 0]⟩ := by kernel_rfl
@[go_sem] theorem ty160 : ty Tryz.prog 160 = some ⟨.slice 5, 1, 24, some [.opq (.slice none 0 0)]⟩ := by kernel_rfl
@[go_sem] theorem ty172 : ty Tryz.prog 172 = some ⟨Tryz.t49.desc, 2, 24, some [.str [], .int .i64 0]⟩ := by kernel_rfl
@[go_sem] theorem ty176 : ty Tryz.prog 176 = some ⟨Tryz.t49.desc, 2, 24, some [.str [], .int .i64 0]⟩ := by kernel_rfl
@[go_sem] theorem ty182 : ty Tryz.prog 182 = some ⟨.slice 192, 1, 24, some [.opq (.slice none 0 0)]⟩ := by kernel_rfl
@[go_sem] theorem ty184 : ty Tryz.prog 184 = some ⟨Tryz.t183.desc, 3, 56, some [.int .i64 0, .opq (.slice none 0 0), .opq (.slice none 0 0)]⟩ := by kernel_rfl
@[go_sem] theorem ty186 : ty Tryz.prog 186 = some ⟨.map 192 3, 1, 8, some [.opq (.map none)]⟩ := by kernel_rfl
@[go_sem] theorem ty187 : ty Tryz.prog 187 = some ⟨.map 3 3, 1, 8, some [.opq (.map none)]⟩ := by kernel_rfl
@[go_sem] theorem ty189 : ty Tryz.prog 189 = some ⟨Tryz.t188.desc, 3, 24, some [.opq (.pointer none), .opq (.map none), .opq (.map none)]⟩ := by kernel_rfl
@[go_sem] theorem ty192 : ty Tryz.prog 192 = some ⟨.array 128 3, 128, 1024, some (qt 128 [.int .i64 0])⟩ := by kernel_rfl
@[go_sem] theorem ty194 : ty Tryz.prog 194 = some ⟨.map 3 4, 1, 8, some [.opq (.map none)]⟩ := by kernel_rfl
@[go_sem] theorem ty197 : ty Tryz.prog 197 = some ⟨.slice 208, 1, 24, some [.opq (.slice none 0 0)]⟩ := by kernel_rfl
@[go_sem] theorem ty199 : ty Tryz.prog 199 = some ⟨Tryz.t198.desc, 3, 56, some [.int .i64 0, .opq (.slice none 0 0), .opq (.slice none 0 0)]⟩ := by kernel_rfl
@[go_sem] theorem ty201 : ty Tryz.prog 201 = some ⟨.map 208 3, 1, 8, some [.opq (.map none)]⟩ := by kernel_rfl
@[go_sem] theorem ty202 : ty Tryz.prog 202 = some ⟨.map 124 3, 1, 8, some [.opq (.map none)]⟩ := by kernel_rfl
@[go_sem] theorem ty204 : ty Tryz.prog 204 = some ⟨Tryz.t203.desc, 3, 24, some [.opq (.pointer none), .opq (.map none), .opq (.map none)]⟩ := by kernel_rfl
@[go_sem] theorem ty208 : ty Tryz.prog 208 = some ⟨.array 128 124, 512, 512, some (qt 128 [.bool false, .bool false, .bool false, .bool false])⟩ := by kernel_rfl
@[go_sem] theorem ty213 : ty Tryz.prog 213 = some ⟨.int .u64, 1, 8, some [.int .u64 0]⟩ := by kernel_rfl
@[go_sem] theorem ty217 : ty Tryz.prog 217 = some ⟨Tryz.t216.desc, 5, 40, some [.bool false, .int .i64 0, .int .i64 0, .int .i64 0, .bool false]⟩ := by kernel_rfl
@[go_sem] theorem ty240 : ty Tryz.prog 240 = some ⟨.int .u64, 1, 8, some [.int .u64 0]⟩ := by kernel_rfl
@[go_sem] theorem zoZ : Jz Tryz.prog 21 = some (.int .i32 0) := by kernel_rfl
@[go_sem] theorem zp4 : Jz Tryz.prog 4 = some (.bool false) := by kernel_rfl
@[go_sem] theorem zp3 : Jz Tryz.prog 3 = some (.int .i64 0) := by kernel_rfl
@[go_sem] theorem ck32 : Qz Tryz.prog 32 = some [.i .i64, .i .i64] := by kernel_rfl
@[go_sem] theorem ck50 : Qz Tryz.prog 50 = some [.s, .i .i64] := by kernel_rfl
@[go_sem] theorem ck75 : Qz Tryz.prog 75 = some [.i .i32, .i .i32] := by kernel_rfl
@[go_sem] theorem ck88 : Qz Tryz.prog 88 = some [.s, .i .i64] := by kernel_rfl
@[go_sem] theorem ck119 : Qz Tryz.prog 119 = some [.b, .b, .b, .b] := by kernel_rfl
@[go_sem] theorem kk3 : Zo Tryz.prog 3 = some (false, [.i .i64]) := by kernel_rfl
@[go_sem] theorem zoY : Zo Tryz.prog 21 = some (false, [.i .i32]) := by kernel_rfl
@[go_sem] theorem zoX : Zo Tryz.prog 75 = some (true, [.i .i32, .i .i32]) := by kernel_rfl
@[go_sem] theorem zoR : Zo Tryz.prog 124 = some (true, [.b, .b, .b, .b]) := by kernel_rfl
@[go_sem] theorem zoT : Zo Tryz.prog 144 = some (true, qt 128 [.i .i32, .i .i32]) := uJ ty144 (by kernel_rfl) (by kernel_rfl) ty75 (by decide)
@[go_sem] theorem zoS : Zo Tryz.prog 192 = some (true, qt 128 [.i .i64]) := uJ ty192 (by kernel_rfl) (by kernel_rfl) ty3 (by decide)
@[go_sem] theorem zoU : Zo Tryz.prog 208 = some (true, qt 128 [.b, .b, .b, .b]) := uJ ty208 (by kernel_rfl) (by kernel_rfl) ty124 (by decide)
attribute [go_sem] Tryz.t7 Tryz.t13 Tryz.t18 Tryz.t24 Tryz.t31 Tryz.t35 Tryz.t37 Tryz.t44 Tryz.t49 Tryz.t67 Tryz.t72 Tryz.t74 Tryz.t76 Tryz.t84 Tryz.t108 Tryz.t111 Tryz.t123 Tryz.t125 Tryz.t134 Tryz.t139 Tryz.t156 Tryz.t158 Tryz.t183 Tryz.t188 Tryz.t198 Tryz.t203 Tryz.t216 Tryz.t256 Tryz.t259 Tryz.t267
end Go.Proofs.YtcgfdhdcihmeeaaGreat
end
