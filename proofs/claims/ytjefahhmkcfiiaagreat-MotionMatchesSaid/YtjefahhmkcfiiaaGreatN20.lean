/- A part of the proof of this seat's statements, by an abstract machine: what each operation does to values, and what the law's functions compute. Conditions: as each law says. -/
import Derived.Test.YtjefahhmkcfiiaaGreatN19
import Derived.Test.YtjefahhmkcfiiaaGreatN18
section
namespace Go.AM
def frz(g:Gh)(w:World)(rt:Tok→Bool):Gh:=
 ⟨fun b=>match g.K b with
  |.root t=>if rt t then g.fr b else frW w b
  |_=>g.fr b,(g.fil rt ftt).K⟩
theorem k8 {g:Gh} {w:World} {rt:Tok→Bool} {b:Nat}(h:∀t,g.K b=.root t→rt t=true):(frz g w rt).fr b=g.fr b:=by
 simp only[frz]
 split
 ·rename_i t e;rw[if_pos (h t e)]
 ·rfl
theorem Ko {g:Gh} {w:World} {rt:Tok→Bool} {b:Nat} {t:Tok}(h:g.K b=.root t)(ht:rt t=false):(frz g w rt).fr b=frW w b:=by
 simp only[frz,h,ht,Bool.false_eq_true,if_false]
theorem wG [Gi] {g:Gh} {w:World} {rs:List (Tok×List AV)}(hG:GS g w rs)(rt:Tok→Bool):Ext g.fr w (frz g w rt).fr w:=fun b o ho=>by
 refine⟨?_,rfl,rfl⟩
 by_cases h:∃t,g.K b=.root t
 ·obtain⟨t,ht⟩:=h
  obtain⟨_,_,h0,_⟩:=hG.roots b t ht
  omega
 ·rw[k8 (fun t e=>absurd ⟨t,e⟩ h)]
  exact ho
theorem zji [Gi] {g:Gh} {w:World} {rs:List (Tok×List AV)}(hG:GS g w rs)(rt:Tok→Bool):vq g w (frz g w rt) w rt ftt:=
 ⟨wG hG rt,fun b t ht hk=>⟨Gh.qe.2 ⟨hk,ht⟩,fun _ h=>h⟩,fun b t ht hk=>⟨Gh.q8.2 ⟨hk,ht⟩,k8 (fun u e=>by rw[hk]at e;cases e),rfl⟩⟩
def zah(rt:Tok→Bool)(rs:List (Tok×List AV)):List (Tok×List AV):=(rs.filter fun x=>rt x.1).map fun x=>(x.1,x.2.map (AV.upd (fil rt ftt)))
theorem Kr {rt:Tok→Bool} {t:Tok}(ht:rt t=true):∀{rs:List (Tok×List AV)} {cs:List AV},zH rs t=some cs→zH (zah rt rs) t=some (cs.map (AV.upd (fil rt ftt)))
 | [],_,h=>by simp[zH]at h
 |(k,y)::l,cs,h=>by
  simp only[zH]at h
  split at h
  ·rename_i e
   injection h with h
   subst e;subst h
   simp[zah,ht,zH]
  ·rename_i e
   have ih:=Kr ht h
   unfold zah at ih⊢
   rw[List.filter_cons]
   split
   ·simp only[List.map_cons,zH,if_neg e];exact ih
   ·exact ih
theorem zlN [Gi] {g:Gh} {w:World} {rs:List (Tok×List AV)}(hG:GS g w rs)(rt:Tok→Bool):GS (frz g w rt) w (zah rt rs):=by
 have k:=zji hG rt
 refine⟨fun b t hk=>?_,fun b b' t hk hk'=>hG.ur b b' t (Gh.qe.1 hk).1 (Gh.qe.1 hk').1,fun b b' t hk hk'=>hG.ut b b' t (Gh.q8.1 hk).1 (Gh.q8.1 hk').1,fun b hb=>hG.own b ?_,fun b hb=>?_,fun b arr e=>?_⟩
 ·obtain⟨hk1,ht⟩:=Gh.qe.1 hk
  obtain⟨cs,hl,h0,arr,T,hb,hle,hc⟩:=hG.roots b t hk1
  refine⟨cs.map (AV.upd (fil rt ftt)),Kr ht hl,?_,arr,T,hb,by simpa using hle,fun j x hj=>?_⟩
  ·rw[k8 (fun u e=>by rw[hk1]at e;injection e with e;subst e;exact ht)];exact h0
  ·simp only[List.getElem?_map,Option.map_eq_some_iff]at hj
   obtain⟨y,hy,rfl⟩:=hj
   obtain⟨v,hv,h1,r⟩:=hc j y hy
   exact⟨v,hv,h1,zd.upd k _ _ r⟩
 ·intro e;apply hb;show(g.K b).fil rt ftt=.prot;rw[e];rfl
 ·have:g.K b=.prot:=by
   rcases h:g.K b with _|t|t
   ·rfl
   all_goals exact absurd (hG.own b (by rw[h];simp)) (by omega)
  rw[k8 (fun t e=>by rw[this]at e;cases e)]
  exact hG.frb b hb
 ·obtain⟨h1,h2⟩:=hG.gl b arr e
  exact⟨by show(g.K b).fil rt ftt=.prot;rw[h1];rfl,h2⟩
def zld [Gi](rt:Tok→Bool)(rs:List (Tok×List AV))(x x':AV):Prop:=∀g w v,GS g w rs→zd g w x v→zd (frz g w rt) w x' v
theorem CR.freeze [Gi] {P:Program} {f:FuncId} {pin:List Tok} {args:List AV} {rs:List (Tok×List AV)} {R R':AV→List (Tok×List AV)→Prop}(h:CR P f pin args rs R)(rt:Tok→Bool)(hp:pin.all rt=true)
  (hr:∀x rs',R x rs'→∃x',zld rt rs' x x'∧R' x' (zah rt rs')):CR P f pin args rs R':=by
 intro w g vs h1 h2
 refine(h w g vs h1 h2).mono ?_
 rintro e w' ⟨v,x,rs',g',rfl,hR,hx,hG,hA⟩
 obtain⟨x',hf,hR'⟩:=hr x rs' hR
 refine⟨v,x',_,frz g' w' rt,rfl,hR',hf g' w' v hG hx,zlN hG rt,⟨fun b hb hk=>?_,hA.ext.trans (wG hG rt),hA.out,hA.mono,fun b t hk ht=>?_⟩⟩
 ·obtain⟨a1,a2,a3⟩:=hA.frame b hb hk
  exact⟨a1,by rw[k8 (fun t e=>by rw[a3]at e;cases e)];exact a2,by show(g'.K b).fil rt ftt=.prot;rw[a3];rfl⟩
 ·obtain⟨a1,a2⟩:=hA.pins b t hk ht
  exact⟨Gh.qe.2 ⟨a1,List.all_eq_true.1 hp t ht⟩,a2⟩
theorem zgf {fr:Nat→Nat} {w:World}:∀{ps:List PV} {vs:List Value},vs.length=ps.length→(∀(j:Nat) (p:PV),ps[j]?=some p→∃v,vs[j]?=some v∧v.oneCell'=true∧zk fr w p v)→zG fr w ps vs
 | [],vs,hl,_=>by simp only[zG];exact List.eq_nil_of_length_eq_zero hl
 |p::ps,[],hl,_=>by simp at hl
 |p::ps,u::vs,hl,h=>by
  simp only[zG]
  obtain⟨v,hv,h1,h2⟩:=h 0 p rfl
  simp at hv;subst hv
  exact⟨u,vs,rfl,h1,h2,zgf (by simpa using hl) fun j q hq=>by simpa using h (j+1) q (by simpa using hq)⟩
theorem uI [Gi] {g:Gh} {w:World} {rs:List (Tok×List AV)}(hG:GS g w rs) {rt:Tok→Bool} {t:Tok} {z n:Nat} {es:List PV}(ext:List AV)(h0:0<n)(hl:zH rs t=some ((es.flatMap PV.cells).map .p++ext))(ht:rt t=false)(hn:es.length=n)
  (hz:∀e∈es,e.cells.length=z∧e.fits=true) {v:Value} (hv:zd g w (.la t z 0 n) v):zk (frz g w rt).fr w (.sl z es) v:=by
 simp only[zd]at hv
 obtain⟨b,o',cap,hk,rfl,hcap,ho,hblk⟩:=hv
 obtain rfl:o'=0:=ho.resolve_left (by omega)
 obtain⟨cs,hl',hfr,arr,T,hb,hle,hc⟩:=hG.roots b t hk
 rw[hl]at hl';injection hl' with hl';subst hl'
 have hx:=wG hG rt
 have hlen:(es.flatMap PV.cells).length=es.length*z:=by
  clear hl hn hle hc
  induction es with
  |nil=>simp
  |cons e es ih=>
   rw[List.flatMap_cons,List.length_append,ih (fun x hx=>hz x (by simp[hx])),(hz e (by simp)).1,List.length_cons,Nat.add_mul]
   omega
 rw[List.length_append,List.length_map,hlen]at hle
 have hfb:(frz g w rt).fr b=arr.size:=by rw[Ko hk ht];simp[frW,hb]
 simp only[zk]
 refine .inr ⟨b,0,cap,by rw[hn],by omega,by rw[hfb];omega,?_⟩
 refine wM (vs:=arr.toList.take (es.length*z)) (zgf (by rw[hlen];simp;omega) fun j p hj=>?_) hz (fun j u hj=>?_)
 ·obtain⟨u,h1,h2,h3⟩:=hc j (.p p) (by rw[List.getElem?_append_left (by rw[List.length_map];exact(List.getElem?_eq_some_iff.1 hj).1),List.getElem?_map,hj];rfl)
  have hjl:j<es.length*z:=by rw[←hlen];exact(List.getElem?_eq_some_iff.1 hj).1
  simp only[zd]at h3
  exact⟨u,by rw[List.getElem?_take,if_pos hjl];simpa using h1,h2,h3.ext hx⟩
 ·rw[List.getElem?_take]at hj
  split at hj
  ·rw[qt hb,Nat.zero_add];simpa using hj
  ·cases hj
theorem zju [Gi] {g:Gh} {w:World} {rs:List (Tok×List AV)}(hG:GS g w rs) {rt:Tok→Bool} {t:Tok} {z n:Nat} {es:List PV}(h0:0<n)(hl:zH rs t=some ((es.flatMap PV.cells).map .p))(ht:rt t=false)(hn:es.length=n)
  (hz:∀e∈es,e.cells.length=z∧e.fits=true) {v:Value} (hv:zd g w (.la t z 0 n) v):zk (frz g w rt).fr w (.sl z es) v:=
 uI hG [] h0 (by simpa using hl) ht hn hz hv
end Go.AM
end
section
namespace Go.AM
@[go_sem] theorem znT (l : List PV) : Vh (l.map .p) = some l := by
 induction l with
 |nil=>rfl
 |cons x l ih=>simp[Vh,ih]
@[go_sem] theorem zhA (rt tt : Tok → Bool) : (AV.upd (fil rt tt) ∘ AV.p) = AV.p := rfl
@[go_sem] theorem znf (t : Tok) (ks xs : List PV) : (AV.upd (AM.fz t ks xs) ∘ AV.p) = AV.p := rfl
@[go_sem] theorem znp (f : Tok → Option Tok) : (AV.ren f ∘ AV.p) = AV.p := rfl
theorem QD {l:List PV} {n:Nat}(h:l.length=n):(l.map AV.p).take n=l.map .p:=List.take_of_length_le (by simp[h])
theorem Y0:∀(a:List PV),eqC a a=true
 | []=>by simp[eqC]
 |x::xs=>by cases x<;>simp[eqC,Y0 xs]
theorem jZ {kc:List Kc} {key:List PV}(hk:okC kc key=true):∀{ks xs:List PV} {i:Nat},ks.all (fun k=>okC kc k.cells)=true→ks.length=xs.length→(qM key ks xs i=none↔∀k∈ks,k.cells≠key)
 | [],[],i,_,_=>by simp[qM]
 | [],x::xs,i,_,h=>by simp at h
 |k::ks,[],i,_,h=>by simp at h
 |k::ks,x::xs,i,h1,h2=>by
  simp only[List.all_cons,Bool.and_eq_true]at h1
  unfold qM
  by_cases hc:eqC key k.cells=true
  ·rw[if_pos hc]
   have:=WM hk h1.1 hc
   simp[this]
  ·rw[if_neg hc,jZ hk h1.2 (by simpa using h2)]
   have hne:k.cells≠key:=fun e=>hc (by rw[e];exact Y0 _)
   simp[hne]
theorem Z7 {kc:List Kc} {key:List PV}(hk:okC kc key=true):∀{ks xs:List PV} {i j:Nat} {x:PV},ks.all (fun k=>okC kc k.cells)=true→qM key ks xs i=some (j,x)→i≤j∧∃k,ks[j-i]?=some k∧k.cells=key∧xs[j-i]?=some x
 | [],xs,i,j,x,_,h=>by simp[qM]at h
 |k::ks,[],i,j,x,_,h=>by simp[qM]at h
 |k::ks,y::xs,i,j,x,h1,h=>by
  simp only[List.all_cons,Bool.and_eq_true]at h1
  unfold qM at h
  by_cases hc:eqC key k.cells=true
  ·rw[if_pos hc]at h
   injection h with h;injection h with e1 e2;subst e1;subst e2
   exact⟨Nat.le_refl _,k,by simp,(WM hk h1.1 hc).symm,by simp⟩
  ·rw[if_neg hc]at h
   obtain⟨h2,k',h3,h4,h5⟩:=Z7 hk h1.2 h
   have e:j-i=(j- (i+1))+1:=by omega
   exact⟨by omega,k',by rw[e];simpa using h3,h4,by rw[e];simpa using h5⟩
def St.zdz(S:St)(vs:List (Nat×AV))(rs:List (Tok×List AV)):St:={S with vs:=vs.foldl (fun l x=>xL l x.1 x.2) S.vs,ts:=[],rs:=rs.foldl (fun l x=>vr l x.1 x.2) S.rs}
attribute [go_sem] St.zdz
theorem zi [Gi] {P:Program} {D:List Nat} {c:Code} {Q:Exit→St→Prop} {S:St} {ι:Type}(inv:ι→Prop)(V:ι→List (Nat×AV))(R:ι→List (Tok×List AV))(m:ι→Nat)(i:ι)(hi:inv i)(h0:LeS S (S.zdz (V i) (R i)))
  (h:∀i,inv i→wpA P D c (Yz inv (fun i=>S.zdz (V i) (R i)) m i Q) (S.zdz (V i) (R i))):wpA P D (.loop c) Q S:=
 xZ inv (fun i=>S.zdz (V i) (R i)) m i hi h0 h
def St.zcW(S:St)(vs:List (Nat×AV))(rs:List (Tok×List AV))(ts:List (Nat×AV)):St:={S with vs:=vs.foldl (fun l x=>xL l x.1 x.2) S.vs,ts:=ts,rs:=rs.foldl (fun l x=>vr l x.1 x.2) S.rs}
attribute [go_sem] St.zcW
def Yc {ι:Type}(S:St)(inv:ι→Prop)(V:ι→List (Nat×AV))(R:ι→List (Tok×List AV))(Q:Exit→St→Prop):Exit→St→Prop:=fun e S'=>match e with|.normal=>∃i ts,inv i∧S'=S.zcW (V i) (R i) ts|e=>Q e S'
@[go_sem] theorem zlD {ι : Type} {S : St} {inv : ι → Prop} {V : ι → List (Nat × AV)} {R : ι → List (Tok × List AV)} {Q : Exit → St → Prop} {S' : St} {k : Nat} : Yc S inv V R Q (.exit k) S' = Q (.exit k) S' := rfl
@[go_sem] theorem zmV {ι : Type} {S : St} {inv : ι → Prop} {V : ι → List (Nat × AV)} {R : ι → List (Tok × List AV)} {Q : Exit → St → Prop} {S' : St} : Yc S inv V R Q .ret S' = Q .ret S' := rfl
theorem zU {ι:Type} {S:St} {inv:ι→Prop} {V:ι→List (Nat×AV)} {R:ι→List (Tok×List AV)} {Q:Exit→St→Prop} {S':St}(i:ι)(hi:inv i)(h:S'=S.zcW (V i) (R i) S'.ts):Yc S inv V R Q .normal S':=⟨i,_,hi,h⟩
theorem Zs [Gi] {P:Program} {D:List Nat} {x y rest:Code} {Q:Exit→St→Prop} {S:St} {v:AV} {ι:Type}(inv:ι→Prop)(V:ι→List (Nat×AV))(R:ι→List (Tok×List AV))(h:ub P D x y (Yc S inv V R Q) S v)
  (hr:∀i ts,inv i→wpA P D rest Q (S.zcW (V i) (R i) ts)):ub P D x y (zeB P D rest Q) S v:=by
 have hq:∀e S',Yc S inv V R Q e S'→zeB P D rest Q e S':=fun e S' h=>by
  cases e with
  |normal=>obtain⟨i,ts,hi,rfl⟩:=h;exact hr i ts hi
  |_=>exact h
 unfold ub at h⊢
 split at h
 ·exact⟨fun e=>jt x hq (h.1 e),fun e=>jt y hq (h.2 e)⟩
 ·exact h.elim
end Go.AM
end
section
namespace Go.Proofs.YtjefahhmkcfiiaaGreat
open Go.AM
theorem Ym [Gi] {x:Nat}(h:x<2^50):IntKind.i64.wrap (x:Int)=(x:Int):=wrap64 (by omega) (by omega)
theorem JI [Gi] {x:Nat}(h:x<2^50):IntKind.u64.wrap (x:Int)=(x:Int):=by simp[IntKind.wrap,IntKind.signed,IntKind.bits];omega
theorem yE [Gi] {x y z:Nat}(h:z<2^50)(e:z=x+y):IntKind.i64.wrap ((x:Int)+y)=(z:Int):=by rw[wrap64 (by omega) (by omega)];omega
theorem Q6 [Gi] {x y z:Nat}(h:x<2^50)(e:x=z+y):IntKind.i64.wrap ((x:Int)-y)=(z:Int):=by rw[wrap64 (by omega) (by omega)];omega
theorem zP [Gi] {x:Nat}(h:x<2^50):IntKind.i64.wrap ((x:Int)+1)=((x+1:Nat):Int):=by rw[wrap64 (by omega) (by omega)];rfl
theorem qC [Gi] {x z:Nat}(h:x<2^50)(e:x=z+1):IntKind.i64.wrap ((x:Int)-1)=(z:Int):=by rw[wrap64 (by omega) (by omega)];omega
theorem Ud {x y:Nat}(e:y=x/2):(x:Int).fdiv 2=(y:Int):=by rw[Int.fdiv_eq_ediv_of_nonneg _ (by omega)];omega
theorem ki {x:Int}(h: -2147483648≤x∧x<2147483648):IntKind.i32.wrap x=x:=by simp[IntKind.wrap,IntKind.signed,IntKind.bits];omega
theorem VA [Gi] {x:Int}(h: -2147483648≤x∧x<2147483648):IntKind.i64.wrap x=x:=wrap64 (by omega) (by omega)
def zB(l:List Int):List PV:=l.map fun r=>.int .i32 r
end Go.Proofs.YtjefahhmkcfiiaaGreat
end
section
namespace Go.Proofs.YtjefahhmkcfiiaaGreat
open Go.AM
set_option maxHeartbeats 4000000
set_option maxRecDepth 10000
def jG(k r:Int)(x:Row):Bool:=decide (x.k=k)&&decide (x.f≤r)&&decide (r≤x.t)
def rowAt(l:List Row)(k r:Int):Option Row:=if r<0∨1114111<r then none else l.find? (jG k r)
def znB(l:List Row)(k r j:Int):Prop:=(j= -1∧rowAt l k r=none)∨∃(i:Nat) (h:i<l.length),j=(i:Int)∧rowAt l k r=some l[i]
theorem zdf [Gi](l:List Row)(k r:Int)(hn:l.length<2^31):CR Tryz.prog 175 [] [.p (zC l),.p (.int .i64 k),.p (.int .i64 r)] [] (fun x rs=>rs=[]∧∃j,x=.p (.int .i64 j)∧znB l k r j):=by
 refine zm mixed 8 [] Tryz.func175 rfl (by kernel_rfl) rfl (by simp) (by simp) ?_
 by_cases h0:r<0
 ·simp[go_sem,Tryz.f175,h0]
  exact zg (.p (.int .i64 (-1))) rfl (by simp[go_sem,zf,leA,leT]) ⟨rfl, -1,rfl,.inl ⟨rfl,if_pos (.inl h0)⟩⟩
 by_cases h1:1114111<r
 ·simp[go_sem,Tryz.f175,h0,h1]
  exact zg (.p (.int .i64 (-1))) rfl (by simp[go_sem,zf,leA,leT]) ⟨rfl, -1,rfl,.inl ⟨rfl,if_pos (.inr h1)⟩⟩
 have hR:rowAt l k r=l.find? (jG k r):=if_neg (by omega)
 simp (maxSteps:=1000000) [go_sem,Tryz.f175,h0,h1,zC]
 refine zi (fun i:Nat=>i≤l.length∧l.find? (jG k r)=(l.drop i).find? (jG k r)) (fun i=>[(7,.p (.int .i64 (i:Nat)))]) (fun _=>[]) (fun i=>l.length-i) 0 ⟨by omega,rfl⟩ (by simp[go_sem,LeS,leV,leR,leA]) (fun i hi=>?_)
 obtain⟨hi,hf⟩:=hi
 simp (maxSteps:=1000000) [go_sem]
 refine zx (fun h=>?_) (fun h=>?_)
 ·have hil:i<l.length:=by omega
  have em:=zq rowP l i hil
  have w1:IntKind.i64.wrap ((i:Int)+1)=((i+1:Nat):Int):=by rw[wrap64 (by omega) (by omega)];rfl
  have hd:l.drop i=l[i]::l.drop (i+1):=List.drop_eq_getElem_cons hil
  rw[hd,List.find?_cons]at hf
  have hsome:jG k r l[i]=true→rowAt l k r=some l[i]:=fun h2=>by rw[hR,hf,h2]
  have hnext:jG k r l[i]=false→l.find? (jG k r)=(l.drop (i+1)).find? (jG k r):=fun h2=>by rw[hf,h2]
  obtain⟨x,hx⟩:∃x,x=l[i]:=⟨_,rfl⟩
  rw[←hx]at em hsome hnext
  by_cases c1:x.k=k
  ·by_cases c2:x.f≤r
   ·by_cases c3:r≤x.t
    ·have hb:jG k r x=true:=by simp[jG,c1,c2,c3]
     simp (maxSteps:=1000000) [go_sem,em,hil,rowP,c1,c2,c3]
     exact zg (.p (.int .i64 i)) rfl (by simp[go_sem,zf,leA,leT]) ⟨rfl,i,rfl,.inr ⟨i,hil,rfl,by rw[hsome hb,hx]⟩⟩
    ·have hb:jG k r x=false:=by simp[jG,c3]
     simp (maxSteps:=1000000) [go_sem,em,hil,rowP,c1,c2,c3,w1]
     exact zc (i+1) ⟨by omega,hnext hb⟩ (by simp[go_sem,LeS,leV,leR,leA]) (by omega)
   ·have hb:jG k r x=false:=by simp[jG,c2]
    simp (maxSteps:=1000000) [go_sem,em,hil,rowP,c1,c2,w1]
    exact zc (i+1) ⟨by omega,hnext hb⟩ (by simp[go_sem,LeS,leV,leR,leA]) (by omega)
  ·have hb:jG k r x=false:=by simp[jG,c1]
   simp (maxSteps:=1000000) [go_sem,em,hil,rowP,c1,w1]
   exact zc (i+1) ⟨by omega,hnext hb⟩ (by simp[go_sem,LeS,leV,leR,leA]) (by omega)
 ·have hil:i=l.length:=by omega
  subst hil
  simp (maxSteps:=1000000) [go_sem]
  exact zg (.p (.int .i64 (-1))) rfl (by simp[go_sem,zf,leA,leT]) ⟨rfl, -1,rfl,.inl ⟨rfl,by rw[hR,hf];simp⟩⟩
def aL(l:List Row)(k r:Int):Int:=match rowAt l k r with
 |some x=>x.a
 |none=>0
theorem znD [Gi](l:List Row)(k r:Int)(hn:l.length<2^31):CR Tryz.prog 132 [] [.p (zC l),.p (.int .i64 k),.p (.int .i64 r)] [] (is (.p (.int .i64 (aL l k r)))):=by
 refine zm mixed 8 [] Tryz.func132 rfl (by kernel_rfl) rfl (by simp) (by simp) ?_
 simp[go_sem,Tryz.f132]
 refine⟨⟨rfl,by simp[Tryz.f175]⟩,zb [] (zdf l k r hn) (by simp[go_sem]) ⟨by simp[go_sem],by simp[go_sem]⟩ (by simp[go_sem]) ?_⟩
 rintro _ rs ⟨rfl,j,rfl,hj⟩
 rcases hj with ⟨rfl,hj⟩|⟨i,hi,rfl,hj⟩
 ·have e:aL l k r=0:=by unfold aL;rw[hj]
  rw[e]
  simp (maxSteps:=1000000) [go_sem]
  exact zg (.p (.int .i64 0)) rfl (by simp[go_sem,zf,leA,leT]) ⟨rfl,rfl⟩
 ·have e:aL l k r=l[i].a:=by unfold aL;rw[hj]
  rw[e]
  have em:=zq rowP l i hi
  generalize l[i]=x at em
  have h0:¬((i:Int)<0):=by omega
  simp (maxSteps:=1000000) [go_sem,em,hi,zC,rowP,h0]
  exact zg (.p (.int .i64 x.a)) rfl (by simp[go_sem,zf,leA,leT]) ⟨rfl,rfl⟩
theorem jf [Gi](l:List Row)(k r:Int)(hn:l.length<2^31)(hr: -2147483648≤r∧r<2147483648):CR Tryz.prog 80 [] [.p (zC l),.p (.int .i64 k),.p (.int .i32 r)] [] (is (.p (.int .i64 (aL l k r)))):=by
 refine zm mixed 7 [] Tryz.func80 rfl (by kernel_rfl) rfl (by simp) (by simp) ?_
 have w1:IntKind.i64.wrap r=r:=wrap64 (by omega) (by omega)
 simp[go_sem,Tryz.f80,w1]
 refine⟨⟨rfl,by simp[Tryz.f132]⟩,zb [] (znD l k r hn) (by simp[go_sem]) ⟨by simp[go_sem],by simp[go_sem]⟩ (by simp[go_sem]) ?_⟩
 rintro _ rs ⟨rfl,rfl⟩
 simp[go_sem]
 exact zg (.p (.int .i64 (aL l k r))) rfl (by simp[go_sem,zf,leA,leT]) ⟨rfl,rfl⟩
theorem xM [Gi](l:List Row)(r:Int)(hn:l.length<2^31)(hr: -2147483648≤r∧r<2147483648):CR Tryz.prog 176 [] [.p (zC l),.p (.int .i32 r)] [] (is (.p (.int .i64 (aL l 1 r)))):=by
 refine zm mixed 5 [] Tryz.func176 rfl (by kernel_rfl) rfl (by simp) (by simp) ?_
 simp[go_sem,Tryz.f176]
 refine⟨⟨rfl,by simp[Tryz.f80]⟩,zb [] (jf l 1 r hn hr) (by simp[go_sem]) ⟨by simp[go_sem],by simp[go_sem]⟩ (by simp[go_sem]) ?_⟩
 rintro _ rs ⟨rfl,rfl⟩
 simp[go_sem]
 exact zg (.p (.int .i64 (aL l 1 r))) rfl (by simp[go_sem,zf,leA,leT]) ⟨rfl,rfl⟩
end Go.Proofs.YtjefahhmkcfiiaaGreat
end
section
namespace Go.Proofs.YtjefahhmkcfiiaaGreat
open Go.AM
set_option maxHeartbeats 1000000
set_option maxRecDepth 10000
def za:List Row:=YG++zd3++ziP++zbK++ze4++zeS++zfc++YS
theorem zkK [Gi](a b c d e f g h:List Row)(c0:CR Tryz.prog 57 [] [] [] (is (.p (zC a))))(c1:CR Tryz.prog 58 [] [] [] (is (.p (zC b))))(c2:CR Tryz.prog 59 [] [] [] (is (.p (zC c))))(c3:CR Tryz.prog 60 [] [] [] (is (.p (zC d))))(c4:CR Tryz.prog 61 [] [] [] (is (.p (zC e))))(c5:CR Tryz.prog 62 [] [] [] (is (.p (zC f))))(c6:CR Tryz.prog 63 [] [] [] (is (.p (zC g))))(c7:CR Tryz.prog 64 [] [] [] (is (.p (zC h))))(l0:a.length≤200)(l1:b.length≤200)(l2:c.length≤200)(l3:d.length≤200)(l4:e.length≤200)(l5:f.length≤200)(l6:g.length≤200)(l7:h.length≤200):
  CR Tryz.prog 16 [] [] [] (is (.p (zC (a++b++c++d++e++f++g++h)))):=by
 refine zm mixed 2 [] Tryz.func16 rfl (by kernel_rfl) rfl (by simp) (by simp) ?_
 simp (disch:=omega) [go_sem,Tryz.f16]
 refine⟨⟨rfl,by simp[Tryz.f57]⟩,zb [] c0 (by simp[go_sem]) ⟨by simp[go_sem],by simp[go_sem]⟩ (by simp[go_sem]) ?_⟩
 rintro y rs ⟨rfl,rfl⟩
 simp (disch:=omega) [go_sem,zC]
 refine⟨by omega,⟨rfl,by simp[Tryz.f58]⟩,zb [] c1 (by simp[go_sem]) ⟨by simp[go_sem],by simp[go_sem]⟩ (by simp[go_sem]) ?_⟩
 rintro y rs ⟨rfl,rfl⟩
 simp (disch:=omega) [go_sem,zC]
 refine⟨by omega,⟨rfl,by simp[Tryz.f59]⟩,zb [] c2 (by simp[go_sem]) ⟨by simp[go_sem],by simp[go_sem]⟩ (by simp[go_sem]) ?_⟩
 rintro y rs ⟨rfl,rfl⟩
 simp (disch:=omega) [go_sem,zC]
 refine⟨by omega,⟨rfl,by simp[Tryz.f60]⟩,zb [] c3 (by simp[go_sem]) ⟨by simp[go_sem],by simp[go_sem]⟩ (by simp[go_sem]) ?_⟩
 rintro y rs ⟨rfl,rfl⟩
 simp (disch:=omega) [go_sem,zC]
 refine⟨by omega,⟨rfl,by simp[Tryz.f61]⟩,zb [] c4 (by simp[go_sem]) ⟨by simp[go_sem],by simp[go_sem]⟩ (by simp[go_sem]) ?_⟩
 rintro y rs ⟨rfl,rfl⟩
 simp (disch:=omega) [go_sem,zC]
 refine⟨by omega,⟨rfl,by simp[Tryz.f62]⟩,zb [] c5 (by simp[go_sem]) ⟨by simp[go_sem],by simp[go_sem]⟩ (by simp[go_sem]) ?_⟩
 rintro y rs ⟨rfl,rfl⟩
 simp (disch:=omega) [go_sem,zC]
 refine⟨by omega,⟨rfl,by simp[Tryz.f63]⟩,zb [] c6 (by simp[go_sem]) ⟨by simp[go_sem],by simp[go_sem]⟩ (by simp[go_sem]) ?_⟩
 rintro y rs ⟨rfl,rfl⟩
 simp (disch:=omega) [go_sem,zC]
 refine⟨by omega,⟨rfl,by simp[Tryz.f64]⟩,zb [] c7 (by simp[go_sem]) ⟨by simp[go_sem],by simp[go_sem]⟩ (by simp[go_sem]) ?_⟩
 rintro y rs ⟨rfl,rfl⟩
 simp (disch:=omega) [go_sem,zC]
 exact⟨by omega,zg (.p (zC (a++b++c++d++e++f++g++h))) rfl (by simp[go_sem,zf,leA,zC]) ⟨rfl,by simp[zC]⟩⟩
theorem yy [Gi]:CR Tryz.prog 16 [] [] [] (is (.p (zC za))):=
 zkK _ _ _ _ _ _ _ _ zer zh5 zk4 zgH zjW zjk zjS zeY (by decide) (by decide) (by decide) (by decide) (by decide) (by decide) (by decide) (by decide)
def Z5(l:List Int):PV:=.sl 1 (l.map fun r=>.int .i32 r)
theorem zi9 [Gi](l:List Int)(n:Nat)(_:n<2^31):CR Tryz.prog 15 [] [.p (Z5 l),.p (.int .i64 n)] [] (is (.p (Z5 (l.take n)))):=by
 refine zm mixed 5 [] Tryz.func15 rfl (by kernel_rfl) rfl (by simp) (by simp) ?_
 simp (disch:=omega) [go_sem,Tryz.f15,Z5]
 refine zx (fun h=>?_) (fun h=>?_)
 ·simp (disch:=omega) [go_sem]
  exact⟨by omega,zg (.p (.sl 1 ((l.take n).map fun r=>PV.int .i32 r))) rfl (by simp[go_sem,zf,leA,cut,List.map_take]) ⟨rfl,by simp⟩⟩
 ·simp (disch:=omega) [go_sem]
  exact zg (.p (.sl 1 (l.map fun r=>PV.int .i32 r))) rfl (by simp[go_sem,zf,leA]) ⟨rfl,by rw[List.take_of_length_le (by simp;omega)]⟩
end Go.Proofs.YtjefahhmkcfiiaaGreat
end
section
namespace Go.Proofs.YtjefahhmkcfiiaaGreat
open Go.AM
set_option maxHeartbeats 1000000
set_option maxRecDepth 10000
structure Span where
 f:Int
 t:Int
 a:Int
 b:Int
 deriving DecidableEq
def z8(s:Span):PV:=.agg [.int .i64 s.f,.int .i64 s.t,.int .i64 s.a,.int .i64 s.b]
def zK(l:List Span):PV:=.sl 4 (l.map z8)
theorem zkC [Gi](s:Span)(l:List Span)(h0:s.f≤s.t)(hl:∀x∈l,x.t<s.f)(hn:l.length<2^31):CR Tryz.prog 116 [] [.p (z8 s),.p (zK l)] [] (is (.p (zK [s]))):=by
 refine zm mixed 11 [] Tryz.func116 rfl (by kernel_rfl) rfl (by simp) (by simp) ?_
 simp (disch:=omega) [go_sem,Tryz.f116,z8,zK]
 refine xZ (fun i:Nat=>i≤l.length) (fun i=>{n:=59,nv:=11,vs:=[(2,.lp [2] 0),(5,.os [5] 4 []),(8,.p (zK l)),(9,.p (.int .i64 l.length)),(10,.p (.int .i64 i))],ts:=[],rs:=[([2],[.p (.int .i64 s.f),.p (.int .i64 s.t),.p (.int .i64 s.a),.p (.int .i64 s.b)])]}) (fun i=>l.length-i) 0 (by simp) (by simp[go_sem,LeS,leV,leR,leA,leL,zK]) ?_
 intro i hi
 simp (disch:=omega) [go_sem,zK]
 refine zx (fun h=>?_) (fun h=>?_)
 ·have em:=zq z8 l i h
  have hx:=hl l[i] (List.getElem_mem h)
  have w1:IntKind.i64.wrap ((i:Int)+1)=(i:Int)+1:=wrap64 (by omega) (by omega)
  generalize l[i]=x at em hx
  simp[go_sem,em,h,z8,hx,w1]
  exact zc (i+1) (by omega) (by simp[go_sem,LeS,leV,leR,leA,leL]) (by omega)
 ·simp[go_sem,h0]
  exact zg (.p (zK [s])) rfl (by simp[go_sem,zf,leA,zK,z8]) ⟨rfl,rfl⟩
end Go.Proofs.YtjefahhmkcfiiaaGreat
end
section
namespace Go.Proofs.YtjefahhmkcfiiaaGreat
open Go.AM
set_option maxHeartbeats 2000000
set_option maxRecDepth 10000
theorem zej [Gi](x:Int):CR Tryz.prog 167 [] [.p (.int .i64 x)] [] (is (.p (.bool false))):=by
 refine zm mixed 3 [] Tryz.func167 rfl (by kernel_rfl) rfl (by simp) (by simp) ?_
 simp[go_sem,Tryz.f167]
 exact zg (.p (.bool false)) rfl (by simp[go_sem,zf,leA]) ⟨rfl,rfl⟩
def Wx(x y:Int):Int:=if x<y then -1 else if y<x then 1 else 0
theorem YM [Gi](x y:Int):CR Tryz.prog 115 [] [.p (.int .i64 x),.p (.int .i64 y)] [] (is (.p (.int .i64 (Wx x y)))):=by
 refine zm mixed 7 [] Tryz.func115 rfl (by kernel_rfl) rfl (by simp) (by simp) ?_
 simp[go_sem,Tryz.f115]
 refine⟨⟨rfl,by simp[Tryz.f167]⟩,zb [] (zej x) (by simp[go_sem]) ⟨by simp[go_sem],by simp[go_sem]⟩ (by simp[go_sem]) ?_⟩
 rintro _ rs ⟨rfl,rfl⟩
 simp[go_sem]
 refine⟨⟨rfl,by simp[Tryz.f167]⟩,zb [] (zej y) (by simp[go_sem]) ⟨by simp[go_sem],by simp[go_sem]⟩ (by simp[go_sem]) ?_⟩
 rintro _ rs ⟨rfl,rfl⟩
 simp[go_sem]
 refine zx (fun h=>?_) (fun h=>?_)
 ·simp[go_sem]
  exact zg (.p (.int .i64 (-1))) rfl (by simp[go_sem,zf,leA]) ⟨rfl,by rw[Wx,if_pos h]⟩
 ·simp[go_sem]
  refine zx (fun h2=>?_) (fun h2=>?_)
  ·simp[go_sem]
   exact zg (.p (.int .i64 1)) rfl (by simp[go_sem,zf,leA]) ⟨rfl,by rw[Wx,if_neg h,if_pos h2]⟩
  ·simp[go_sem]
   exact zg (.p (.int .i64 0)) rfl (by simp[go_sem,zf,leA]) ⟨rfl,by rw[Wx,if_neg h,if_neg h2]⟩
theorem Ua [Gi](s t:Span):CR Tryz.prog 114 [] [.p (z8 s),.p (z8 t)] [] (is (.p (.int .i64 (Wx s.f t.f)))):=by
 refine zm mixed 5 [] Tryz.func114 rfl (by kernel_rfl) rfl (by simp) (by simp) ?_
 simp[go_sem,Tryz.f114,z8]
 refine⟨⟨rfl,by simp[Tryz.f115]⟩,zb [] (YM s.f t.f) (by simp[go_sem]) ⟨by simp[go_sem],by simp[go_sem]⟩ (by simp[go_sem]) ?_⟩
 rintro _ rs ⟨rfl,rfl⟩
 simp[go_sem]
 exact zg (.p (.int .i64 (Wx s.f t.f))) rfl (by simp[go_sem,zf,leA]) ⟨rfl,rfl⟩
def byV:PV:=.opq (.func (.func 114) #[] #[])
def Up(l:List Span):Prop:=∀(i j:Nat) (x y:Span),i≤j→l[i]?=some x→l[j]?=some y→x.f≤y.f
theorem Up.cmp {l:List Span}(h:Up l) {i j:Nat}(hij:i≤j)(hi:i<l.length)(hj:j<l.length):¬Wx l[j].f l[i].f<0:=by
 have:=h i j l[i] l[j] hij (List.getElem?_eq_getElem hi) (List.getElem?_eq_getElem hj)
 unfold Wx
 rw[if_neg (by omega)]
 split<;>omega
theorem Ut [Gi](l:List Span)(i j:Nat)(n:Int)(hU:Up l)(hij:i≤j)(hj:j<l.length):CR Tryz.prog 234 [[0]] [.p (zK l),.p (.int .i64 i),.p (.int .i64 j),.lp [0] 0,.p byV] [([0],[.p (.int .i64 n)])]
  (fun x rs=>x=.tup [.p (.int .i64 i),.p (.int .i64 j)]∧rs=[([0],[.p (.int .i64 n)])]):=by
 have hi:i<l.length:=by omega
 have m1:=zq z8 l i hi
 have m2:=zq z8 l j hj
 have hc:=hU.cmp hij hi hj
 refine zm mixed 12 [] Tryz.func234 rfl (by kernel_rfl) rfl (by simp) (by simp) ?_
 simp[go_sem,Tryz.f234,zK,byV,m1,m2,hi,hj,z8]
 refine⟨⟨rfl,by simp[Tryz.f114]⟩,zb [] (Ua l[j] l[i]) (by simp[go_sem,zD]) ⟨by simp[go_sem],by simp[go_sem,z8]⟩ (by simp[go_sem]) ?_⟩
 rintro _ rs ⟨rfl,rfl⟩
 simp[go_sem,hc]
 exact zl [[0]] (.tup [.p (.int .i64 i),.p (.int .i64 j)]) ⟨rfl,by simp⟩ (by simp[go_sem,zf,leA,leT,leP]) ⟨rfl,by simp[go_sem]⟩
theorem zaa [Gi](l:List Span)(i j k:Nat)(n:Int)(hU:Up l)(hij:i≤j)(hjk:j≤k)(hk:k<l.length):CR Tryz.prog 225 [[0]] [.p (zK l),.p (.int .i64 i),.p (.int .i64 j),.p (.int .i64 k),.lp [0] 0,.p byV] [([0],[.p (.int .i64 n)])]
  (fun x rs=>x=.p (.int .i64 j)∧rs=[([0],[.p (.int .i64 n)])]):=by
 refine zm mixed 14 [] Tryz.func225 rfl (by kernel_rfl) rfl (by simp) (by simp) ?_
 simp[go_sem,Tryz.f225]
 refine⟨⟨rfl,by simp[Tryz.f234]⟩,zb [([0],[0])] (Ut l i j n hU hij (by omega)) (by simp[go_sem,zD]) ⟨by simp[go_sem],by simp[go_sem]⟩ (by simp[go_sem]) ?_⟩
 rintro _ rs ⟨rfl,rfl⟩
 simp[go_sem]
 refine⟨⟨rfl,by simp[Tryz.f234]⟩,zb [([0],[0])] (Ut l j k n hU hjk hk) (by simp[go_sem,zD]) ⟨by simp[go_sem],by simp[go_sem]⟩ (by simp[go_sem]) ?_⟩
 rintro _ rs ⟨rfl,rfl⟩
 simp[go_sem]
 refine⟨⟨rfl,by simp[Tryz.f234]⟩,zb [([0],[0])] (Ut l i j n hU hij (by omega)) (by simp[go_sem,zD]) ⟨by simp[go_sem],by simp[go_sem]⟩ (by simp[go_sem]) ?_⟩
 rintro _ rs ⟨rfl,rfl⟩
 simp[go_sem]
 exact zl [[0]] (.p (.int .i64 j)) ⟨rfl,by simp⟩ (by simp[go_sem,zf,leA,leT]) ⟨rfl,by simp[go_sem]⟩
theorem wO [Gi](l:List Span)(i:Nat)(n:Int)(hU:Up l)(hi:1≤i)(hk:i+1<l.length)(hn:l.length<2^31):CR Tryz.prog 224 [[0]] [.p (zK l),.p (.int .i64 i),.lp [0] 0,.p byV] [([0],[.p (.int .i64 n)])]
  (fun x rs=>x=.p (.int .i64 i)∧rs=[([0],[.p (.int .i64 n)])]):=by
 have w1:IntKind.i64.wrap ((i:Int)-1)=((i-1:Nat):Int):=by rw[wrap64 (by omega) (by omega)];omega
 have w2:IntKind.i64.wrap ((i:Int)+1)=((i+1:Nat):Int):=by rw[wrap64 (by omega) (by omega)];omega
 refine zm mixed 9 [] Tryz.func224 rfl (by kernel_rfl) rfl (by simp) (by simp) ?_
 simp[go_sem,Tryz.f224,w1,w2]
 refine⟨⟨rfl,by simp[Tryz.f225]⟩,zb [([0],[0])] (zaa l (i-1) i (i+1) n hU (by omega) (by omega) hk) (by simp[go_sem,zD]) ⟨by simp[go_sem],by simp[go_sem]⟩ (by simp[go_sem]) ?_⟩
 rintro _ rs ⟨rfl,rfl⟩
 simp[go_sem]
 exact zl [[0]] (.p (.int .i64 i)) ⟨rfl,by simp⟩ (by simp[go_sem,zf,leA,leT]) ⟨rfl,by simp[go_sem]⟩
end Go.Proofs.YtjefahhmkcfiiaaGreat
end
