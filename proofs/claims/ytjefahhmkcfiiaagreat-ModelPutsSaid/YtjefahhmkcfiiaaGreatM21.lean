/- A part of the proof of this seat's statements, by an abstract machine: what each operation does to values, and what the law's functions compute. Conditions: as each law says. -/
import Derived.Test.YtjefahhmkcfiiaaGreatM20
import Derived.Test.YtjefahhmkcfiiaaGreatM19
section
namespace Go.AM
def frz(g:Gh)(w:World)(rt:Tok→Bool):Gh:=
 ⟨fun b=>match g.K b with
  |.root t=>if rt t then g.fr b else frW w b
  |_=>g.fr b,(g.fil rt ftt).K⟩
theorem frz_fr_kept {g:Gh} {w:World} {rt:Tok→Bool} {b:Nat}(h:∀t,g.K b=.root t→rt t=true):(frz g w rt).fr b=g.fr b:=by
 simp only[frz]
 split
 ·rename_i t e;rw[if_pos (h t e)]
 ·rfl
theorem frz_fr_gone {g:Gh} {w:World} {rt:Tok→Bool} {b:Nat} {t:Tok}(h:g.K b=.root t)(ht:rt t=false):(frz g w rt).fr b=frW w b:=by
 simp only[frz,h,ht,Bool.false_eq_true,if_false]
theorem frz_ext [Gi] {g:Gh} {w:World} {rs:List (Tok×List AV)}(hG:GS g w rs)(rt:Tok→Bool):Ext g.fr w (frz g w rt).fr w:=fun b o ho=>by
 refine⟨?_,rfl,rfl⟩
 by_cases h:∃t,g.K b=.root t
 ·obtain⟨t,ht⟩:=h
  obtain⟨_,_,h0,_⟩:=hG.roots b t ht
  omega
 ·rw[frz_fr_kept (fun t e=>absurd ⟨t,e⟩ h)]
  exact ho
theorem frz_keep [Gi] {g:Gh} {w:World} {rs:List (Tok×List AV)}(hG:GS g w rs)(rt:Tok→Bool):Keep g w (frz g w rt) w rt ftt:=
 ⟨frz_ext hG rt,fun b t ht hk=>⟨Gh.fil_root.2 ⟨hk,ht⟩,fun _ h=>h⟩,fun b t ht hk=>⟨Gh.fil_tail.2 ⟨hk,ht⟩,frz_fr_kept (fun u e=>by rw[hk]at e;cases e),rfl⟩⟩
def keepF(rt:Tok→Bool)(rs:List (Tok×List AV)):List (Tok×List AV):=(rs.filter fun x=>rt x.1).map fun x=>(x.1,x.2.map (AV.upd (fil rt ftt)))
theorem lookT_keepF {rt:Tok→Bool} {t:Tok}(ht:rt t=true):∀{rs:List (Tok×List AV)} {cs:List AV},lookT rs t=some cs→lookT (keepF rt rs) t=some (cs.map (AV.upd (fil rt ftt)))
 | [],_,h=>by simp[lookT]at h
 |(k,y)::l,cs,h=>by
  simp only[lookT]at h
  split at h
  ·rename_i e
   injection h with h
   subst e;subst h
   simp[keepF,ht,lookT]
  ·rename_i e
   have ih:=lookT_keepF ht h
   unfold keepF at ih⊢
   rw[List.filter_cons]
   split
   ·simp only[List.map_cons,lookT,if_neg e];exact ih
   ·exact ih
theorem frz_GS [Gi] {g:Gh} {w:World} {rs:List (Tok×List AV)}(hG:GS g w rs)(rt:Tok→Bool):GS (frz g w rt) w (keepF rt rs):=by
 have k:=frz_keep hG rt
 refine⟨fun b t hk=>?_,fun b b' t hk hk'=>hG.ur b b' t (Gh.fil_root.1 hk).1 (Gh.fil_root.1 hk').1,fun b b' t hk hk'=>hG.ut b b' t (Gh.fil_tail.1 hk).1 (Gh.fil_tail.1 hk').1,fun b hb=>hG.own b ?_,fun b hb=>?_,fun b arr e=>?_⟩
 ·obtain⟨hk1,ht⟩:=Gh.fil_root.1 hk
  obtain⟨cs,hl,h0,arr,T,hb,hle,hc⟩:=hG.roots b t hk1
  refine⟨cs.map (AV.upd (fil rt ftt)),lookT_keepF ht hl,?_,arr,T,hb,by simpa using hle,fun j x hj=>?_⟩
  ·rw[frz_fr_kept (fun u e=>by rw[hk1]at e;injection e with e;subst e;exact ht)];exact h0
  ·simp only[List.getElem?_map,Option.map_eq_some_iff]at hj
   obtain⟨y,hy,rfl⟩:=hj
   obtain⟨v,hv,h1,r⟩:=hc j y hy
   exact⟨v,hv,h1,RepA.upd k _ _ r⟩
 ·intro e;apply hb;show(g.K b).fil rt ftt=.prot;rw[e];rfl
 ·have:g.K b=.prot:=by
   rcases h:g.K b with _|t|t
   ·rfl
   all_goals exact absurd (hG.own b (by rw[h];simp)) (by omega)
  rw[frz_fr_kept (fun t e=>by rw[this]at e;cases e)]
  exact hG.frb b hb
 ·obtain⟨h1,h2⟩:=hG.gl b arr e
  exact⟨by show(g.K b).fil rt ftt=.prot;rw[h1];rfl,h2⟩
def FrzOf [Gi](rt:Tok→Bool)(rs:List (Tok×List AV))(x x':AV):Prop:=∀g w v,GS g w rs→RepA g w x v→RepA (frz g w rt) w x' v
theorem CR.freeze [Gi] {P:Program} {f:FuncId} {pin:List Tok} {args:List AV} {rs:List (Tok×List AV)} {R R':AV→List (Tok×List AV)→Prop}(h:CR P f pin args rs R)(rt:Tok→Bool)(hp:pin.all rt=true)
  (hr:∀x rs',R x rs'→∃x',FrzOf rt rs' x x'∧R' x' (keepF rt rs')):CR P f pin args rs R':=by
 intro w g vs h1 h2
 refine(h w g vs h1 h2).mono ?_
 rintro e w' ⟨v,x,rs',g',rfl,hR,hx,hG,hA⟩
 obtain⟨x',hf,hR'⟩:=hr x rs' hR
 refine⟨v,x',_,frz g' w' rt,rfl,hR',hf g' w' v hG hx,frz_GS hG rt,⟨fun b hb hk=>?_,hA.ext.trans (frz_ext hG rt),hA.out,hA.mono,fun b t hk ht=>?_⟩⟩
 ·obtain⟨a1,a2,a3⟩:=hA.frame b hb hk
  exact⟨a1,by rw[frz_fr_kept (fun t e=>by rw[a3]at e;cases e)];exact a2,by show(g'.K b).fil rt ftt=.prot;rw[a3];rfl⟩
 ·obtain⟨a1,a2⟩:=hA.pins b t hk ht
  exact⟨Gh.fil_root.2 ⟨a1,List.all_eq_true.1 hp t ht⟩,a2⟩
theorem RepL_of {fr:Nat→Nat} {w:World}:∀{ps:List PV} {vs:List Value},vs.length=ps.length→(∀(j:Nat) (p:PV),ps[j]?=some p→∃v,vs[j]?=some v∧v.oneCell'=true∧RepP fr w p v)→RepL fr w ps vs
 | [],vs,hl,_=>by simp only[RepL];exact List.eq_nil_of_length_eq_zero hl
 |p::ps,[],hl,_=>by simp at hl
 |p::ps,u::vs,hl,h=>by
  simp only[RepL]
  obtain⟨v,hv,h1,h2⟩:=h 0 p rfl
  simp at hv;subst hv
  exact⟨u,vs,rfl,h1,h2,RepL_of (by simpa using hl) fun j q hq=>by simpa using h (j+1) q (by simpa using hq)⟩
theorem frz_flatX [Gi] {g:Gh} {w:World} {rs:List (Tok×List AV)}(hG:GS g w rs) {rt:Tok→Bool} {t:Tok} {z n:Nat} {es:List PV}(ext:List AV)(h0:0<n)(hl:lookT rs t=some ((es.flatMap PV.cells).map .p++ext))(ht:rt t=false)(hn:es.length=n)
  (hz:∀e∈es,e.cells.length=z∧e.fits=true) {v:Value} (hv:RepA g w (.la t z 0 n) v):RepP (frz g w rt).fr w (.sl z es) v:=by
 simp only[RepA]at hv
 obtain⟨b,o',cap,hk,rfl,hcap,ho,hblk⟩:=hv
 obtain rfl:o'=0:=ho.resolve_left (by omega)
 obtain⟨cs,hl',hfr,arr,T,hb,hle,hc⟩:=hG.roots b t hk
 rw[hl]at hl';injection hl' with hl';subst hl'
 have hx:=frz_ext hG rt
 have hlen:(es.flatMap PV.cells).length=es.length*z:=by
  clear hl hn hle hc
  induction es with
  |nil=>simp
  |cons e es ih=>
   rw[List.flatMap_cons,List.length_append,ih (fun x hx=>hz x (by simp[hx])),(hz e (by simp)).1,List.length_cons,Nat.add_mul]
   omega
 rw[List.length_append,List.length_map,hlen]at hle
 have hfb:(frz g w rt).fr b=arr.size:=by rw[frz_fr_gone hk ht];simp[frW,hb]
 simp only[RepP]
 refine .inr ⟨b,0,cap,by rw[hn],by omega,by rw[hfb];omega,?_⟩
 refine RepE_of_flat (vs:=arr.toList.take (es.length*z)) (RepL_of (by rw[hlen];simp;omega) fun j p hj=>?_) hz (fun j u hj=>?_)
 ·obtain⟨u,h1,h2,h3⟩:=hc j (.p p) (by rw[List.getElem?_append_left (by rw[List.length_map];exact(List.getElem?_eq_some_iff.1 hj).1),List.getElem?_map,hj];rfl)
  have hjl:j<es.length*z:=by rw[←hlen];exact(List.getElem?_eq_some_iff.1 hj).1
  simp only[RepA]at h3
  exact⟨u,by rw[List.getElem?_take,if_pos hjl];simpa using h1,h2,h3.ext hx⟩
 ·rw[List.getElem?_take]at hj
  split at hj
  ·rw[cell_of_cells hb,Nat.zero_add];simpa using hj
  ·cases hj
theorem frz_flat [Gi] {g:Gh} {w:World} {rs:List (Tok×List AV)}(hG:GS g w rs) {rt:Tok→Bool} {t:Tok} {z n:Nat} {es:List PV}(h0:0<n)(hl:lookT rs t=some ((es.flatMap PV.cells).map .p))(ht:rt t=false)(hn:es.length=n)
  (hz:∀e∈es,e.cells.length=z∧e.fits=true) {v:Value} (hv:RepA g w (.la t z 0 n) v):RepP (frz g w rt).fr w (.sl z es) v:=
 frz_flatX hG [] h0 (by simpa using hl) ht hn hz hv
end Go.AM
end
section
namespace Go.AM
@[go_sem] theorem allP_map (l : List PV) : allP (l.map .p) = some l := by
 induction l with
 |nil=>rfl
 |cons x l ih=>simp[allP,ih]
@[go_sem] theorem upd_fil_p (rt tt : Tok → Bool) : (AV.upd (fil rt tt) ∘ AV.p) = AV.p := rfl
@[go_sem] theorem upd_fz_p (t : Tok) (ks xs : List PV) : (AV.upd (AM.fz t ks xs) ∘ AV.p) = AV.p := rfl
@[go_sem] theorem ren_p (f : Tok → Option Tok) : (AV.ren f ∘ AV.p) = AV.p := rfl
theorem take_mapP {l:List PV} {n:Nat}(h:l.length=n):(l.map AV.p).take n=l.map .p:=List.take_of_length_le (by simp[h])
theorem eqC_refl:∀(a:List PV),eqC a a=true
 | []=>by simp[eqC]
 |x::xs=>by cases x<;>simp[eqC,eqC_refl xs]
theorem findP_none_iff {kc:List Kc} {key:List PV}(hk:okC kc key=true):∀{ks xs:List PV} {i:Nat},ks.all (fun k=>okC kc k.cells)=true→ks.length=xs.length→(findP key ks xs i=none↔∀k∈ks,k.cells≠key)
 | [],[],i,_,_=>by simp[findP]
 | [],x::xs,i,_,h=>by simp at h
 |k::ks,[],i,_,h=>by simp at h
 |k::ks,x::xs,i,h1,h2=>by
  simp only[List.all_cons,Bool.and_eq_true]at h1
  unfold findP
  by_cases hc:eqC key k.cells=true
  ·rw[if_pos hc]
   have:=eqC_eq hk h1.1 hc
   simp[this]
  ·rw[if_neg hc,findP_none_iff hk h1.2 (by simpa using h2)]
   have hne:k.cells≠key:=fun e=>hc (by rw[e];exact eqC_refl _)
   simp[hne]
theorem findP_some {kc:List Kc} {key:List PV}(hk:okC kc key=true):∀{ks xs:List PV} {i j:Nat} {x:PV},ks.all (fun k=>okC kc k.cells)=true→findP key ks xs i=some (j,x)→i≤j∧∃k,ks[j-i]?=some k∧k.cells=key∧xs[j-i]?=some x
 | [],xs,i,j,x,_,h=>by simp[findP]at h
 |k::ks,[],i,j,x,_,h=>by simp[findP]at h
 |k::ks,y::xs,i,j,x,h1,h=>by
  simp only[List.all_cons,Bool.and_eq_true]at h1
  unfold findP at h
  by_cases hc:eqC key k.cells=true
  ·rw[if_pos hc]at h
   injection h with h;injection h with e1 e2;subst e1;subst e2
   exact⟨Nat.le_refl _,k,by simp,(eqC_eq hk h1.1 hc).symm,by simp⟩
  ·rw[if_neg hc]at h
   obtain⟨h2,k',h3,h4,h5⟩:=findP_some hk h1.2 h
   have e:j-i=(j- (i+1))+1:=by omega
   exact⟨by omega,k',by rw[e];simpa using h3,h4,by rw[e];simpa using h5⟩
def St.upd2(S:St)(vs:List (Nat×AV))(rs:List (Tok×List AV)):St:={S with vs:=vs.foldl (fun l x=>putL l x.1 x.2) S.vs,ts:=[],rs:=rs.foldl (fun l x=>putT l x.1 x.2) S.rs}
attribute [go_sem] St.upd2
theorem wpA_loopU [Gi] {P:Program} {D:List Nat} {c:Code} {Q:Exit→St→Prop} {S:St} {ι:Type}(inv:ι→Prop)(V:ι→List (Nat×AV))(R:ι→List (Tok×List AV))(m:ι→Nat)(i:ι)(hi:inv i)(h0:LeS S (S.upd2 (V i) (R i)))
  (h:∀i,inv i→wpA P D c (LoopK inv (fun i=>S.upd2 (V i) (R i)) m i Q) (S.upd2 (V i) (R i))):wpA P D (.loop c) Q S:=
 wpA_loop inv (fun i=>S.upd2 (V i) (R i)) m i hi h0 h
def St.upd3(S:St)(vs:List (Nat×AV))(rs:List (Tok×List AV))(ts:List (Nat×AV)):St:={S with vs:=vs.foldl (fun l x=>putL l x.1 x.2) S.vs,ts:=ts,rs:=rs.foldl (fun l x=>putT l x.1 x.2) S.rs}
attribute [go_sem] St.upd3
def JoinU {ι:Type}(S:St)(inv:ι→Prop)(V:ι→List (Nat×AV))(R:ι→List (Tok×List AV))(Q:Exit→St→Prop):Exit→St→Prop:=fun e S'=>match e with|.normal=>∃i ts,inv i∧S'=S.upd3 (V i) (R i) ts|e=>Q e S'
@[go_sem] theorem JoinU_exit {ι : Type} {S : St} {inv : ι → Prop} {V : ι → List (Nat × AV)} {R : ι → List (Tok × List AV)} {Q : Exit → St → Prop} {S' : St} {k : Nat} : JoinU S inv V R Q (.exit k) S' = Q (.exit k) S' := rfl
@[go_sem] theorem JoinU_ret {ι : Type} {S : St} {inv : ι → Prop} {V : ι → List (Nat × AV)} {R : ι → List (Tok × List AV)} {Q : Exit → St → Prop} {S' : St} : JoinU S inv V R Q .ret S' = Q .ret S' := rfl
theorem JoinU_in {ι:Type} {S:St} {inv:ι→Prop} {V:ι→List (Nat×AV)} {R:ι→List (Tok×List AV)} {Q:Exit→St→Prop} {S':St}(i:ι)(hi:inv i)(h:S'=S.upd3 (V i) (R i) S'.ts):JoinU S inv V R Q .normal S':=⟨i,_,hi,h⟩
theorem condK_joinU [Gi] {P:Program} {D:List Nat} {x y rest:Code} {Q:Exit→St→Prop} {S:St} {v:AV} {ι:Type}(inv:ι→Prop)(V:ι→List (Nat×AV))(R:ι→List (Tok×List AV))(h:condK P D x y (JoinU S inv V R Q) S v)
  (hr:∀i ts,inv i→wpA P D rest Q (S.upd3 (V i) (R i) ts)):condK P D x y (SeqK P D rest Q) S v:=by
 have hq:∀e S',JoinU S inv V R Q e S'→SeqK P D rest Q e S':=fun e S' h=>by
  cases e with
  |normal=>obtain⟨i,ts,hi,rfl⟩:=h;exact hr i ts hi
  |_=>exact h
 unfold condK at h⊢
 split at h
 ·exact⟨fun e=>wpA_mono x hq (h.1 e),fun e=>wpA_mono y hq (h.2 e)⟩
 ·exact h.elim
end Go.AM
end
section
namespace Go.Proofs.YtjefahhmkcfiiaaGreat
open Go.AM
theorem wrapN [Gi] {x:Nat}(h:x<2^50):IntKind.i64.wrap (x:Int)=(x:Int):=wrap64 (by omega) (by omega)
theorem wrapuN [Gi] {x:Nat}(h:x<2^50):IntKind.u64.wrap (x:Int)=(x:Int):=by simp[IntKind.wrap,IntKind.signed,IntKind.bits];omega
theorem wrapN_add [Gi] {x y z:Nat}(h:z<2^50)(e:z=x+y):IntKind.i64.wrap ((x:Int)+y)=(z:Int):=by rw[wrap64 (by omega) (by omega)];omega
theorem wrapN_sub [Gi] {x y z:Nat}(h:x<2^50)(e:x=z+y):IntKind.i64.wrap ((x:Int)-y)=(z:Int):=by rw[wrap64 (by omega) (by omega)];omega
theorem wrapN_one [Gi] {x:Nat}(h:x<2^50):IntKind.i64.wrap ((x:Int)+1)=((x+1:Nat):Int):=by rw[wrap64 (by omega) (by omega)];rfl
theorem wrapN_pred [Gi] {x z:Nat}(h:x<2^50)(e:x=z+1):IntKind.i64.wrap ((x:Int)-1)=(z:Int):=by rw[wrap64 (by omega) (by omega)];omega
theorem half_fdiv {x y:Nat}(e:y=x/2):(x:Int).fdiv 2=(y:Int):=by rw[Int.fdiv_eq_ediv_of_nonneg _ (by omega)];omega
theorem wrapR {x:Int}(h: -2147483648≤x∧x<2147483648):IntKind.i32.wrap x=x:=by simp[IntKind.wrap,IntKind.signed,IntKind.bits];omega
theorem wrapR64 [Gi] {x:Int}(h: -2147483648≤x∧x<2147483648):IntKind.i64.wrap x=x:=wrap64 (by omega) (by omega)
def i32s(l:List Int):List PV:=l.map fun r=>.int .i32 r
end Go.Proofs.YtjefahhmkcfiiaaGreat
end
section
namespace Go.Proofs.YtjefahhmkcfiiaaGreat
open Go.AM
set_option maxHeartbeats 4000000
set_option maxRecDepth 10000
def rowB(k r:Int)(x:Row):Bool:=decide (x.k=k)&&decide (x.f≤r)&&decide (r≤x.t)
def rowAt(l:List Row)(k r:Int):Option Row:=if r<0∨1114111<r then none else l.find? (rowB k r)
def FindR(l:List Row)(k r j:Int):Prop:=(j= -1∧rowAt l k r=none)∨∃(i:Nat) (h:i<l.length),j=(i:Int)∧rowAt l k r=some l[i]
theorem findD_cr [Gi](l:List Row)(k r:Int)(hn:l.length<2^31):CR Tryz.prog 175 [] [.p (rowsP l),.p (.int .i64 k),.p (.int .i64 r)] [] (fun x rs=>rs=[]∧∃j,x=.p (.int .i64 j)∧FindR l k r j):=by
 refine CR_of_wp mixed 8 [] Tryz.func175 rfl (by kernel_rfl) rfl (by simp) (by simp) ?_
 by_cases h0:r<0
 ·simp[go_sem,Tryz.f175,h0]
  exact ret_is (.p (.int .i64 (-1))) rfl (by simp[go_sem,resOf,leA,leT,leP]) ⟨rfl, -1,rfl,.inl ⟨rfl,if_pos (.inl h0)⟩⟩
 by_cases h1:1114111<r
 ·simp[go_sem,Tryz.f175,h0,h1]
  exact ret_is (.p (.int .i64 (-1))) rfl (by simp[go_sem,resOf,leA,leT,leP]) ⟨rfl, -1,rfl,.inl ⟨rfl,if_pos (.inr h1)⟩⟩
 have hR:rowAt l k r=l.find? (rowB k r):=if_neg (by omega)
 simp (maxSteps:=1000000) [go_sem,Tryz.f175,h0,h1,rowsP]
 refine wpA_loopU (fun i:Nat=>i≤l.length∧l.find? (rowB k r)=(l.drop i).find? (rowB k r)) (fun i=>[(7,.p (.int .i64 (i:Nat)))]) (fun _=>[]) (fun i=>l.length-i) 0 ⟨by omega,rfl⟩ (by simp[go_sem,LeS,leV,leR,leA,leL]) (fun i hi=>?_)
 obtain⟨hi,hf⟩:=hi
 simp (maxSteps:=1000000) [go_sem]
 refine condK_if (fun h=>?_) (fun h=>?_)
 ·have hil:i<l.length:=by omega
  have em:=elemAt_map rowP l i hil
  have w1:IntKind.i64.wrap ((i:Int)+1)=((i+1:Nat):Int):=by rw[wrap64 (by omega) (by omega)];rfl
  have hd:l.drop i=l[i]::l.drop (i+1):=List.drop_eq_getElem_cons hil
  rw[hd,List.find?_cons]at hf
  have hsome:rowB k r l[i]=true→rowAt l k r=some l[i]:=fun h2=>by rw[hR,hf,h2]
  have hnext:rowB k r l[i]=false→l.find? (rowB k r)=(l.drop (i+1)).find? (rowB k r):=fun h2=>by rw[hf,h2]
  obtain⟨x,hx⟩:∃x,x=l[i]:=⟨_,rfl⟩
  rw[←hx]at em hsome hnext
  by_cases c1:x.k=k
  ·by_cases c2:x.f≤r
   ·by_cases c3:r≤x.t
    ·have hb:rowB k r x=true:=by simp[rowB,c1,c2,c3]
     simp (maxSteps:=1000000) [go_sem,em,hil,rowP,c1,c2,c3]
     exact ret_is (.p (.int .i64 i)) rfl (by simp[go_sem,resOf,leA,leT,leP]) ⟨rfl,i,rfl,.inr ⟨i,hil,rfl,by rw[hsome hb,hx]⟩⟩
    ·have hb:rowB k r x=false:=by simp[rowB,c3]
     simp (maxSteps:=1000000) [go_sem,em,hil,rowP,c1,c2,c3,w1]
     exact LoopK_next (i+1) ⟨by omega,hnext hb⟩ (by simp[go_sem,LeS,leV,leR,leA,leL]) (by omega)
   ·have hb:rowB k r x=false:=by simp[rowB,c2]
    simp (maxSteps:=1000000) [go_sem,em,hil,rowP,c1,c2,w1]
    exact LoopK_next (i+1) ⟨by omega,hnext hb⟩ (by simp[go_sem,LeS,leV,leR,leA,leL]) (by omega)
  ·have hb:rowB k r x=false:=by simp[rowB,c1]
   simp (maxSteps:=1000000) [go_sem,em,hil,rowP,c1,w1]
   exact LoopK_next (i+1) ⟨by omega,hnext hb⟩ (by simp[go_sem,LeS,leV,leR,leA,leL]) (by omega)
 ·have hil:i=l.length:=by omega
  subst hil
  simp (maxSteps:=1000000) [go_sem]
  exact ret_is (.p (.int .i64 (-1))) rfl (by simp[go_sem,resOf,leA,leT,leP]) ⟨rfl, -1,rfl,.inl ⟨rfl,by rw[hR,hf];simp⟩⟩
def aL(l:List Row)(k r:Int):Int:=match rowAt l k r with
 |some x=>x.a
 |none=>0
theorem aD_cr [Gi](l:List Row)(k r:Int)(hn:l.length<2^31):CR Tryz.prog 132 [] [.p (rowsP l),.p (.int .i64 k),.p (.int .i64 r)] [] (is (.p (.int .i64 (aL l k r)))):=by
 refine CR_of_wp mixed 8 [] Tryz.func132 rfl (by kernel_rfl) rfl (by simp) (by simp) ?_
 simp[go_sem,Tryz.f132]
 refine⟨⟨rfl,by simp[Tryz.f175]⟩,CallK_of [] (findD_cr l k r hn) (by simp[go_sem,notHead]) ⟨by simp[go_sem],by simp[go_sem]⟩ (by simp[go_sem]) ?_⟩
 rintro _ rs ⟨rfl,j,rfl,hj⟩
 rcases hj with ⟨rfl,hj⟩|⟨i,hi,rfl,hj⟩
 ·have e:aL l k r=0:=by unfold aL;rw[hj]
  rw[e]
  simp (maxSteps:=1000000) [go_sem]
  exact ret_is (.p (.int .i64 0)) rfl (by simp[go_sem,resOf,leA,leT,leP]) ⟨rfl,rfl⟩
 ·have e:aL l k r=l[i].a:=by unfold aL;rw[hj]
  rw[e]
  have em:=elemAt_map rowP l i hi
  generalize l[i]=x at em
  have h0:¬((i:Int)<0):=by omega
  simp (maxSteps:=1000000) [go_sem,em,hi,rowsP,rowP,h0]
  exact ret_is (.p (.int .i64 x.a)) rfl (by simp[go_sem,resOf,leA,leT,leP]) ⟨rfl,rfl⟩
theorem ofD_cr [Gi](l:List Row)(k r:Int)(hn:l.length<2^31)(hr: -2147483648≤r∧r<2147483648):CR Tryz.prog 80 [] [.p (rowsP l),.p (.int .i64 k),.p (.int .i32 r)] [] (is (.p (.int .i64 (aL l k r)))):=by
 refine CR_of_wp mixed 7 [] Tryz.func80 rfl (by kernel_rfl) rfl (by simp) (by simp) ?_
 have w1:IntKind.i64.wrap r=r:=wrap64 (by omega) (by omega)
 simp[go_sem,Tryz.f80,w1]
 refine⟨⟨rfl,by simp[Tryz.f132]⟩,CallK_of [] (aD_cr l k r hn) (by simp[go_sem,notHead]) ⟨by simp[go_sem],by simp[go_sem,w1]⟩ (by simp[go_sem]) ?_⟩
 rintro _ rs ⟨rfl,rfl⟩
 simp[go_sem]
 exact ret_is (.p (.int .i64 (aL l k r))) rfl (by simp[go_sem,resOf,leA,leT,leP]) ⟨rfl,rfl⟩
theorem classD_cr [Gi](l:List Row)(r:Int)(hn:l.length<2^31)(hr: -2147483648≤r∧r<2147483648):CR Tryz.prog 176 [] [.p (rowsP l),.p (.int .i32 r)] [] (is (.p (.int .i64 (aL l 1 r)))):=by
 refine CR_of_wp mixed 5 [] Tryz.func176 rfl (by kernel_rfl) rfl (by simp) (by simp) ?_
 simp[go_sem,Tryz.f176]
 refine⟨⟨rfl,by simp[Tryz.f80]⟩,CallK_of [] (ofD_cr l 1 r hn hr) (by simp[go_sem,notHead]) ⟨by simp[go_sem],by simp[go_sem]⟩ (by simp[go_sem]) ?_⟩
 rintro _ rs ⟨rfl,rfl⟩
 simp[go_sem]
 exact ret_is (.p (.int .i64 (aL l 1 r))) rfl (by simp[go_sem,resOf,leA,leT,leP]) ⟨rfl,rfl⟩
end Go.Proofs.YtjefahhmkcfiiaaGreat
end
section
namespace Go.Proofs.YtjefahhmkcfiiaaGreat
open Go.AM
set_option maxHeartbeats 1000000
set_option maxRecDepth 10000
def apiRows:List Row:=classesL++pairsL++outsL++breaksL++pictsL++conjsL++widesL++lettersL
theorem rows_of [Gi](a b c d e f g h:List Row)(c0:CR Tryz.prog 57 [] [] [] (is (.p (rowsP a))))(c1:CR Tryz.prog 58 [] [] [] (is (.p (rowsP b))))(c2:CR Tryz.prog 59 [] [] [] (is (.p (rowsP c))))(c3:CR Tryz.prog 60 [] [] [] (is (.p (rowsP d))))(c4:CR Tryz.prog 61 [] [] [] (is (.p (rowsP e))))(c5:CR Tryz.prog 62 [] [] [] (is (.p (rowsP f))))(c6:CR Tryz.prog 63 [] [] [] (is (.p (rowsP g))))(c7:CR Tryz.prog 64 [] [] [] (is (.p (rowsP h))))(l0:a.length≤200)(l1:b.length≤200)(l2:c.length≤200)(l3:d.length≤200)(l4:e.length≤200)(l5:f.length≤200)(l6:g.length≤200)(l7:h.length≤200):
  CR Tryz.prog 16 [] [] [] (is (.p (rowsP (a++b++c++d++e++f++g++h)))):=by
 refine CR_of_wp mixed 2 [] Tryz.func16 rfl (by kernel_rfl) rfl (by simp) (by simp) ?_
 simp (disch:=omega) [go_sem,Tryz.f16]
 refine⟨⟨rfl,by simp[Tryz.f57]⟩,CallK_of [] c0 (by simp[go_sem]) ⟨by simp[go_sem],by simp[go_sem]⟩ (by simp[go_sem]) ?_⟩
 rintro y rs ⟨rfl,rfl⟩
 simp (disch:=omega) [go_sem,rowsP]
 refine⟨by omega,⟨rfl,by simp[Tryz.f58]⟩,CallK_of [] c1 (by simp[go_sem]) ⟨by simp[go_sem],by simp[go_sem]⟩ (by simp[go_sem]) ?_⟩
 rintro y rs ⟨rfl,rfl⟩
 simp (disch:=omega) [go_sem,rowsP]
 refine⟨by omega,⟨rfl,by simp[Tryz.f59]⟩,CallK_of [] c2 (by simp[go_sem]) ⟨by simp[go_sem],by simp[go_sem]⟩ (by simp[go_sem]) ?_⟩
 rintro y rs ⟨rfl,rfl⟩
 simp (disch:=omega) [go_sem,rowsP]
 refine⟨by omega,⟨rfl,by simp[Tryz.f60]⟩,CallK_of [] c3 (by simp[go_sem]) ⟨by simp[go_sem],by simp[go_sem]⟩ (by simp[go_sem]) ?_⟩
 rintro y rs ⟨rfl,rfl⟩
 simp (disch:=omega) [go_sem,rowsP]
 refine⟨by omega,⟨rfl,by simp[Tryz.f61]⟩,CallK_of [] c4 (by simp[go_sem]) ⟨by simp[go_sem],by simp[go_sem]⟩ (by simp[go_sem]) ?_⟩
 rintro y rs ⟨rfl,rfl⟩
 simp (disch:=omega) [go_sem,rowsP]
 refine⟨by omega,⟨rfl,by simp[Tryz.f62]⟩,CallK_of [] c5 (by simp[go_sem]) ⟨by simp[go_sem],by simp[go_sem]⟩ (by simp[go_sem]) ?_⟩
 rintro y rs ⟨rfl,rfl⟩
 simp (disch:=omega) [go_sem,rowsP]
 refine⟨by omega,⟨rfl,by simp[Tryz.f63]⟩,CallK_of [] c6 (by simp[go_sem]) ⟨by simp[go_sem],by simp[go_sem]⟩ (by simp[go_sem]) ?_⟩
 rintro y rs ⟨rfl,rfl⟩
 simp (disch:=omega) [go_sem,rowsP]
 refine⟨by omega,⟨rfl,by simp[Tryz.f64]⟩,CallK_of [] c7 (by simp[go_sem]) ⟨by simp[go_sem],by simp[go_sem]⟩ (by simp[go_sem]) ?_⟩
 rintro y rs ⟨rfl,rfl⟩
 simp (disch:=omega) [go_sem,rowsP]
 exact⟨by omega,ret_is (.p (rowsP (a++b++c++d++e++f++g++h))) rfl (by simp[go_sem,resOf,leA,rowsP]) ⟨rfl,by simp[rowsP]⟩⟩
theorem rows_cr [Gi]:CR Tryz.prog 16 [] [] [] (is (.p (rowsP apiRows))):=
 rows_of _ _ _ _ _ _ _ _ classes_cr pairs_cr outs_cr breaks_cr picts_cr conjs_cr wides_cr letters_cr (by decide) (by decide) (by decide) (by decide) (by decide) (by decide) (by decide) (by decide)
def runesP(l:List Int):PV:=.sl 1 (l.map fun r=>.int .i32 r)
theorem few_cr [Gi](l:List Int)(n:Nat)(hn:n<2^31):CR Tryz.prog 15 [] [.p (runesP l),.p (.int .i64 n)] [] (is (.p (runesP (l.take n)))):=by
 refine CR_of_wp mixed 5 [] Tryz.func15 rfl (by kernel_rfl) rfl (by simp) (by simp) ?_
 simp (disch:=omega) [go_sem,Tryz.f15,runesP]
 refine condK_if (fun h=>?_) (fun h=>?_)
 ·simp (disch:=omega) [go_sem]
  exact⟨by omega,ret_is (.p (.sl 1 ((l.take n).map fun r=>PV.int .i32 r))) rfl (by simp[go_sem,resOf,leA,cut,List.map_take]) ⟨rfl,by simp⟩⟩
 ·simp (disch:=omega) [go_sem]
  exact ret_is (.p (.sl 1 (l.map fun r=>PV.int .i32 r))) rfl (by simp[go_sem,resOf,leA]) ⟨rfl,by rw[List.take_of_length_le (by simp;omega)]⟩
end Go.Proofs.YtjefahhmkcfiiaaGreat
end
section
namespace Go.Proofs.YtjefahhmkcfiiaaGreat
open Go.AM
set_option maxHeartbeats 1000000
set_option maxRecDepth 10000
structure Span where
 f:Int
 t:Int
 a:Int
 b:Int
 deriving DecidableEq
def spanP(s:Span):PV:=.agg [.int .i64 s.f,.int .i64 s.t,.int .i64 s.a,.int .i64 s.b]
def spansP(l:List Span):PV:=.sl 4 (l.map spanP)
theorem rest_cr [Gi](s:Span)(l:List Span)(h0:s.f≤s.t)(hl:∀x∈l,x.t<s.f)(hn:l.length<2^31):CR Tryz.prog 116 [] [.p (spanP s),.p (spansP l)] [] (is (.p (spansP [s]))):=by
 refine CR_of_wp mixed 11 [] Tryz.func116 rfl (by kernel_rfl) rfl (by simp) (by simp) ?_
 simp (disch:=omega) [go_sem,Tryz.f116,spanP,spansP]
 refine wpA_loop (fun i:Nat=>i≤l.length) (fun i=>{n:=59,nv:=11,vs:=[(2,.lp [2] 0),(5,.os [5] 4 []),(8,.p (spansP l)),(9,.p (.int .i64 l.length)),(10,.p (.int .i64 i))],ts:=[],rs:=[([2],[.p (.int .i64 s.f),.p (.int .i64 s.t),.p (.int .i64 s.a),.p (.int .i64 s.b)])]}) (fun i=>l.length-i) 0 (by simp) (by simp[go_sem,LeS,leV,leR,leA,leL,spansP]) ?_
 intro i hi
 simp (disch:=omega) [go_sem,spansP]
 refine condK_if (fun h=>?_) (fun h=>?_)
 ·have em:=elemAt_map spanP l i h
  have hx:=hl l[i] (List.getElem_mem h)
  have w1:IntKind.i64.wrap ((i:Int)+1)=(i:Int)+1:=wrap64 (by omega) (by omega)
  generalize l[i]=x at em hx
  simp[go_sem,em,h,spanP,hx,w1]
  exact LoopK_next (i+1) (by omega) (by simp[go_sem,LeS,leV,leR,leA,leL,spansP,w1]) (by omega)
 ·simp[go_sem,h0]
  exact ret_is (.p (spansP [s])) rfl (by simp[go_sem,resOf,leA,spansP,spanP]) ⟨rfl,rfl⟩
end Go.Proofs.YtjefahhmkcfiiaaGreat
end
section
namespace Go.Proofs.YtjefahhmkcfiiaaGreat
open Go.AM
set_option maxHeartbeats 2000000
set_option maxRecDepth 10000
theorem nan_cr [Gi](x:Int):CR Tryz.prog 167 [] [.p (.int .i64 x)] [] (is (.p (.bool false))):=by
 refine CR_of_wp mixed 3 [] Tryz.func167 rfl (by kernel_rfl) rfl (by simp) (by simp) ?_
 simp[go_sem,Tryz.f167]
 exact ret_is (.p (.bool false)) rfl (by simp[go_sem,resOf,leA]) ⟨rfl,rfl⟩
def cmpI(x y:Int):Int:=if x<y then -1 else if y<x then 1 else 0
theorem compare_cr [Gi](x y:Int):CR Tryz.prog 115 [] [.p (.int .i64 x),.p (.int .i64 y)] [] (is (.p (.int .i64 (cmpI x y)))):=by
 refine CR_of_wp mixed 7 [] Tryz.func115 rfl (by kernel_rfl) rfl (by simp) (by simp) ?_
 simp[go_sem,Tryz.f115]
 refine⟨⟨rfl,by simp[Tryz.f167]⟩,CallK_of [] (nan_cr x) (by simp[go_sem]) ⟨by simp[go_sem],by simp[go_sem]⟩ (by simp[go_sem]) ?_⟩
 rintro _ rs ⟨rfl,rfl⟩
 simp[go_sem]
 refine⟨⟨rfl,by simp[Tryz.f167]⟩,CallK_of [] (nan_cr y) (by simp[go_sem]) ⟨by simp[go_sem],by simp[go_sem]⟩ (by simp[go_sem]) ?_⟩
 rintro _ rs ⟨rfl,rfl⟩
 simp[go_sem]
 refine condK_if (fun h=>?_) (fun h=>?_)
 ·simp[go_sem]
  exact ret_is (.p (.int .i64 (-1))) rfl (by simp[go_sem,resOf,leA]) ⟨rfl,by rw[cmpI,if_pos h]⟩
 ·simp[go_sem]
  refine condK_if (fun h2=>?_) (fun h2=>?_)
  ·simp[go_sem]
   exact ret_is (.p (.int .i64 1)) rfl (by simp[go_sem,resOf,leA]) ⟨rfl,by rw[cmpI,if_neg h,if_pos h2]⟩
  ·simp[go_sem]
   exact ret_is (.p (.int .i64 0)) rfl (by simp[go_sem,resOf,leA]) ⟨rfl,by rw[cmpI,if_neg h,if_neg h2]⟩
theorem byFrom_cr [Gi](s t:Span):CR Tryz.prog 114 [] [.p (spanP s),.p (spanP t)] [] (is (.p (.int .i64 (cmpI s.f t.f)))):=by
 refine CR_of_wp mixed 5 [] Tryz.func114 rfl (by kernel_rfl) rfl (by simp) (by simp) ?_
 simp[go_sem,Tryz.f114,spanP]
 refine⟨⟨rfl,by simp[Tryz.f115]⟩,CallK_of [] (compare_cr s.f t.f) (by simp[go_sem]) ⟨by simp[go_sem],by simp[go_sem]⟩ (by simp[go_sem]) ?_⟩
 rintro _ rs ⟨rfl,rfl⟩
 simp[go_sem]
 exact ret_is (.p (.int .i64 (cmpI s.f t.f))) rfl (by simp[go_sem,resOf,leA]) ⟨rfl,rfl⟩
def byV:PV:=.opq (.func (.func 114) #[] #[])
def Up(l:List Span):Prop:=∀(i j:Nat) (x y:Span),i≤j→l[i]?=some x→l[j]?=some y→x.f≤y.f
theorem Up.cmp {l:List Span}(h:Up l) {i j:Nat}(hij:i≤j)(hi:i<l.length)(hj:j<l.length):¬cmpI l[j].f l[i].f<0:=by
 have:=h i j l[i] l[j] hij (List.getElem?_eq_getElem hi) (List.getElem?_eq_getElem hj)
 unfold cmpI
 rw[if_neg (by omega)]
 split<;>omega
theorem order2_cr [Gi](l:List Span)(i j:Nat)(n:Int)(hU:Up l)(hij:i≤j)(hj:j<l.length):CR Tryz.prog 234 [[0]] [.p (spansP l),.p (.int .i64 i),.p (.int .i64 j),.lp [0] 0,.p byV] [([0],[.p (.int .i64 n)])]
  (fun x rs=>x=.tup [.p (.int .i64 i),.p (.int .i64 j)]∧rs=[([0],[.p (.int .i64 n)])]):=by
 have hi:i<l.length:=by omega
 have m1:=elemAt_map spanP l i hi
 have m2:=elemAt_map spanP l j hj
 have hc:=hU.cmp hij hi hj
 refine CR_of_wp mixed 12 [] Tryz.func234 rfl (by kernel_rfl) rfl (by simp) (by simp) ?_
 simp[go_sem,Tryz.f234,spansP,byV,m1,m2,hi,hj,spanP]
 refine⟨⟨rfl,by simp[Tryz.f114]⟩,CallK_of [] (byFrom_cr l[j] l[i]) (by simp[go_sem,notHead]) ⟨by simp[go_sem],by simp[go_sem,spanP]⟩ (by simp[go_sem]) ?_⟩
 rintro _ rs ⟨rfl,rfl⟩
 simp[go_sem,hc]
 exact ret_keep [[0]] (.tup [.p (.int .i64 i),.p (.int .i64 j)]) ⟨rfl,by simp⟩ (by simp[go_sem,resOf,leA,leT,leP]) ⟨rfl,by simp[go_sem]⟩
theorem median_cr [Gi](l:List Span)(i j k:Nat)(n:Int)(hU:Up l)(hij:i≤j)(hjk:j≤k)(hk:k<l.length):CR Tryz.prog 225 [[0]] [.p (spansP l),.p (.int .i64 i),.p (.int .i64 j),.p (.int .i64 k),.lp [0] 0,.p byV] [([0],[.p (.int .i64 n)])]
  (fun x rs=>x=.p (.int .i64 j)∧rs=[([0],[.p (.int .i64 n)])]):=by
 refine CR_of_wp mixed 14 [] Tryz.func225 rfl (by kernel_rfl) rfl (by simp) (by simp) ?_
 simp[go_sem,Tryz.f225]
 refine⟨⟨rfl,by simp[Tryz.f234]⟩,CallK_of [([0],[0])] (order2_cr l i j n hU hij (by omega)) (by simp[go_sem,notHead]) ⟨by simp[go_sem],by simp[go_sem]⟩ (by simp[go_sem]) ?_⟩
 rintro _ rs ⟨rfl,rfl⟩
 simp[go_sem]
 refine⟨⟨rfl,by simp[Tryz.f234]⟩,CallK_of [([0],[0])] (order2_cr l j k n hU hjk hk) (by simp[go_sem,notHead]) ⟨by simp[go_sem],by simp[go_sem]⟩ (by simp[go_sem]) ?_⟩
 rintro _ rs ⟨rfl,rfl⟩
 simp[go_sem]
 refine⟨⟨rfl,by simp[Tryz.f234]⟩,CallK_of [([0],[0])] (order2_cr l i j n hU hij (by omega)) (by simp[go_sem,notHead]) ⟨by simp[go_sem],by simp[go_sem]⟩ (by simp[go_sem]) ?_⟩
 rintro _ rs ⟨rfl,rfl⟩
 simp[go_sem]
 exact ret_keep [[0]] (.p (.int .i64 j)) ⟨rfl,by simp⟩ (by simp[go_sem,resOf,leA,leT,leP]) ⟨rfl,by simp[go_sem]⟩
theorem medianAdj_cr [Gi](l:List Span)(i:Nat)(n:Int)(hU:Up l)(hi:1≤i)(hk:i+1<l.length)(hn:l.length<2^31):CR Tryz.prog 224 [[0]] [.p (spansP l),.p (.int .i64 i),.lp [0] 0,.p byV] [([0],[.p (.int .i64 n)])]
  (fun x rs=>x=.p (.int .i64 i)∧rs=[([0],[.p (.int .i64 n)])]):=by
 have w1:IntKind.i64.wrap ((i:Int)-1)=((i-1:Nat):Int):=by rw[wrap64 (by omega) (by omega)];omega
 have w2:IntKind.i64.wrap ((i:Int)+1)=((i+1:Nat):Int):=by rw[wrap64 (by omega) (by omega)];omega
 refine CR_of_wp mixed 9 [] Tryz.func224 rfl (by kernel_rfl) rfl (by simp) (by simp) ?_
 simp[go_sem,Tryz.f224,w1,w2]
 refine⟨⟨rfl,by simp[Tryz.f225]⟩,CallK_of [([0],[0])] (median_cr l (i-1) i (i+1) n hU (by omega) (by omega) hk) (by simp[go_sem,notHead]) ⟨by simp[go_sem],by simp[go_sem]⟩ (by simp[go_sem]) ?_⟩
 rintro _ rs ⟨rfl,rfl⟩
 simp[go_sem]
 exact ret_keep [[0]] (.p (.int .i64 i)) ⟨rfl,by simp⟩ (by simp[go_sem,resOf,leA,leT,leP]) ⟨rfl,by simp[go_sem]⟩
end Go.Proofs.YtjefahhmkcfiiaaGreat
end
