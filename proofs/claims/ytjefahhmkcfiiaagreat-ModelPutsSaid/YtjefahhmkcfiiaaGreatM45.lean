/- A part of the proof of this seat's statements, by an abstract machine: what each operation does to values, and what the law's functions compute. Conditions: as each law says. -/
import Derived.Test.YtjefahhmkcfiiaaGreatM44
section
namespace Go.Proofs.YtjefahhmkcfiiaaGreat
open Go.AM
set_option maxHeartbeats 400000
attribute [local irreducible] apiRows
set_option maxRecDepth 100000
def candStep(x y:Int)(acc:Option Int)(c:Pair×Int):Option Int:=if c.1=⟨x,y⟩∧(∀z,acc=some z→c.2<z)then some c.2 else acc
theorem comp_cand(l:List Row)(x y:Int)(acc:Option Int)(w:Row):compStep l x y acc w=(match candOf l w with|some c=>candStep x y acc c|none=>acc):=by
 unfold compStep candOf
 by_cases h:w.k=2∧w.b≠0∧pairD l w.f=some (w.a,w.b)∧outD l w.f=false
 ·rw[if_pos h]
  obtain⟨h1,h2,h3,h4⟩:=h
  unfold candStep
  simp only
  by_cases g:(⟨w.a,w.b⟩:Pair)=⟨x,y⟩∧∀z,acc=some z→w.f<z
  ·obtain⟨g1,g2⟩:=g
   injection g1 with ga gb
   subst ga;subst gb
   rw[if_pos ⟨h1,rfl,rfl,h2,h3,h4,g2⟩,if_pos ⟨rfl,g2⟩]
  ·rw[if_neg g,if_neg (fun q=>g ⟨by rw[q.2.1,q.2.2.1],q.2.2.2.2.2.2⟩)]
 ·rw[if_neg h,if_neg (fun q=>h ⟨q.1,by rw[q.2.2.1];exact q.2.2.2.1,by rw[q.2.1,q.2.2.1];exact q.2.2.2.2.1,q.2.2.2.2.2.1⟩)]
theorem fold_cand(l:List Row)(x y:Int):∀(ws:List Row) (acc:Option Int),ws.foldl (compStep l x y) acc=(ws.filterMap (candOf l)).foldl (candStep x y) acc
 | [],_=>rfl
 |w::ws,acc=>by
  rw[List.foldl_cons,comp_cand,fold_cand l x y ws,List.filterMap_cons]
  cases candOf l w<;>rfl
theorem fold_off(x y:Int):∀(cs:List (Pair×Int)) (acc:Option Int),(∀c∈cs,c.1≠⟨x,y⟩)→cs.foldl (candStep x y) acc=acc
 | [],_,_=>rfl
 |c::cs,acc,h=>by
  have e:candStep x y acc c=acc:=if_neg (fun q=>h c (by simp) q.1)
  rw[List.foldl_cons,e,fold_off x y cs acc (fun d hd=>h d (by simp[hd]))]
theorem fold_find(x y:Int):∀cs:List (Pair×Int),oneB cs=true→cs.foldl (candStep x y) none=mkB cs ⟨x,y⟩
 | [],_=>rfl
 |c::cs,h=>by
  simp only[oneB,Bool.and_eq_true,List.all_eq_true]at h
  rw[List.foldl_cons]
  unfold mkB
  rw[List.find?_cons]
  by_cases e:c.1=⟨x,y⟩
  ·have e1:candStep x y none c=some c.2:=if_pos ⟨e,fun z hz=>by cases hz⟩
   have e2:(c.1==(⟨x,y⟩:Pair))=true:=by rw[e];exact beq_self_eq_true _
   rw[e1,e2,fold_off x y cs _ (fun d hd q=>by
    have:=h.1 d hd
    rw[q,e]at this;simp at this)]
   rfl
  ·have e1:candStep x y none c=none:=if_neg (fun q=>e q.1)
   have e2:(c.1==(⟨x,y⟩:Pair))=false:=by simpa using e
   rw[e1,e2]
   exact fold_find x y cs h.2
theorem comp_find(x y:Int):compD apiRows x y=mkB (cands apiRows) ⟨x,y⟩:=by
 unfold compD
 rw[fold_cand]
 exact fold_find x y _ cands_one
theorem mkB_mem {m:List (Pair×Int)} {q:Pair} {r:Int}(h:mkB m q=some r):(q,r)∈m:=by
 unfold mkB at h
 cases e:m.find? (fun x=>x.1==q)with
 |none=>rw[e]at h;simp at h
 |some c=>
  rw[e]at h
  have h1:=List.mem_of_find?_eq_some e
  have h2:c.1=q:=by simpa using List.find?_some e
  have h3:c.2=r:=by simpa using h
  rw[←h2,←h3];exact h1
theorem cands_mem {q:Pair} {r:Int}(h:(q,r)∈cands apiRows):q.b≠0∧aL apiRows 1 r=0:=by
 obtain⟨w,_,hw⟩:=List.mem_filterMap.1 h
 unfold candOf at hw
 split at hw
 ·rename_i g
  injection hw with hw
  injection hw with h1 h2
  subst h1;subst h2
  refine⟨g.2.1,?_⟩
  have:=g.2.2.2
  unfold outD at this
  rw[g.2.2.1]at this
  simp only[Bool.or_eq_false_iff,Bool.not_eq_false',decide_eq_true_eq]at this
  exact this.1.2
 ·simp at hw
theorem mk_row:mk2 M0.1=mkD apiRows:=by
 funext a b
 unfold mk2 mkD
 rw[join_row,cands_api,comp_find]
 by_cases hb:b=0
 ·rw[if_pos hb]
  cases e:mkB (cands apiRows) ⟨a,b⟩with
  |none=>rfl
  |some r=>exact absurd hb (cands_mem (mkB_mem e)).1
 ·rw[if_neg hb]
theorem mk_key(a b c:Int)(h:mkD apiRows a b=some c):kD apiRows c=0:=by
 unfold mkD at h
 cases hj:joinD a b with
 |none=>
  rw[hj,Option.none_or,comp_find]at h
  exact(cands_mem (mkB_mem h)).2
 |some z=>
  rw[hj,Option.some_or]at h
  have hz:z=c:=Option.some.inj h
  subst hz
  have hr:44032≤z∧z≤55203:=by
   unfold joinD at hj
   split at hj
   ·have:=Option.some.inj hj;omega
   ·split at hj
    ·rename_i g
     have:=Option.some.inj hj
     have g1:=g.1
     simp only[sylB,Bool.and_eq_true,decide_eq_true_eq]at g1
     omega
    ·simp at hj
  by_cases h0:aL apiRows 1 z=0
  ·exact h0
  ·obtain⟨w,h1,h2,h3,h4,_⟩:=aL_mem h0
   have:=(pos1_at h1 h2).2
   omega
theorem startL_set(k:Int→Int)(c:Int)(hc:k c=0):∀O:List Int,0≤startL k O→startL k (O.set (startL k O).toNat c)=startL k O:=by
 refine fun O=>snoc_ind (P:=fun O=>0≤startL k O→startL k (O.set (startL k O).toNat c)=startL k O) (fun h=>by rw[startL_nil]at h;omega) (fun o y ih h=>?_) O.length O rfl
 rw[startL_snoc]at h⊢
 by_cases hy:k y=0
 ·rw[if_pos hy,Int.toNat_natCast]
  have e:(o++[y]).set o.length c=o++[c]:=by
   rw[List.set_append_right _ _ (Nat.le_refl _)];simp
  rw[e,startL_snoc,if_pos hc]
 ·rw[if_neg hy]at h⊢
  have hlt:=(startL_lt k o).2
  have e:(o++[y]).set (startL k o).toNat c=o.set (startL k o).toNat c++[y]:=List.set_append_left _ _ (by omega)
  rw[e,startL_snoc,if_neg hy,ih h]
theorem startL_end(k:Int→Int)(O:List Int)(h0:O≠ [])(h:startL k O<O.length-1):k (O[O.length-1]?.getD 0)≠0:=by
 obtain⟨o,y,rfl⟩:=last_split h0
 rw[startL_snoc]at h
 have e:(o++[y])[(o++[y]).length-1]?.getD 0=y:=by simp
 rw[e]
 intro hy
 rw[if_pos hy,List.length_append,List.length_singleton]at h
 omega
structure InvC(k:Int→Int)(z:Cst)(O:List Int):Prop where
 o:z.o=O
 s:z.s=startL k O
 l:O≠ []→startL k O<O.length-1→z.l=k (O[O.length-1]?.getD 0)
theorem InvC.push {k:Int→Int} {z:Cst} {O:List Int}(h:InvC k z O)(x:Int):InvC k (pushC k z x) (O++[x]):=by
 obtain⟨h1,h2,h3⟩:=h
 refine⟨by simp[pushC,h1],?_,fun _ _=>by simp[pushC]⟩
 rw[startL_snoc];simp[pushC,h1,h2]
theorem InvC.step {k:Int→Int} {mk:Int→Int→Option Int}(hm:∀a b c,mk a b=some c→k c=0) {z:Cst} {O:List Int}(h:InvC k z O)(x:Int):InvC k (stepC k mk z x) (stepD k mk O x):=by
 have hp:=h.push x
 obtain⟨h1,h2,h3⟩:=h
 subst h1
 have hlt:=startL_lt k z.o
 have hfree:freeC k z x↔0≤startL k z.o∧freeD k z.o (startL k z.o) x=true:=by
  unfold freeC freeD
  rw[h2]
  simp only[Bool.or_eq_true,decide_eq_true_eq]
  by_cases h0:0≤startL k z.o
  ·have hne:z.o≠ []:=fun e=>by rw[e,startL_nil]at h0;omega
   by_cases he:startL k z.o=z.o.length-1
   ·simp[he]
   ·have hl:=h3 hne (by omega)
    have hk:=startL_end k z.o hne (by omega)
    rw[←hl]at hk⊢
    simp[h0,he,hk]
  ·simp[h0]
 unfold stepC stepD
 by_cases hf:freeC k z x
 ·have hf2:=hfree.1 hf
  rw[if_pos hf,if_pos hf2,h2]
  cases e:mk (z.o[(startL k z.o).toNat]?.getD 0) x with
  |none=>simp only;exact hp
  |some c=>
   have hc:=hm _ _ _ e
   have es:=startL_set k c hc z.o hf2.1
   refine⟨rfl,es.symm,fun h4 h5=>?_⟩
   simp only at h4 h5⊢
   rw[es,List.length_set]at h5
   have hne:z.o≠ []:=fun e=>by rw[e]at h4;simp at h4
   rw[h3 hne h5,List.length_set,List.getElem?_set_ne (by omega)]
 ·rw[if_neg hf,if_neg (fun g=>hf (hfree.2 g))]
  exact hp
theorem comp_same {k:Int→Int} {mk:Int→Int→Option Int}(hm:∀a b c,mk a b=some c→k c=0)(l:List Int):(foldC k mk l).o=compoD k mk l:=by
 have H:∀l:List Int,InvC k (foldC k mk l) (compoD k mk l):=fun l=>by
  refine snoc_ind (P:=fun l=>InvC k (foldC k mk l) (compoD k mk l)) ⟨rfl,rfl,fun h=>absurd rfl h⟩ (fun o y ih=>?_) l.length l rfl
  rw[foldC_snoc,compoD_snoc]
  exact ih.step hm y
 exact(H l).o
theorem nfc_row(l:List Int):nfcL T0 M0.1 l=nfcD apiRows l:=by
 unfold nfcL nfcD compL composD
 rw[nfd_row,key_row,mk_row,comp_same mk_key]
end Go.Proofs.YtjefahhmkcfiiaaGreat
end
section
namespace Go.Proofs.YtjefahhmkcfiiaaGreat
open Go.AM
set_option maxHeartbeats 1000000
set_option maxRecDepth 100000
def kindR(k:Int):List Row:=apiRows.filter fun w=>decide (w.k=k)
def offB(w v:Row):Bool:=decide (w.t<v.f) || decide (v.t<w.f)
def factP:Bool:=(kindR 5).all fun w=>(kindR 4).all fun v=>offB w v || (!decide (v.a=1)&&!decide (v.a=2)&&!decide (v.a=3)&&!decide (v.a=5))
def factH:Bool:=(kindR 6).all fun w=>(kindR 4).all fun v=>offB w v || (!decide (v.a=1)&&!decide (v.a=2)&&!decide (v.a=3))
def factL:Bool:=(kindR 6).all fun w=>decide (w.a=2) || (decide (w.a=1)&&decide (w.f=w.t)&&decide (brkD apiRows w.f=4))
theorem factP_ok:factP=true:=by decide+kernel
theorem factH_ok:factH=true:=by decide+kernel
theorem factL_ok:factL=true:=by decide+kernel
theorem brkI_row(x:Int):brkI T0 x=brkD apiRows x:=by unfold brkI brkD;rw[brk_row]
theorem cnjI_row(x:Int):cnjI T0 x=cnjD apiRows x:=by unfold cnjI cnjD;rw[brkI_row,cnj_row]
attribute [local irreducible] apiRows
theorem row_in {k x:Int}(h:aL apiRows k x≠0):∃w∈kindR k,w.f≤x∧x≤w.t∧aL apiRows k x=w.a:=by
 obtain⟨w,h1,h2,h3,h4,h5⟩:=aL_mem h
 exact⟨w,List.mem_filter.2 ⟨h1,by simp[h2]⟩,h3,h4,h5⟩
theorem off_not {w v:Row} {x:Int}(h1:w.f≤x)(h2:x≤w.t)(h3:v.f≤x)(h4:x≤v.t):offB w v=false:=by
 unfold offB
 simp only[Bool.or_eq_false_iff,decide_eq_false_iff_not]
 omega
theorem brk_cases(x:Int):brkD apiRows x=12∨brkD apiRows x=13∨brkD apiRows x=aL apiRows 4 x:=by
 unfold brkD
 split
 ·split
  ·exact .inl rfl
  ·exact .inr (.inl rfl)
 ·exact .inr (.inr rfl)
theorem brk_at {x b:Int}(hb:brkD apiRows x=b)(h0:b≠0)(h12:b≠12)(h13:b≠13):∃v∈kindR 4,v.f≤x∧x≤v.t∧v.a=b:=by
 rcases brk_cases x with e|e|e
 ·exact absurd (hb.symm.trans e) h12
 ·exact absurd (hb.symm.trans e) h13
 ·have e2:aL apiRows 4 x=b:=e.symm.trans hb
  obtain⟨v,h1,h2,h3,h4⟩:=row_in (k:=4) (x:=x) (by rw[e2];exact h0)
  exact⟨v,h1,h2,h3,by rw[←h4,e2]⟩
theorem f1 {x:Int}(h:aL apiRows 5 x=1):brkD apiRows x≠1∧brkD apiRows x≠2∧brkD apiRows x≠3∧brkD apiRows x≠5:=by
 obtain⟨w,h1,h2,h3,_⟩:=row_in (k:=5) (x:=x) (by rw[h];decide)
 have key:∀b:Int,b≠0→b≠12→b≠13→(b=1∨b=2∨b=3∨b=5)→brkD apiRows x≠b:=by
  intro b b0 b1 b2 hb e
  obtain⟨v,g1,g2,g3,g4⟩:=brk_at e b0 b1 b2
  have f:=List.all_eq_true.1 (List.all_eq_true.1 factP_ok w h1) v g1
  rw[off_not h2 h3 g2 g3]at f
  simp only[Bool.false_or,Bool.and_eq_true,Bool.not_eq_true',decide_eq_false_iff_not]at f
  omega
 exact⟨key 1 (by decide) (by decide) (by decide) (by decide),key 2 (by decide) (by decide) (by decide) (by decide),key 3 (by decide) (by decide) (by decide) (by decide),key 5 (by decide) (by decide) (by decide) (by decide)⟩
theorem f4(x:Int):cnjD apiRows x=0∨cnjD apiRows x=1∨cnjD apiRows x=2∨cnjD apiRows x=3:=by
 unfold cnjD
 split
 ·rename_i h
  obtain⟨w,h1,_,_,h4⟩:=row_in h
  have f:=List.all_eq_true.1 factL_ok w h1
  simp only[Bool.or_eq_true,Bool.and_eq_true,decide_eq_true_eq]at f
  omega
 ·split<;>simp
theorem f3 {x:Int}(h:cnjD apiRows x=1∨cnjD apiRows x=3):brkD apiRows x=4∨brkD apiRows x=5:=by
 unfold cnjD at h
 split at h
 ·rename_i h0
  obtain⟨w,h1,h2,h3,h4⟩:=row_in h0
  have f:=List.all_eq_true.1 factL_ok w h1
  simp only[Bool.or_eq_true,Bool.and_eq_true,decide_eq_true_eq]at f
  have:x=w.f:=by omega
  rw[this]
  exact .inl (by omega)
 ·split at h
  ·rename_i g;exact g.1
  ·omega
theorem f2 {x:Int}(h:cnjD apiRows x≠0):brkD apiRows x≠1∧brkD apiRows x≠2∧brkD apiRows x≠3:=by
 by_cases h0:aL apiRows 6 x=0
 ·have e:cnjD apiRows x=if(brkD apiRows x=4∨brkD apiRows x=5)∧x≠8204 then 3 else 0:=by unfold cnjD;rw[if_neg (fun q=>q h0)]
  rw[e]at h
  split at h
  ·rename_i g;have:=g.1;omega
  ·exact absurd rfl h
 ·obtain⟨w,h1,h2,h3,_⟩:=row_in h0
  have key:∀b:Int,b≠0→b≠12→b≠13→(b=1∨b=2∨b=3)→brkD apiRows x≠b:=by
   intro b b0 b1 b2 hb e
   obtain⟨v,g1,g2,g3,g4⟩:=brk_at e b0 b1 b2
   have f:=List.all_eq_true.1 (List.all_eq_true.1 factH_ok w h1) v g1
   rw[off_not h2 h3 g2 g3]at f
   simp only[Bool.false_or,Bool.and_eq_true,Bool.not_eq_true',decide_eq_false_iff_not]at f
   omega
  exact⟨key 1 (by decide) (by decide) (by decide) (by decide),key 2 (by decide) (by decide) (by decide) (by decide),key 3 (by decide) (by decide) (by decide) (by decide)⟩
end Go.Proofs.YtjefahhmkcfiiaaGreat
end
section
namespace Go.Proofs.YtjefahhmkcfiiaaGreat
open Go.AM
set_option maxHeartbeats 1000000
set_option maxRecDepth 10000
attribute [local irreducible] apiRows
def pcD(x:Int):Bool:=decide (aL apiRows 5 x=1)
structure InvS(s:SegS)(p:Int)(pre:List Int):Prop where
 so:s.some=true
 la:s.last=brkD apiRows p
 p2:s.pict=2↔(brkD apiRows p=5∧pictGo apiRows pre=true)
 p1:s.pict=1↔pictGo apiRows (p::pre)=true
 od:s.odd=decide (flagGo apiRows (p::pre)%2=1)
 c2:s.conj=2↔conjGo apiRows false (p::pre)=true
 c0:s.conj≠0↔conjGo apiRows true (p::pre)=true
theorem InvS.next {s:SegS} {p:Int} {pre:List Int}(h:InvS s p pre)(x:Int):InvS (nextS s (brkD apiRows x) (pcD x) (cnjD apiRows x)) x (p::pre):=by
 obtain⟨h1,h2,h3,h4,h5,h6,h7⟩:=h
 have q1:= @f1 x
 have q4:=f4 x
 have b7:conjGo apiRows true (p::pre)=decide (s.conj≠0):=by rw[Bool.eq_iff_iff,decide_eq_true_eq,h7]
 have b6:conjGo apiRows false (p::pre)=decide (s.conj=2):=by rw[Bool.eq_iff_iff,decide_eq_true_eq,h6]
 refine⟨rfl,rfl,?_,?_,?_,?_,?_⟩
 ·simp only[nextS,pcD]
  by_cases a:aL apiRows 5 x=1
  ·have:=q1 a
   simp[a,this.2.2.2]
  ·simp only[a,decide_false,Bool.false_eq_true,if_false]
   rw[←h4]
   by_cases b:s.pict=1
   ·by_cases e4:brkD apiRows x=4
    ·simp[b,e4]
    ·by_cases e5:brkD apiRows x=5<;>simp[b,e5,e4]
   ·simp[b]
 ·simp only[nextS,pcD]
  rw[pictGo]
  by_cases a:aL apiRows 5 x=1
  ·simp[a]
  ·simp only[a,decide_false,Bool.false_eq_true,if_false]
   by_cases e4:brkD apiRows x=4
   ·rw[if_pos e4,←h4]
    by_cases b:s.pict=1<;>simp[b,e4]
   ·rw[if_neg e4]
    by_cases b:s.pict=1∧brkD apiRows x=5
    ·simp[b.1,b.2]
    ·simp[e4,b]
 ·simp only[nextS]
  rw[flagGo,h5]
  by_cases e6:brkD apiRows x=6
  ·rw[if_pos e6]
   simp only[e6,decide_true,Bool.true_and]
   rw[←decide_not,decide_eq_decide]
   omega
  ·rw[if_neg e6];simp[e6]
 ·simp only[nextS]
  rw[conjGo]
  rcases q4 with c|c|c|c<;>by_cases z:s.conj=0<;>simp[c,b6,b7,z]
 ·simp only[nextS]
  rw[conjGo]
  rcases q4 with c|c|c|c<;>by_cases z:s.conj=0<;>simp[c,b7,z]
theorem InvS.cut {s:SegS} {p:Int} {pre:List Int}(h:InvS s p pre)(x:Int):cutB s (brkD apiRows x) (pcD x) (cnjD apiRows x)=begD apiRows p pre x:=by
 obtain⟨h1,h2,h3,h4,h5,h6,h7⟩:=h
 obtain⟨P,hP⟩:∃P,P=(decide (s.pict=2)&&pcD x):=⟨_,rfl⟩
 obtain⟨C,hC⟩:∃C,C=(decide (s.conj=2)&&decide (cnjD apiRows x=2)):=⟨_,rfl⟩
 obtain⟨O,hO⟩:∃O,O=(s.odd&&decide (brkD apiRows x=6)):=⟨_,rfl⟩
 have eP:pictD apiRows p pre x=P:=by
  rw[hP];unfold pictD pcD
  by_cases a:aL apiRows 5 x=1
  ·by_cases b:brkD apiRows p=5
   ·rw[if_pos a,if_pos b]
    have:decide (s.pict=2)=pictGo apiRows pre:=by
     rw[Bool.eq_iff_iff,decide_eq_true_eq,h3];simp[b]
    rw[this];simp[a]
   ·rw[if_pos a,if_neg b]
    have:¬s.pict=2:=fun q=>b (h3.1 q).1
    simp[this]
  ·rw[if_neg a];simp[a]
 have eC:conjD apiRows (p::pre) x=C:=by
  rw[hC];unfold conjD
  by_cases a:cnjD apiRows x=2
  ·rw[if_pos a]
   have:decide (s.conj=2)=conjGo apiRows false (p::pre):=by
    rw[Bool.eq_iff_iff,decide_eq_true_eq,h6]
   rw[this];simp[a]
  ·rw[if_neg a];simp[a]
 have eO:flagD apiRows (p::pre) x=O:=by
  rw[hO];unfold flagD
  by_cases a:brkD apiRows x=6
  ·rw[if_pos a,h5];simp[a]
  ·rw[if_neg a];simp[a]
 unfold begD cutB
 rw[eP,eC,eO,←hP,←hC,←hO,h2]
 have kP:P=true→¬(brkD apiRows p=1∨brkD apiRows p=2∨brkD apiRows p=3)∧¬(brkD apiRows x=1∨brkD apiRows x=2∨brkD apiRows x=3):=by
  intro q
  rw[hP]at q
  simp only[pcD,Bool.and_eq_true,decide_eq_true_eq]at q
  have a:=f1 q.2
  have b:=(h3.1 q.1).1
  omega
 have kC:C=true→¬(brkD apiRows p=1∨brkD apiRows p=2∨brkD apiRows p=3)∧¬(brkD apiRows x=1∨brkD apiRows x=2∨brkD apiRows x=3):=by
  intro q
  rw[hC]at q
  simp only[Bool.and_eq_true,decide_eq_true_eq]at q
  have a:=f2 (x:=x) (by omega)
  have b:=h6.1 q.1
  have c:=f2 (x:=p) (fun z=>by
   rw[conjGo,if_neg (by omega),if_pos z]at b
   exact absurd b (by decide))
  omega
 have kO:O=true→¬(brkD apiRows p=1∨brkD apiRows p=2∨brkD apiRows p=3)∧¬(brkD apiRows x=1∨brkD apiRows x=2∨brkD apiRows x=3):=by
  intro q
  rw[hO,h5]at q
  simp only[Bool.and_eq_true,decide_eq_true_eq]at q
  have b:brkD apiRows p=6:=by
   by_cases z:brkD apiRows p=6
   ·exact z
   ·have:=q.1
    rw[flagGo,if_neg z]at this
    omega
  omega
 clear hP hC hO eP eC eO h1 h2 h3 h4 h5 h6 h7
 generalize brkD apiRows p=a at*
 generalize brkD apiRows x=b at*
 by_cases hh:(a=1∨a=2∨a=3)∨(b=1∨b=2∨b=3)
 ·have P0:P=false:=by cases P with|false=>rfl|true=>have:=kP rfl;exact absurd hh (by omega)
  have C0:C=false:=by cases C with|false=>rfl|true=>have:=kC rfl;exact absurd hh (by omega)
  have O0:O=false:=by cases O with|false=>rfl|true=>have:=kO rfl;exact absurd hh (by omega)
  subst P0;subst C0;subst O0
  simp only[Bool.not_false,Bool.and_true]
  have hard:(hardB a || hardB b)=true:=by
   simp only[hardB,Bool.or_eq_true,decide_eq_true_eq];omega
  rw[hard]
  unfold sticksB
  by_cases a1:a=1
  ·by_cases b2:b=2<;>simp[a1,b2]
  ·by_cases a2:a=2∨a=3
   ·rw[if_neg a1,if_pos a2,if_neg (fun q=>a1 q.1)];rfl
   ·have b3:b=1∨b=2∨b=3:=by omega
    rw[if_neg a1,if_neg a2,if_pos b3,if_neg (fun q=>a1 q.1)];rfl
 ·have hard:(hardB a || hardB b)=false:=by
   simp only[hardB,Bool.or_eq_false_iff,decide_eq_false_iff_not];omega
  have e1:sticksB a b=(if b=4∨b=5∨b=8 then true else if a=7 then true else hanB a b):=by
   unfold sticksB hanB
   rw[if_neg (show ¬a=1 by omega),if_neg (show ¬(a=2∨a=3) by omega),if_neg (show ¬(b=1∨b=2∨b=3) by omega)]
   simp only[Bool.or_assoc]
  rw[e1,hard,if_neg (show ¬(a=1∧b=2) by omega)]
  clear e1 kP kC kO
  generalize hanB a b=H
  by_cases b1:b=4∨b=5∨b=8
  ·rw[if_pos b1,if_pos (show b=4∨b=5∨b=8∨a=7 by omega)]
   cases H<;>rfl
  ·rw[if_neg b1]
   by_cases a7:a=7
   ·rw[if_pos a7,if_pos (show b=4∨b=5∨b=8∨a=7 by omega)]
    cases H<;>rfl
   ·rw[if_neg a7,if_neg (show ¬(b=4∨b=5∨b=8∨a=7) by omega)]
    cases H<;>cases C<;>cases P<;>cases O<;>rfl
def Beg(pre:List Int)(x:Int):Prop:=pre=[]∨∃p pre',pre=p::pre'∧begD apiRows p pre' x=true
theorem InvS.start {pre:List Int} {x:Int}(h:Beg pre x):InvS (nextS segZ (brkD apiRows x) (pcD x) (cnjD apiRows x)) x pre:=by
 have q1:= @f1 x
 have q3:= @f3 x
 have q4:=f4 x
 have kp:brkD apiRows x=4∨brkD apiRows x=5→pictGo apiRows pre=false∧∀sn,conjGo apiRows sn pre=false:=by
  intro hb
  rcases h with rfl|⟨p,pre',rfl,hg⟩
  ·exact⟨rfl,fun _=>rfl⟩
  ·have hp:brkD apiRows p=1∨brkD apiRows p=2∨brkD apiRows p=3:=by
    unfold begD at hg
    rw[if_neg (by omega)]at hg
    by_cases z:(hardB (brkD apiRows p) || hardB (brkD apiRows x))=true
    ·simp only[hardB,Bool.or_eq_true,decide_eq_true_eq]at z;omega
    ·rw[if_neg z]at hg
     split at hg
     ·exact absurd hg (by decide)
     ·rw[if_pos (by omega)]at hg
      exact absurd hg (by decide)
   constructor
   ·have a:¬aL apiRows 5 p=1:=fun q=>by have:=f1 q;omega
    rw[pictGo,if_neg a,if_neg (by omega)]
   ·intro sn
    have c:cnjD apiRows p=0:=by
     by_cases c:cnjD apiRows p=0
     ·exact c
     ·have:=f2 c;omega
    rw[conjGo,if_neg (by omega),if_pos c]
 have kf:brkD apiRows x=6→flagGo apiRows pre%2=0:=by
  intro hb
  rcases h with rfl|⟨p,pre',rfl,hg⟩
  ·rfl
  ·by_cases hp:brkD apiRows p=6
   ·unfold begD at hg
    rw[if_neg (by omega),if_neg (by rw[hp,hb];decide),if_neg (by rw[hp,hb];decide),if_neg (by omega)]at hg
    split at hg
    ·exact absurd hg (by decide)
    ·split at hg
     ·exact absurd hg (by decide)
     ·unfold flagD at hg
      rw[if_pos hb]at hg
      simp only[Bool.not_eq_true',decide_eq_false_iff_not]at hg
      omega
   ·rw[flagGo,if_neg hp]
 refine⟨rfl,rfl,?_,?_,?_,?_,?_⟩
 ·have e:(nextS segZ (brkD apiRows x) (pcD x) (cnjD apiRows x)).pict=if pcD x then 1 else 0:=by simp[nextS,segZ]
  rw[e]
  constructor
  ·intro z;split at z<;>omega
  ·rintro⟨z1,z2⟩
   rw[(kp (.inr z1)).1]at z2
   exact absurd z2 (by decide)
 ·have e:(nextS segZ (brkD apiRows x) (pcD x) (cnjD apiRows x)).pict=if pcD x then 1 else 0:=by simp[nextS,segZ]
  rw[e,pictGo]
  by_cases a:aL apiRows 5 x=1
  ·simp[pcD,a]
  ·rw[if_neg a]
   simp only[pcD,a,decide_false,Bool.false_eq_true,if_false]
   by_cases e4:brkD apiRows x=4
   ·rw[if_pos e4,(kp (.inl e4)).1];simp
   ·rw[if_neg e4];simp
 ·simp only[nextS,segZ,Bool.not_false,Bool.and_true]
  rw[flagGo,decide_eq_decide]
  by_cases e6:brkD apiRows x=6
  ·have:=kf e6
   rw[if_pos e6]
   constructor
   ·intro _;omega
   ·intro _;exact e6
  ·rw[if_neg e6];simp[e6]
 ·have e:(nextS segZ (brkD apiRows x) (pcD x) (cnjD apiRows x)).conj=if cnjD apiRows x=2 then 1 else 0:=by simp[nextS,segZ]
  rw[e,conjGo]
  rcases q4 with c|c|c|c
  ·simp[c]
  ·rw[(kp (q3 (.inl c))).2];simp[c]
  ·simp[c]
  ·rw[(kp (q3 (.inr c))).2];simp[c]
 ·have e:(nextS segZ (brkD apiRows x) (pcD x) (cnjD apiRows x)).conj=if cnjD apiRows x=2 then 1 else 0:=by simp[nextS,segZ]
  rw[e,conjGo]
  rcases q4 with c|c|c|c
  ·simp[c]
  ·rw[(kp (q3 (.inl c))).2];simp[c]
  ·simp[c]
  ·rw[(kp (q3 (.inr c))).2];simp[c]
theorem step_row(s:SegS)(x:Int):stepS T0 s x=(nextS s (brkD apiRows x) (pcD x) (cnjD apiRows x),!s.some || cutB s (brkD apiRows x) (pcD x) (cnjD apiRows x)):=by
 unfold stepS pcD
 rw[brkI_row,cnjI_row,flg_row]
theorem run_row:∀(l:List Int) (s:SegS) (p:Int) (pre:List Int),InvS s p pre→runC T0 s l=runD apiRows p pre l
 | [],_,_,_,_=>rfl
 |x::l,s,p,pre,h=>by
  have hc:=h.cut x
  have ih:=run_row l _ _ _ (h.next x)
  rw[runC,runD,step_row]
  simp only
  rw[h.so,hc,ih]
  simp only[Bool.not_true,Bool.false_or]
  split
  ·rfl
  ·omega
theorem run_stop:∀(l:List Int) (p:Int) (pre:List Int) (y:Int) (ys:List Int),l.drop (runD apiRows p pre l)=y::ys→Beg ((l.take (runD apiRows p pre l)).reverse++p::pre) y
 | [],_,_,_,_,h=>by simp at h
 |x::l,p,pre,y,ys,h=>by
  rw[runD]at h⊢
  by_cases g:begD apiRows p pre x=true
  ·rw[if_pos g]at h⊢
   simp only[List.drop_zero]at h
   injection h with h1 _
   subst h1
   exact .inr ⟨p,pre,by simp,g⟩
  ·rw[if_neg g]at h⊢
   rw[List.drop_succ_cons]at h
   have ih:=run_stop l x (p::pre) y ys h
   rw[List.take_succ_cons,List.reverse_cons,List.append_assoc]
   exact ih
theorem clus_go:∀(n:Nat) (l pre:List Int),(∀y ys,l=y::ys→Beg pre y)→clusGo T0 n l=clusDGo apiRows n pre l
 |0,_,_,_=>rfl
 |_+1,[],_,_=>rfl
 |n+1,x::l,pre,h=>by
  have hb:=h x l rfl
  have e:runC T0 (stepS T0 segZ x).1 l=runD apiRows x pre l:=by
   rw[step_row]
   exact run_row l _ _ _ (InvS.start hb)
  rw[clusGo,clusDGo,e]
  congr 1
  exact clus_go n _ _ (fun y ys hy=>run_stop l x pre y ys hy)
theorem clus_row(l:List Int):clusL T0 l=clusD apiRows l:=clus_go l.length l [] (fun _ _ _=>.inl rfl)
end Go.Proofs.YtjefahhmkcfiiaaGreat
end
section
namespace Go.Proofs.YtjefahhmkcfiiaaGreat
open Go.AM
set_option maxHeartbeats 1000000
set_option maxRecDepth 100000
def rowsB:Bool:=apiRows.all fun x=>!decide (x.k=2) || (decide (0≤x.f)&&decide (x.f<1114112)&&decide (0≤x.a)&&decide (x.a<1114112)&&decide (0≤x.b)&&decide (x.b<1114112))
theorem rowsB_ok:rowsB=true:=by decide+kernel
theorem api_ne:decide (apiRows=[])=false:=by decide+kernel
theorem rowsOK0:RowsOK apiRows:=⟨of_decide_eq_false api_ne,apiN,fun x hx hk=>by
 have:=List.all_eq_true.1 rowsB_ok x hx
 simp only[hk,decide_true,Bool.not_true,Bool.false_or,Bool.and_eq_true,decide_eq_true_eq]at this
 omega⟩
theorem parOK0:ParOK T0:=fun i=>by
 have hp:=apiP
 simp only[pairsB,Bool.and_eq_true,decide_eq_true_eq,List.all_eq_true]at hp
 rcases valL_or (⟨0,0⟩:Pair) i ((kindL apiRows 2).map pieceP2)with h|⟨q,hq,h⟩
 ·have e:T0.par i=⟨0,0⟩:=h
  rw[e];decide
 ·have e:T0.par i=q.v:=h
  obtain⟨s,hs,rfl⟩:=List.mem_map.1 hq
  have:=hp s hs
  rw[e]
  exact⟨this.1.1.1,this.1.1.2,this.1.2,this.2⟩
attribute [local irreducible] apiRows
theorem compo_len(k:Int→Int)(mk:Int→Int→Option Int):∀(l O:List Int),(l.foldl (stepD k mk) O).length≤O.length+l.length
 | [],O=>by simp
 |x::l,O=>by
  have ih:=compo_len k mk l (stepD k mk O x)
  have h:(stepD k mk O x).length≤O.length+1:=by
   unfold stepD
   split
   ·split
    ·rw[List.length_set];omega
    ·simp
   ·simp
  rw[List.foldl_cons,List.length_cons];omega
theorem clusD_flat(rows:List Row):∀(n:Nat) (pre l:List Int),l.length≤n→(clusDGo rows n pre l).flatten=l∧(clusDGo rows n pre l).length≤l.length
 |0,_,l,h=>by
  obtain rfl:=List.eq_nil_of_length_eq_zero (Nat.le_zero.1 h)
  exact⟨rfl,Nat.le_refl _⟩
 |_+1,_,[],_=>⟨rfl,Nat.le_refl _⟩
 |n+1,pre,x::l,h=>by
  simp only[List.length_cons]at h
  rw[clusDGo]
  generalize runD rows x pre l=k
  obtain⟨h1,h2⟩:=clusD_flat rows n ((l.take k).reverse++x::pre) (l.drop k) (by rw[List.length_drop];omega)
  constructor
  ·rw[List.flatten_cons,h1];simp
  ·rw[List.length_cons,List.length_cons]
   rw[List.length_drop]at h2
   omega
theorem formD:FormOK (nfcD apiRows) (clusD apiRows)where
 len l h:=by
  have h1:=nfdD_len apiRows l
  have h2:=compo_len (kD apiRows) (mkD apiRows) (nfdD apiRows l) []
  unfold nfcD composD compoD
  simp only[List.length_nil]at h2
  omega
 rune l _ hr:=(compoD_ok rowsOK0 (nfdD apiRows l) (nfdD_rune rowsOK0 hr)).r
 flat l:=(clusD_flat apiRows l.length [] l (Nat.le_refl _)).1
 num l:=(clusD_flat apiRows l.length [] l (Nat.le_refl _)).2
theorem nfc_fun:nfcL T0 M0.1=nfcD apiRows:=funext nfc_row
theorem clus_fun:clusL T0=clusD apiRows:=funext clus_row
theorem formM:FormOK (nfcL T0 M0.1) (clusL T0):=by rw[nfc_fun,clus_fun];exact formD
theorem awake1:nfcD apiRows [101,120]=[101,120]:=by decide+kernel
theorem awake2:clusD apiRows [101,120]=[[101],[120]]:=by decide+kernel
theorem awake3:putL (nfcD apiRows) (clusD apiRows) [[101],[120]] 0 1 1 [769]=([[233],[120]],1,true):=by decide+kernel
end Go.Proofs.YtjefahhmkcfiiaaGreat
end
section
namespace Go.Proofs.YtjefahhmkcfiiaaGreat
open Go.AM
set_option maxHeartbeats 4000000
set_option maxRecDepth 10000
attribute [local irreducible] apiRows
theorem ofM0_cr [Gi] {c b j f p:PV}(h:TabV T0 c b j f p)(sk sx:List PV)(l:List Int)(hn:l.length<2^20)(hr:∀x∈l,Rune x):
  CR Tryz.prog 18 [] [.p (tabP c b j f p (ckP M0.1) (cxP M0.1) sk sx),.p (runesV l)] [] (is (.p (lineV (clusD apiRows (nfcD apiRows l)) 0))):=by
 have:=ofM_cr h zeroT0 parOK0 M0.1 sk sx l hn hr (formM.len l hn) (formM.rune l hn hr)
 rw[nfc_fun,clus_fun]at this
 exact this
theorem putM0_cr [Gi] {c b j f p:PV}(h:TabV T0 c b j f p)(sk sx:List PV)(L:List (List Int))(hL:LineOK L)(a f' e:Int)(s:List Int)(hs:s.length≤1000)(hr:∀x∈s,Rune x):
  CR Tryz.prog 20 [] [.p (lineV L a),.p (tabP c b j f p (ckP M0.1) (cxP M0.1) sk sx),.p (.int .i64 f'),.p (.int .i64 e),.p (runesV s)] [] (is (putV (putL (nfcD apiRows) (clusD apiRows) L a f' e s))):=by
 have:=putM_cr h zeroT0 parOK0 M0.1 sk sx formM L hL a f' e s hs hr
 rw[nfc_fun,clus_fun]at this
 exact this
theorem ofD0_cr [Gi](l:List Int)(hn:l.length<2^20)(hr:∀x∈l,Rune x):CR Tryz.prog 19 [] [.p (rowsP apiRows),.p (runesV l)] [] (is (.p (lineV (clusD apiRows (nfcD apiRows l)) 0))):=
 ofD35_cr rowsOK0 l hn hr (formD.len l hn) (formD.rune l hn hr)
theorem lineOK_ex:LineOK [[101],[120]]:=⟨by decide,by decide,by simp[Rune]⟩
theorem awake_cr [Gi]:CR Tryz.prog 27 [] [] [] (is (.p (.bool true))):=by
 refine CR_of_wp mixed 4 [] Tryz.func27 rfl (by kernel_rfl) rfl (by simp) (by simp) ?_
 simp (maxSteps:=1000000) [go_sem,Tryz.f27]
 refine⟨⟨rfl,by simp[Tryz.f16]⟩,CallK_of [] rows_cr (by simp[go_sem,notHead]) ⟨by simp[go_sem],by simp[go_sem]⟩ (by simp[go_sem]) ?_⟩
 rintro _ rs ⟨rfl,rfl⟩
 simp (maxSteps:=1000000) [go_sem,rowsP]
 refine⟨⟨rfl,by simp[Tryz.f17]⟩,CallK_of [] tables_cr (by simp[go_sem,notHead]) ⟨by simp[go_sem],by simp[go_sem,rowsP]⟩ (by simp[go_sem]) ?_⟩
 rintro _ rs ⟨rfl,e,rfl,c,b,j,f,p,hT,rfl⟩
 simp (maxSteps:=1000000) [go_sem,tabP]
 have g1:=ofM0_cr hT (keysR M0.2) (truesI M0.2) [101,120] (by decide) (by simp[Rune])
 rw[awake1,awake2]at g1
 have g2:=putM0_cr hT (keysR M0.2) (truesI M0.2) [[101],[120]] lineOK_ex 0 1 1 [769] (by decide) (by simp[Rune])
 rw[awake3]at g2
 have g3:=place_cr [[233],[120]] 1 (by decide) (by decide)
 have e3:placeL [[233],[120]] 1=1:=by decide
 rw[e3]at g3
 have g4:=sameTexts_cr [[233],[120]] (by decide) (by decide)
 refine⟨by decide,⟨rfl,by simp[Tryz.f18]⟩,CallK_of [] g1 (by simp[go_sem,notHead]) ⟨by simp[go_sem],by simp[go_sem,tabP,runesV,i32s]⟩ (by simp[go_sem]) ?_⟩
 rintro _ rs ⟨rfl,rfl⟩
 simp (maxSteps:=1000000) [go_sem,lineV,textsV,textsP]
 refine⟨⟨rfl,by simp[Tryz.f20]⟩,CallK_of [] g2 (by simp[go_sem,notHead]) ⟨by simp[go_sem],by simp[go_sem,tabP,runesV,i32s,lineV,textsV,textsP]⟩ (by simp[go_sem]) ?_⟩
 rintro _ rs ⟨rfl,rfl⟩
 simp (maxSteps:=1000000) [go_sem,putV,lineV,textsV,textsP,runesV,i32s]
 refine⟨rfl,⟨rfl,by simp[Tryz.f26]⟩,CallK_of [] g3 (by simp[go_sem,notHead]) ⟨by simp[go_sem],by simp[go_sem,lineV,textsV,textsP,runesV,i32s]⟩ (by simp[go_sem]) ?_⟩
 rintro _ rs ⟨rfl,rfl⟩
 simp (maxSteps:=1000000) [go_sem]
 refine⟨⟨by decide,rfl⟩,⟨rfl,by simp[Tryz.f22]⟩,CallK_of [] g4 (by simp[go_sem,notHead]) ⟨by simp[go_sem],by simp[go_sem,textsV,textsP,runesV,i32s]⟩ (by simp[go_sem]) ?_⟩
 rintro _ rs ⟨rfl,rfl⟩
 simp (maxSteps:=1000000) [go_sem]
 exact ret_is (.p (.bool true)) rfl (by simp[go_sem,resOf,leA,leT,leP]) ⟨rfl,rfl⟩
end Go.Proofs.YtjefahhmkcfiiaaGreat
end
