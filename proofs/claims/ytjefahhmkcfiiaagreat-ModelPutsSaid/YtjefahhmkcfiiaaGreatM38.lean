/- A part of the proof of this seat's statements, by an abstract machine: what each operation does to values, and what the law's functions compute. Conditions: as each law says. -/
import Derived.Test.YtjefahhmkcfiiaaGreatM29
import Derived.Test.YtjefahhmkcfiiaaGreatM37
import Derived.Test.YtjefahhmkcfiiaaGreatChecked
import Derived.KernelRfl
import Derived.WalkKit
import Derived.Shelf.Spec.SlicesInsert
import Derived.Lib.AppendZerosOnto
import Derived.Laws.NewBlocks
import Derived.Test.YtjefahhmkcfiiaaGreatM19
import Derived.Laws.IdiomCopy
section
namespace Go.Proofs.YtjefahhmkcfiiaaGreat
open Go.AM
set_option maxHeartbeats 4000000
set_option maxRecDepth 10000
def mkB(m:List (Pair×Int))(q:Pair):Option Int:=(m.find? fun x=>x.1==q).map (·.2)
theorem ckP_mk(q:Pair):∀(m:List (Pair×Int)) (i:Nat),(findP (pairL q) (ckP m) (cxP m) i=none∧mkB m q=none)∨∃j r,findP (pairL q) (ckP m) (cxP m) i=some (j,.int .i32 r)∧mkB m q=some r
 | [],i=>.inl ⟨rfl,rfl⟩
 |x::m,i=>by
  have e:findP (pairL q) (ckP (x::m)) (cxP (x::m)) i=if eqC (pairL q) (pairL x.1)=true then some (i,.int .i32 x.2)else findP (pairL q) (ckP m) (cxP m) (i+1):=by
   rw[ckP,cxP,List.map_cons,List.map_cons,findP];rfl
  rw[e]
  by_cases h:x.1=q
  ·subst h
   rw[if_pos (eqC_refl _)]
   exact .inr ⟨i,x.2,rfl,by simp[mkB]⟩
  ·have hne:¬eqC (pairL q) (pairL x.1)=true:=fun hc=>h (pairL_inj (eqC_eq (kc:=[.i .i32,.i .i32]) rfl rfl hc)).symm
   rw[if_neg hne]
   have hm:mkB (x::m) q=mkB m q:=by simp[mkB,h]
   rw[hm]
   exact ckP_mk q m (i+1)
def composeA(x:Option Int):AV:=match x with|some r=>.tup [.p (.int .i32 r),.p (.bool true)]|none=>.tup [.p (.int .i32 0),.p (.bool false)]
theorem compose_cr [Gi](c b j f p:PV)(m:List (Pair×Int))(sk sx:List PV)(x y:Int):
  CR Tryz.prog 207 [] [.p (tabP c b j f p (ckP m) (cxP m) sk sx),.p (.int .i32 x),.p (.int .i32 y)] [] (is (composeA (if y=0 then none else mkB m ⟨x,y⟩))):=by
 refine CR_of_wp mixed 10 [] Tryz.func207 rfl (by kernel_rfl) rfl (by simp) (by simp) ?_
 by_cases hy:y=0
 ·subst hy
  simp (maxSteps:=1000000) [go_sem,Tryz.f207,tabP]
  exact ret_is (.tup [.p (.int .i32 0),.p (.bool false)]) rfl (by simp[go_sem,resOf,leA,leT,leP]) ⟨rfl,rfl⟩
 ·rw[if_neg hy]
  have hk:=ckP_key m
  rcases ckP_mk ⟨x,y⟩ m 0 with ⟨h1,h2⟩|⟨k,r,h1,h2⟩
  ·rw[h2]
   simp only[pairL]at h1
   simp (maxSteps:=1000000) [go_sem,Tryz.f207,tabP,hy,lookupA,mapOf,lookV,h1]
   exact⟨hk,ret_is (.tup [.p (.int .i32 0),.p (.bool false)]) rfl (by simp[go_sem,resOf,leA,leT,leP]) ⟨rfl,rfl⟩⟩
  ·rw[h2]
   simp only[pairL]at h1
   simp (maxSteps:=1000000) [go_sem,Tryz.f207,tabP,hy,lookupA,mapOf,lookV,h1]
   exact⟨hk,ret_is (.tup [.p (.int .i32 r),.p (.bool true)]) rfl (by simp[go_sem,resOf,leA,leT,leP]) ⟨rfl,rfl⟩⟩
end Go.Proofs.YtjefahhmkcfiiaaGreat
end
section
namespace Go.Proofs.YtjefahhmkcfiiaaGreat
open Go.AM
set_option maxHeartbeats 4000000
set_option maxRecDepth 10000
theorem cellsR_app(a b:List Int):cellsR (a++b)=cellsR a++cellsR b:=by simp[cellsR]
theorem cellsR_one(x:Int):cellsR [x]=[.p (.int .i32 x)]:=rfl
def mk2(m:List (Pair×Int))(a b:Int):Option Int:=(joinV a b).or (if b=0 then none else mkB m ⟨a,b⟩)
def optR(x:Option Int):AV:=.tup [.p (.int .i32 (accV x)),.p (.bool x.isSome)]
theorem pairC_cr [Gi](c b j f p:PV)(m:List (Pair×Int))(sk sx:List PV)(x y:Int):CR Tryz.prog 172 [] [.p (tabP c b j f p (ckP m) (cxP m) sk sx),.p (.int .i32 x),.p (.int .i32 y)] [] (is (optR (mk2 m x y))):=by
 refine CR_of_wp mixed 11 [] Tryz.func172 rfl (by kernel_rfl) rfl (by simp) (by simp) ?_
 simp (maxSteps:=1000000) [go_sem,Tryz.f172,tabP]
 refine⟨⟨rfl,by simp[Tryz.f206]⟩,CallK_of [] (join_cr x y) (by simp[go_sem,notHead]) ⟨by simp[go_sem],by simp[go_sem]⟩ (by simp[go_sem]) ?_⟩
 rintro _ rs ⟨rfl,rfl⟩
 cases hj:joinV x y with
 |some z=>
  have e:mk2 m x y=some z:=by unfold mk2;rw[hj];rfl
  rw[e]
  simp (maxSteps:=1000000) [go_sem,optT]
  exact ret_is (optR (some z)) rfl (by simp[go_sem,resOf,leA,leT,leP,optR,accV]) ⟨rfl,rfl⟩
 |none=>
  have e:mk2 m x y=if y=0 then none else mkB m ⟨x,y⟩:=by unfold mk2;rw[hj];rfl
  rw[e]
  simp (maxSteps:=1000000) [go_sem,optT]
  refine⟨⟨rfl,by simp[Tryz.f207]⟩,CallK_of [] (compose_cr c b j f p m sk sx x y) (by simp[go_sem,notHead]) ⟨by simp[go_sem],by simp[go_sem,tabP]⟩ (by simp[go_sem]) ?_⟩
  rintro _ rs ⟨rfl,rfl⟩
  cases (if y=0 then none else mkB m ⟨x,y⟩)with
  |none=>
   simp (maxSteps:=1000000) [go_sem,composeA]
   exact ret_is (optR none) rfl (by simp[go_sem,resOf,leA,leT,leP,optR,accV]) ⟨rfl,rfl⟩
  |some z=>
   simp (maxSteps:=1000000) [go_sem,composeA]
   exact ret_is (optR (some z)) rfl (by simp[go_sem,resOf,leA,leT,leP,optR,accV]) ⟨rfl,rfl⟩
structure Cst where
 o:List Int
 s:Int
 l:Int
def pushC(k:Int→Int)(z:Cst)(r:Int):Cst:=⟨z.o++[r],if k r=0 then z.o.length else z.s,k r⟩
def freeC(k:Int→Int)(z:Cst)(r:Int):Prop:=0≤z.s∧(z.s=z.o.length-1∨(z.l≠0∧z.l<k r))
instance (k:Int→Int)(z:Cst)(r:Int):Decidable (freeC k z r):=by unfold freeC;infer_instance
def stepC(k:Int→Int)(mk:Int→Int→Option Int)(z:Cst)(r:Int):Cst:=
 if freeC k z r then match mk (z.o[z.s.toNat]?.getD 0) r with
  |some c=>⟨z.o.set z.s.toNat c,z.s,z.l⟩
  |none=>pushC k z r
 else pushC k z r
def foldC(k:Int→Int)(mk:Int→Int→Option Int)(l:List Int):Cst:=l.foldl (stepC k mk) ⟨[], -1,0⟩
theorem foldC_snoc(k:Int→Int)(mk:Int→Int→Option Int)(l:List Int)(x:Int):foldC k mk (l++[x])=stepC k mk (foldC k mk l) x:=by simp[foldC,List.foldl_append]
structure CstOK(z:Cst)(n:Nat):Prop where
 lo: -1≤z.s
 hi:z.s<z.o.length
 nn:z.o.length≤n
 ne:0<n→z.o≠ []
theorem CstOK.push {z:Cst} {n:Nat}(h:CstOK z n)(k:Int→Int)(r:Int):CstOK (pushC k z r) (n+1):=by
 obtain⟨h1,h2,h3,h4⟩:=h
 refine⟨?_,?_,by simp[pushC];omega,by simp[pushC]⟩
 ·unfold pushC;simp only;split<;>omega
 ·unfold pushC;simp only[List.length_append,List.length_singleton];split<;>omega
theorem CstOK.step {z:Cst} {n:Nat}(h:CstOK z n)(k:Int→Int)(mk:Int→Int→Option Int)(r:Int):CstOK (stepC k mk z r) (n+1):=by
 unfold stepC
 split
 ·rename_i hf
  split
  ·obtain⟨h1,h2,h3,h4⟩:=h
   have:=hf.1
   refine⟨h1,by simp;omega,by simp;omega,fun _ e=>?_⟩
   have:=congrArg List.length e
   rw[List.length_set,List.length_nil]at this
   omega
  ·exact h.push k r
 ·exact h.push k r
theorem foldC_ok(k:Int→Int)(mk:Int→Int→Option Int)(l:List Int):CstOK (foldC k mk l) l.length:=by
 suffices H:∀(l':List Int) (z:Cst) (n:Nat),CstOK z n→CstOK (l'.foldl (stepC k mk) z) (n+l'.length) by
  have:=H l ⟨[], -1,0⟩ 0 ⟨by simp,by simp,by simp,by simp⟩
  simpa[foldC]using this
 intro l'
 induction l' with
 |nil=>intro z n h;simpa using h
 |cons x l' ih=>
  intro z n h
  have:=ih _ _ (h.step k mk x)
  simpa[Nat.add_assoc,Nat.add_comm 1]using this
def outV(o:List Int):AV:=if o=[]then .p (.opq (.slice none 0 0))else .la [64] 1 0 o.length
def outR(o:List Int):List (Tok×List AV):=if o=[]then []else [([64],cellsR o)]
theorem compose_root [Gi] {t:Tells4} {c b j f p:PV}(h:TabV t c b j f p)(hz:ZeroT t)(m:List (Pair×Int))(sk sx:List PV)(l:List Int)(hl0:l≠ [])(hn:l.length<2^31)(hr:∀x∈l,Rune x):
  CR Tryz.prog 127 [] [.p (tabP c b j f p (ckP m) (cxP m) sk sx),.p (runesV l)] [] (fun x rs=>x=.la [64] 1 0 (foldC (keyT t) (mk2 m) l).o.length∧rs=[([64],cellsR (foldC (keyT t) (mk2 m) l).o)]):=by
 refine CR_of_wpM [] mixed 14 [14,15,16] Tryz.func127 rfl (by kernel_rfl) [5,64] rfl (by simp) (by simp) ?_
 simp (maxSteps:=1000000) [go_sem,Tryz.f127,runesV,i32s_len,tabP]
 refine wpA_loopU (fun i:Nat=>i≤l.length) (fun i=>[(16,.p (.int .i64 (i:Nat))),(5,outV (foldC (keyT t) (mk2 m) (l.take i)).o),(6,.p (.int .i64 (foldC (keyT t) (mk2 m) (l.take i)).s)),(7,.p (.int .i64 (foldC (keyT t) (mk2 m) (l.take i)).l)),(9,.junk),(10,.junk),(11,.junk),(12,.junk),(13,.junk)]) (fun i=>outR (foldC (keyT t) (mk2 m) (l.take i)).o) (fun i=>l.length-i) 0 (by omega)
  (by simp[go_sem,LeS,leV,leR,leA,leL,foldC,outV,outR]) (fun i hi=>?_)
 have hok:=foldC_ok (keyT t) (mk2 m) (l.take i)
 have hlt:(l.take i).length=i:=by rw[List.length_take];omega
 rw[hlt]at hok
 by_cases hil:i<l.length
 ·obtain⟨x,hx⟩:∃x,l[i]=x:=⟨_,rfl⟩
  have hxr:Rune x:=hr x (by rw[←hx];exact List.getElem_mem _)
  have em:elemAt (i32s l) i=.int .i32 x:=by rw[i32s,elemAt_map (fun r=>PV.int .i32 r) l i hil,hx]
  have htk:l.take (i+1)=l.take i++[x]:=by rw[List.take_add_one,List.getElem?_eq_getElem hil,hx];rfl
  have hnx:foldC (keyT t) (mk2 m) (l.take (i+1))=stepC (keyT t) (mk2 m) (foldC (keyT t) (mk2 m) (l.take i)) x:=by rw[htk,foldC_snoc]
  have w1:IntKind.i64.wrap ((i:Int)+1)=((i+1:Nat):Int):=wrapN_one (by omega)
  have hil':(i:Int)<l.length:=by omega
  have w0:IntKind.i64.wrap 1=1:=wrap64 (by omega) (by omega)
  generalize foldC (keyT t) (mk2 m) (l.take i)=z at hok hnx
  obtain⟨o,s,la⟩:=z
  obtain⟨k1,k2,k3,k4⟩:=hok
  simp only at k1 k2 k3 k4
  obtain⟨cl,hcl⟩:∃cl,cl=keyT t x:=⟨_,rfl⟩
  have hcl':t.cls (rn x)=cl:=hcl.symm
  by_cases hi0:i=0
  ·subst hi0
   have ho:o=[]:=by cases o with
    |nil=>rfl
    |cons y o=>simp at k3
   subst ho
   have hs:s= -1:=by simp at k2;omega
   subst hs
   have hf:stepC (keyT t) (mk2 m) ⟨[], -1,la⟩ x=pushC (keyT t) ⟨[], -1,la⟩ x:=if_neg (fun hh=>by have:=hh.1;simp at this)
   simp (maxSteps:=1000000) [go_sem,outV,outR,hil,hil',em,i32s_len,tabP]
   refine⟨⟨rfl,by simp[Tryz.f124]⟩,CallK_of [] (classN_cr h (ckP m) (cxP m) sk sx hz hxr) (by simp[go_sem,notHead]) ⟨by simp[go_sem],by simp[go_sem,tabP]⟩ (by simp[go_sem]) ?_⟩
   rintro _ rs ⟨rfl,rfl⟩
   rw[hcl']
   by_cases hc0:cl=0
   ·have e2:foldC (keyT t) (mk2 m) (l.take (0+1))=⟨[x],0,0⟩:=by rw[hnx,hf];simp[pushC,←hcl,hc0]
    simp (maxSteps:=1000000) [go_sem,outV,hc0,w1]
    exact LoopK_next 1 (by omega) (by simp[go_sem,LeS,leV,leR,leA,leL,e2,outV,outR,cellsR_app,cellsR_one,leL_refl,w0]) (by omega)
   ·have e2:foldC (keyT t) (mk2 m) (l.take (0+1))=⟨[x], -1,cl⟩:=by rw[hnx,hf];simp[pushC,←hcl,hc0]
    simp (maxSteps:=1000000) [go_sem,outV,hc0,w1]
    exact LoopK_next 1 (by omega) (by simp[go_sem,LeS,leV,leR,leA,leL,e2,outV,outR,cellsR_app,cellsR_one,leL_refl,w0]) (by omega)
  ·have hne:o≠ []:=k4 (by omega)
   have hol:0<o.length:=List.length_pos_iff.2 hne
   obtain⟨n,hno⟩:∃n,n=o.length:=⟨_,rfl⟩
   have wl:IntKind.i64.wrap ((o.length:Int)-1)=(o.length:Int)-1:=wrap64 (by omega) (by omega)
   by_cases hs0:0≤s
   ·by_cases hs1:s=o.length-1
    ·have hs1x:((o.length:Int)-1:Int)=s:=hs1.symm
     have hf:stepC (keyT t) (mk2 m) ⟨o,s,la⟩ x=match mk2 m (o[s.toNat]?.getD 0) x with|some c=>⟨o.set s.toNat c,s,la⟩|none=>pushC (keyT t) ⟨o,s,la⟩ x:=if_pos ⟨hs0,.inl hs1⟩
     have hsl:s.toNat<o.length:=by omega
     have gy:=cells_at (List.getElem?_eq_getElem hsl)
     have hgd:o[s.toNat]?.getD 0=o[s.toNat]:=by rw[List.getElem?_eq_getElem hsl];rfl
     rw[hgd]at hf
     have hput:∀v,(cellsR o).take s.toNat++AV.p (.int .i32 v)::(cellsR o).drop (s.toNat+1)=cellsR (o.set s.toNat v):=fun v=>put_cellsR v hsl
     generalize o[s.toNat]=y at gy hf
     have gy2:∀hh,(cellsR o)[s.toNat]'hh=.p (.int .i32 y):=fun hh=>by
      have:=gy
      rw[List.getElem?_eq_getElem hh]at this
      injection this
     have ws:IntKind.i64.wrap s=s:=wrap64 (by omega) (by omega)
     have hsn:s<o.length:=k2
     simp (maxSteps:=1000000) [go_sem,outV,outR,hne,hil,hil',em,i32s_len,tabP]
     refine⟨⟨rfl,by simp[Tryz.f124]⟩,CallK_of [] (classN_cr h (ckP m) (cxP m) sk sx hz hxr) (by simp[go_sem,notHead]) ⟨by simp[go_sem],by simp[go_sem,tabP]⟩ (by simp[go_sem]) ?_⟩
     rintro _ rs ⟨rfl,rfl⟩
     rw[hcl']
     simp (maxSteps:=1000000) [go_sem,hs0,hs1x,hs0,gy,gy2,hsn,ws,wl]
     refine⟨⟨rfl,by simp[Tryz.f172]⟩,CallK_of [] (pairC_cr c b j f p m sk sx y x) (by simp[go_sem,notHead]) ⟨by simp[go_sem],by simp[go_sem,tabP]⟩ (by simp[go_sem]) ?_⟩
     rintro _ rs ⟨rfl,rfl⟩
     cases hmk:mk2 m y x with
     |some q=>
      have e2:foldC (keyT t) (mk2 m) (l.take (i+1))=⟨o.set s.toNat q,s,la⟩:=by rw[hnx,hf,hmk]
      have hp:=hput q
      have hne2:o.set s.toNat q≠ []:=fun e=>by have:=congrArg List.length e;rw[List.length_set,List.length_nil]at this;omega
      simp (maxSteps:=1000000) [go_sem,optR,accV,hs0,hsn,hsl,hp,w1,len_cellsR]
      exact⟨by omega,LoopK_next (i+1) (by omega) (by simp[go_sem,LeS,leV,leR,leA,leL,e2,outV,outR,hne2,leL_refl]) (by omega)⟩
     |none=>
      have hf2:stepC (keyT t) (mk2 m) ⟨o,s,la⟩ x=pushC (keyT t) ⟨o,s,la⟩ x:=by rw[hf,hmk]
      simp (maxSteps:=1000000) [go_sem,optR,accV]
      by_cases hc0:cl=0
      ·have e2:foldC (keyT t) (mk2 m) (l.take (i+1))=⟨o++[x],(o.length:Int),0⟩:=by rw[hnx,hf2];simp[pushC,←hcl,hc0]
       simp (maxSteps:=1000000) [go_sem,outV,hne,hc0,w1]
       exact⟨by omega,LoopK_next (i+1) (by omega) (by simp[go_sem,LeS,leV,leR,leA,leL,e2,outV,outR,cellsR_app,cellsR_one,leL_refl,w0]) (by omega)⟩
      ·have e2:foldC (keyT t) (mk2 m) (l.take (i+1))=⟨o++[x],s,cl⟩:=by rw[hnx,hf2];simp[pushC,←hcl,hc0]
       simp (maxSteps:=1000000) [go_sem,outV,hne,hc0,w1]
       exact⟨by omega,LoopK_next (i+1) (by omega) (by simp[go_sem,LeS,leV,leR,leA,leL,e2,outV,outR,cellsR_app,cellsR_one,leL_refl,w0]) (by omega)⟩
    ·by_cases hl1:la=0
     ·skip
      have hf:stepC (keyT t) (mk2 m) ⟨o,s,la⟩ x=pushC (keyT t) ⟨o,s,la⟩ x:=if_neg (fun hh=>hh.2.elim hs1 (fun h2=>h2.1 hl1))
      simp (maxSteps:=1000000) [go_sem,outV,outR,hne,hil,hil',em,i32s_len,tabP]
      refine⟨⟨rfl,by simp[Tryz.f124]⟩,CallK_of [] (classN_cr h (ckP m) (cxP m) sk sx hz hxr) (by simp[go_sem,notHead]) ⟨by simp[go_sem],by simp[go_sem,tabP]⟩ (by simp[go_sem]) ?_⟩
      rintro _ rs ⟨rfl,rfl⟩
      rw[hcl']
      simp (maxSteps:=1000000) [go_sem,hs0,hs1,hl1,wl]
      by_cases hc0:cl=0
      ·have e2:foldC (keyT t) (mk2 m) (l.take (i+1))=⟨o++[x],(o.length:Int),0⟩:=by rw[hnx,hf];simp[pushC,←hcl,hc0]
       simp (maxSteps:=1000000) [go_sem,outV,hne,hc0,w1]
       exact⟨by omega,LoopK_next (i+1) (by omega) (by simp[go_sem,LeS,leV,leR,leA,leL,e2,outV,outR,cellsR_app,cellsR_one,leL_refl,w0]) (by omega)⟩
      ·have e2:foldC (keyT t) (mk2 m) (l.take (i+1))=⟨o++[x],s,cl⟩:=by rw[hnx,hf];simp[pushC,←hcl,hc0]
       simp (maxSteps:=1000000) [go_sem,outV,hne,hc0,w1]
       exact⟨by omega,LoopK_next (i+1) (by omega) (by simp[go_sem,LeS,leV,leR,leA,leL,e2,outV,outR,cellsR_app,cellsR_one,leL_refl,w0]) (by omega)⟩
     ·by_cases hl2:la<cl
      ·skip
       have hf:stepC (keyT t) (mk2 m) ⟨o,s,la⟩ x=match mk2 m (o[s.toNat]?.getD 0) x with|some c=>⟨o.set s.toNat c,s,la⟩|none=>pushC (keyT t) ⟨o,s,la⟩ x:=if_pos ⟨hs0,.inr ⟨hl1,by rw[←hcl];exact hl2⟩⟩
       have hsl:s.toNat<o.length:=by omega
       have gy:=cells_at (List.getElem?_eq_getElem hsl)
       have hgd:o[s.toNat]?.getD 0=o[s.toNat]:=by rw[List.getElem?_eq_getElem hsl];rfl
       rw[hgd]at hf
       have hput:∀v,(cellsR o).take s.toNat++AV.p (.int .i32 v)::(cellsR o).drop (s.toNat+1)=cellsR (o.set s.toNat v):=fun v=>put_cellsR v hsl
       generalize o[s.toNat]=y at gy hf
       have gy2:∀hh,(cellsR o)[s.toNat]'hh=.p (.int .i32 y):=fun hh=>by
        have:=gy
        rw[List.getElem?_eq_getElem hh]at this
        injection this
       have ws:IntKind.i64.wrap s=s:=wrap64 (by omega) (by omega)
       have hsn:s<o.length:=k2
       simp (maxSteps:=1000000) [go_sem,outV,outR,hne,hil,hil',em,i32s_len,tabP]
       refine⟨⟨rfl,by simp[Tryz.f124]⟩,CallK_of [] (classN_cr h (ckP m) (cxP m) sk sx hz hxr) (by simp[go_sem,notHead]) ⟨by simp[go_sem],by simp[go_sem,tabP]⟩ (by simp[go_sem]) ?_⟩
       rintro _ rs ⟨rfl,rfl⟩
       rw[hcl']
       simp (maxSteps:=1000000) [go_sem,hs1,hl1,hl2,hs0,gy,gy2,hsn,ws,wl]
       refine⟨⟨rfl,by simp[Tryz.f172]⟩,CallK_of [] (pairC_cr c b j f p m sk sx y x) (by simp[go_sem,notHead]) ⟨by simp[go_sem],by simp[go_sem,tabP]⟩ (by simp[go_sem]) ?_⟩
       rintro _ rs ⟨rfl,rfl⟩
       cases hmk:mk2 m y x with
       |some q=>
        have e2:foldC (keyT t) (mk2 m) (l.take (i+1))=⟨o.set s.toNat q,s,la⟩:=by rw[hnx,hf,hmk]
        have hp:=hput q
        have hne2:o.set s.toNat q≠ []:=fun e=>by have:=congrArg List.length e;rw[List.length_set,List.length_nil]at this;omega
        simp (maxSteps:=1000000) [go_sem,optR,accV,hs0,hsn,hsl,hp,w1,len_cellsR]
        exact⟨by omega,LoopK_next (i+1) (by omega) (by simp[go_sem,LeS,leV,leR,leA,leL,e2,outV,outR,hne2,leL_refl]) (by omega)⟩
       |none=>
        have hf2:stepC (keyT t) (mk2 m) ⟨o,s,la⟩ x=pushC (keyT t) ⟨o,s,la⟩ x:=by rw[hf,hmk]
        simp (maxSteps:=1000000) [go_sem,optR,accV]
        by_cases hc0:cl=0
        ·have e2:foldC (keyT t) (mk2 m) (l.take (i+1))=⟨o++[x],(o.length:Int),0⟩:=by rw[hnx,hf2];simp[pushC,←hcl,hc0]
         simp (maxSteps:=1000000) [go_sem,outV,hne,hc0,w1]
         exact⟨by omega,LoopK_next (i+1) (by omega) (by simp[go_sem,LeS,leV,leR,leA,leL,e2,outV,outR,cellsR_app,cellsR_one,leL_refl,w0]) (by omega)⟩
        ·have e2:foldC (keyT t) (mk2 m) (l.take (i+1))=⟨o++[x],s,cl⟩:=by rw[hnx,hf2];simp[pushC,←hcl,hc0]
         simp (maxSteps:=1000000) [go_sem,outV,hne,hc0,w1]
         exact⟨by omega,LoopK_next (i+1) (by omega) (by simp[go_sem,LeS,leV,leR,leA,leL,e2,outV,outR,cellsR_app,cellsR_one,leL_refl,w0]) (by omega)⟩
      ·skip
       have hf:stepC (keyT t) (mk2 m) ⟨o,s,la⟩ x=pushC (keyT t) ⟨o,s,la⟩ x:=if_neg (fun hh=>hh.2.elim hs1 (fun h2=>hl2 (by rw[hcl];exact h2.2)))
       simp (maxSteps:=1000000) [go_sem,outV,outR,hne,hil,hil',em,i32s_len,tabP]
       refine⟨⟨rfl,by simp[Tryz.f124]⟩,CallK_of [] (classN_cr h (ckP m) (cxP m) sk sx hz hxr) (by simp[go_sem,notHead]) ⟨by simp[go_sem],by simp[go_sem,tabP]⟩ (by simp[go_sem]) ?_⟩
       rintro _ rs ⟨rfl,rfl⟩
       rw[hcl']
       simp (maxSteps:=1000000) [go_sem,hs0,hs1,hl1,hl2,wl]
       by_cases hc0:cl=0
       ·have e2:foldC (keyT t) (mk2 m) (l.take (i+1))=⟨o++[x],(o.length:Int),0⟩:=by rw[hnx,hf];simp[pushC,←hcl,hc0]
        simp (maxSteps:=1000000) [go_sem,outV,hne,hc0,w1]
        exact⟨by omega,LoopK_next (i+1) (by omega) (by simp[go_sem,LeS,leV,leR,leA,leL,e2,outV,outR,cellsR_app,cellsR_one,leL_refl,w0]) (by omega)⟩
       ·have e2:foldC (keyT t) (mk2 m) (l.take (i+1))=⟨o++[x],s,cl⟩:=by rw[hnx,hf];simp[pushC,←hcl,hc0]
        simp (maxSteps:=1000000) [go_sem,outV,hne,hc0,w1]
        exact⟨by omega,LoopK_next (i+1) (by omega) (by simp[go_sem,LeS,leV,leR,leA,leL,e2,outV,outR,cellsR_app,cellsR_one,leL_refl,w0]) (by omega)⟩
   ·skip
    have hf:stepC (keyT t) (mk2 m) ⟨o,s,la⟩ x=pushC (keyT t) ⟨o,s,la⟩ x:=if_neg (fun hh=>hs0 hh.1)
    simp (maxSteps:=1000000) [go_sem,outV,outR,hne,hil,hil',em,i32s_len,tabP]
    refine⟨⟨rfl,by simp[Tryz.f124]⟩,CallK_of [] (classN_cr h (ckP m) (cxP m) sk sx hz hxr) (by simp[go_sem,notHead]) ⟨by simp[go_sem],by simp[go_sem,tabP]⟩ (by simp[go_sem]) ?_⟩
    rintro _ rs ⟨rfl,rfl⟩
    rw[hcl']
    simp (maxSteps:=1000000) [go_sem,hs0,wl]
    by_cases hc0:cl=0
    ·have e2:foldC (keyT t) (mk2 m) (l.take (i+1))=⟨o++[x],(o.length:Int),0⟩:=by rw[hnx,hf];simp[pushC,←hcl,hc0]
     simp (maxSteps:=1000000) [go_sem,outV,hne,hc0,w1]
     exact⟨by omega,LoopK_next (i+1) (by omega) (by simp[go_sem,LeS,leV,leR,leA,leL,e2,outV,outR,cellsR_app,cellsR_one,leL_refl,w0]) (by omega)⟩
    ·have e2:foldC (keyT t) (mk2 m) (l.take (i+1))=⟨o++[x],s,cl⟩:=by rw[hnx,hf];simp[pushC,←hcl,hc0]
     simp (maxSteps:=1000000) [go_sem,outV,hne,hc0,w1]
     exact⟨by omega,LoopK_next (i+1) (by omega) (by simp[go_sem,LeS,leV,leR,leA,leL,e2,outV,outR,cellsR_app,cellsR_one,leL_refl,w0]) (by omega)⟩
 ·have hil':¬(i:Int)<l.length:=by omega
  obtain rfl:i=l.length:=by omega
  rw[List.take_length]at hok⊢
  have hne:=hok.ne (List.length_pos_iff.2 hl0)
  generalize foldC (keyT t) (mk2 m) l=z at hok hne
  obtain⟨o,s,la⟩:=z
  simp only at hne
  simp (maxSteps:=1000000) [go_sem,outV,outR,hne]
  exact ret_keep [[64]] (.la [64] 1 0 o.length) ⟨rfl,by simp⟩ (by simp[go_sem,resOf,leA,leT]) ⟨rfl,by simp[go_sem]⟩
def compL(t:Tells4)(m:List (Pair×Int))(l:List Int):List Int:=(foldC (keyT t) (mk2 m) l).o
theorem composeT_cr [Gi] {t:Tells4} {c b j f p:PV}(h:TabV t c b j f p)(hz:ZeroT t)(m:List (Pair×Int))(sk sx:List PV)(l:List Int)(hn:l.length<2^31)(hr:∀x∈l,Rune x):
  CR Tryz.prog 127 [] [.p (tabP c b j f p (ckP m) (cxP m) sk sx),.p (runesV l)] [] (is (.p (runesV (compL t m l)))):=by
 by_cases hl0:l=[]
 ·subst hl0
  refine CR_of_wpM [] mixed 14 [14,15,16] Tryz.func127 rfl (by kernel_rfl) [5,64] rfl (by simp) (by simp) ?_
  simp (maxSteps:=1000000) [go_sem,Tryz.f127,runesV,i32s_len,tabP]
  refine wpA_loopU (fun _:Unit=>True) (fun _=>[]) (fun _=>[]) (fun _=>0) () trivial (by simp[go_sem,LeS,leV,leR,leA,leL,leL_refl]) (fun _ _=>?_)
  simp (maxSteps:=1000000) [go_sem]
  exact ret_is (.p (.sl 1 [])) rfl (by simp[go_sem,resOf,leA,leT,leP]) ⟨rfl,rfl⟩
 ·have hok:=foldC_ok (keyT t) (mk2 m) l
  exact CR.row (List.length_pos_iff.2 (hok.ne (List.length_pos_iff.2 hl0))) (compose_root h hz m sk sx l hl0 hn hr)
def nfcL(t:Tells4)(m:List (Pair×Int))(l:List Int):List Int:=compL t m (nfdL t l)
theorem nfdL_len(t:Tells4)(l:List Int):(nfdL t l).length≤768*l.length:=by unfold nfdL;rw[ordL_len];exact apartL_len t l
theorem nfdL_rune {t:Tells4}(hP:ParOK t) {l:List Int}(hl:∀x∈l,Rune x):∀x∈nfdL t l,Rune x:=fun x hx=>by
 rcases ordGo_mem _ _ hx with hx|hx
 ·simp at hx
 ·exact apartL_rune hP hl x hx
theorem nfc_cr [Gi] {t:Tells4} {c b j f p:PV}(h:TabV t c b j f p)(hz:ZeroT t)(hP:ParOK t)(m:List (Pair×Int))(sk sx:List PV)(l:List Int)(hn:l.length<2^20)(hr:∀x∈l,Rune x):
  CR Tryz.prog 72 [] [.p (tabP c b j f p (ckP m) (cxP m) sk sx),.p (runesV l)] [] (is (.p (runesV (nfcL t m l)))):=by
 refine CR_of_wp mixed 5 [] Tryz.func72 rfl (by kernel_rfl) rfl (by simp) (by simp) ?_
 have hl:=nfdL_len t l
 simp (maxSteps:=1000000) [go_sem,Tryz.f72,runesV,tabP]
 refine⟨⟨rfl,by simp[Tryz.f128]⟩,CallK_of [] (nfd_cr h hz hP (ckP m) (cxP m) sk sx l hn hr) (by simp[go_sem,notHead]) ⟨by simp[go_sem],by simp[go_sem,tabP,runesV]⟩ (by simp[go_sem]) ?_⟩
 rintro _ rs ⟨rfl,rfl⟩
 simp (maxSteps:=1000000) [go_sem,runesV]
 refine⟨⟨rfl,by simp[Tryz.f127]⟩,CallK_of [] (composeT_cr h hz m sk sx (nfdL t l) (by omega) (nfdL_rune hP hr)) (by simp[go_sem,notHead]) ⟨by simp[go_sem],by simp[go_sem,tabP,runesV]⟩ (by simp[go_sem]) ?_⟩
 rintro _ rs ⟨rfl,rfl⟩
 simp (maxSteps:=1000000) [go_sem,runesV]
 exact ret_is (.p (runesV (nfcL t m l))) rfl (by simp[go_sem,resOf,leA,leT,leP,runesV,nfcL]) ⟨rfl,rfl⟩
end Go.Proofs.YtjefahhmkcfiiaaGreat
end
section
namespace Go.Proofs.YtjefahhmkcfiiaaGreat
open Go.AM
set_option maxHeartbeats 4000000
set_option maxRecDepth 10000
def textsP(L:List (List Int)):List PV:=L.map runesV
def textsV(L:List (List Int)):PV:=.sl 1 (textsP L)
theorem clone_cr [Gi](l:List Int)(h0:l≠ [])(hn:l.length<2^40):CR Tryz.prog 126 [] [.p (runesV l)] [] (is (.p (runesV l))):=CR.row (List.length_pos_iff.2 h0) (clone_root l h0 hn)
theorem clusters_cr [Gi] {t:Tells4} {c b j f p:PV}(h:TabV t c b j f p)(hz:ZeroT t)(ck cx sk sx:List PV)(l:List Int)(hn:l.length<2^31)(hr:∀x∈l,Rune x):
  CR Tryz.prog 71 [] [.p (tabP c b j f p ck cx sk sx),.p (runesV l)] [] (is (.p (textsV (clusL t l)))):=by
 refine CR_of_wp mixed 8 [] Tryz.func71 rfl (by kernel_rfl) rfl (by simp) (by simp) ?_
 simp (maxSteps:=1000000) [go_sem,Tryz.f71,runesV,tabP]
 refine wpA_loopU (fun r:List (List Int)×Nat=>r.2≤l.length∧r.1.length≤r.2∧clusL t l=r.1++clusL t (l.drop r.2)) (fun r=>[(6,.p (.int .i64 (r.2:Nat))),(5,.os [5] 1 (textsP r.1)),(7,.junk)]) (fun _=>[]) (fun r=>l.length-r.2) ([],0) ⟨by simp,by simp,rfl⟩ (by simp[go_sem,LeS,leV,leR,leA,leL,textsP]) (fun r hr2=>?_)
 obtain⟨D,a⟩:=r
 obtain⟨p1,p3,p2⟩:=hr2
 simp only at p1 p2 p3
 by_cases hal:a<l.length
 ·obtain⟨x,hx⟩:∃x,l[a]=x:=⟨_,rfl⟩
  have hdr:l.drop a=x::l.drop (a+1):=by rw[←hx];exact List.drop_eq_getElem_cons hal
  have hrun:=runC_le t (l.drop (a+1)) (stepS t segZ x).1
  obtain⟨k,hk⟩:∃k,k=runC t (stepS t segZ x).1 (l.drop (a+1)):=⟨_,rfl⟩
  have hnx:=next_cr h hz ck cx sk sx l hn hr a x (l.drop (a+1)) hdr
  rw[←hk]at hrun hnx
  rw[List.length_drop]at hrun
  obtain⟨e,he⟩:∃e,e=a+1+k:=⟨_,rfl⟩
  rw[←he]at hnx
  have hcl:clusL t (l.drop a)=(l.drop a).take (k+1)::clusL t (l.drop e):=by
   rw[hdr,clusL_cons,←hk,List.drop_drop,List.take_succ_cons,he]
  have g1:(a:Int)<l.length:=by omega
  have hcut:(i32s l).drop a=i32s (l.drop a):=by simp[i32s]
  have hcut2:(i32s (l.drop a)).take (e-a)=i32s ((l.drop a).take (k+1)):=by
   have:e-a=k+1:=by omega
   rw[this];simp[i32s]
  have hcl0:(l.drop a).take (k+1)≠ []:=by rw[hdr];simp
  have hclen:((l.drop a).take (k+1)).length<2^40:=by rw[List.length_take,List.length_drop];omega
  obtain⟨C,hC⟩:∃C,C=(l.drop a).take (k+1):=⟨_,rfl⟩
  rw[←hC]at hcl hcut2 hcl0 hclen
  simp (maxSteps:=1000000) [go_sem,i32s_len,g1]
  refine⟨⟨rfl,by simp[Tryz.f125]⟩,CallK_of [] hnx (by simp[go_sem,notHead]) ⟨by simp[go_sem],by simp[go_sem,tabP,runesV]⟩ (by simp[go_sem]) ?_⟩
  rintro _ rs ⟨rfl,rfl⟩
  have g2:(e:Int).toNat-a=e-a:=by omega
  have hcc:cut (i32s l) a e=i32s C:=by rw[←hcut2,←hcut];simp[cut]
  simp (maxSteps:=1000000) [go_sem,i32s_len,hcc]
  refine⟨⟨by omega,by omega⟩,⟨rfl,by simp[Tryz.f126]⟩,CallK_of [] (clone_cr C hcl0 hclen) (by simp[go_sem,notHead]) ⟨by simp[go_sem],by simp[go_sem,runesV]⟩ (by simp[go_sem]) ?_⟩
  rintro _ rs ⟨rfl,rfl⟩
  simp (maxSteps:=1000000) [go_sem,i32s_len,runesV]
  refine⟨rfl,by simp[textsP];omega,LoopK_next (D++[C],e) ⟨by show e≤l.length;omega,by simp;omega,by rw[p2,hcl];simp⟩ (by simp[go_sem,LeS,leV,leR,leA,leL,textsP,runesV]) (by show l.length-e<l.length-a;omega)⟩
 ·have g1:¬(a:Int)<l.length:=by omega
  have e:clusL t l=D:=by rw[p2,List.drop_eq_nil_of_le (by omega)];simp[clusL,clusGo]
  rw[e]
  simp (maxSteps:=1000000) [go_sem,i32s_len,g1]
  exact ret_is (.p (textsV D)) rfl (by simp[go_sem,resOf,leA,leT,leP,textsV]) ⟨rfl,rfl⟩
end Go.Proofs.YtjefahhmkcfiiaaGreat
end
section
namespace Go.Proofs.YtjefahhmkcfiiaaGreat
open Go.RowKit Go.Lib
set_option maxRecDepth 100000
set_option maxHeartbeats 4000000
theorem cinfo21:∃i,Tryz.prog.info? 21=some i∧i.zero=some (.int .i32 0)∧i.size=1∧i.bytes=4:=by
 have h:(Tryz.prog.info? 21).map (fun i=>(i.zero,i.size,i.bytes))=some (some (.int .i32 0),1,4):=by kernel_rfl
 simp only[Option.map_eq_some_iff,Prod.mk.injEq]at h
 obtain⟨i,h0,h1,h2,h3⟩:=h
 exact⟨i,h0,h1,h2,h3⟩
theorem grow_zero(w:World):Calls Tryz.prog 130 #[.slice none 0 0,.int .i64 0] w fun e w'=>e=.returned (.slice none 0 0)∧w'=w:=by
 go_enter Tryz.func130,Tryz.ntmps130
 go_wp2
 go_ret
 exact⟨rfl,rfl⟩
theorem grow_pos(n:Nat)(w:World)(hn:0<n)(hbig:n*4≤140737488355328):
  ∃G,n≤G∧G≤9223372036854775807∧Calls Tryz.prog 130 #[.slice none 0 0,.int .i64 n] w fun e w'=>e=.returned (.slice (some ⟨w.heap.size,0,none⟩) 0 G)∧
   w'=w.drew.alloc (.cells (Builtin.zeroCells (Value.int .i32 0).cells n++Builtin.zeroCells (Value.int .i32 0).cells (G-n)) 21):=by
 obtain⟨i0,hi0,hz0,hzs,hzb⟩:=cinfo21
 have hrz:∀ty,(Builtin.append_ #[22,3] ty #[.slice none 0 0,.int .i64 n]).run Tryz.prog w=_:=fun ty=>
  run_append_nil_zeros w 22 3 ty 21 i0 _ .i64 .i64 Tryz.underlying22 Tryz.underlying3 hi0 hz0 n hn (by omega) (by omega) (by rw[hzb];omega)
 obtain⟨G,hG⟩:∃G,G=grownCap w n 0 21:=⟨_,rfl⟩
 have hGn:n≤G:=by rw[hG];exact grownCap_ge w _ _ _
 have hG63:G≤9223372036854775807:=by
  have:=grownCap_le_maxLen w n 0 21 (by unfold maxLen;omega)
  rw[←hG]at this
  unfold maxLen at this
  omega
 rw[←hG]at hrz
 refine⟨G,hGn,hG63,?_⟩
 have h1:¬((n:Int)<0):=by omega
 have h3:IntKind.i64.wrap (n:Int)=n:=by rw[IntKind.wrap_i64];omega
 have h4:(0:Int)< (n:Int):=by omega
 go_enter Tryz.func130,Tryz.ntmps130
 go_wp2_with (at_builtin;refine Lib.wpList_append_run _ rfl _ _ _ _ rfl _ _ rfl rfl _ _ (hrz _) ?_)
 go_ret
 exact⟨rfl,rfl⟩
end Go.Proofs.YtjefahhmkcfiiaaGreat
end
section
namespace Go.AM
structure Chg(g:Gh)(w w':World)(B:Nat):Prop where
 old:∀d,d<w.heap.size→d≠B→w'.heap[d]?=w.heap[d]?
 fr0:g.fr B=0
 mine:w.heap.size≤B∨g.K B≠ .prot
 lt:B<w'.heap.size
 mono:w.heap.size≤w'.heap.size
 out:w'.os=w.os∧w'.tape=w.tape∧w'.output=w.output
def ngh(g:Gh)(B m:Nat)(k:Kd):Gh:=⟨updN g.fr B m,fun d=>if d=B then k else .prot⟩
theorem ngh_fr(g:Gh)(B m:Nat)(k:Kd):(ngh g B m k).fr B=m:=updN_same _ _ _
theorem ngh_K(g:Gh)(B m:Nat)(k:Kd):(ngh g B m k).K B=k:=if_pos rfl
theorem Chg.ext [Gi] {g:Gh} {w w':World} {B:Nat} {rs:List (Tok×List AV)}(c:Chg g w w' B)(hG:GS g w rs)(m:Nat)(k:Kd):Ext g.fr w (ngh g B m k).fr w':=fun d o ho=>by
 have hd:d≠B:=fun e=>by subst e;rw[c.fr0]at ho;omega
 have hlt:d<w.heap.size:=by
  rcases Nat.lt_or_ge d w.heap.size with h|h
  ·exact h
  ·have:=hG.frb d h;omega
 exact⟨by show o<updN g.fr B m d;rw[updN_ne _ _ _ hd];exact ho,same_of_heap (c.old d hlt hd)⟩
theorem Chg.aft [Gi] {g:Gh} {w w':World} {B:Nat} {rs:List (Tok×List AV)}(c:Chg g w w' B)(hG:GS g w rs)(m:Nat)(k:Kd):Aft g w (ngh g B m k) w' []:=
 ⟨fun d hd hk=>by
  have hdB:d≠B:=fun e=>by
   subst e
   rcases c.mine with h|h
   ·omega
   ·exact h hk
  exact⟨c.old d hd hdB,updN_ne _ _ _ hdB,if_neg hdB⟩,c.ext hG m k,c.out,c.mono,fun _ _ _ h=>by cases h⟩
theorem Chg.frb [Gi] {g:Gh} {w w':World} {B:Nat} {rs:List (Tok×List AV)}(c:Chg g w w' B)(hG:GS g w rs)(m:Nat)(k:Kd)(d:Nat)(hd:w'.heap.size≤d):(ngh g B m k).fr d=0:=by
 have:=c.lt
 have:=c.mono
 show updN g.fr B m d=0
 rw[updN_ne _ _ _ (by omega)]
 exact hG.frb d (by omega)
theorem ngh_own {g:Gh} {B m:Nat} {k k':Kd}(hk':k'≠ .prot) {d:Nat}(h:(ngh g B m k).K d=k'):d=B∧k=k':=by
 have h':(if d=B then k else .prot)=k':=h
 split at h'
 ·exact⟨by assumption,h'⟩
 ·exact absurd h'.symm hk'
theorem Chg.gs_tail [Gi] {g:Gh} {w w':World} {B:Nat} {rs:List (Tok×List AV)}(c:Chg g w w' B)(hG:GS g w rs)(m:Nat)(t:Tok)(rs':List (Tok×List AV)):GS (ngh g B m (.tail t)) w' rs':=by
 refine⟨fun b u h=>?_,fun b b' u h h'=>?_,fun b b' u h h'=>?_,fun b h=>?_,c.frb hG m _,hG.gl.aft (c.aft hG m _)⟩
 ·have:=(ngh_own (by simp) h).2;cases this
 ·have:=(ngh_own (by simp) h).2;cases this
 ·rw[(ngh_own (by simp) h).1,(ngh_own (by simp) h').1]
 ·by_cases e:b=B
  ·subst e;exact c.lt
  ·exact absurd (if_neg e) h
def Cel(fr:Nat→Nat)(w:World)(e:PV)(c:Value):Prop:=∃v,RepP fr w e v∧v.cells= #[c]∧c.oneCell'=true
theorem Cel.ext {f1 f2:Nat→Nat} {w1 w2:World}(h:Ext f1 w1 f2 w2) {e:PV} {c:Value}:Cel f1 w1 e c→Cel f2 w2 e c:=fun⟨v,r,h1,h2⟩=>⟨v,r.ext h,h1,h2⟩
theorem Cel.one {fr:Nat→Nat} {w:World} {e:PV} {c:Value}(h:e.one=true):Cel fr w e c→RepP fr w e c:=fun⟨v,r,h1,_⟩=>by
 have:=RepP.one h r
 have h2:v.cells= #[v]:=cells_of_one this
 rw[h1]at h2
 have:c=v:=by simpa using h2
 rw[this];exact r
theorem Cel.of {fr:Nat→Nat} {w:World} {e:PV} {v:Value}(h:e.one=true)(r:RepP fr w e v):Cel fr w e v:=⟨v,r,cells_of_one (RepP.one h r),RepP.one h r⟩
theorem LeA.ag {xs:List AV} {ys:List PV}(h:toPs xs=some ys):LeA (.ag xs) (.p (.agg ys)):=fun g w v r=>by
 have:=toP_spec (x:=.ag xs) (y:=.agg ys) (by simp[toP,h]) r
 simpa only[RepA]using this
theorem drew_heap(w:World):w.drew.heap=w.heap:=rfl
end Go.AM
end
