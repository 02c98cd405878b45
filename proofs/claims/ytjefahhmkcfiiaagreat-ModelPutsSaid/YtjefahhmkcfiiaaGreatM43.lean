/- A part of the proof of this seat's statements, by an abstract machine: what each operation does to values, and what the law's functions compute. Conditions: as each law says. -/
import Derived.Test.YtjefahhmkcfiiaaGreatM42
import Derived.Test.YtjefahhmkcfiiaaGreatM40
section
namespace Go.Proofs.YtjefahhmkcfiiaaGreat
open Go.AM
set_option maxHeartbeats 4000000
set_option maxRecDepth 10000
def startP(k:Int→Int)(o:List Int):Int×Int:=o.foldl (fun(p:Int×Int) y=>(p.1+1,if k y=0 then p.1 else p.2)) (0, -1)
def startL(k:Int→Int)(o:List Int):Int:=(startP k o).2
theorem startP_snoc(k:Int→Int)(o:List Int)(y:Int):startP k (o++[y])=((startP k o).1+1,if k y=0 then(startP k o).1 else(startP k o).2):=by simp[startP,List.foldl_append]
theorem snoc_ind {P:List Int→Prop}(h0:P [])(h1:∀o y,P o→P (o++[y])):∀(n:Nat) (o:List Int),o.length=n→P o
 |0,o,h=>by rw[List.eq_nil_of_length_eq_zero h];exact h0
 |n+1,o,h=>by
  obtain⟨o',y,rfl⟩:=last_split (A:=o) (fun e=>by rw[e]at h;simp at h)
  exact h1 o' y (snoc_ind h0 h1 n o' (by simpa using h))
theorem startP_len(k:Int→Int):∀o:List Int,(startP k o).1=o.length:=by
 exact fun o=>snoc_ind (P:=fun o=>(startP k o).1=o.length) rfl (fun o y ih=>by rw[startP_snoc];simp[ih]) o.length o rfl
theorem startL_snoc(k:Int→Int)(o:List Int)(y:Int):startL k (o++[y])=if k y=0 then(o.length:Int)else startL k o:=by
 unfold startL;rw[startP_snoc,startP_len]
theorem startL_nil(k:Int→Int):startL k []= -1:=rfl
theorem startL_lt(k:Int→Int):∀o:List Int, -1≤startL k o∧startL k o<o.length:=by
 exact fun o=>snoc_ind (P:=fun o=> -1≤startL k o∧startL k o<o.length) (by simp[startL_nil]) (fun o y ih=>by rw[startL_snoc];simp only[List.length_append,List.length_singleton];split<;>omega) o.length o rfl
theorem take_snoc {o:List Int} {i:Nat}(h:i<o.length):o.take (i+1)=o.take i++[o[i]]:=by
 rw[List.take_add_one,List.getElem?_eq_getElem h];rfl
theorem startD_cr [Gi](rows:List Row)(hrw:RowsOK rows)(o:List Int)(hn:o.length<2^31)(hr:∀x∈o,Rune x):CR Tryz.prog 133 [[0]] [.p (rowsP rows),.la [0] 1 0 o.length] [([0],cellsR o)] (fun x rs=>x=.p (.int .i64 (startL (kD rows) o))∧rs=[([0],cellsR o)]):=by
 refine CR_of_wp mixed 6 [] Tryz.func133 rfl (by kernel_rfl) rfl (by simp) (by simp) ?_
 have w1:IntKind.i64.wrap ((o.length:Int)-1)=(o.length:Int)-1:=wrap64 (by omega) (by omega)
 simp (maxSteps:=1000000) [go_sem,Tryz.f133,w1]
 refine wpA_loopU (fun i:Nat=>i≤o.length∧startL (kD rows) o=startL (kD rows) (o.take i)) (fun i=>[(5,.p (.int .i64 ((i:Int)-1)))]) (fun _=>[]) (fun i=>i) o.length ⟨Nat.le_refl _,by rw[List.take_length]⟩ (by simp[go_sem,LeS,leV,leR,leA,leL,leL_refl]) (fun i hi=>?_)
 obtain⟨h1,h2⟩:=hi
 by_cases hi0:i=0
 ·subst hi0
  simp (maxSteps:=1000000) [go_sem]
  exact ret_keep [[0]] (.p (.int .i64 (startL (kD rows) o))) ⟨rfl,by simp⟩ (by simp[go_sem,resOf,leA,leT,leP,h2,startL_nil]) ⟨rfl,by simp[go_sem]⟩
 ·obtain⟨j,rfl⟩:∃j,i=j+1:=⟨i-1,by omega⟩
  have hj:j<o.length:=by omega
  have hxr:Rune o[j]:=hr _ (List.getElem_mem _)
  rw[take_snoc hj,startL_snoc,List.length_take]at h2
  have hm:min j o.length=j:=by omega
  rw[hm]at h2
  have gx:=cells_at (List.getElem?_eq_getElem hj)
  have gx2:∀hh,(cellsR o)[j]'hh=.p (.int .i32 o[j]):=fun hh=>by have:=gx;rw[List.getElem?_eq_getElem hh]at this;injection this
  generalize o[j]=x at hxr h2 gx gx2
  have ej:((j+1:Nat):Int)-1=(j:Int):=by omega
  have w2:IntKind.i64.wrap ((j:Int)-1)=(j:Int)-1:=wrap64 (by omega) (by omega)
  have hj':(j:Int)<o.length:=by omega
  have hj0:(0:Int)≤(j:Int):=by omega
  simp only[ej]
  simp (maxSteps:=1000000) [go_sem,hj,hj',hj0,gx,gx2]
  refine⟨⟨rfl,by simp[Tryz.f176]⟩,CallK_of [] (classD_cr rows x hrw.n hxr) (by simp[go_sem,notHead]) ⟨by simp[go_sem],by simp[go_sem]⟩ (by simp[go_sem]) ?_⟩
  rintro _ rs ⟨rfl,rfl⟩
  by_cases hc:kD rows x=0
  ·have e:startL (kD rows) o=j:=by rw[h2,if_pos hc]
   have hc':aL rows 1 x=0:=hc
   simp (maxSteps:=1000000) [go_sem,hc']
   exact ret_keep [[0]] (.p (.int .i64 (startL (kD rows) o))) ⟨rfl,by simp⟩ (by simp[go_sem,resOf,leA,leT,leP,e]) ⟨rfl,by simp[go_sem]⟩
  ·have hc':¬aL rows 1 x=0:=hc
   simp (maxSteps:=1000000) [go_sem,hc',w2]
   refine LoopK_next j ⟨by omega,by rw[h2,if_neg hc]⟩ (by simp[go_sem,LeS,leV,leR,leA,leL,leL_refl]) (by omega)
theorem start0_cr [Gi](rows:List Row):CR Tryz.prog 133 [] [.p (rowsP rows),.p (.opq (.slice none 0 0))] [] (is (.p (.int .i64 (-1)))):=by
 refine CR_of_wp mixed 6 [] Tryz.func133 rfl (by kernel_rfl) rfl (by simp) (by simp) ?_
 have w1:IntKind.i64.wrap (-1)= -1:=wrap64 (by omega) (by omega)
 simp (maxSteps:=1000000) [go_sem,Tryz.f133,w1]
 refine wpA_loopU (fun _:Unit=>True) (fun _=>[]) (fun _=>[]) (fun _=>0) () trivial (by simp[go_sem,LeS,leV,leR,leA,leL,leL_refl]) (fun _ _=>?_)
 simp (maxSteps:=1000000) [go_sem]
 exact ret_is (.p (.int .i64 (-1))) rfl (by simp[go_sem,resOf,leA,leT,leP]) ⟨rfl,rfl⟩
def freeD(k:Int→Int)(o:List Int)(a x:Int):Bool:=decide (a=o.length-1) || decide (k (o[o.length-1]?.getD 0)<k x)
theorem freeD_cr [Gi](rows:List Row)(hrw:RowsOK rows)(o:List Int)(h0:o≠ [])(a x:Int)(hx:Rune x)(hn:o.length<2^31)(hr:∀x∈o,Rune x):CR Tryz.prog 134 [[0]] [.p (rowsP rows),.la [0] 1 0 o.length,.p (.int .i64 a),.p (.int .i32 x)] [([0],cellsR o)] (fun y rs=>y=.p (.bool (freeD (kD rows) o a x))∧rs=[([0],cellsR o)]):=by
 refine CR_of_wp mixed 9 [] Tryz.func134 rfl (by kernel_rfl) rfl (by simp) (by simp) ?_
 have hol:0<o.length:=List.length_pos_iff.2 h0
 obtain⟨n,hno⟩:∃n,o.length=n+1:=⟨o.length-1,by omega⟩
 have hj:n<o.length:=by omega
 have w1:IntKind.i64.wrap (((n+1:Nat):Int)-1)=(n:Int):=wrapN_pred (by omega) rfl
 have w1':IntKind.i64.wrap ((n:Int)+1-1)=(n:Int):=wrapN_pred (x:=n+1) (by omega) rfl
 have w1'':IntKind.i64.wrap (n:Int)=(n:Int):=wrapN (by omega)
 have hxr:Rune o[n]:=hr _ (List.getElem_mem _)
 have gx:=cells_at (List.getElem?_eq_getElem hj)
 have gx2:∀hh,(cellsR o)[n]'hh=.p (.int .i32 o[n]):=fun hh=>by have:=gx;rw[List.getElem?_eq_getElem hh]at this;injection this
 have el:o[o.length-1]?.getD 0=o[n]:=by rw[hno,Nat.add_sub_cancel,List.getElem?_eq_getElem hj];rfl
 have e1:((o.length:Int)-1)=(n:Int):=by omega
 unfold freeD
 rw[el,e1]
 generalize o[n]=y at hxr gx gx2
 by_cases c1:a=(n:Int)
 ·subst c1
  simp (maxSteps:=1000000) [go_sem,Tryz.f134,hno,w1,w1',w1'']
  exact ret_keep [[0]] (.p (.bool true)) ⟨rfl,by simp⟩ (by simp[go_sem,resOf,leA,leT,leP]) ⟨rfl,by simp[go_sem]⟩
 ·simp (maxSteps:=1000000) [go_sem,Tryz.f134,hno,w1,w1',w1'',c1,gx,gx2,hj]
  refine⟨by omega,⟨rfl,by simp[Tryz.f176]⟩,CallK_of [] (classD_cr rows y hrw.n hxr) (by simp[go_sem,notHead]) ⟨by simp[go_sem],by simp[go_sem]⟩ (by simp[go_sem]) ?_⟩
  rintro _ rs ⟨rfl,rfl⟩
  simp (maxSteps:=1000000) [go_sem]
  refine⟨⟨rfl,by simp[Tryz.f176]⟩,CallK_of [] (classD_cr rows x hrw.n hx) (by simp[go_sem,notHead]) ⟨by simp[go_sem],by simp[go_sem]⟩ (by simp[go_sem]) ?_⟩
  rintro _ rs ⟨rfl,rfl⟩
  simp (maxSteps:=1000000) [go_sem]
  exact ret_keep [[0]] (.p (.bool (decide (aL rows 1 y<aL rows 1 x)))) ⟨rfl,by simp⟩ (by simp[go_sem,resOf,leA,leT,leP]) ⟨congrArg (fun b=>AV.p (.bool b)) (decide_eq_decide.2 Iff.rfl),by simp[go_sem]⟩
def mkD(rows:List Row)(a b:Int):Option Int:=(joinD a b).or (compD rows a b)
def stepD(k:Int→Int)(mk:Int→Int→Option Int)(O:List Int)(x:Int):List Int:=
 if 0≤startL k O∧freeD k O (startL k O) x=true then match mk (O[(startL k O).toNat]?.getD 0) x with
  |some r=>O.set (startL k O).toNat r
  |none=>O++[x]
 else O++[x]
def compoD(k:Int→Int)(mk:Int→Int→Option Int)(l:List Int):List Int:=l.foldl (stepD k mk) []
theorem compoD_snoc(k:Int→Int)(mk:Int→Int→Option Int)(l:List Int)(x:Int):compoD k mk (l++[x])=stepD k mk (compoD k mk l) x:=by simp[compoD,List.foldl_append]
theorem compD_rune {rows:List Row}(hrw:RowsOK rows)(x y:Int):∀z,compD rows x y=some z→Rune z:=by
 suffices H:∀(l:List Row) (a:Option Int),(∀w∈l,w∈rows)→(∀z,a=some z→Rune z)→∀z,l.foldl (compStep rows x y) a=some z→Rune z by
  exact H rows none (fun _ h=>h) (fun z h=>by cases h)
 intro l
 induction l with
 |nil=>intro a _ ha z hz;exact ha z hz
 |cons w l ih=>
  intro a hw ha z hz
  refine ih _ (fun v hv=>hw v (by simp[hv])) (fun u hu=>?_) z hz
  unfold compStep at hu
  split at hu
  ·rename_i hc
   injection hu with hu;subst hu
   have:=hrw.p w (hw w (by simp)) hc.1
   exact⟨by omega,by omega⟩
  ·exact ha u hu
theorem mkD_rune {rows:List Row}(hrw:RowsOK rows) {x y z:Int}(h:mkD rows x y=some z):Rune z:=by
 unfold mkD at h
 cases hj:joinD x y with
 |none=>rw[hj]at h;exact compD_rune hrw x y z h
 |some q=>
  rw[hj]at h
  simp only[Option.some_or,Option.some.injEq]at h
  subst h
  unfold joinD at hj
  split at hj
  ·injection hj with hj;exact⟨by omega,by omega⟩
  ·split at hj
   ·rename_i hc
    have hs':44032≤x∧x<55204:=by simpa[sylB]using hc.1
    injection hj with hj;exact⟨by omega,by omega⟩
   ·cases hj
structure OutOK(o:List Int)(n:Nat):Prop where
 nn:o.length≤n
 ne:0<n→o≠ []
 r:∀x∈o,Rune x
theorem OutOK.push {o:List Int} {n:Nat}(h:OutOK o n) {x:Int}(hx:Rune x):OutOK (o++[x]) (n+1):=
 ⟨by simp;exact h.nn,by simp,fun y hy=>by rcases List.mem_append.1 hy with hy|hy;exact h.r y hy;rw[List.mem_singleton.1 hy];exact hx⟩
theorem OutOK.set {o:List Int} {n:Nat}(h:OutOK o n)(h0:o≠ []) {j:Nat} {x:Int}(hx:Rune x):OutOK (o.set j x) (n+1):=
 ⟨by simp;have:=h.nn;omega,fun _ e=>h0 (by have:=congrArg List.length e;rw[List.length_set,List.length_nil]at this;exact List.eq_nil_of_length_eq_zero this),fun y hy=>by rcases List.mem_or_eq_of_mem_set hy with hy|rfl;exact h.r y hy;exact hx⟩
theorem stepD_ok {rows:List Row}(hrw:RowsOK rows) {o:List Int} {n:Nat}(h:OutOK o n) {x:Int}(hx:Rune x):OutOK (stepD (kD rows) (mkD rows) o x) (n+1):=by
 unfold stepD
 split
 ·rename_i hf
  split
  ·rename_i r hr
   refine h.set (fun e=>?_) (mkD_rune hrw hr)
   rw[e,startL_nil]at hf
   have:=hf.1
   simp at this
  ·exact h.push hx
 ·exact h.push hx
theorem compoD_ok {rows:List Row}(hrw:RowsOK rows)(l:List Int)(hl:∀x∈l,Rune x):OutOK (compoD (kD rows) (mkD rows) l) l.length:=by
 suffices H:∀(l':List Int) (o:List Int) (n:Nat),(∀x∈l',Rune x)→OutOK o n→OutOK (l'.foldl (stepD (kD rows) (mkD rows)) o) (n+l'.length) by
  have:=H l [] 0 hl ⟨by simp,by simp,by simp⟩
  simpa[compoD]using this
 intro l'
 induction l' with
 |nil=>intro o n _ h;simpa using h
 |cons x l' ih=>
  intro o n hl h
  have:=ih _ _ (fun y hy=>hl y (by simp[hy])) (stepD_ok hrw h (hl x (by simp)))
  simpa[Nat.add_assoc,Nat.add_comm 1]using this
def oV1(o:List Int):AV:=if o=[]then .p (.opq (.slice none 0 0))else .la [55] 1 0 o.length
def oR1(o:List Int):List (Tok×List AV):=if o=[]then []else [([55],cellsR o)]
theorem composeD_root [Gi](rows:List Row)(hrw:RowsOK rows)(l:List Int)(hl0:l≠ [])(hn:l.length<2^31)(hr:∀x∈l,Rune x):
  CR Tryz.prog 81 [] [.p (rowsP rows),.p (runesV l)] [] (fun x rs=>x=.la [55] 1 0 (compoD (kD rows) (mkD rows) l).length∧rs=[([55],cellsR (compoD (kD rows) (mkD rows) l))]):=by
 refine CR_of_wpM [7] mixed 10 [] Tryz.func81 rfl (by kernel_rfl) [5,55] rfl (by simp) (by simp) ?_
 simp (maxSteps:=1000000) [go_sem,Tryz.f81,runesV]
 refine wpA_loopU (fun i:Nat=>i≤l.length) (fun i=>[(6,.p (.int .i64 (i:Nat))),(5,oV1 (compoD (kD rows) (mkD rows) (l.take i))),(7,.junk),(8,.junk),(9,.junk)]) (fun i=>oR1 (compoD (kD rows) (mkD rows) (l.take i))) (fun i=>l.length-i) 0 (by omega)
  (by simp[go_sem,LeS,leV,leR,leA,leL,compoD,oV1,oR1]) (fun i hi=>?_)
 have hok:=compoD_ok hrw (l.take i) (fun x hx=>hr x (List.mem_of_mem_take hx))
 have hlt:(l.take i).length=i:=by rw[List.length_take];omega
 rw[hlt]at hok
 by_cases hil:i<l.length
 ·obtain⟨x,hx⟩:∃x,l[i]=x:=⟨_,rfl⟩
  have hxr:Rune x:=hr x (by rw[←hx];exact List.getElem_mem _)
  have em:elemAt (i32s l) i=.int .i32 x:=by rw[i32s,elemAt_map (fun r=>PV.int .i32 r) l i hil,hx]
  have htk:l.take (i+1)=l.take i++[x]:=by rw[List.take_add_one,List.getElem?_eq_getElem hil,hx];rfl
  have hnx:compoD (kD rows) (mkD rows) (l.take (i+1))=stepD (kD rows) (mkD rows) (compoD (kD rows) (mkD rows) (l.take i)) x:=by rw[htk,compoD_snoc]
  have w1:IntKind.i64.wrap ((i:Int)+1)=((i+1:Nat):Int):=wrapN_one (by omega)
  have hil':(i:Int)<l.length:=by omega
  have w0:IntKind.i64.wrap 1=1:=wrap64 (by omega) (by omega)
  generalize compoD (kD rows) (mkD rows) (l.take i)=o at hok hnx
  obtain⟨k1,k2,k3⟩:=hok
  by_cases hi0:i=0
  ·subst hi0
   obtain rfl:o=[]:=List.eq_nil_of_length_eq_zero (by omega)
   have e2:compoD (kD rows) (mkD rows) (l.take (0+1))=[x]:=by rw[hnx];rfl
   simp (maxSteps:=1000000) [go_sem,oV1,oR1,hil,hil',em,i32s_len]
   refine⟨⟨rfl,by simp[Tryz.f133]⟩,CallK_of [] (start0_cr rows) (by simp[go_sem,notHead]) ⟨by simp[go_sem],by simp[go_sem]⟩ (by simp[go_sem]) ?_⟩
   rintro _ rs ⟨rfl,rfl⟩
   simp (maxSteps:=1000000) [go_sem,hil,hil',em,i32s_len]
   exact LoopK_next 1 (by omega) (by simp[go_sem,LeS,leV,leR,leA,leL,e2,oV1,oR1,cellsR_one,leL_refl,w0]) (by omega)
  ·have hne:o≠ []:=k2 (by omega)
   have hol:0<o.length:=List.length_pos_iff.2 hne
   obtain⟨s1,s2⟩:=startL_lt (kD rows) o
   have hst:stepD (kD rows) (mkD rows) o x=if 0≤startL (kD rows) o∧freeD (kD rows) o (startL (kD rows) o) x=true then match mkD rows (o[(startL (kD rows) o).toNat]?.getD 0) x with
    |some r=>o.set (startL (kD rows) o).toNat r
    |none=>o++[x]
    else o++[x]:=rfl
   have hpush:stepD (kD rows) (mkD rows) o x=o++[x]→compoD (kD rows) (mkD rows) (l.take (i+1))=o++[x]:=fun e=>by rw[hnx,e]
   simp (maxSteps:=1000000) [go_sem,oV1,oR1,hne,hil,hil',em,i32s_len]
   refine⟨⟨rfl,by simp[Tryz.f133]⟩,CallK_of [([0],[55])] (startD_cr rows hrw o (by omega) k3) (by simp[go_sem,notHead]) ⟨by simp[go_sem],by simp[go_sem]⟩ (by simp[go_sem]) ?_⟩
   rintro _ rs ⟨rfl,rfl⟩
   generalize startL (kD rows) o=s at s1 s2 hst
   by_cases hs0:0≤s
   ·have hsl:s.toNat<o.length:=by omega
    have hyr:Rune o[s.toNat]:=k3 _ (List.getElem_mem _)
    have gy:=cells_at (List.getElem?_eq_getElem hsl)
    have gy2:∀hh,(cellsR o)[s.toNat]'hh=.p (.int .i32 o[s.toNat]):=fun hh=>by have:=gy;rw[List.getElem?_eq_getElem hh]at this;injection this
    have hput:∀v,(cellsR o).take s.toNat++AV.p (.int .i32 v)::(cellsR o).drop (s.toNat+1)=cellsR (o.set s.toNat v):=fun v=>put_cellsR v hsl
    have hgd:o[s.toNat]?.getD 0=o[s.toNat]:=by rw[List.getElem?_eq_getElem hsl];rfl
    rw[hgd]at hst
    generalize o[s.toNat]=y at gy gy2 hst hyr
    simp (maxSteps:=1000000) [go_sem,hs0,hil,hil',em,i32s_len]
    refine⟨⟨rfl,by simp[Tryz.f134]⟩,CallK_of [([0],[55])] (freeD_cr rows hrw o hne s x hxr (by omega) k3) (by simp[go_sem,notHead]) ⟨by simp[go_sem],by simp[go_sem]⟩ (by simp[go_sem]) ?_⟩
    rintro _ rs ⟨rfl,rfl⟩
    cases hf:freeD (kD rows) o s x with
    |true=>
     rw[if_pos ⟨hs0,hf⟩]at hst
     simp (maxSteps:=1000000) [go_sem,hs0,gy,gy2,s2,hil,hil',em,i32s_len]
     refine HCallK_of (.tup [.p (.int .i32 (accV (mkD rows y x))),.p (.bool (mkD rows y x).isSome)]) rfl rfl (fun _=>pcallA_of 135 (pairMk_cr rows y x hrw hyr hxr) rfl ⟨rfl,by simp[Tryz.f135]⟩ ⟨by simp[go_sem],by simp[go_sem]⟩) ?_
     simp (maxSteps:=1000000) [go_sem]
     cases hmk:mkD rows y x with
     |some q=>
      have e2:compoD (kD rows) (mkD rows) (l.take (i+1))=o.set s.toNat q:=by rw[hnx,hst,hmk]
      have hp:=hput q
      have hne2:o.set s.toNat q≠ []:=fun e=>by have:=congrArg List.length e;rw[List.length_set,List.length_nil]at this;omega
      simp (maxSteps:=1000000) [go_sem,accV,hs0,s2,hsl,hp,w1,len_cellsR]
      exact⟨by omega,LoopK_next (i+1) (by omega) (by simp[go_sem,LeS,leV,leR,leA,leL,e2,oV1,oR1,hne2,leL_refl]) (by omega)⟩
     |none=>
      have e2:=hpush (by rw[hst,hmk])
      simp (maxSteps:=1000000) [go_sem,accV,w1,hil,hil',em,i32s_len,hol]
      exact⟨by omega,LoopK_next (i+1) (by omega) (by simp[go_sem,LeS,leV,leR,leA,leL,e2,oV1,oR1,hne,cellsR_app,cellsR_one,leL_refl]) (by omega)⟩
    |false=>
     have e2:=hpush (by rw[hst,if_neg (fun h=>by rw[hf]at h;simp at h)])
     simp (maxSteps:=1000000) [go_sem,w1,hil,hil',em,i32s_len,hol]
     exact⟨by omega,LoopK_next (i+1) (by omega) (by simp[go_sem,LeS,leV,leR,leA,leL,e2,oV1,oR1,hne,cellsR_app,cellsR_one,leL_refl]) (by omega)⟩
   ·have e2:=hpush (by rw[hst,if_neg (fun h=>hs0 h.1)])
    simp (maxSteps:=1000000) [go_sem,hs0,w1,hil,hil',em,i32s_len,hol]
    exact⟨by omega,LoopK_next (i+1) (by omega) (by simp[go_sem,LeS,leV,leR,leA,leL,e2,oV1,oR1,hne,cellsR_app,cellsR_one,leL_refl]) (by omega)⟩
 ·have hil':¬(i:Int)<l.length:=by omega
  obtain rfl:i=l.length:=by omega
  rw[List.take_length]at hok⊢
  have hne:=hok.ne (List.length_pos_iff.2 hl0)
  generalize compoD (kD rows) (mkD rows) l=o at hok hne
  simp (maxSteps:=1000000) [go_sem,oV1,oR1,hne,i32s_len]
  exact ret_keep [[55]] (.la [55] 1 0 o.length) ⟨rfl,by simp⟩ (by simp[go_sem,resOf,leA,leT]) ⟨rfl,by simp[go_sem]⟩
def composD(rows:List Row)(l:List Int):List Int:=compoD (kD rows) (mkD rows) l
theorem composeD_cr [Gi](rows:List Row)(hrw:RowsOK rows)(l:List Int)(hn:l.length<2^31)(hr:∀x∈l,Rune x):CR Tryz.prog 81 [] [.p (rowsP rows),.p (runesV l)] [] (is (.p (runesV (composD rows l)))):=by
 by_cases hl0:l=[]
 ·subst hl0
  refine CR_of_wpM [7] mixed 10 [] Tryz.func81 rfl (by kernel_rfl) [5,55] rfl (by simp) (by simp) ?_
  simp (maxSteps:=1000000) [go_sem,Tryz.f81,runesV]
  refine wpA_loopU (fun _:Unit=>True) (fun _=>[]) (fun _=>[]) (fun _=>0) () trivial (by simp[go_sem,LeS,leV,leR,leA,leL,leL_refl]) (fun _ _=>?_)
  simp (maxSteps:=1000000) [go_sem,i32s]
  exact ret_is (.p (.sl 1 [])) rfl (by simp[go_sem,resOf,leA,leT,leP]) ⟨rfl,rfl⟩
 ·have hok:=compoD_ok hrw l hr
  exact CR.row (List.length_pos_iff.2 (hok.ne (List.length_pos_iff.2 hl0))) (composeD_root rows hrw l hl0 hn hr)
def nfcD(rows:List Row)(l:List Int):List Int:=composD rows (nfdD rows l)
theorem insRev_mem {k:Int→Int} {x z:Int}:∀l,z∈insRev k x l→z=x∨z∈l
 | [],h=>by simp[insRev]at h;exact .inl h
 |y::l,h=>by
  unfold insRev at h
  split at h
  ·rcases List.mem_cons.1 h with h|h
   ·exact .inr (by simp[h])
   ·rcases insRev_mem l h with h|h
    ·exact .inl h
    ·exact .inr (by simp[h])
  ·rcases List.mem_cons.1 h with h|h
   ·exact .inl h
   ·exact .inr h
theorem ordD_mem {k:Int→Int} {z:Int}(l:List Int)(h:z∈ordD k l):z∈l:=by
 suffices H:∀(l O:List Int),z∈l.foldl (insD k) O→z∈O∨z∈l by
  rcases H l [] h with h|h
  ·simp at h
  ·exact h
 intro l
 induction l with
 |nil=>intro O h;exact .inl h
 |cons x l ih=>
  intro O h
  rcases ih _ h with h|h
  ·have h2:z∈insRev k x O.reverse:=by simpa[insD]using h
   rcases insRev_mem _ h2 with h3|h3
   ·exact .inr (by simp[h3])
   ·exact .inl (by simpa using h3)
  ·exact .inr (by simp[h])
theorem nfdD_len(rows:List Row)(l:List Int):(nfdD rows l).length≤768*l.length:=by unfold nfdD;rw[ordD_len];exact apartD_len rows l
theorem nfdD_rune {rows:List Row}(hrw:RowsOK rows) {l:List Int}(hl:∀x∈l,Rune x):∀x∈nfdD rows l,Rune x:=fun x hx=>apartD_rune hrw hl x (ordD_mem _ hx)
theorem nfcD_cr [Gi](rows:List Row)(hrw:RowsOK rows)(l:List Int)(hn:l.length<2^20)(hr:∀x∈l,Rune x):CR Tryz.prog 32 [] [.p (rowsP rows),.p (runesV l)] [] (is (.p (runesV (nfcD rows l)))):=by
 refine CR_of_wp mixed 5 [] Tryz.func32 rfl (by kernel_rfl) rfl (by simp) (by simp) ?_
 have hl:=nfdD_len rows l
 simp (maxSteps:=1000000) [go_sem,Tryz.f32,runesV]
 refine⟨⟨rfl,by simp[Tryz.f82]⟩,CallK_of [] (nfdD_cr rows hrw l hn hr) (by simp[go_sem,notHead]) ⟨by simp[go_sem],by simp[go_sem,runesV]⟩ (by simp[go_sem]) ?_⟩
 rintro _ rs ⟨rfl,rfl⟩
 simp (maxSteps:=1000000) [go_sem,runesV]
 refine⟨⟨rfl,by simp[Tryz.f81]⟩,CallK_of [] (composeD_cr rows hrw (nfdD rows l) (by omega) (nfdD_rune hrw hr)) (by simp[go_sem,notHead]) ⟨by simp[go_sem],by simp[go_sem,runesV]⟩ (by simp[go_sem]) ?_⟩
 rintro _ rs ⟨rfl,rfl⟩
 simp (maxSteps:=1000000) [go_sem,runesV]
 exact ret_is (.p (runesV (nfcD rows l))) rfl (by simp[go_sem,resOf,leA,leT,leP,runesV,nfcD]) ⟨rfl,rfl⟩
end Go.Proofs.YtjefahhmkcfiiaaGreat
end
section
namespace Go.Proofs.YtjefahhmkcfiiaaGreat
open Go.AM
set_option maxHeartbeats 4000000
set_option maxRecDepth 10000
def caretGo(need:Int):List (List Int)→Nat
 | []=>0
 |c::C=>if need≤0 then 0 else caretGo (need-c.length) C+1
theorem caretGo_le:∀(C:List (List Int)) (need:Int),caretGo need C≤C.length
 | [],_=>by simp[caretGo]
 |c::C,need=>by
  unfold caretGo
  split
  ·omega
  ·have:=caretGo_le C (need-c.length)
   simp only[List.length_cons];omega
theorem alikeR_le:∀a b:List Int,alikeR a b≤a.length∧alikeR a b≤b.length
 | [],b=>by simp[alikeR]
 |a::l,[]=>by simp[alikeR]
 |a::l,b::m=>by
  have:=alikeR_le l m
  unfold alikeR
  split<;>simp only[List.length_cons]<;>omega
theorem alikeL_le(a b:List Int):alikeL a b≤a.length∧alikeL a b≤b.length:=by
 have:=alikeR_le a.reverse b.reverse
 simp only[List.length_reverse]at this
 exact this
def putL(nfc:List Int→List Int)(clus:List Int→List (List Int))(L:List (List Int))(a f e:Int)(s:List Int):List (List Int)×Int×Bool:=
 if f<0∨e<f∨(L.length:Int)<e then(L,a,false)
 else
  let rest:=(L.drop e.toNat).flatten
  let x:=nfc ((L.take f.toNat).flatten++(s++rest))
  if 65536<x.length then(L,a,false)
  else(clus x,(caretGo ((x.length:Int)-alikeL x rest) (clus x):Nat),true)
def linR(L:List (List Int))(a:Int):List AV:=[.p (textsV L),.p (.int .i64 a)]
def putV(r:List (List Int)×Int×Bool):AV:=.tup [.p (lineV r.1 r.2.1),.p (.bool r.2.2)]
theorem ofM_cr [Gi] {t:Tells4} {c b j f p:PV}(h:TabV t c b j f p)(hz:ZeroT t)(hP:ParOK t)(m:List (Pair×Int))(sk sx:List PV)(l:List Int)(hn:l.length<2^20)(hr:∀x∈l,Rune x)
  (hn2:(nfcL t m l).length<2^31) (hr2:∀x∈nfcL t m l,Rune x):
  CR Tryz.prog 18 [] [.p (tabP c b j f p (ckP m) (cxP m) sk sx),.p (runesV l)] [] (is (.p (lineV (clusL t (nfcL t m l)) 0))):=by
 refine CR_of_wp mixed 5 [] Tryz.func18 rfl (by kernel_rfl) rfl (by simp) (by simp) ?_
 simp (maxSteps:=1000000) [go_sem,Tryz.f18,runesV,tabP]
 refine⟨rfl,⟨rfl,by simp[Tryz.f72]⟩,CallK_of [] (nfc_cr h hz hP m sk sx l hn hr) (by simp[go_sem,notHead]) ⟨by simp[go_sem],by simp[go_sem,runesV,tabP]⟩ (by simp[go_sem]) ?_⟩
 rintro _ rs ⟨rfl,rfl⟩
 simp (maxSteps:=1000000) [go_sem]
 refine⟨⟨rfl,by simp[Tryz.f71]⟩,CallK_of [] (clusters_cr h hz (ckP m) (cxP m) sk sx (nfcL t m l) hn2 hr2) (by simp[go_sem,notHead]) ⟨by simp[go_sem],by simp[go_sem,runesV,tabP]⟩ (by simp[go_sem]) ?_⟩
 rintro _ rs ⟨rfl,rfl⟩
 simp (maxSteps:=1000000) [go_sem,textsV]
 refine⟨rfl,?_⟩
 exact ret_is (.p (lineV (clusL t (nfcL t m l)) 0)) rfl (by simp[go_sem,resOf,leA,leT,leP,lineV,textsV]) ⟨rfl,rfl⟩
theorem ofD35_cr [Gi] {rows:List Row}(hw:RowsOK rows)(l:List Int)(hn:l.length<2^20)(hr:∀x∈l,Rune x)
  (hn2:(nfcD rows l).length<2^31) (hr2:∀x∈nfcD rows l,Rune x):
  CR Tryz.prog 19 [] [.p (rowsP rows),.p (runesV l)] [] (is (.p (lineV (clusD rows (nfcD rows l)) 0))):=by
 refine CR_of_wp mixed 5 [] Tryz.func19 rfl (by kernel_rfl) rfl (by simp) (by simp) ?_
 simp (maxSteps:=1000000) [go_sem,Tryz.f19,runesV]
 refine⟨rfl,⟨rfl,by simp[Tryz.f32]⟩,CallK_of [] (nfcD_cr rows hw l hn hr) (by simp[go_sem,notHead]) ⟨by simp[go_sem],by simp[go_sem,runesV]⟩ (by simp[go_sem]) ?_⟩
 rintro _ rs ⟨rfl,rfl⟩
 simp (maxSteps:=1000000) [go_sem]
 refine⟨⟨rfl,by simp[Tryz.f73]⟩,CallK_of [] (clustersD_cr hw (nfcD rows l) hn2 hr2) (by simp[go_sem,notHead]) ⟨by simp[go_sem],by simp[go_sem,runesV]⟩ (by simp[go_sem]) ?_⟩
 rintro _ rs ⟨rfl,rfl⟩
 simp (maxSteps:=1000000) [go_sem,textsV]
 refine⟨rfl,?_⟩
 exact ret_is (.p (lineV (clusD rows (nfcD rows l)) 0)) rfl (by simp[go_sem,resOf,leA,leT,leP,lineV,textsV]) ⟨rfl,rfl⟩
end Go.Proofs.YtjefahhmkcfiiaaGreat
end
