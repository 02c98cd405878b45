/- A part of the proof of this seat's statements, by an abstract machine: what each operation does to values, and what the law's functions compute. Conditions: as each law says. -/
import Derived.Test.YtjefahhmkcfiiaaGreatM38
import Derived.Test.YtjefahhmkcfiiaaGreatM22
section
namespace Go.Proofs.YtjefahhmkcfiiaaGreat
open Go.AM
set_option maxHeartbeats 4000000
set_option maxRecDepth 10000
theorem zeros_size(z:Value)(hz:z.oneCell'=true)(n:Nat):(Builtin.zeroCells z.cells n).size=n:=by
 have:=congrArg List.length (zeroCells_list z n)
 rw[cells_of_one hz]at this⊢
 simpa using this
theorem grow_cr [Gi](n:Nat)(hn:n*4≤140737488355328):CR Tryz.prog 130 [] [.p (.opq (.slice none 0 0)),.p (.int .i64 n)] [] (is (.os [0] 1 [])):=by
 intro w g vs hargs hG
 simp only[RepAL,RepA,RepP]at hargs
 obtain⟨v,vs',rfl,rfl,v2,vs2,rfl,rfl,rfl⟩:=hargs
 rcases Nat.eq_zero_or_pos n with h0|h0
 ·subst h0
  refine(grow_zero w).mono ?_
  rintro e w' ⟨rfl,rfl⟩
  let g2:Gh:=⟨g.fr,fun _=>.prot⟩
  exact⟨_,.os [0] 1 [],[],g2,rfl,⟨rfl,rfl⟩,by simp only[RepA,RepP];exact⟨.inl ⟨trivial,none,0,rfl⟩,.inl ⟨none,0,rfl⟩⟩,⟨fun b t h=>(by cases h),fun b b' t h=>(by cases h),fun b b' t h=>(by cases h),fun b h=>absurd rfl h,hG.frb,fun b arr e=>⟨rfl,(hG.gl b arr e).2⟩⟩,
   ⟨fun d _ _=>⟨rfl,rfl,rfl⟩,Ext.refl _ _,⟨rfl,rfl,rfl⟩,Nat.le_refl _,fun b t _ ht=>(by cases ht)⟩⟩
 ·obtain⟨G,h1,h2,hc⟩:=grow_pos n w h0 hn
  refine hc.mono ?_
  rintro e w' ⟨rfl,hw⟩
  have hh:w'.heap[w.heap.size]?=some (.cells (Builtin.zeroCells (Value.int .i32 0).cells n++Builtin.zeroCells (Value.int .i32 0).cells (G-n)) 21 (0,0)):=by rw[hw,heap_alloc,drew_heap,if_pos rfl]
  have c:Chg g w w' w.heap.size:=by
   subst hw
   refine⟨fun d hd hdB=>?_,hG.frb _ (Nat.le_refl _),.inl (Nat.le_refl _),?_,?_,⟨rfl,rfl,rfl⟩⟩
   ·rw[heap_alloc,drew_heap,if_neg hdB]
   ·simp[drew_heap]
   ·simp[drew_heap]
  refine⟨_,.os [0] 1 [],[],ngh g w.heap.size 0 (.tail [0]),rfl,⟨rfl,rfl⟩,?_,c.gs_tail hG _ _ _,c.aft hG _ _⟩
  simp only[RepA,RepP]
  refine⟨.inl ⟨trivial,_,G,rfl⟩,.inr ⟨w.heap.size,0,0,G,rfl,ngh_K _ _ _ _,by rw[ngh_fr],_,21,hh,?_⟩⟩
  simp only[Array.size_append,zeros_size _ (show(Value.int .i32 0).oneCell'=true from rfl)]
  omega
def sumL(L:List (List Int)):Nat:=(L.map List.length).sum
theorem sumL_flat(L:List (List Int)):L.flatten.length=sumL L:=by simp[sumL,List.length_flatten]
theorem sumL_step {L:List (List Int)} {i:Nat}(h:i<L.length):sumL (L.take (i+1))=sumL (L.take i)+L[i].length:=by
 rw[List.take_succ_eq_append_getElem h]
 simp only[sumL,List.map_append,List.sum_append,List.map_cons,List.map_nil,List.sum_cons,List.sum_nil,Nat.add_zero]
theorem sumL_take(L:List (List Int))(i:Nat):sumL (L.take i)≤sumL L:=by
 have h:L.flatten.length=(L.take i).flatten.length+(L.drop i).flatten.length:=by
  rw[←List.length_append,←List.flatten_append,List.take_append_drop]
 rw[sumL_flat,sumL_flat]at h
 omega
theorem i32s_app(a b:List Int):i32s (a++b)=i32s a++i32s b:=by simp[i32s]
theorem flat_step {L:List (List Int)} {i:Nat}(h:i<L.length):(L.take (i+1)).flatten=(L.take i).flatten++L[i]:=by
 rw[List.take_succ_eq_append_getElem h]
 simp only[List.flatten_append,List.flatten_cons,List.flatten_nil,List.append_nil]
theorem concat_cr [Gi](L:List (List Int))(hL:L.length<2^31)(hn:sumL L<2^31):CR Tryz.prog 74 [] [.p (textsV L)] [] (is (.p (runesV L.flatten))):=by
 refine CR_of_wp mixed 9 [9,10,11,25,26,27] Tryz.func74 rfl (by kernel_rfl) rfl (by simp) (by simp) ?_
 have htl:(textsP L).length=L.length:=by simp[textsP]
 simp (maxSteps:=1000000) [go_sem,Tryz.f74,textsV,htl]
 refine wpA_loopU (fun i:Nat=>i≤L.length) (fun i=>[(3,.p (.int .i64 (sumL (L.take i):Nat))),(11,.p (.int .i64 (i:Nat))),(5,.junk)]) (fun _=>[]) (fun i=>L.length-i) 0 (by omega) (by simp[go_sem,LeS,leV,leR,leA,leL,sumL]) (fun i hi=>?_)
 have hsi:=sumL_take L i
 by_cases hil:i<L.length
 ·have em:elemAt (textsP L) i=runesV L[i]:=by rw[textsP,elemAt_map runesV L i hil]
  have e1:=sumL_step hil
  have hs2:=sumL_take L (i+1)
  have g1:(i:Int)<L.length:=by omega
  have w1:IntKind.i64.wrap ((i:Int)+1)=((i+1:Nat):Int):=wrapN_one (by omega)
  generalize L[i]=x at em e1
  have w2:IntKind.i64.wrap ((sumL (L.take i):Int)+x.length)=((sumL (L.take (i+1)):Nat):Int):=wrapN_add (by omega) e1
  have g2:¬((sumL (L.take (i+1)):Int)<0):=by omega
  simp (maxSteps:=1000000) [go_sem,g1,hil,em,htl,runesV,i32s_len,w1,w2,g2]
  exact LoopK_next (i+1) (by omega) (by simp[go_sem,LeS,leV,leR,leA,leL]) (by omega)
 ·have g1:¬(i:Int)<L.length:=by omega
  obtain rfl:i=L.length:=by omega
  rw[List.take_length]at hsi⊢
  simp (maxSteps:=1000000) [go_sem,g1]
  refine⟨⟨rfl,by simp[Tryz.f130]⟩,CallK_of [] (grow_cr (sumL L) (by omega)) (by simp[go_sem,notHead]) ⟨by simp[go_sem],by simp[go_sem]⟩ (by simp[go_sem]) ?_⟩
  rintro y rs ⟨rfl,rfl⟩
  simp (maxSteps:=1000000) [go_sem,htl]
  refine wpA_loopU (fun i:Nat=>i≤L.length) (fun i=>[(6,.os [6] 1 (i32s (L.take i).flatten)),(27,.p (.int .i64 (i:Nat))),(8,.junk)]) (fun _=>[]) (fun i=>L.length-i) 0 (by omega) (by simp[go_sem,LeS,leV,leR,leA,leL,i32s]) (fun i hi=>?_)
  have hsi:=sumL_take L i
  by_cases hil:i<L.length
  ·have em:elemAt (textsP L) i=runesV L[i]:=by rw[textsP,elemAt_map runesV L i hil]
   have e1:=sumL_step hil
   have e2:=flat_step hil
   have hs2:=sumL_take L (i+1)
   have g1:(i:Int)<L.length:=by omega
   have w1:IntKind.i64.wrap ((i:Int)+1)=((i+1:Nat):Int):=wrapN_one (by omega)
   have hfl:=sumL_flat (L.take i)
   generalize L[i]=x at em e1 e2
   simp (maxSteps:=1000000) [go_sem,g1,hil,em,htl,runesV,i32s_len,w1,hfl]
   refine⟨by omega,LoopK_next (i+1) (by omega) (by simp[go_sem,LeS,leV,leR,leA,leL,e2,i32s_app]) (by omega)⟩
  ·have g1:¬(i:Int)<L.length:=by omega
   obtain rfl:i=L.length:=by omega
   rw[List.take_length]
   simp (maxSteps:=1000000) [go_sem,g1]
   exact ret_is (.p (runesV L.flatten)) rfl (by simp[go_sem,resOf,leA,leT,leP,runesV]) ⟨rfl,rfl⟩
end Go.Proofs.YtjefahhmkcfiiaaGreat
end
section
namespace Go.Proofs.YtjefahhmkcfiiaaGreat
open Go.AM
set_option maxHeartbeats 4000000
set_option maxRecDepth 10000
def lineV(L:List (List Int))(a:Int):PV:=.agg [textsV L,.int .i64 a]
theorem textsP_len(L:List (List Int)):(textsP L).length=L.length:=by simp[textsP]
def clAt(L:List (List Int))(n:Int):Nat:=(max (min n (L.length:Int)) 0).toNat
theorem clAt_le(L:List (List Int))(n:Int):clAt L n≤L.length:=by unfold clAt;omega
theorem clAt_int(L:List (List Int))(n:Int):((clAt L n:Nat):Int)=max (min n (L.length:Int)) 0:=by unfold clAt;omega
theorem lineAt_cr [Gi](L:List (List Int))(a n:Int):CR Tryz.prog 77 [] [.p (lineV L a),.p (.int .i64 n)] [] (is (.p (.int .i64 (clAt L n:Nat)))):=by
 refine CR_of_wp mixed 5 [] Tryz.func77 rfl (by kernel_rfl) rfl (by simp) (by simp) ?_
 simp (maxSteps:=1000000) [go_sem,Tryz.f77,lineV,textsV,textsP_len]
 rw[clAt_int]
 generalize max (min n (L.length:Int)) 0=v
 exact ret_is (.p (.int .i64 v)) rfl (by simp[go_sem,resOf,leA,leT,leP]) ⟨rfl,rfl⟩
theorem runes_cr [Gi](L:List (List Int))(a:Int)(hL:L.length<2^31)(hn:sumL L<2^31):CR Tryz.prog 24 [] [.p (lineV L a)] [] (is (.p (runesV L.flatten))):=by
 refine CR_of_wp mixed 3 [] Tryz.func24 rfl (by kernel_rfl) rfl (by simp) (by simp) ?_
 simp (maxSteps:=1000000) [go_sem,Tryz.f24,lineV,textsV]
 refine⟨⟨rfl,by simp[Tryz.f74]⟩,CallK_of [] (concat_cr L hL hn) (by simp[go_sem,notHead]) ⟨by simp[go_sem],by simp[go_sem,textsV]⟩ (by simp[go_sem]) ?_⟩
 rintro _ rs ⟨rfl,rfl⟩
 simp (maxSteps:=1000000) [go_sem,runesV]
 exact ret_is (.p (runesV L.flatten)) rfl (by simp[go_sem,resOf,leA,leT,leP,runesV]) ⟨rfl,rfl⟩
def placeL(L:List (List Int))(a:Int):Nat:=sumL (L.take (clAt L a))
theorem place_cr [Gi](L:List (List Int))(a:Int)(hL:L.length<2^31)(hn:sumL L<2^31):CR Tryz.prog 26 [] [.p (lineV L a)] [] (is (.p (.int .i64 (placeL L a:Nat)))):=by
 refine CR_of_wpD [1] mixed 3 [] Tryz.func26 rfl (by kernel_rfl) rfl (by simp) (by simp) ?_
 have h1:=clAt_le L a
 have h2:=sumL_take L (clAt L a)
 have hfl:=sumL_flat (L.take (clAt L a))
 simp (maxSteps:=1000000) [go_sem,Tryz.f26,lineV,textsV]
 refine HCallK_of (.p (.int .i64 (clAt L a:Nat))) rfl rfl (fun _=>pcallA_of 77 (lineAt_cr L a a) rfl ⟨rfl,by simp[Tryz.f77]⟩ ⟨by simp[go_sem],by simp[go_sem,lineV,textsV]⟩) ?_
 have hcut:cut (textsP L) 0 (clAt L a:Nat)=textsP (L.take (clAt L a)):=by simp[cut,textsP]
 unfold placeL
 generalize clAt L a=k at h1 h2 hfl hcut
 simp (maxSteps:=1000000) [go_sem,textsP_len,hcut]
 refine⟨h1,HCallK_of (.p (runesV (L.take k).flatten)) rfl rfl (fun _=>pcallA_of 74 (concat_cr (L.take k) (by rw[List.length_take];omega) (by omega)) rfl ⟨rfl,by simp[Tryz.f74]⟩ ⟨by simp[go_sem],by simp[go_sem,textsV]⟩) ?_⟩
 simp (maxSteps:=1000000) [go_sem,runesV,i32s_len,hfl]
 exact ret_is (.p (.int .i64 (sumL (L.take k):Nat))) rfl (by simp[go_sem,resOf,leA,leT,leP]) ⟨rfl,rfl⟩
theorem i32s_elem(b:List Int)(m:Nat):∃k v,elemAt (i32s b) m=.int k v:=by
 by_cases h:m<b.length
 ·exact⟨_,_,by rw[i32s,elemAt_map (fun r=>PV.int .i32 r) b _ h]⟩
 ·refine⟨default,default,?_⟩
  simp[elemAt,i32s,List.getD,List.getElem?_eq_none (by simpa using h)];rfl
def alikeR:List Int→List Int→Nat
 |x::a,y::b=>if x=y then alikeR a b+1 else 0
 |_,_=>0
def alikeL(a b:List Int):Nat:=alikeR a.reverse b.reverse
theorem alike_cr [Gi](a b:List Int)(ha:a.length<2^31)(hb:b.length<2^31):CR Tryz.prog 75 [] [.p (runesV a),.p (runesV b)] [] (is (.p (.int .i64 (alikeL a b:Nat)))):=by
 refine CR_of_wp mixed 6 [] Tryz.func75 rfl (by kernel_rfl) rfl (by simp) (by simp) ?_
 simp (maxSteps:=1000000) [go_sem,Tryz.f75,runesV]
 refine wpA_loopU (fun i:Nat=>i≤a.length∧i≤b.length∧alikeL a b=i+alikeR (a.reverse.drop i) (b.reverse.drop i)) (fun i=>[(5,.p (.int .i64 (i:Nat)))]) (fun _=>[]) (fun i=>a.length-i) 0 ⟨by omega,by omega,by simp[alikeL]⟩ (by simp[go_sem,LeS,leV,leR,leA,leL]) (fun i hi=>?_)
 obtain⟨h1,h2,h3⟩:=hi
 by_cases c1:i<a.length
 ·by_cases c2:i<b.length
  ·have ea:a.reverse.drop i=a.reverse[i]'(by simpa using c1)::a.reverse.drop (i+1):=List.drop_eq_getElem_cons (by simpa using c1)
   have eb:b.reverse.drop i=b.reverse[i]'(by simpa using c2)::b.reverse.drop (i+1):=List.drop_eq_getElem_cons (by simpa using c2)
   rw[List.getElem_reverse]at ea eb
   have l1:a.length-1-i<a.length:=by omega
   have l2:b.length-1-i<b.length:=by omega
   have m1:elemAt (i32s a) (a.length-1-i)=.int .i32 a[a.length-1-i]:=by rw[i32s,elemAt_map (fun r=>PV.int .i32 r) a _ l1]
   have m2:elemAt (i32s b) (b.length-1-i)=.int .i32 b[b.length-1-i]:=by rw[i32s,elemAt_map (fun r=>PV.int .i32 r) b _ l2]
   generalize a[a.length-1-i]=x at ea m1
   generalize b[b.length-1-i]=y at eb m2
   rw[ea,eb,alikeR]at h3
   obtain⟨ka,hka⟩:∃ka,ka=a.length-1-i:=⟨_,rfl⟩
   obtain⟨kb,hkb⟩:∃kb,kb=b.length-1-i:=⟨_,rfl⟩
   rw[←hka]at m1 l1
   rw[←hkb]at m2 l2
   have w1:IntKind.i64.wrap ((a.length:Int)-1)=((a.length-1:Nat):Int):=wrapN_pred (by omega) (by omega)
   have w2:IntKind.i64.wrap (((a.length-1:Nat):Int)-i)=(ka:Int):=wrapN_sub (by omega) (by omega)
   have w3:IntKind.i64.wrap ((b.length:Int)-1)=((b.length-1:Nat):Int):=wrapN_pred (by omega) (by omega)
   have w4:IntKind.i64.wrap (((b.length-1:Nat):Int)-i)=(kb:Int):=wrapN_sub (by omega) (by omega)
   have w5:IntKind.i64.wrap ((i:Int)+1)=((i+1:Nat):Int):=wrapN_one (by omega)
   have c1':(i:Int)<a.length:=by omega
   have c2':(i:Int)<b.length:=by omega
   have l1':(ka:Int)<a.length:=by omega
   have l2':(kb:Int)<b.length:=by omega
   by_cases c3:x=y
   ·simp (maxSteps:=1000000) [go_sem,i32s_len,c1,c2,c1',c2',w1,w2,w3,w4,w5,m1,m2,l1,l2,l1',l2',c3]
    exact LoopK_next (i+1) ⟨by omega,by omega,by rw[h3,if_pos c3];omega⟩ (by simp[go_sem,LeS,leV,leR,leA,leL]) (by omega)
   ·have e:alikeL a b=i:=by rw[h3,if_neg c3];omega
    rw[e]
    simp (maxSteps:=1000000) [go_sem,i32s_len,c1,c2,c1',c2',w1,w2,w3,w4,w5,m1,m2,l1,l2,l1',l2',c3]
    exact ret_is (.p (.int .i64 (i:Nat))) rfl (by simp[go_sem,resOf,leA,leT,leP]) ⟨rfl,rfl⟩
  ·have e:alikeL a b=i:=by
    have z:b.reverse.drop i=[]:=List.drop_eq_nil_of_le (by simp;omega)
    rw[h3,z];cases a.reverse.drop i<;>simp[alikeR]
   rw[e]
   have c1':(i:Int)<a.length:=by omega
   have c2':¬(i:Int)<b.length:=by omega
   obtain⟨k1,v1,e1⟩:=i32s_elem a (IntKind.i64.wrap (IntKind.i64.wrap ((a.length:Int)-1)-i)).toNat
   obtain⟨k2,v2,e2⟩:=i32s_elem b (IntKind.i64.wrap (IntKind.i64.wrap ((b.length:Int)-1)-i)).toNat
   by_cases ck:k1=k2<;>simp (maxSteps:=1000000) [go_sem,i32s_len,c1,c2,c1',c2',e1,e2,ck]<;>exact ret_is (.p (.int .i64 (i:Nat))) rfl (by simp[go_sem,resOf,leA,leT,leP]) ⟨rfl,rfl⟩
 ·have e:alikeL a b=i:=by
   have z:a.reverse.drop i=[]:=List.drop_eq_nil_of_le (by simp;omega)
   rw[h3,z];simp[alikeR]
  rw[e]
  have c1':¬(i:Int)<a.length:=by omega
  obtain⟨k1,v1,e1⟩:=i32s_elem a (IntKind.i64.wrap (IntKind.i64.wrap ((a.length:Int)-1)-i)).toNat
  obtain⟨k2,v2,e2⟩:=i32s_elem b (IntKind.i64.wrap (IntKind.i64.wrap ((b.length:Int)-1)-i)).toNat
  by_cases ck:k1=k2<;>simp (maxSteps:=1000000) [go_sem,i32s_len,c1,c1',e1,e2,ck]<;>exact ret_is (.p (.int .i64 (i:Nat))) rfl (by simp[go_sem,resOf,leA,leT,leP]) ⟨rfl,rfl⟩
end Go.Proofs.YtjefahhmkcfiiaaGreat
end
section
namespace Go.Proofs.YtjefahhmkcfiiaaGreat
open Go.AM
set_option maxHeartbeats 4000000
set_option maxRecDepth 10000
theorem takeRev {l:List Int} {j:Nat}(h:j<l.length):(l.take (j+1)).reverse=l[j]::(l.take j).reverse:=by
 rw[←List.take_append_getElem h];simp
theorem i32s_at {l:List Int} {j:Nat}(h:j<l.length):elemAt (i32s l) j=.int .i32 l[j]:=by rw[i32s,elemAt_map (fun r=>PV.int .i32 r) l j h]
def conjGo(rows:List Row)(seen:Bool):List Int→Bool
 | []=>false
 |y::ys=>if cnjD rows y=2 then seen else if cnjD rows y=0 then false else conjGo rows (seen || decide (cnjD rows y=1)) ys
def conjD(rows:List Row)(pre:List Int)(x:Int):Bool:=if cnjD rows x=2 then conjGo rows false pre else false
theorem conjoined_cr [Gi] {rows:List Row}(hw:RowsOK rows)(l:List Int)(n:Nat)(h:n<l.length)(hl:l.length<2^31)(hr:∀x∈l,Rune x):
  CR Tryz.prog 146 [] [.p (rowsP rows),.p (runesV l),.p (.int .i64 n)] [] (is (.p (.bool (conjD rows (l.take n).reverse l[n])))):=by
 refine CR_of_wp mixed 10 [] Tryz.func146 rfl (by kernel_rfl) rfl (by simp) (by simp) ?_
 have em:=i32s_at h
 have hx:=hr _ (List.getElem_mem h)
 generalize l[n]=x at em hx
 have h':(n:Int)<l.length:=by omega
 simp (maxSteps:=1000000) [go_sem,Tryz.f146,runesV,i32s_len,h,h',em]
 refine⟨⟨rfl,by simp[Tryz.f185]⟩,CallK_of [] (cnjD_cr hw hx) (by simp[go_sem,notHead]) ⟨by simp[go_sem],by simp[go_sem]⟩ (by simp[go_sem]) ?_⟩
 rintro _ rs ⟨rfl,rfl⟩
 by_cases c:cnjD rows x=2
 ·have w1:IntKind.i64.wrap ((n:Int)-1)=(n:Int)-1:=wrap64 (by omega) (by omega)
  simp (maxSteps:=1000000) [go_sem,c,w1,conjD]
  refine wpA_loopU (fun s:Bool×Nat=>s.2≤n∧conjGo rows false (l.take n).reverse=conjGo rows s.1 (l.take s.2).reverse) (fun s=>[(7,.p (.bool s.1)),(8,.p (.int .i64 ((s.2:Int)-1))),(9,.junk)]) (fun _=>[]) (fun s=>s.2) (false,n) ⟨by simp,rfl⟩ (by simp[go_sem,LeS,leV,leR,leA,leL,leT,leP]) (fun s hs=>?_)
  obtain⟨seen,k⟩:=s
  obtain⟨h1,h2⟩:=hs
  simp only at h1 h2
  cases k with
  |zero=>
   rw[h2]
   simp (maxSteps:=1000000) [go_sem,conjGo]
   exact ret_is (.p (.bool false)) rfl (by simp[go_sem,resOf,leA,leT,leP]) ⟨rfl,rfl⟩
  |succ j=>
   have hj:j<l.length:=by omega
   have hj':(j:Int)<l.length:=by omega
   rw[takeRev hj,conjGo]at h2
   have em:=i32s_at hj
   have hy:=hr _ (List.getElem_mem hj)
   generalize l[j]=y at em hy h2
   have w2:IntKind.i64.wrap ((j:Int)-1)=(j:Int)-1:=wrap64 (by omega) (by omega)
   simp (maxSteps:=1000000) [go_sem,i32s_len,hj,hj',em]
   refine⟨⟨rfl,by simp[Tryz.f185]⟩,CallK_of [] (cnjD_cr hw hy) (by simp[go_sem,notHead]) ⟨by simp[go_sem],by simp[go_sem]⟩ (by simp[go_sem]) ?_⟩
   rintro _ rs ⟨rfl,rfl⟩
   generalize cnjD rows y=v at h2
   by_cases v2:v=2
   ·rw[h2,if_pos v2]
    simp (maxSteps:=1000000) [go_sem,v2]
    exact ret_is (.p (.bool seen)) rfl (by simp[go_sem,resOf,leA,leT,leP]) ⟨rfl,rfl⟩
   rw[if_neg v2]at h2
   by_cases v0:v=0
   ·rw[h2,if_pos v0]
    simp (maxSteps:=1000000) [go_sem,v0]
    exact ret_is (.p (.bool false)) rfl (by simp[go_sem,resOf,leA,leT,leP]) ⟨rfl,rfl⟩
   rw[if_neg v0]at h2
   by_cases v1:v=1
   ·simp (maxSteps:=1000000) [go_sem,v1,w2]
    exact LoopK_next (true,j) ⟨by show j≤n;omega,by rw[h2,v1];simp⟩ (by simp[go_sem,LeS,leV,leR,leA,leL,leT,leP]) (by show j<j+1;omega)
   ·simp (maxSteps:=1000000) [go_sem,v0,v1,v2,w2]
    exact LoopK_next (seen,j) ⟨by show j≤n;omega,by rw[h2];simp[v1]⟩ (by simp[go_sem,LeS,leV,leR,leA,leL,leT,leP]) (by show j<j+1;omega)
 ·have e:conjD rows (l.take n).reverse x=false:=by unfold conjD;rw[if_neg c]
  rw[e]
  simp (maxSteps:=1000000) [go_sem,c]
  exact ret_is (.p (.bool false)) rfl (by simp[go_sem,resOf,leA,leT,leP]) ⟨rfl,rfl⟩
def pictGo(rows:List Row):List Int→Bool
 | []=>false
 |y::ys=>if aL rows 5 y=1 then true else if brkD rows y=4 then pictGo rows ys else false
def pictD(rows:List Row)(p:Int)(pre:List Int)(x:Int):Bool:=if aL rows 5 x=1 then(if brkD rows p=5 then pictGo rows pre else false)else false
theorem pictured_cr [Gi] {rows:List Row}(hw:RowsOK rows)(l:List Int)(n m:Nat)(hm:n=m+1)(h:n<l.length)(hl:l.length<2^31)(hr:∀x∈l,Rune x):
  CR Tryz.prog 147 [] [.p (rowsP rows),.p (runesV l),.p (.int .i64 n)] [] (is (.p (.bool (pictD rows l[m] (l.take m).reverse l[n])))):=by
 refine CR_of_wp mixed 8 [] Tryz.func147 rfl (by kernel_rfl) rfl (by simp) (by simp) ?_
 have em:=i32s_at h
 have hx:=hr _ (List.getElem_mem h)
 generalize l[n]=x at em hx
 have g:m<l.length:=by omega
 have em2:=i32s_at g
 have hp:=hr _ (List.getElem_mem g)
 generalize l[m]=p at em2 hp
 have h':(n:Int)<l.length:=by omega
 have g':(m:Int)<l.length:=by omega
 have w1:IntKind.i64.wrap ((n:Int)-1)=(m:Int):=by rw[wrap64 (by omega) (by omega)];omega
 have w2:IntKind.i64.wrap ((n:Int)-2)=(m:Int)-1:=by rw[wrap64 (by omega) (by omega)];omega
 simp (maxSteps:=1000000) [go_sem,Tryz.f147,runesV,i32s_len,h,h',em]
 refine⟨⟨rfl,by simp[Tryz.f80]⟩,CallK_of [] (ofD_cr rows 5 x hw.n hx) (by simp[go_sem,notHead]) ⟨by simp[go_sem],by simp[go_sem]⟩ (by simp[go_sem]) ?_⟩
 rintro _ rs ⟨rfl,rfl⟩
 by_cases c:aL rows 5 x=1
 ·simp (maxSteps:=1000000) [go_sem,c,w1,i32s_len,g,g',em2,pictD]
  refine⟨⟨rfl,by simp[Tryz.f143]⟩,CallK_of [] (brkD_cr hw hp) (by simp[go_sem,notHead]) ⟨by simp[go_sem],by simp[go_sem]⟩ (by simp[go_sem]) ?_⟩
  rintro _ rs ⟨rfl,rfl⟩
  by_cases c5:brkD rows p=5
  ·simp (maxSteps:=1000000) [go_sem,c5,w2]
   refine wpA_loopU (fun k:Nat=>k≤m∧pictGo rows (l.take m).reverse=pictGo rows (l.take k).reverse) (fun k=>[(7,.p (.int .i64 ((k:Int)-1)))]) (fun _=>[]) (fun k=>k) m ⟨by omega,rfl⟩ (by simp[go_sem,LeS,leV,leR,leA,leL,leT,leP]) (fun k hs=>?_)
   obtain⟨h1,h2⟩:=hs
   cases k with
   |zero=>
    rw[h2]
    simp (maxSteps:=1000000) [go_sem,pictGo]
    exact ret_is (.p (.bool false)) rfl (by simp[go_sem,resOf,leA,leT,leP]) ⟨rfl,rfl⟩
   |succ j=>
    have hj:j<l.length:=by omega
    have hj':(j:Int)<l.length:=by omega
    rw[takeRev hj,pictGo]at h2
    have em:=i32s_at hj
    have hy:=hr _ (List.getElem_mem hj)
    generalize l[j]=y at em hy h2
    have w2:IntKind.i64.wrap ((j:Int)-1)=(j:Int)-1:=wrap64 (by omega) (by omega)
    simp (maxSteps:=1000000) [go_sem,i32s_len,hj,hj',em]
    refine⟨⟨rfl,by simp[Tryz.f80]⟩,CallK_of [] (ofD_cr rows 5 y hw.n hy) (by simp[go_sem,notHead]) ⟨by simp[go_sem],by simp[go_sem]⟩ (by simp[go_sem]) ?_⟩
    rintro _ rs ⟨rfl,rfl⟩
    by_cases v1:aL rows 5 y=1
    ·rw[h2,if_pos v1]
     simp (maxSteps:=1000000) [go_sem,v1]
     exact ret_is (.p (.bool true)) rfl (by simp[go_sem,resOf,leA,leT,leP]) ⟨rfl,rfl⟩
    rw[if_neg v1]at h2
    simp (maxSteps:=1000000) [go_sem,i32s_len,hj,hj',em,v1]
    refine⟨⟨rfl,by simp[Tryz.f143]⟩,CallK_of [] (brkD_cr hw hy) (by simp[go_sem,notHead]) ⟨by simp[go_sem],by simp[go_sem]⟩ (by simp[go_sem]) ?_⟩
    rintro _ rs ⟨rfl,rfl⟩
    by_cases v4:brkD rows y=4
    ·rw[if_pos v4]at h2
     simp (maxSteps:=1000000) [go_sem,v4,w2]
     exact LoopK_next j ⟨by show j≤m;omega,h2⟩ (by simp[go_sem,LeS,leV,leR,leA,leL,leT,leP]) (by show j<j+1;omega)
    ·rw[h2,if_neg v4]
     simp (maxSteps:=1000000) [go_sem,v4]
     exact ret_is (.p (.bool false)) rfl (by simp[go_sem,resOf,leA,leT,leP]) ⟨rfl,rfl⟩
  ·simp (maxSteps:=1000000) [go_sem,c5]
   exact ret_is (.p (.bool false)) rfl (by simp[go_sem,resOf,leA,leT,leP]) ⟨rfl,rfl⟩
 ·have e:pictD rows p (l.take m).reverse x=false:=by unfold pictD;rw[if_neg c]
  rw[e]
  simp (maxSteps:=1000000) [go_sem,c,w1,i32s_len,g,g',em2]
  exact ret_is (.p (.bool false)) rfl (by simp[go_sem,resOf,leA,leT,leP]) ⟨rfl,rfl⟩
def flagGo(rows:List Row):List Int→Nat
 | []=>0
 |y::ys=>if brkD rows y=6 then flagGo rows ys+1 else 0
theorem flagGo_le(rows:List Row)(l:List Int):flagGo rows l≤l.length:=by
 induction l with
 |nil=>simp[flagGo]
 |cons y ys ih=>unfold flagGo;split<;>simp<;>omega
def flagD(rows:List Row)(pre:List Int)(x:Int):Bool:=if brkD rows x=6 then decide (flagGo rows pre%2=1)else false
theorem flagged_cr [Gi] {rows:List Row}(hw:RowsOK rows)(l:List Int)(n:Nat)(h:n<l.length)(hl:l.length<2^31)(hr:∀x∈l,Rune x):
  CR Tryz.prog 148 [] [.p (rowsP rows),.p (runesV l),.p (.int .i64 n)] [] (is (.p (.bool (flagD rows (l.take n).reverse l[n])))):=by
 refine CR_of_wp mixed 9 [] Tryz.func148 rfl (by kernel_rfl) rfl (by simp) (by simp) ?_
 have em:=i32s_at h
 have hx:=hr _ (List.getElem_mem h)
 generalize l[n]=x at em hx
 have h':(n:Int)<l.length:=by omega
 simp (maxSteps:=1000000) [go_sem,Tryz.f148,runesV,i32s_len,h,h',em]
 refine⟨⟨rfl,by simp[Tryz.f143]⟩,CallK_of [] (brkD_cr hw hx) (by simp[go_sem,notHead]) ⟨by simp[go_sem],by simp[go_sem]⟩ (by simp[go_sem]) ?_⟩
 rintro _ rs ⟨rfl,rfl⟩
 by_cases c:brkD rows x=6
 ·have w1:IntKind.i64.wrap ((n:Int)-1)=(n:Int)-1:=wrap64 (by omega) (by omega)
  have hfl:=flagGo_le rows (l.take n).reverse
  rw[List.length_reverse,List.length_take]at hfl
  have ht:((flagGo rows (l.take n).reverse:Nat):Int).tmod 2=((flagGo rows (l.take n).reverse%2:Nat):Int):=by rw[Int.tmod_eq_emod_of_nonneg (by omega)];omega
  simp (maxSteps:=1000000) [go_sem,c,w1,flagD]
  generalize hF:flagGo rows (l.take n).reverse=F at hfl ht
  refine wpA_loopU (fun s:Nat×Nat=>s.2≤n∧F=s.1+flagGo rows (l.take s.2).reverse) (fun s=>[(7,.p (.int .i64 (s.1:Nat))),(8,.p (.int .i64 ((s.2:Int)-1)))]) (fun _=>[]) (fun s=>s.2) (0,n) ⟨by simp,by simp[hF]⟩ (by simp[go_sem,LeS,leV,leR,leA,leL,leT,leP]) (fun s hs=>?_)
  obtain⟨q,k⟩:=s
  obtain⟨h1,h2⟩:=hs
  simp only at h1 h2
  cases k with
  |zero=>
   obtain⟨kk,vv,e0⟩:=i32s_elem l 0
   simp only[List.take_zero,List.reverse_nil,flagGo,Nat.add_zero]at h2
   subst h2
   simp (maxSteps:=1000000) [go_sem,e0,ht]
   exact ret_is (.p (.bool (decide (F%2=1)))) rfl (by simp[go_sem,resOf,leA,leT,leP];omega) ⟨rfl,rfl⟩
  |succ j=>
   have hj:j<l.length:=by omega
   have hj':(j:Int)<l.length:=by omega
   rw[takeRev hj,flagGo]at h2
   have em:=i32s_at hj
   have hy:=hr _ (List.getElem_mem hj)
   generalize l[j]=y at em hy h2
   have w2:IntKind.i64.wrap ((j:Int)-1)=(j:Int)-1:=wrap64 (by omega) (by omega)
   simp (maxSteps:=1000000) [go_sem,i32s_len,hj,hj',em]
   refine⟨⟨rfl,by simp[Tryz.f143]⟩,CallK_of [] (brkD_cr hw hy) (by simp[go_sem,notHead]) ⟨by simp[go_sem],by simp[go_sem]⟩ (by simp[go_sem]) ?_⟩
   rintro _ rs ⟨rfl,rfl⟩
   by_cases v6:brkD rows y=6
   ·rw[if_pos v6]at h2
    have w3:IntKind.i64.wrap ((q:Int)+1)=((q+1:Nat):Int):=wrapN_one (by omega)
    simp (maxSteps:=1000000) [go_sem,v6,w2,w3]
    exact LoopK_next (q+1,j) ⟨by show j≤n;omega,by show F=q+1+flagGo rows (l.take j).reverse;omega⟩ (by simp[go_sem,LeS,leV,leR,leA,leL,leT,leP]) (by show j<j+1;omega)
   ·rw[if_neg v6,Nat.add_zero]at h2
    subst h2
    simp (maxSteps:=1000000) [go_sem,v6,ht]
    exact ret_is (.p (.bool (decide (F%2=1)))) rfl (by simp[go_sem,resOf,leA,leT,leP];omega) ⟨rfl,rfl⟩
 ·have e:flagD rows (l.take n).reverse x=false:=by unfold flagD;rw[if_neg c]
  rw[e]
  simp (maxSteps:=1000000) [go_sem,c]
  exact ret_is (.p (.bool false)) rfl (by simp[go_sem,resOf,leA,leT,leP]) ⟨rfl,rfl⟩
end Go.Proofs.YtjefahhmkcfiiaaGreat
end
