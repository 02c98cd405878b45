/- A part of the proof of this seat's statements, by an abstract machine: what each operation does to values, and what the law's functions compute. Conditions: as each law says. -/
import Derived.Test.YtjefahhmkcfiiaaGreatM43
import Derived.Test.YtjefahhmkcfiiaaGreatM29
section
namespace Go.Proofs.YtjefahhmkcfiiaaGreat
open Go.AM
set_option maxHeartbeats 4000000
set_option maxRecDepth 10000
structure FormOK(nfc:List Int→List Int)(clus:List Int→List (List Int)):Prop where
 len:∀l:List Int,l.length<2^20→(nfc l).length<2^31
 rune:∀l:List Int,l.length<2^20→(∀x∈l,Rune x)→∀x∈nfc l,Rune x
 flat:∀l,(clus l).flatten=l
 num:∀l,(clus l).length≤l.length
structure LineOK(L:List (List Int)):Prop where
 num:L.length≤sumL L
 len:sumL L≤65536
 rune:∀x∈L.flatten,Rune x
theorem FormOK.sum {nfc clus}(h:FormOK nfc clus)(x:List Int):sumL (clus x)=x.length:=by rw[←sumL_flat,h.flat]
theorem putL_ok {nfc clus}(h:FormOK nfc clus) {L:List (List Int)}(hL:LineOK L)(a f e:Int) {s:List Int}(hs:s.length≤1000)(hr:∀x∈s,Rune x):LineOK (putL nfc clus L a f e s).1:=by
 unfold putL
 split
 ·exact hL
 ·simp only
  split
  ·exact hL
  ·rename_i h1
   have hd:(L.drop e.toNat).flatten.length≤sumL L:=by
    rw[←sumL_flat L]
    have:L.flatten=(L.take e.toNat).flatten++(L.drop e.toNat).flatten:=by rw[←List.flatten_append,List.take_append_drop]
    rw[this,List.length_append];omega
   have ht:(L.take f.toNat).flatten.length≤sumL L:=by
    rw[sumL_flat];exact sumL_take L f.toNat
   have hl:=hL.len
   have hlen:((L.take f.toNat).flatten++(s++(L.drop e.toNat).flatten)).length<2^20:=by
    simp only[List.length_append];omega
   refine⟨?_,?_,?_⟩
   ·simp only;rw[h.sum];exact h.num _
   ·simp only;rw[h.sum];omega
   ·simp only;rw[h.flat]
    refine h.rune _ hlen (fun x hx=>?_)
    rcases List.mem_append.1 hx with hx|hx
    ·exact hL.rune x (List.mem_flatten.2 (by
      obtain⟨y,hy,hxy⟩:=List.mem_flatten.1 hx
      exact⟨y,List.mem_of_mem_take hy,hxy⟩))
    ·rcases List.mem_append.1 hx with hx|hx
     ·exact hr x hx
     ·exact hL.rune x (List.mem_flatten.2 (by
       obtain⟨y,hy,hxy⟩:=List.mem_flatten.1 hx
       exact⟨y,List.mem_of_mem_drop hy,hxy⟩))
theorem cut_texts_take(L:List (List Int))(k:Nat):cut (textsP L) 0 k=textsP (L.take k):=by simp[cut,textsP]
theorem cut_texts_drop(L:List (List Int))(k:Nat):cut (textsP L) k L.length=textsP (L.drop k):=by simp[cut,textsP,List.take_of_length_le]
theorem sumL_drop(L:List (List Int))(k:Nat):sumL (L.take k)+sumL (L.drop k)=sumL L:=by
 rw[←sumL_flat,←sumL_flat,←sumL_flat,←List.length_append,←List.flatten_append,List.take_append_drop]
theorem caretGo_step {C:List (List Int)} {i:Nat}(h:i<C.length)(need:Int):caretGo (need-sumL (C.take i)) (C.drop i)=if need≤sumL (C.take i)then 0 else caretGo (need-sumL (C.take (i+1))) (C.drop (i+1))+1:=by
 rw[List.drop_eq_getElem_cons h,caretGo,sumL_step h]
 by_cases q:need≤sumL (C.take i)
 ·rw[if_pos (by omega),if_pos q]
 ·rw[if_neg (by omega),if_neg q]
  congr 2;omega
theorem putD_cr [Gi] {rows:List Row}(hw:RowsOK rows)(hF:FormOK (nfcD rows) (clusD rows))(L:List (List Int))(hL:LineOK L)(a f e:Int)(s:List Int)(hs:s.length≤1000)(hr:∀x∈s,Rune x):
  CR Tryz.prog 21 [] [.p (rowsP rows),.p (lineV L a),.p (.int .i64 f),.p (.int .i64 e),.p (runesV s)] [] (is (putV (putL (nfcD rows) (clusD rows) L a f e s))):=by
 refine CR_of_wp mixed 17 [] Tryz.func21 rfl (by kernel_rfl) rfl (by simp) (by simp) ?_
 have hl1:=hL.num
 have hl2:=hL.len
 by_cases c1:f<0
 ·have ev:putL (nfcD rows) (clusD rows) L a f e s=(L,a,false):=by unfold putL;rw[if_pos (Or.inl c1)]
  rw[ev]
  simp (maxSteps:=1000000) [go_sem,Tryz.f21,lineV,textsV,textsP_len,c1]
  refine⟨rfl,?_⟩
  exact ret_is (putV (L,a,false)) rfl (by simp[go_sem,resOf,leA,leT,leP,putV,lineV,textsV]) ⟨rfl,rfl⟩
 by_cases c2:e<f
 ·have ev:putL (nfcD rows) (clusD rows) L a f e s=(L,a,false):=by unfold putL;rw[if_pos (Or.inr (Or.inl c2))]
  rw[ev]
  simp (maxSteps:=1000000) [go_sem,Tryz.f21,lineV,textsV,textsP_len,c1,c2]
  refine⟨rfl,?_⟩
  exact ret_is (putV (L,a,false)) rfl (by simp[go_sem,resOf,leA,leT,leP,putV,lineV,textsV]) ⟨rfl,rfl⟩
 by_cases c3:(L.length:Int)<e
 ·have ev:putL (nfcD rows) (clusD rows) L a f e s=(L,a,false):=by unfold putL;rw[if_pos (Or.inr (Or.inr c3))]
  rw[ev]
  simp (maxSteps:=1000000) [go_sem,Tryz.f21,lineV,textsV,textsP_len,c1,c2,c3]
  refine⟨rfl,?_⟩
  exact ret_is (putV (L,a,false)) rfl (by simp[go_sem,resOf,leA,leT,leP,putV,lineV,textsV]) ⟨rfl,rfl⟩
 obtain⟨nf,rfl⟩:∃nf:Nat,f=nf:=⟨f.toNat,by omega⟩
 obtain⟨ne,rfl⟩:∃ne:Nat,e=ne:=⟨e.toNat,by omega⟩
 have ev:∀R P X:List Int,R=(L.drop ne).flatten→P=(L.take nf).flatten→X=nfcD rows (P++(s++R))→putL (nfcD rows) (clusD rows) L a nf ne s=if 65536<X.length then(L,a,false)else(clusD rows X,(caretGo ((X.length:Int)-alikeL X R) (clusD rows X):Nat),true):=by
  rintro R P X rfl rfl rfl
  unfold putL
  rw[if_neg (by omega)]
  simp only[Int.toNat_natCast]
 have g1:ne≤L.length:=by omega
 have g2:nf≤L.length:=by omega
 have q1:=sumL_drop L ne
 have q2:=sumL_drop L nf
 have jR:=joinedL_cr (L.drop ne) (by rw[List.length_drop];omega) (by omega)
 have jP:=joinedL_cr (L.take nf) (by rw[List.length_take];omega) (by omega)
 have lR:(L.drop ne).flatten.length=sumL (L.drop ne):=sumL_flat _
 have lP:(L.take nf).flatten.length=sumL (L.take nf):=sumL_flat _
 have rR:∀x∈(L.drop ne).flatten,Rune x:=fun x hx=>hL.rune x (List.mem_flatten.2 (by
  obtain⟨y,hy,hxy⟩:=List.mem_flatten.1 hx
  exact⟨y,List.mem_of_mem_drop hy,hxy⟩))
 have rP:∀x∈(L.take nf).flatten,Rune x:=fun x hx=>hL.rune x (List.mem_flatten.2 (by
  obtain⟨y,hy,hxy⟩:=List.mem_flatten.1 hx
  exact⟨y,List.mem_of_mem_take hy,hxy⟩))
 obtain⟨R,hR⟩:∃R,R=(L.drop ne).flatten:=⟨_,rfl⟩
 obtain⟨P,hP⟩:∃P,P=(L.take nf).flatten:=⟨_,rfl⟩
 obtain⟨X,hX⟩:∃X,X=nfcD rows (P++(s++R)):=⟨_,rfl⟩
 have e1:=ev R P X hR hP hX
 rw[e1]
 rw[←hR]at jR lR rR
 rw[←hP]at jP lP rP
 have hal:=(alikeL_le X R).1
 have rPR:∀x∈P++(s++R),Rune x:=fun x hx=>by
  rcases List.mem_append.1 hx with hx|hx
  ·exact rP x hx
  ·rcases List.mem_append.1 hx with hx|hx
   ·exact hr x hx
   ·exact rR x hx
 have j3:=joined3_cr P s R (by omega)
 have lPR:(P++(s++R)).length<2^20:=by simp only[List.length_append];omega
 have jN:=nfcD_cr rows hw _ lPR rPR
 have lX:=hF.len _ lPR
 have rX:=hF.rune _ lPR rPR
 rw[←hX]at jN lX rX
 have jA:=alikeD_cr X R lX (by omega)
 clear ev e1
 simp (maxSteps:=1000000) [go_sem,Tryz.f21,lineV,textsV,textsP_len,c1,c2,c3,cut_texts_drop]
 refine⟨rfl,g1,⟨rfl,by simp[Tryz.f25]⟩,CallK_of [] jR (by simp[go_sem,notHead]) ⟨by simp[go_sem],by simp[go_sem,textsV]⟩ (by simp[go_sem]) ?_⟩
 rintro _ rs ⟨rfl,rfl⟩
 simp (maxSteps:=1000000) [go_sem,textsP_len,cut_texts_take,runesV]
 refine⟨g2,⟨rfl,by simp[Tryz.f25]⟩,CallK_of [] jP (by simp[go_sem,notHead]) ⟨by simp[go_sem],by simp[go_sem,textsV]⟩ (by simp[go_sem]) ?_⟩
 rintro _ rs ⟨rfl,rfl⟩
 simp (maxSteps:=1000000) [go_sem,runesV,textsV]
 refine⟨⟨rfl,by simp[Tryz.f43]⟩,CallK_of [] j3 (by simp[go_sem,notHead]) ⟨by simp[go_sem],by simp[go_sem,runesV]⟩ (by simp[go_sem]) ?_⟩
 rintro _ rs ⟨rfl,rfl⟩
 simp (maxSteps:=1000000) [go_sem,runesV,textsV]
 refine⟨⟨rfl,by simp[Tryz.f32]⟩,CallK_of [] jN (by simp[go_sem,notHead]) ⟨by simp[go_sem],by simp[go_sem,runesV]⟩ (by simp[go_sem]) ?_⟩
 rintro _ rs ⟨rfl,rfl⟩
 by_cases c4:65536<X.length
 ·have c4':(65536:Int)<X.length:=by omega
  rw[if_pos c4]
  simp (maxSteps:=1000000) [go_sem,runesV,i32s_len,c4']
  exact ret_is (putV (L,a,false)) rfl (by simp[go_sem,resOf,leA,leT,leP,putV,lineV,textsV]) ⟨rfl,rfl⟩
 have c4':¬(65536:Int)<X.length:=by omega
 rw[if_neg c4]
 have jC:=clustersD_cr hw X lX rX
 have sC:=hF.sum X
 have nC:=hF.num X
 generalize clusD rows X=C at jC sC nC⊢
 simp (maxSteps:=1000000) [go_sem,runesV,i32s_len,c4']
 refine⟨⟨rfl,by simp[Tryz.f73]⟩,CallK_of [] jC (by simp[go_sem,notHead]) ⟨by simp[go_sem],by simp[go_sem,runesV]⟩ (by simp[go_sem]) ?_⟩
 rintro _ rs ⟨rfl,rfl⟩
 simp (maxSteps:=1000000) [go_sem,runesV,textsV]
 refine⟨⟨rfl,by simp[Tryz.f76]⟩,CallK_of [] jA (by simp[go_sem,notHead]) ⟨by simp[go_sem],by simp[go_sem,runesV]⟩ (by simp[go_sem]) ?_⟩
 rintro _ rs ⟨rfl,rfl⟩
 obtain⟨k,hk⟩:∃k,k=alikeL X R:=⟨_,rfl⟩
 rw[←hk]at hal⊢
 obtain⟨K,hK⟩:∃K,K=caretGo ((X.length:Int)-k) C:=⟨_,rfl⟩
 rw[←hK]
 simp (maxSteps:=1000000) [go_sem,textsV]
 refine wpA_loopU (fun i:Nat=>i≤C.length∧K=i+caretGo ((X.length:Int)-k-sumL (C.take i)) (C.drop i)) (fun i=>[(16,.p (.int .i64 (i:Nat)))]) (fun _=>[]) (fun i=>C.length-i) 0 ⟨by omega,by simp[hK,sumL]⟩ (by simp[go_sem,LeS,leV,leR,leA,leL]) (fun i hi=>?_)
 obtain⟨i1,i2⟩:=hi
 have sd:=sumL_drop C i
 have jD:=joinedL_cr (C.drop i) (by rw[List.length_drop];omega) (by omega)
 have lD:(C.drop i).flatten.length=sumL (C.drop i):=sumL_flat _
 simp (maxSteps:=1000000) [go_sem,textsP_len,cut_texts_drop]
 refine⟨i1,⟨rfl,by simp[Tryz.f25]⟩,CallK_of [] jD (by simp[go_sem,notHead]) ⟨by simp[go_sem],by simp[go_sem,textsV]⟩ (by simp[go_sem]) ?_⟩
 rintro _ rs ⟨rfl,rfl⟩
 by_cases c5:k<sumL (C.drop i)
 ·have hil:i<C.length:=by
   refine Nat.lt_of_not_le (fun h=>?_)
   rw[List.drop_eq_nil_of_le h]at c5
   simp[sumL]at c5
  have c5':(k:Int)<sumL (C.drop i):=by omega
  have w1:IntKind.i64.wrap ((i:Int)+1)=((i+1:Nat):Int):=wrapN_one (by omega)
  rw[caretGo_step hil,if_neg (by omega)]at i2
  simp (maxSteps:=1000000) [go_sem,runesV,i32s_len,lD,c5',w1]
  exact LoopK_next (i+1) ⟨by omega,by omega⟩ (by simp[go_sem,LeS,leV,leR,leA,leL]) (by omega)
 ·have c5':¬(k:Int)<sumL (C.drop i):=by omega
  have e2:K=i:=by
   rw[i2]
   by_cases hil:i<C.length
   ·rw[caretGo_step hil,if_pos (by omega)];rfl
   ·rw[List.drop_eq_nil_of_le (by omega)];rfl
  rw[e2]
  simp (maxSteps:=1000000) [go_sem,runesV,i32s_len,lD,c5']
  refine⟨rfl,?_⟩
  exact ret_is (putV (C,(i:Nat),true)) rfl (by simp[go_sem,resOf,leA,leT,leP,putV,lineV,textsV]) ⟨rfl,rfl⟩
end Go.Proofs.YtjefahhmkcfiiaaGreat
end
section
namespace Go.Proofs.YtjefahhmkcfiiaaGreat
open Go.AM
set_option maxHeartbeats 4000000
set_option maxRecDepth 10000
theorem putM_cr [Gi] {t:Tells4} {c b j p p':PV}(h:TabV t c b j p p')(hz:ZeroT t)(hP:ParOK t)(m:List (Pair×Int))(sk sx:List PV)(hF:FormOK (nfcL t m) (clusL t))(L:List (List Int))(hL:LineOK L)(a f e:Int)(s:List Int)(hs:s.length≤1000)(hr:∀x∈s,Rune x):
  CR Tryz.prog 20 [] [.p (lineV L a),.p (tabP c b j p p' (ckP m) (cxP m) sk sx),.p (.int .i64 f),.p (.int .i64 e),.p (runesV s)] [] (is (putV (putL (nfcL t m) (clusL t) L a f e s))):=by
 refine CR_of_wp mixed 16 [] Tryz.func20 rfl (by kernel_rfl) rfl (by simp) (by simp) ?_
 have hl1:=hL.num
 have hl2:=hL.len
 by_cases c1:f<0
 ·have ev:putL (nfcL t m) (clusL t) L a f e s=(L,a,false):=by unfold putL;rw[if_pos (Or.inl c1)]
  rw[ev]
  simp (maxSteps:=1000000) [go_sem,Tryz.f20,lineV,textsV,textsP_len,c1]
  refine⟨rfl,?_⟩
  exact ret_is (putV (L,a,false)) rfl (by simp[go_sem,resOf,leA,leT,leP,putV,lineV,textsV]) ⟨rfl,rfl⟩
 by_cases c2:e<f
 ·have ev:putL (nfcL t m) (clusL t) L a f e s=(L,a,false):=by unfold putL;rw[if_pos (Or.inr (Or.inl c2))]
  rw[ev]
  simp (maxSteps:=1000000) [go_sem,Tryz.f20,lineV,textsV,textsP_len,c1,c2]
  refine⟨rfl,?_⟩
  exact ret_is (putV (L,a,false)) rfl (by simp[go_sem,resOf,leA,leT,leP,putV,lineV,textsV]) ⟨rfl,rfl⟩
 by_cases c3:(L.length:Int)<e
 ·have ev:putL (nfcL t m) (clusL t) L a f e s=(L,a,false):=by unfold putL;rw[if_pos (Or.inr (Or.inr c3))]
  rw[ev]
  simp (maxSteps:=1000000) [go_sem,Tryz.f20,lineV,textsV,textsP_len,c1,c2,c3]
  refine⟨rfl,?_⟩
  exact ret_is (putV (L,a,false)) rfl (by simp[go_sem,resOf,leA,leT,leP,putV,lineV,textsV]) ⟨rfl,rfl⟩
 obtain⟨nf,rfl⟩:∃nf:Nat,f=nf:=⟨f.toNat,by omega⟩
 obtain⟨ne,rfl⟩:∃ne:Nat,e=ne:=⟨e.toNat,by omega⟩
 have ev:∀R P X:List Int,R=(L.drop ne).flatten→P=(L.take nf).flatten→X=nfcL t m (P++(s++R))→putL (nfcL t m) (clusL t) L a nf ne s=if 65536<X.length then(L,a,false)else(clusL t X,(caretGo ((X.length:Int)-alikeL X R) (clusL t X):Nat),true):=by
  rintro R P X rfl rfl rfl
  unfold putL
  rw[if_neg (by omega)]
  simp only[Int.toNat_natCast]
 have g1:ne≤L.length:=by omega
 have g2:nf≤L.length:=by omega
 have q1:=sumL_drop L ne
 have q2:=sumL_drop L nf
 have jR:=concat_cr (L.drop ne) (by rw[List.length_drop];omega) (by omega)
 have jP:=concat_cr (L.take nf) (by rw[List.length_take];omega) (by omega)
 have lR:(L.drop ne).flatten.length=sumL (L.drop ne):=sumL_flat _
 have lP:(L.take nf).flatten.length=sumL (L.take nf):=sumL_flat _
 have rR:∀x∈(L.drop ne).flatten,Rune x:=fun x hx=>hL.rune x (List.mem_flatten.2 (by
  obtain⟨y,hy,hxy⟩:=List.mem_flatten.1 hx
  exact⟨y,List.mem_of_mem_drop hy,hxy⟩))
 have rP:∀x∈(L.take nf).flatten,Rune x:=fun x hx=>hL.rune x (List.mem_flatten.2 (by
  obtain⟨y,hy,hxy⟩:=List.mem_flatten.1 hx
  exact⟨y,List.mem_of_mem_take hy,hxy⟩))
 obtain⟨R,hR⟩:∃R,R=(L.drop ne).flatten:=⟨_,rfl⟩
 obtain⟨P,hPP⟩:∃P,P=(L.take nf).flatten:=⟨_,rfl⟩
 obtain⟨X,hX⟩:∃X,X=nfcL t m (P++(s++R)):=⟨_,rfl⟩
 have e1:=ev R P X hR hPP hX
 rw[e1]
 rw[←hR]at jR lR rR
 rw[←hPP]at jP lP rP
 have hal:=(alikeL_le X R).1
 have rPR:∀x∈P++(s++R),Rune x:=fun x hx=>by
  rcases List.mem_append.1 hx with hx|hx
  ·exact rP x hx
  ·rcases List.mem_append.1 hx with hx|hx
   ·exact hr x hx
   ·exact rR x hx
 have f3:[P,s,R].flatten=P++(s++R):=by simp
 have j3:=concat_cr [P,s,R] (by simp) (by simp[sumL];omega)
 rw[f3]at j3
 have lPR:(P++(s++R)).length<2^20:=by simp only[List.length_append];omega
 have jN:=nfc_cr h hz hP m sk sx _ lPR rPR
 have lX:=hF.len _ lPR
 have rX:=hF.rune _ lPR rPR
 rw[←hX]at jN lX rX
 have jA:=alike_cr X R lX (by omega)
 clear ev e1
 simp (maxSteps:=1000000) [go_sem,Tryz.f20,lineV,textsV,textsP_len,c1,c2,c3,cut_texts_drop]
 refine⟨rfl,g1,⟨rfl,by simp[Tryz.f74]⟩,CallK_of [] jR (by simp[go_sem,notHead]) ⟨by simp[go_sem],by simp[go_sem,textsV]⟩ (by simp[go_sem]) ?_⟩
 rintro _ rs ⟨rfl,rfl⟩
 simp (maxSteps:=1000000) [go_sem,textsP_len,cut_texts_take,runesV]
 refine⟨g2,⟨rfl,by simp[Tryz.f74]⟩,CallK_of [] jP (by simp[go_sem,notHead]) ⟨by simp[go_sem],by simp[go_sem,textsV]⟩ (by simp[go_sem]) ?_⟩
 rintro _ rs ⟨rfl,rfl⟩
 simp (maxSteps:=1000000) [go_sem,runesV,textsV]
 refine⟨⟨by decide,rfl⟩,⟨rfl,by simp[Tryz.f74]⟩,CallK_of [] j3 (by simp[go_sem,notHead]) ⟨by simp[go_sem],by simp[go_sem,runesV,textsV,textsP]⟩ (by simp[go_sem]) ?_⟩
 rintro _ rs ⟨rfl,rfl⟩
 simp (maxSteps:=1000000) [go_sem,runesV,textsV]
 refine⟨⟨rfl,by simp[Tryz.f72]⟩,CallK_of [] jN (by simp[go_sem,notHead]) ⟨by simp[go_sem],by simp[go_sem,runesV,tabP]⟩ (by simp[go_sem]) ?_⟩
 rintro _ rs ⟨rfl,rfl⟩
 by_cases c4:65536<X.length
 ·have c4':(65536:Int)<X.length:=by omega
  rw[if_pos c4]
  simp (maxSteps:=1000000) [go_sem,runesV,i32s_len,c4']
  exact ret_is (putV (L,a,false)) rfl (by simp[go_sem,resOf,leA,leT,leP,putV,lineV,textsV]) ⟨rfl,rfl⟩
 have c4':¬(65536:Int)<X.length:=by omega
 rw[if_neg c4]
 have jC:=clusters_cr h hz (ckP m) (cxP m) sk sx X lX rX
 have sC:=hF.sum X
 have nC:=hF.num X
 generalize clusL t X=C at jC sC nC⊢
 simp (maxSteps:=1000000) [go_sem,runesV,i32s_len,c4']
 refine⟨⟨rfl,by simp[Tryz.f71]⟩,CallK_of [] jC (by simp[go_sem,notHead]) ⟨by simp[go_sem],by simp[go_sem,runesV,tabP]⟩ (by simp[go_sem]) ?_⟩
 rintro _ rs ⟨rfl,rfl⟩
 simp (maxSteps:=1000000) [go_sem,runesV,textsV]
 refine⟨rfl,⟨rfl,by simp[Tryz.f75]⟩,CallK_of [] jA (by simp[go_sem,notHead]) ⟨by simp[go_sem],by simp[go_sem,runesV]⟩ (by simp[go_sem]) ?_⟩
 rintro _ rs ⟨rfl,rfl⟩
 obtain⟨k,hk⟩:∃k,k=alikeL X R:=⟨_,rfl⟩
 rw[←hk]at hal⊢
 obtain⟨K,hK⟩:∃K,K=caretGo ((X.length:Int)-k) C:=⟨_,rfl⟩
 rw[←hK]
 have w0:IntKind.i64.wrap ((X.length:Int)-k)=((X.length-k:Nat):Int):=wrapN_sub (by omega) (by omega)
 obtain⟨N,hN⟩:∃N,N=X.length-k:=⟨_,rfl⟩
 rw[←hN]at w0
 simp (maxSteps:=1000000) [go_sem,textsV,i32s_len,w0]
 refine wpA_loopU (fun i:Nat=>i≤C.length∧K=i+caretGo ((X.length:Int)-k-sumL (C.take i)) (C.drop i)) (fun _=>[]) (fun i=>[([14],linR C (i:Nat))]) (fun i=>C.length-i) 0 ⟨by omega,by simp[hK,sumL]⟩ (by simp[go_sem,LeS,leV,leR,leA,leL,leL_refl,linR,textsV]) (fun i hi=>?_)
 obtain⟨i1,i2⟩:=hi
 have jD:=place_cr C i (by omega) (by omega)
 have cl:clAt C i=i:=by unfold clAt;omega
 rw[placeL,cl]at jD
 have hti:=sumL_take C i
 simp (maxSteps:=1000000) [go_sem,linR,textsV]
 refine⟨⟨rfl,by simp[Tryz.f26]⟩,CallK_of [] jD (by simp[go_sem,notHead]) ⟨by simp[go_sem],by simp[go_sem,textsV,lineV]⟩ (by simp[go_sem]) ?_⟩
 rintro _ rs ⟨rfl,rfl⟩
 by_cases c5:sumL (C.take i)<N
 ·have hil:i<C.length:=by
   refine Nat.lt_of_not_le (fun h=>?_)
   rw[List.take_of_length_le h]at c5
   omega
  have c5':(sumL (C.take i):Int)<N:=by omega
  have w1:IntKind.i64.wrap ((i:Int)+1)=((i+1:Nat):Int):=wrapN_one (by omega)
  rw[caretGo_step hil,if_neg (by omega)]at i2
  simp (maxSteps:=1000000) [go_sem,runesV,c5,c5',w1]
  exact LoopK_next (i+1) ⟨by omega,by omega⟩ (by simp[go_sem,LeS,leV,leR,leA,leL,leL_refl,linR,textsV]) (by omega)
 ·have c5':¬(sumL (C.take i):Int)<N:=by omega
  have e2:K=i:=by
   rw[i2]
   by_cases hil:i<C.length
   ·rw[caretGo_step hil,if_pos (by omega)];rfl
   ·rw[List.drop_eq_nil_of_le (by omega)];rfl
  rw[e2]
  simp (maxSteps:=1000000) [go_sem,runesV,c5,c5']
  exact ret_is (putV (C,(i:Nat),true)) rfl (by simp[go_sem,resOf,leA,leT,leP,putV,lineV,textsV]) ⟨rfl,rfl⟩
end Go.Proofs.YtjefahhmkcfiiaaGreat
end
section
namespace Go.Proofs.YtjefahhmkcfiiaaGreat
open Go.AM
set_option maxHeartbeats 4000000
set_option maxRecDepth 100000
theorem find_kind(k i:Int)(h:0≤i∧i≤1114111):∀l:List Row,(l.find? (rowB k i)).map toSpan=atL (spansOf l k) i
 | []=>rfl
 |r::l=>by
  have ih:=find_kind k i h l
  have e:spansOf (r::l) k=if r.k=k then toSpan r::spansOf l k else spansOf l k:=by
   by_cases hk:r.k=k<;>simp[spansOf,hk]
  rw[e,List.find?_cons]
  by_cases hk:r.k=k
  ·rw[if_pos hk]
   unfold atL at ih⊢
   rw[List.find?_cons]
   by_cases hq:r.f≤i∧i≤r.t
   ·have h1:rowB k i r=true:=by simp[rowB,hk,hq.1,hq.2]
    have h2:decide ((toSpan r).f≤i∧i≤(toSpan r).t)=true:=decide_eq_true (show max r.f 0≤i∧i≤min r.t 1114111 from⟨by omega,by omega⟩)
    rw[h1,h2];rfl
   ·have h1:rowB k i r=false:=by
     unfold rowB
     by_cases q1:r.f≤i
     ·have:¬i≤r.t:=fun q2=>hq ⟨q1,q2⟩
      simp[this]
     ·simp[q1]
    have h2:decide ((toSpan r).f≤i∧i≤(toSpan r).t)=false:=decide_eq_false (show ¬(max r.f 0≤i∧i≤min r.t 1114111)from fun q=>hq ⟨by omega,by omega⟩)
    rw[h1,h2];exact ih
  ·rw[if_neg hk]
   have h1:rowB k i r=false:=by simp[rowB,hk]
   rw[h1];exact ih
def spA(l:List Span)(i:Int):Int:=match atL l i with|some s=>s.a|none=>0
theorem spA_row(l:List Row)(k i:Int)(h:0≤i∧i≤1114111):aL l k i=spA (spansOf l k) i:=by
 have e:=find_kind k i h l
 unfold aL spA rowAt
 rw[if_neg (by omega),←e]
 cases l.find? (rowB k i)<;>rfl
theorem valL_at(i:Int):∀l:List Span,valL 0 i (l.map pieceOf)=spA l i
 | []=>rfl
 |s::l=>by
  have ih:=valL_at i l
  simp only[List.map_cons,valL]
  unfold spA atL at ih⊢
  rw[List.find?_cons]
  by_cases h:s.f≤i∧i≤s.t
  ·have h1:decide (s.f≤i∧i≤s.t)=true:=by simpa using h
   rw[if_pos (by exact h),h1];rfl
  ·have h1:decide (s.f≤i∧i≤s.t)=false:=by simpa using h
   rw[if_neg (by exact h),h1];exact ih
theorem kj1:kindL apiRows 1=spansOf apiRows 1:=by decide+kernel
theorem kj2:kindL apiRows 2=spansOf apiRows 2:=by decide+kernel
theorem kj4:kindL apiRows 4=spansOf apiRows 4:=by decide+kernel
theorem kj5:kindL apiRows 5=spansOf apiRows 5:=by decide+kernel
theorem kj6:kindL apiRows 6=spansOf apiRows 6:=by decide+kernel
theorem aL_out(l:List Row)(k i:Int)(h:¬(0≤i∧i≤1114111)):aL l k i=0:=by
 unfold aL rowAt
 rw[if_pos (by omega)]
theorem cls_row(r:Int):T0.cls (rn r)=aL apiRows 1 r:=by
 by_cases h:0≤r∧r≤1114111
 ·rw[spA_row _ _ _ h,←kj1,←valL_at,rn_in (by omega)];exact congrArg (fun x=>valL 0 x ((kindL apiRows 1).map pieceOf)) (Int.toNat_of_nonneg h.1)
 ·rw[rn_out (by omega),aL_out _ _ _ h];exact zeroT0.c
theorem brk_row(r:Int):T0.brk (rn r)=aL apiRows 4 r:=by
 by_cases h:0≤r∧r≤1114111
 ·rw[spA_row _ _ _ h,←kj4,←valL_at,rn_in (by omega)];exact congrArg (fun x=>valL 0 x ((kindL apiRows 4).map pieceOf)) (Int.toNat_of_nonneg h.1)
 ·rw[rn_out (by omega),aL_out _ _ _ h];exact zeroT0.b
theorem cnj_row(r:Int):T0.cnj (rn r)=aL apiRows 6 r:=by
 by_cases h:0≤r∧r≤1114111
 ·rw[spA_row _ _ _ h,←kj6,←valL_at,rn_in (by omega)];exact congrArg (fun x=>valL 0 x ((kindL apiRows 6).map pieceOf)) (Int.toNat_of_nonneg h.1)
 ·rw[rn_out (by omega),aL_out _ _ _ h];exact zeroT0.j
theorem flg_row(r:Int):(T0.flg (rn r)).p=decide (aL apiRows 5 r=1):=by
 by_cases h:0≤r∧r≤1114111
 ·have e:(T0.flg (rn r)).p=flagAt (kindL apiRows 5) r:=by
   rw[rn_in (by omega)];exact congrArg (flagAt (kindL apiRows 5)) (Int.toNat_of_nonneg h.1)
  rw[e,spA_row _ _ _ h,kj5]
  unfold flagAt spA
  cases atL (spansOf apiRows 5) r with
  |none=>rfl
  |some s=>simp only;rfl
 ·rw[rn_out (by omega),aL_out _ _ _ h,zeroT0.f];rfl
def pairS(l:List Span)(i:Int):Pair:=match atL l i with|some s=>⟨s.a,s.b⟩|none=>⟨0,0⟩
theorem valP_at(i:Int):∀l:List Span,valL ⟨0,0⟩ i (l.map pieceP2)=pairS l i
 | []=>rfl
 |s::l=>by
  have ih:=valP_at i l
  simp only[List.map_cons,valL]
  unfold pairS atL at ih⊢
  rw[List.find?_cons]
  by_cases h:s.f≤i∧i≤s.t
  ·have h1:decide (s.f≤i∧i≤s.t)=true:=by simpa using h
   rw[if_pos (by exact h),h1];rfl
  ·have h1:decide (s.f≤i∧i≤s.t)=false:=by simpa using h
   rw[if_neg (by exact h),h1];exact ih
theorem par_row(r:Int):T0.par (rn r)=(match pairD apiRows r with|some p=>⟨p.1,p.2⟩|none=>⟨0,0⟩):=by
 by_cases h:0≤r∧r≤1114111
 ·have e:T0.par (rn r)=pairS (spansOf apiRows 2) r:=by
   rw[←kj2,←valP_at,rn_in (by omega)];exact congrArg (fun x=>valL (⟨0,0⟩:Pair) x ((kindL apiRows 2).map pieceP2)) (Int.toNat_of_nonneg h.1)
  rw[e]
  have q:=find_kind 2 r h apiRows
  unfold pairS pairD rowAt
  rw[if_neg (by omega),←q]
  cases apiRows.find? (rowB 2 r)with
  |none=>rfl
  |some x=>
   simp only[Option.map_some,toSpan]
   by_cases h0:x.a=0∧x.b=0
   ·rw[if_pos h0];simp[h0.1,h0.2]
   ·rw[if_neg h0]
 ·have e:pairD apiRows r=none:=by unfold pairD rowAt;rw[if_pos (by omega)]
  rw[rn_out (by omega),zeroT0.p,e]
theorem take_row:∀(d:Nat) (r:Int),takeL T0 d r=fullD apiRows d r
 |0,r=>rfl
 |d+1,r=>by
  unfold takeL fullD
  split
  ·rfl
  ·have e:=par_row r
   cases hp:pairD apiRows r with
   |none=>
    rw[hp]at e
    rw[e];simp
   |some p=>
    rw[hp]at e
    have h0:¬(p.1=0∧p.2=0):=by
     intro h0
     unfold pairD at hp
     cases hr:rowAt apiRows 2 r with
     |none=>rw[hr]at hp;simp at hp
     |some x=>
      rw[hr]at hp
      simp only at hp
      split at hp
      ·simp at hp
      ·rename_i hx
       have:=Option.some.inj hp
       rw[←this]at h0
       exact hx h0
    rw[e]
    simp only
    rw[if_neg h0,take_row d p.1,take_row d p.2]
theorem apart_row(l:List Int):apartL T0 l=apartD apiRows l:=by
 unfold apartL apartD
 congr 1;funext r;exact take_row 8 r
theorem key_row:keyT T0=kD apiRows:=by funext r;exact cls_row r
end Go.Proofs.YtjefahhmkcfiiaaGreat
end
section
namespace Go.Proofs.YtjefahhmkcfiiaaGreat
open Go.AM
set_option maxHeartbeats 4000000
set_option maxRecDepth 100000
theorem insK_lt(k:Int→Int)(x y:Int)(h:k x<k y):∀S:List Int,insK k x (S++[y])=insK k x S++[y]
 | []=>by simp[insK,h]
 |z::S=>by
  simp only[List.cons_append,insK]
  split
  ·rfl
  ·rw[insK_lt k x y h S];rfl
theorem insK_ge(k:Int→Int)(x:Int):∀S:List Int,(∀z∈S,k z≤k x)→insK k x S=S++[x]
 | [],_=>rfl
 |z::S,h=>by
  simp only[insK]
  rw[if_neg (by have:=h z (by simp);omega),insK_ge k x S (fun y hy=>h y (by simp[hy]))];rfl
def Wall(k:Int→Int)(D:List Int):Prop:=D=[]∨∃D' d,D=D'++[d]∧k d=0
theorem insD_wall {k:Int→Int}(hk:∀x,0≤k x) {D:List Int}(hD:Wall k D)(x:Int)(hx:k x≠0):∀(n:Nat) (S:List Int),S.length=n→SortK k S→insD k (D++S) x=D++insK k x S
 |0,S,hn,_=>by
  obtain rfl:=List.eq_nil_of_length_eq_zero hn
  rcases hD with rfl|⟨D',d,rfl,hd⟩
  ·rfl
  ·have:=hk x
   unfold insD
   simp only[List.append_nil,List.reverse_append,List.reverse_cons,List.reverse_nil,List.nil_append,List.singleton_append,insRev]
   rw[if_neg (by omega)]
   simp[insK]
 |n+1,S,hn,hs=>by
  obtain⟨S',y,rfl⟩:=last_split (A:=S) (fun e=>by rw[e]at hn;simp at hn)
  have hs':SortK k S':=(List.pairwise_append.1 hs).1
  have hle:∀z∈S',k z≤k y:=fun z hz=>(List.pairwise_append.1 hs).2.2 z hz y (by simp)
  by_cases h:k x<k y
  ·rw[insK_lt k x y h,←List.append_assoc,←List.append_assoc,←insD_wall hk hD x hx n S' (by simpa using hn) hs']
   unfold insD
   rw[List.reverse_append,List.reverse_cons,List.reverse_nil,List.nil_append,List.singleton_append,insRev,if_pos ⟨hx,h⟩,List.reverse_cons]
  ·rw[insK_ge k x (S'++[y]) (fun z hz=>by
    rcases List.mem_append.1 hz with hz|hz
    ·have:=hle z hz;omega
    ·rw[List.mem_singleton.1 hz];omega)]
   unfold insD
   rw[←List.append_assoc,List.reverse_append,List.reverse_cons,List.reverse_nil,List.nil_append,List.singleton_append,insRev,if_neg (by omega)]
   simp
theorem insD_zero {k:Int→Int}(O:List Int)(x:Int)(hx:k x=0):insD k O x=O++[x]:=by
 unfold insD
 cases h:O.reverse with
 |nil=>rw[List.reverse_eq_nil_iff.1 h];rfl
 |cons y l=>
  have e:O=(y::l).reverse:=by rw[←h,List.reverse_reverse]
  rw[insRev,if_neg (by omega),e];simp
theorem sortK_snoc(k:Int→Int)(run:List Int)(x:Int):sortK k (run++[x])=insK k x (sortK k run):=by simp[sortK,List.foldl_append]
theorem ord_go {k:Int→Int}(hk:∀x,0≤k x):∀(l run D:List Int),Wall k D→l.foldl (insD k) (D++sortK k run)=D++ordGo k run l
 | [],run,D,_=>rfl
 |x::l,run,D,hD=>by
  simp only[List.foldl_cons,ordGo]
  by_cases hx:k x=0
  ·rw[if_pos hx,insD_zero _ _ hx]
   have ih:=ord_go hk l [] (D++sortK k run++[x]) (.inr ⟨_,_,rfl,hx⟩)
   simp only[sortK,List.foldl_nil,List.append_nil]at ih⊢
   rw[ih];simp
  ·rw[if_neg hx,insD_wall hk hD x hx _ _ rfl (sortK_stab k run).1,←sortK_snoc]
   exact ord_go hk l (run++[x]) D hD
theorem ord_same {k:Int→Int}(hk:∀x,0≤k x)(l:List Int):ordD k l=ordL k l:=by
 have:=ord_go hk l [] [] (.inl rfl)
 simpa[ordD,ordL,sortK]using this
theorem aL_mem {l:List Row} {k r:Int}(h:aL l k r≠0):∃w∈l,w.k=k∧w.f≤r∧r≤w.t∧aL l k r=w.a:=by
 unfold aL at h⊢
 cases e:rowAt l k r with
 |none=>rw[e]at h;exact absurd rfl h
 |some w=>
  unfold rowAt at e
  split at e
  ·simp at e
  ·have h1:=List.mem_of_find?_eq_some e
   have h2:=List.find?_some e
   simp only[rowB,Bool.and_eq_true,decide_eq_true_eq]at h2
   exact⟨w,h1,h2.1.1,h2.1.2,h2.2,rfl⟩
def pos1:Bool:=apiRows.all fun w=>!decide (w.k=1) || (decide (0≤w.a)&&(decide (w.t<44032) || decide (55203<w.f)))
theorem pos1_ok:pos1=true:=by decide+kernel
theorem pos1_at {w:Row}(h:w∈apiRows)(hk:w.k=1):0≤w.a∧(w.t<44032∨55203<w.f):=by
 have:=List.all_eq_true.1 pos1_ok w h
 simpa[hk]using this
theorem kD_pos(x:Int):0≤kD apiRows x:=by
 by_cases h:aL apiRows 1 x=0
 ·show 0≤aL apiRows 1 x;omega
 ·obtain⟨w,h1,h2,_,_,e⟩:=aL_mem h
  show 0≤aL apiRows 1 x
  rw[e];exact(pos1_at h1 h2).1
theorem nfd_row(l:List Int):nfdL T0 l=nfdD apiRows l:=by
 unfold nfdL nfdD
 rw[key_row,apart_row,ord_same kD_pos]
theorem join_row(a b:Int):joinV a b=joinD a b:=by
 unfold joinV joinD
 by_cases h1:4352≤a∧a<4371∧4449≤b∧b<4470
 ·rw[if_pos h1,if_pos (by omega)];congr 1;omega
 ·have n1:¬(4352≤a∧a≤4370∧4449≤b∧b≤4469):=fun g=>h1 ⟨g.1,by omega,g.2.2.1,by omega⟩
  rw[if_neg h1,if_neg n1]
  by_cases h2:sylB a=true∧(a-44032)%28=0∧4519<b∧b<4547
  ·rw[if_pos h2,if_pos (by obtain⟨g1,g2,g3,g4⟩:=h2;exact⟨g1,g2,by omega,by omega⟩)];congr 1;omega
  ·rw[if_neg h2,if_neg (fun g=>h2 ⟨g.1,g.2.1,by omega,by omega⟩)]
def candOf(l:List Row)(w:Row):Option (Pair×Int):=if w.k=2∧w.b≠0∧pairD l w.f=some (w.a,w.b)∧outD l w.f=false then some (⟨w.a,w.b⟩,w.f)else none
def cands(l:List Row):List (Pair×Int):=l.filterMap (candOf l)
end Go.Proofs.YtjefahhmkcfiiaaGreat
end
section
namespace Go.Proofs.YtjefahhmkcfiiaaGreat
open Go.AM
set_option maxHeartbeats 4000000
set_option maxRecDepth 100000
theorem cands_api:M0.1=cands apiRows:=by decide+kernel
def oneB:List (Pair×Int)→Bool
 | []=>true
 |c::l=>l.all (fun d=>!decide (d.1=c.1))&&oneB l
theorem cands_one:oneB (cands apiRows)=true:=by decide+kernel
end Go.Proofs.YtjefahhmkcfiiaaGreat
end
