/- A part of this seat's proofs, by an abstract machine. Conditions: each law's. -/
import Derived.Test.YtfjdbbpimklecaaGreatDoorT33
import Derived.Test.YtfjdbbpimklecaaGreatDoorT32
import Derived.Shelf.Strings.Builder1
import Derived.Shelf.Small.Bits
import Derived.Shelf.Small.Strs
import Derived.Shelf.Strings.BuilderF
import Derived.Shelf.Strings.BuilderK
import Derived.Shelf.Strconv.Itoa0
import Derived.Shelf.Strconv.Itoa1
import Derived.Shelf.LaysM
import Derived.Shelf.Strconv.Itoa2
import Derived.Shelf.Strconv.Itoa3
import Derived.Shelf.Strings.Search1
import Derived.Shelf.Strings.Search2
import Derived.Shelf.Strings.Cut
import Derived.Shelf.Strings.Shaped
import Derived.Shelf.Strings.BuilderCap
import Derived.Ground.Names2Prog
import Derived.Shelf.Slices.SearchI
import Derived.Shelf.Slices.Empties
import Derived.Test.YtfjdbbpimklecaaGreatDoorProg
import Derived.Test.YtfjdbbpimklecaaGreatDoorT17
set_option maxHeartbeats 1600000
set_option maxRecDepth 10000
namespace Go.Proofs
section
open Go.Shelf
open Go.RowKit in
open Go.RowKit in
open Go.RowKit in
open Go.RowKit in
open Go.RowKit in
open Go.RowKit in
open Go.RowKit in
open Go.RowKit in
open Go.RowKit in
open Go.RowKit in
open Go.Lib in
open Go.Lib in
open Go.Lib in
open Go.Lib in
open Go.RowKit Go.Sort Go.Lib in
open Go.RowKit Go.Sort Go.Lib in
open Go.RowKit Go.Sort Go.Lib in
open Go.RowKit Go.Sort Go.Lib in
open Go.RowKit Go.Sort Go.Lib in
def Tryz.zby:Go.Shelf.Ren:=⟨fun|171=>152|243=>196|246=>224|283=>237|284=>238|285=>239|286=>240|129=>206|317=>246|318=>247|319=>248|320=>249|337=>258|338=>259|n=>n,fun|3=>3|9=>9|2=>2|4=>4|171=>359|0=>0|53=>342|37=>186|5=>5|173=>361|212=>368|51=>340|20=>20|213=>369|46=>306|232=>383|233=>384|n=>n,fun|17=>0|18=>4|19=>5|n=>n⟩
theorem Tryz.zk6:Go.Proofs.LaysM.n171 Tryz.prog Tryz.zby:={
 mixed:=by kernel_rfl
 f129:=Tryz.func206.trans (congrArg some (by kernel_rfl))
 f171:=Tryz.func152.trans (congrArg some (by kernel_rfl))
 f243:=Tryz.func196.trans (congrArg some (by kernel_rfl))
 f246:=Tryz.func224.trans (congrArg some (by kernel_rfl))
 f283:=Tryz.func237.trans (congrArg some (by kernel_rfl))
 f284:=Tryz.func238.trans (congrArg some (by kernel_rfl))
 f285:=Tryz.func239.trans (congrArg some (by kernel_rfl))
 f286:=Tryz.func240.trans (congrArg some (by kernel_rfl))
 f317:=Tryz.func246.trans (congrArg some (by kernel_rfl))
 f318:=Tryz.func247.trans (congrArg some (by kernel_rfl))
 f319:=Tryz.func248.trans (congrArg some (by kernel_rfl))
 f320:=Tryz.func249.trans (congrArg some (by kernel_rfl))
 f337:=Tryz.func258.trans (congrArg some (by kernel_rfl))
 f338:=Tryz.func259.trans (congrArg some (by kernel_rfl))
 t0:=Tryz.underlying0
 a0:=Tryz.isAgg0
 z0:=Tryz.sizeOf0
 v0:=Tryz.zeroValue0
 t2:=Tryz.underlying2
 a2:=Tryz.isAgg2
 z2:=Tryz.sizeOf2
 v2:=Tryz.zeroValue2
 t3:=Tryz.underlying3
 a3:=Tryz.isAgg3
 z3:=Tryz.sizeOf3
 v3:=Tryz.zeroValue3
 t4:=Tryz.underlying4
 a4:=Tryz.isAgg4
 z4:=Tryz.sizeOf4
 v4:=Tryz.zeroValue4
 t5:=Tryz.underlying5
 a5:=Tryz.isAgg5
 z5:=Tryz.sizeOf5
 v5:=Tryz.zeroValue5
 t9:=Tryz.underlying9
 a9:=Tryz.isAgg9
 z9:=Tryz.sizeOf9
 v9:=Tryz.zeroValue9
 t20:=Tryz.underlying20
 a20:=Tryz.isAgg20
 z20:=Tryz.sizeOf20
 v20:=Tryz.zeroValue20
 t37:=Tryz.underlying186
 a37:=Tryz.isAgg186
 z37:=Tryz.sizeOf186
 v37:=Tryz.zeroValue186
 t46:=Tryz.underlying306
 a46:=Tryz.isAgg306
 z46:=Tryz.sizeOf306
 v46:=Tryz.zeroValue306
 t51:=Tryz.underlying340
 a51:=Tryz.isAgg340
 z51:=Tryz.sizeOf340
 v51:=Tryz.zeroValue340
 t53:=Tryz.underlying342
 a53:=Tryz.isAgg342
 z53:=Tryz.sizeOf342
 v53:=Tryz.zeroValue342
 t171:=Tryz.underlying359
 a171:=Tryz.isAgg359
 z171:=Tryz.sizeOf359
 v171:=Tryz.zeroValue359
 t173:=Tryz.underlying361
 a173:=Tryz.isAgg361
 z173:=Tryz.sizeOf361
 v173:=Tryz.zeroValue361
 t212:=Tryz.underlying368
 a212:=Tryz.isAgg368
 z212:=Tryz.sizeOf368
 v212:=Tryz.zeroValue368
 t213:=Tryz.underlying369
 a213:=Tryz.isAgg369
 z213:=Tryz.sizeOf369
 t232:=Tryz.underlying383
 a232:=Tryz.isAgg383
 z232:=Tryz.sizeOf383
 v232:=Tryz.zeroValue383
 t233:=Tryz.underlying384
 a233:=Tryz.isAgg384
 z233:=Tryz.sizeOf384
 v233:=Tryz.zeroValue384
 g17:=by kernel_rfl
 g18:=by kernel_rfl
 g19:=by kernel_rfl
 i0:=by kernel_rfl
 i2:=by kernel_rfl
 i3:=by kernel_rfl
 i4:=by kernel_rfl
 i5:=by kernel_rfl
 i9:=by kernel_rfl
 i20:=by kernel_rfl
 i37:=by kernel_rfl
 i46:=by kernel_rfl
 i51:=by kernel_rfl
 i53:=by kernel_rfl
 i171:=by kernel_rfl
 i173:=by kernel_rfl
 i212:=by kernel_rfl
 i232:=by kernel_rfl
 i233:=by kernel_rfl
 m17:=by kernel_rfl
 m18:=by kernel_rfl
 m19:=by kernel_rfl}
open Go.RowKit Go.Sort Go.Lib in
theorem Tryz.strconv_Itoa(n:Int)(h0: -9223372036854775808≤n)(h1:n≤9223372036854775807)(w:World)(htab:Lib.TabIs Tryz.prog w "internal/strconv.uint64pow10" .u64 Lib.pow10Tab):
  Calls Tryz.prog 152 #[.int .i64 n] w fun e w'=>e=.returned (.string ⟨(Lib.itoa n).toArray⟩)∧∃k os,w'=grow (w.drewN k) os:=Any.strconv_Itoa Tryz.zk6 n h0 h1 w htab
open Go.RowKit Go.Sort Go.Lib in
open Go.RowKit Go.Lib in
open Go.RowKit Go.Lib in
open Go.RowKit Go.Lib in
open Go.RowKit Go.Lib in
open Go.RowKit Go.Lib in
open Go.RowKit Go.Lib in
open Go.RowKit Go.Lib in
open Go.RowKit Go.Lib in
open Go.RowKit Go.Lib in
open Go.RowKit Go.Lib in
open Go.RowKit Go.Lib in
open Go.RowKit Go.Lib in
open Go.RowKit Go.Lib in
open Go.RowKit Go.Lib in
open Go.RowKit Go.Lib in
open Go.RowKit Go.Lib in
end
end Go.Proofs
namespace Go.Proofs.YtfjdbbpimklecaaGreatDoor
section
open Go.AM
def Yz:Array Value:=(Lib.pow10Tab.map fun z=>Value.int .u64 z).toArray
instance doorGi:Gi:=⟨fun b=>if b=0 then some Yz else none⟩
theorem zjH:Tryz.prog.globalNamed "internal/strconv.uint64pow10" =some 0:=by kernel_rfl
theorem zoB {g:Gh} {w:World}(h:Y1 g w):Lib.TabIs Tryz.prog w "internal/strconv.uint64pow10" .u64 Lib.pow10Tab:=by
 obtain⟨_,T,f,hb⟩:=h 0 Yz rfl
 unfold Lib.TabIs World.var?
 rw[zjH]
 simp only[Option.bind_some,hb]
 rfl
theorem zl7 {f:FuncId} {args:List AV} {x:AV}(h:∀w g vs,zo g w args vs→GS g w []→Calls Tryz.prog f vs.toArray w fun e w'=>∃v,e=.returned v∧(∀k,k<w.heap.size→w'.heap[k]?=w.heap[k]?)∧w.heap.size≤w'.heap.size∧
  (w'.os=w.os∧w'.tape=w.tape∧w'.output=w.output)∧∀g':Gh,g'.fr=g.fr→zb g' w' x v):CR Tryz.prog f [] args [] (is x):=by
 intro w g vs hargs hG
 refine(h w g vs hargs hG).mono ?_
 rintro e w' ⟨v,rfl,hold,hmono,hout,hr⟩
 let g2:Gh:=⟨g.fr,fun _=>.prot⟩
 have hx:Ext g.fr w g2.fr w':=fun d o ho=>⟨ho,zQ (hold d (by
  rcases Nat.lt_or_ge d w.heap.size with h|h
  ·exact h
  ·have:=hG.frb d h;omega))⟩
 have hA:Aft g w g2 w' []:=⟨fun d hd _=>⟨hold d hd,rfl,rfl⟩,hx,hout,hmono,fun b t _ ht=>(by cases ht)⟩
 exact⟨v,x,[],g2,rfl,⟨rfl,rfl⟩,hr g2 rfl,⟨fun b t h=>(by cases h),fun b b' t h=>(by cases h),fun b b' t h=>(by cases h),fun b h=>absurd rfl h,fun b hb=>hG.frb b (by omega),hG.gl.aft hA⟩,hA⟩
theorem zmZ(n:Int)(h0: -9223372036854775808≤n)(h1:n≤9223372036854775807):CR Tryz.prog 152 [] [.p (.int .i64 n)] [] (is (.p (.str (Lib.itoa n)))):=by
 refine zl7 fun w g vs hargs hG=>?_
 simp only[zo,zb,zl]at hargs
 obtain⟨v,vs',rfl,rfl,rfl⟩:=hargs
 refine(Tryz.strconv_Itoa n h0 h1 w (zoB hG.gl)).mono ?_
 rintro e w' ⟨rfl,k,os,rfl⟩
 have hs:(w.drewN k).heap=w.heap:=by simp
 refine⟨_,rfl,fun k hk=>?_,?_,⟨?_,?_,?_⟩,fun g' _=>by simp only[zb,zl]⟩
 ·rw[Go.Sort.heap_grow_old _ _ (by rw[hs];exact hk),hs]
 ·simp[Go.Sort.grow]
 ·rfl
 ·rfl
 ·rfl
theorem zoe {g:Gh} {w:World} {t:Tok} {l:List UInt8} {v:Value}(h:zb g w (.bb t 5 l) v):w.ownsRow 0 5 1 v l.length (Lib.byteCells l)∧(v=.slice none 0 0∧l=[]∨∃q,v.ownBlock=some q∧g.K q=.tail t∧g.fr q=0∧l≠ []):=by
 simp only[zb]at h
 have hl:(Lib.byteCells l).length=l.length*1:=by simp[Lib.byteCells]
 rcases h with ⟨rfl,rfl⟩|⟨b,cap,arr,rfl,hk,hf,hb,h1,h2,h3,h4,h5⟩
 ·exact⟨⟨hl,.inl ⟨rfl,rfl⟩⟩,.inl ⟨rfl,rfl⟩⟩
 ·exact⟨⟨hl,.inr ⟨b,cap,arr,rfl,Nat.zero_le _,hb,h1,h2,by omega,by rw[Nat.mul_one];exact h4⟩⟩,.inr ⟨b,rfl,hk,hf,h5⟩⟩
theorem zjF {w w':World} {b:Nat} {arr arr':Array Value} {T:TypeId} {n:BN}(h:w.heap[b]?=some (.cells arr T (0,0)))(h':w'.heap[b]?=some (.cells arr' T (0,0)))(hs:arr'.size=arr.size)(hn:Blk w b n):Blk w' b n:=by
 cases n<;>simp only[Blk]at hn⊢
 ·obtain⟨arr2,T2,h2,hn⟩:=hn
  rw[h]at h2
  injection h2 with h2;injection h2 with e1 e2;subst e1;subst e2
  exact⟨arr',T,h',by omega⟩
 ·obtain⟨arr2,h2,hn⟩:=hn
  rw[h]at h2
  injection h2 with h2;injection h2 with e1 e2;subst e1;subst e2
  exact⟨arr',h',by omega⟩
theorem yj(w:World)(b o:Nat)(v:Value)(k:Nat)(h:k≠b):(w.setCell ⟨b,o,none⟩ v).heap[k]?=w.heap[k]?:=by
 simp[World.setCell,Array.getElem?_modify,Ne.symm h]
theorem Yp {w:World} {b:Nat} {arr:Array Value} {T:TypeId} {f:Nat×Nat}(h:w.heap[b]?=some (.cells arr T f))(o:Nat)(v:Value):(w.setCell ⟨b,o,none⟩ v).heap[b]?=some (.cells (arr.setIfInBounds o v) T f):=by
 simp[World.setCell,Array.getElem?_modify,h]
variable [Gi]
theorem zon(c0:AV)(cs1:List AV)(l:List UInt8):CR Tryz.prog 100 [] [.lp [0] 0] [([0],c0::.bb [1] 5 l::cs1)] (is (.p (.str l))):=by
 intro w g vs hargs hG
 simp only[zo,zb]at hargs
 obtain⟨v,vs',rfl,⟨b,hk,rfl⟩,rfl⟩:=hargs
 obtain⟨cs,hl,h0,arr,T,hb,hle,hc⟩:=hG.roots b _ hk
 have hcs:cs=c0::.bb [1] 5 l::cs1:=by simpa[zn]using hl.symm
 subst hcs
 obtain⟨v1,hv1,_,hr⟩:=hc 1 (.bb [1] 5 l) rfl
 let g2:Gh:=⟨g.fr,fun _=>.prot⟩
 have fin:∀w':World,(∀d,d<w.heap.size→g.K d=.prot→w'.heap[d]?=w.heap[d]?)→(∀d,g.fr d≠0→w'.heap[d]?=w.heap[d]?)→w'.heap.size=w.heap.size→(w'.os=w.os∧w'.tape=w.tape∧w'.output=w.output)→
   ∃v x rs' g',Ending.returned (Value.string ⟨l.toArray⟩)=.returned v∧is (.p (.str l)) x rs'∧zb g' w' x v∧GS g' w' rs'∧Aft g w g' w' []:=fun w' h1 h2 h3 h4=>by
  have hx:Ext g.fr w g2.fr w':=fun d o ho=>⟨ho,zQ (h2 d (by omega))⟩
  have hA:Aft g w g2 w' []:=⟨fun d hd hkd=>⟨h1 d hd hkd,rfl,rfl⟩,hx,h4,by omega,fun b t _ ht=>(by cases ht)⟩
  exact⟨_,_,[],g2,rfl,⟨rfl,rfl⟩,by simp only[zb,zl],⟨fun b t h=>(by cases h),fun b b' t h=>(by cases h),fun b b' t h=>(by cases h),fun b h=>absurd rfl h,fun b hb=>hG.frb b (by omega),hG.gl.aft hA⟩,hA⟩
 simp only[zb]at hr
 rcases hr with ⟨rfl,rfl⟩|⟨q,cap,cur,rfl,hq,hf,hqb,k1,k2,k3,k4,k5⟩
 ·refine(zdI b arr T w hb hv1).mono ?_
  rintro e w' ⟨rfl,rfl⟩
  exact fin _ (fun d _ _=>rfl) (fun d _=>rfl) rfl ⟨rfl,rfl,rfl⟩
 ·refine(zlL b q cap cur arr T l w hb hv1 hqb k1 k2 k3 (by simpa[Lib.byteCells]using k4) k5).mono ?_
  rintro e w' ⟨rfl,rfl⟩
  have hne:∀d,d≠q→(w.drew.freeze ⟨q,0,none⟩ l.length).heap[d]?=w.heap[d]?:=fun d hd=>by
   simp[World.freeze,k5,Array.getElem?_modify,Ne.symm hd]
   rfl
  exact fin _ (fun d _ hkd=>hne d (fun e=>by subst e;rw[hq]at hkd;cases hkd)) (fun d hd=>hne d (fun e=>by subst e;exact hd hf)) (by simp[World.freeze,k5]) (by simp[World.freeze,k5];exact⟨rfl,rfl⟩)
theorem znA {b:Nat} {l l2:List UInt8} {xs:List PV} {g:Gh} {w w' W1 W2:World} {Rs:List Tok}(hG:GS g w [([0],.bz [0] 188 2::.bb [1] 5 l::xs.map .p)])(hk:g.K b=.root [0])(hpin:Rs=[[0]])
  {arr arr1:Array Value} {T:TypeId} {v1 v':Value} (hb:w.heap[b]?=some (.cells arr T (0,0))) (hle:2+xs.length≤arr.size) (h0:g.fr b=0) (hcs:∀j x,xs[j]?=some x→∃u,arr[j+2]?=some u∧u.oneCell'=true∧zl g.fr w x u)
  (hkind:v1=.slice none 0 0∧l=[]∨∃q,v1.ownBlock=some q∧g.K q=.tail [1]∧g.fr q=0∧l≠ []) (hne:v1.ownBlock≠some b)
  (hb1:W1.heap[b]?=some (.cells arr1 T (0,0))) (h10:arr1[0]?=some (.pointer (some ⟨b,0,none⟩))) (hsz1:arr1.size=arr.size) (hrest:∀j,arr1[j+2]?=arr[j+2]?) (hold1:∀d,d≠b→W1.heap[d]?=w.heap[d]?) (hs1:W1.heap.size=w.heap.size)
  (hblkT:Blk w b (.eq 188 2)) (hout2:W2.os=w.os∧W2.tape=w.tape∧W2.output=w.output) (hge:w.heap.size≤W2.heap.size) (hgrow:∀k,k<w.heap.size→v1.ownBlock≠some k→W2.heap[k]?=W1.heap[k]?)
  (hown2:W2.ownsRow 0 5 1 v' l2.length (Lib.byteCells l2)) (hiff:l2=[]→v'=.slice none 0 0) (hblk:v'.ownBlock=v1.ownBlock∨∃B,v'.ownBlock=some B∧W1.heap.size≤B) (hw':w'=W2.setCell ⟨b,1,none⟩ v'):
  ∃g2:Gh,GS g2 w' [([0],.bz [0] 188 2::.bb [1] 5 l2::xs.map .p)]∧Aft g w g2 w' Rs:=by
 subst hw' hpin
 have hbw:=hG.own b (by rw[hk];simp)
 have hbW1:b<w.heap.size:=hbw
 have hb2:W2.heap[b]?=some (.cells arr1 T (0,0)):=(hgrow b hbW1 hne).trans hb1
 have hb3:=Yp hb2 1 v'
 have hv1q:∀d,v1.ownBlock=some d→g.K d=.tail [1]∧g.fr d=0:=fun d hd=>by
  rcases hkind with ⟨rfl,_⟩|⟨q,hq,hqk,hf,_⟩
  ·simp[Value.ownBlock]at hd
  ·rw[hq]at hd;injection hd with e;subst e;exact⟨hqk,hf⟩
 have hsame:∀d,d<w.heap.size→d≠b→v1.ownBlock≠some d→(W2.setCell ⟨b,1,none⟩ v').heap[d]?=w.heap[d]?:=fun d hd hdb hdv=>by
  rw[yj _ _ _ _ _ hdb,hgrow d hd hdv,hold1 d hdb]
 have hsz2:(W2.setCell ⟨b,1,none⟩ v').heap.size=W2.heap.size:=by simp[World.setCell]
 have hvq:∀q,v'.ownBlock=some q→q≠b∧g.fr q=0∧(g.K q=.prot→w.heap.size≤q):=fun q hq=>by
  rcases hblk with e|⟨B,e,hB⟩
  ·rw[hq]at e
   obtain⟨k1,k2⟩:=hv1q q e.symm
   exact⟨fun e'=>(by subst e';rw[k1]at hk;cases hk),k2,fun e'=>(by rw[k1]at e';cases e')⟩
  ·rw[hq]at e;injection e with e;subst e
   exact⟨by omega,hG.frb q (by omega),fun _=>by omega⟩
 let g2:Gh:=⟨g.fr,fun d=>if d=b then .root [0]else if v'.ownBlock=some d then .tail [1]else .prot⟩
 have hK:∀d,g2.K d=if d=b then .root [0]else if v'.ownBlock=some d then .tail [1]else .prot:=fun _=>rfl
 have hx:Ext g.fr w g2.fr (W2.setCell ⟨b,1,none⟩ v'):=fun d o ho=>⟨ho,zQ (hsame d (by
   rcases Nat.lt_or_ge d w.heap.size with h|h
   ·exact h
   ·have:=hG.frb d h;omega) (fun e=>by subst e;omega) (fun e=>by have:=(hv1q d e).2;omega))⟩
 have hA:Aft g w g2 (W2.setCell ⟨b,1,none⟩ v') [[0]]:=⟨fun d hd hkd=>⟨hsame d hd (fun e=>by subst e;rw[hk]at hkd;cases hkd) (fun e=>by have:=(hv1q d e).1;rw[this]at hkd;cases hkd),rfl,by
   rw[hK,if_neg (fun e=>by subst e;rw[hk]at hkd;cases hkd),if_neg (fun e=>by have:=(hvq d e).2.2 hkd;omega)]⟩,hx,
  ⟨hout2.1,hout2.2.1,hout2.2.2⟩,by omega,fun b' t hk' ht=>(by
  obtain rfl:t=[0]:=by simpa using ht
  obtain rfl:=hG.ur b b' _ hk hk'
  exact⟨by rw[hK,if_pos rfl],fun n hn=>zjF hb hb3 (by simp[hsz1]) hn⟩)⟩
 have hbb:zb g2 (W2.setCell ⟨b,1,none⟩ v') (.bb [1] 5 l2) v':=by
  simp only[zb]
  rcases hown2.2 with ⟨h,h'⟩|⟨q,cap,cur,rfl,_,hq,k1,k2,k3,k4⟩
  ·exact .inl ⟨List.eq_nil_of_length_eq_zero h',h⟩
  ·obtain⟨q1,q2,_⟩:=hvq q rfl
   refine .inr ⟨q,cap,cur,rfl,by rw[hK,if_neg q1];exact if_pos rfl,q2,(yj _ _ _ _ _ q1).trans hq,k1,k2,by omega,?_,fun e=>?_⟩
   ·rw[Nat.mul_one]at k4;exact k4
   ·have:=hiff e;cases this
 refine⟨g2,⟨fun d t hd=>?_,fun d d' t hd hd'=>?_,fun d d' t hd hd'=>?_,fun d hd=>?_,fun d hd=>hG.frb d (by omega),hG.gl.aft hA⟩,hA⟩
 ·have hdb:d=b:=by
   rw[hK]at hd
   split at hd
   ·assumption
   ·split at hd<;>cases hd
  subst hdb
  have ht:t=[0]:=by rw[hK,if_pos rfl]at hd;injection hd with e;exact e.symm
  subst ht
  refine⟨_,rfl,h0,_,T,hb3,by simp[hsz1];omega,fun j x hj=>?_⟩
  match j,hj with
  |0,hj=>
   simp at hj;subst hj
   refine⟨.pointer (some ⟨d,0,none⟩),?_,rfl,by simp only[zb];exact⟨d,by rw[hK,if_pos rfl],zjF hb hb3 (by simp[hsz1]) hblkT,.inr rfl⟩⟩
   simp only[Array.getElem?_setIfInBounds];simpa using h10
  |1,hj=>
   simp at hj;subst hj
   refine⟨v',by simp[Array.getElem?_setIfInBounds,hsz1];omega,?_,hbb⟩
   rcases hown2.2 with ⟨rfl,_⟩|⟨q,cap,cur,rfl,_⟩<;>rfl
  |j+2,hj=>
   simp only[List.getElem?_cons_succ,List.getElem?_map,Option.map_eq_some_iff]at hj
   obtain⟨y,hy,rfl⟩:=hj
   obtain⟨u,hu,h1,hr⟩:=hcs j y hy
   refine⟨u,?_,h1,by simp only[zb];exact hr.ext hx⟩
   rw[Array.getElem?_setIfInBounds,if_neg (by omega),hrest];exact hu
 ·have one:∀d,g2.K d=.root t→d=b:=fun d hd=>by
   rw[hK]at hd
   split at hd
   ·assumption
   ·split at hd<;>cases hd
  rw[one d hd,one d' hd']
 ·have one:∀d,g2.K d=.tail t→v'.ownBlock=some d:=fun d hd=>by
   rw[hK]at hd
   split at hd
   ·cases hd
   ·split at hd
    ·assumption
    ·cases hd
  have e1:=one d hd
  rw[one d' hd']at e1
  injection e1 with e1;exact e1.symm
 ·rw[hsz2]
  rw[hK]at hd
  split at hd
  ·rename_i e;subst e;omega
  ·split at hd
   ·rename_i e
    rcases hown2.2 with ⟨rfl,_⟩|⟨q,cap,cur,rfl,_,hq,_⟩
    ·simp[Value.ownBlock]at e
    ·simp[Value.ownBlock]at e;subst e
     exact(Array.getElem?_eq_some_iff.1 hq).1
   ·exact absurd rfl hd
theorem zjI {b:Nat} {l:List UInt8} {xs:List PV} {g:Gh} {w:World}(hG:GS g w [([0],.bz [0] 188 2::.bb [1] 5 l::xs.map .p)])(hk:g.K b=.root [0]):
  ∃arr T v1,w.heap[b]?=some (.cells arr T (0,0))∧2+xs.length≤arr.size∧g.fr b=0∧(∀j x,xs[j]?=some x→∃u,arr[j+2]?=some u∧u.oneCell'=true∧zl g.fr w x u)∧
   (v1=.slice none 0 0∧l=[]∨∃q,v1.ownBlock=some q∧g.K q=.tail [1]∧g.fr q=0∧l≠ [])∧v1.ownBlock≠some b∧Blk w b (.eq 188 2)∧
   ∃W1 arr1,Calls Tryz.prog 150 #[.pointer (some ⟨b,0,none⟩)] w (fun e w'=>e=.returned (.tuple #[])∧w'=W1)∧W1.heap[b]?=some (.cells arr1 T (0,0))∧
   arr1[0]?=some (.pointer (some ⟨b,0,none⟩))∧arr1[1]?=some v1∧arr1.size=arr.size∧(∀j,arr1[j+2]?=arr[j+2]?)∧(∀d,d≠b→W1.heap[d]?=w.heap[d]?)∧W1.heap.size=w.heap.size∧(W1.os=w.os∧W1.tape=w.tape∧W1.output=w.output)∧
   W1.ownsRow 0 5 1 v1 l.length (Lib.byteCells l):=by
 obtain⟨cs,hl,h0,arr,T,hb,hle,hc⟩:=hG.roots b _ hk
 have hcs:cs=.bz [0] 188 2::.bb [1] 5 l::xs.map .p:=by simpa[zn]using hl.symm
 subst hcs
 obtain⟨p0,hp0,_,hr0⟩:=hc 0 (.bz [0] 188 2) rfl
 obtain⟨v1,hv1,_,hr⟩:=hc 1 (.bb [1] 5 l) rfl
 obtain⟨hown,hkind⟩:=zoe hr
 have hbw:=hG.own b (by rw[hk];simp)
 have hne:v1.ownBlock≠some b:=by
  rcases hkind with ⟨rfl,_⟩|⟨q,hq,hqk,_⟩
  ·simp[Value.ownBlock]
  ·rw[hq];intro e;injection e with e;subst e;rw[hqk]at hk;cases hk
 have hsz:2+xs.length≤arr.size:=by simp at hle;omega
 simp only[zb]at hr0
 obtain⟨b',hk',hblk,hp⟩:=hr0
 obtain rfl:=hG.ur b b' _ hk hk'
 refine⟨arr,T,v1,hb,hsz,h0,fun j x hj=>?_,hkind,hne,hblk,?_⟩
 ·obtain⟨u,hu,h1,hr⟩:=hc (j+2) (.p x) (by simp[hj])
  exact⟨u,hu,h1,by simpa only[zb]using hr⟩
 ·have hown1:∀W1:World,(∀d,d≠b→W1.heap[d]?=w.heap[d]?)→W1.ownsRow 0 5 1 v1 l.length (Lib.byteCells l):=fun W1 hold=>⟨hown.1,hown.2.imp id (by
   rintro⟨q,cap,cur,rfl,h1,h2,h3⟩
   exact⟨q,cap,cur,rfl,h1,(hold q (fun e=>hne (by simp[Value.ownBlock,e]))).trans h2,h3⟩)⟩
  rcases hp with rfl|rfl
  ·obtain⟨arr',hb',hs'⟩:=hblk
   rw[hb]at hb'
   injection hb' with hb';injection hb' with e1 e2;subst e1;subst e2
   refine⟨_,arr.setIfInBounds 0 (.pointer (some ⟨b,0,none⟩)),zfN b w (by rw[Lib.cell_of_heap hb];exact hp0) (by simp[World.shape?,hb,hs']) (Lib.frozen_of_heap hb 0),Yp hb 0 _,?_,?_,by simp,fun j=>?_,fun d hd=>yj w b 0 _ d hd,by simp[World.setCell],⟨rfl,rfl,rfl⟩,hown1 _ fun d hd=>yj w b 0 _ d hd⟩
   ·simp[show 0<arr.size by omega]
   ·simp only[Array.getElem?_setIfInBounds];simpa using hv1
   ·rw[Array.getElem?_setIfInBounds,if_neg (by omega)]
  ·exact⟨w,arr,zhM b w (by rw[Lib.cell_of_heap hb];exact hp0),hb,hp0,hv1,rfl,fun _=>rfl,fun _ _=>rfl,rfl,⟨rfl,rfl,rfl⟩,hown1 _ fun _ _=>rfl⟩
theorem zmb(xs:List PV)(l s:List UInt8)(hlen:l.length+s.length≤140737488355328):CR Tryz.prog 98 [[0]] [.lp [0] 0,.p (.str s)] [([0],.bz [0] 188 2::.bb [1] 5 l::xs.map .p)]
  (fun x rs'=>x=.tup [.zY,.zY]∧rs'=[([0],.bz [0] 188 2::.bb [1] 5 (l++s)::xs.map .p)]):=by
 intro w g vs hargs hG
 simp only[zo,zb,zl]at hargs
 obtain⟨v,vs',rfl,⟨b,hk,rfl⟩,v2,vs2,rfl,rfl,rfl⟩:=hargs
 obtain⟨arr,T,v1,hb,hle,h0,hcs,hkind,hne,hblkT,W1,arr1,hcopy,hb1,h10,h11,hsz1,hrest,hold1,hs1,hout1,hown1⟩:=zjI hG hk
 refine(zhz b v1 l s w W1 arr1 T hcopy hb1 h11 hown1 hne hlen).mono ?_
 rintro e w' ⟨rfl,v',W2,hw',hown2,hgrow,hiff,hblk⟩
 obtain⟨g2,hG2,hA⟩:=znA (Rs:=[[0]]) hG hk rfl hb hle h0 hcs hkind hne hb1 h10 hsz1 hrest hold1 hs1 hblkT ⟨by rw[hgrow.os];exact hout1.1,by rw[hgrow.tape];exact hout1.2.1,by rw[hgrow.output];exact hout1.2.2⟩ (by have:=hgrow.size;omega)
  (fun k hk h=>hgrow.block k (by omega) (fun e=>h e.symm)) hown2 (fun e=>by
   obtain⟨rfl,rfl⟩:=List.append_eq_nil_iff.1 e
   rcases hkind with ⟨h,_⟩|⟨q,_,_,_,h⟩
   ·exact hiff.2 ⟨h,rfl⟩
   ·exact absurd rfl h) hblk hw'
 exact⟨_,.tup [.zY,.zY],_,g2,rfl,⟨rfl,rfl⟩,by simp only[zb,zo];exact⟨_,rfl,_,_,rfl,trivial,_,_,rfl,trivial,rfl⟩,hG2,hA⟩
end
section
open Go.AM
structure AOp where
 k:Int
 a:Int
 b:Int
 t:List UInt8
 deriving Inhabited,DecidableEq
def opP(o:AOp):PV:=.agg [.int .i64 o.k,.int .i64 o.a,.int .i64 o.b,.str o.t]
attribute [go_sem] opP
def Qp(n:Int):List UInt8:=Lib.decDigits (min (max n 0) 9999).toNat
theorem Z4(n:Int):(Qp n).length≤4:=by
 have h:∀u:Nat,u≤9999→Lib.nDigits u≤4:=fun u hu=>by
  rw[Lib.nDigits];split
  ·omega
  ·rw[Lib.nDigits];split
   ·omega
   ·rw[Lib.nDigits];split
    ·omega
    ·rw[Lib.nDigits];split
     ·omega
     ·exfalso;omega
 rw[Qp,Lib.decDigits_length]
 exact h _ (by omega)
def byL(a:Int)(c:List UInt8):List UInt8:=if a=1 then [27,91]++c else [27,91]++Qp a++c
def Zx(o:AOp):List UInt8:=
 if o.k=1 then o.t
 else if o.k=2 then [27,91]++Qp (min o.a 9999+1)++[59]++Qp (min o.b 9999+1)++[72]
 else if o.k=3 then [27,91,75]
 else if o.k=4 then [27,91,50,74]
 else if o.k=5 then [7]
 else if o.k=6 then [13]
 else if o.k=7 then [10]
 else if o.k=8 then byL o.a [67]
 else if o.k=9 then byL o.a [68]
 else if o.k=10 then byL o.a [65]
 else if o.k=11 then byL o.a [66]
 else []
theorem ze0(n:Int):CR Tryz.prog 151 [] [.p (.int .i64 n)] [] (is (.p (.str (Qp n)))):=by
 have hi:=zmZ (min (max n 0) 9999) (by omega) (by omega)
 have e:Lib.itoa (min (max n 0) 9999)=Qp n:=by
  have:min (max n 0) 9999=((min (max n 0) 9999).toNat:Int):=by omega
  rw[this,Lib.itoa_nonneg];rfl
 rw[e]at hi
 refine zx mixed 3 [] Tryz.func151 rfl (by kernel_rfl) rfl (by simp) (by simp) ?_
 simp (maxSteps:=1000000) (disch:=omega) [go_sem,Tryz.f151]
 refine⟨⟨rfl,by simp[Tryz.f152]⟩,zd [] hi (by simp[go_sem]) ⟨by simp[go_sem],by simp[go_sem]⟩ (by simp[go_sem]) ?_⟩
 rintro y rs ⟨rfl,rfl⟩
 simp (maxSteps:=1000000) (disch:=omega) [go_sem]
 exact zg _ rfl (by simp[go_sem,zf,leA]) ⟨rfl,rfl⟩
def nfn:AV:=.p (.opq (.func (.func 151) #[] #[]))
theorem zgV(o:AOp)(c:List UInt8)(hc:c.length≤100):CR Tryz.prog 153 [] [.p (.str c),.lp [0] 0,.lp [1] 0] [([0],[.p (.int .i64 o.k),.p (.int .i64 o.a),.p (.int .i64 o.b),.p (.str o.t)]),([1],[nfn])] (is (.p (.str (byL o.a c)))):=by
 have hn:=ze0 o.a
 have hl:=Z4 o.a
 obtain⟨d,hd⟩:∃d,d=Qp o.a:=⟨_,rfl⟩
 have hby:byL o.a c=if o.a=1 then [27,91]++c else [27,91]++d++c:=by rw[hd];rfl
 rw[hby]
 rw[←hd]at hn hl
 clear hby hd
 refine zx mixed 5 [] Tryz.func153 rfl (by kernel_rfl) rfl (by simp) (by simp) ?_
 simp (maxSteps:=1000000) (disch:=omega) [go_sem,Tryz.f153,nfn]
 refine zh (fun h=>?_) (fun h=>?_)
 ·simp (maxSteps:=1000000) (disch:=omega) [go_sem]
  exact⟨by omega,zg (.p (.str ([27,91]++c))) rfl (by simp[go_sem,zf,leA]) ⟨rfl,by simp[h]⟩⟩
 ·simp (maxSteps:=1000000) (disch:=omega) [go_sem,Tryz.t175]
  refine⟨⟨rfl,by simp[Tryz.f151]⟩,zd [] hn (by simp[go_sem]) ⟨by simp[go_sem],by simp[go_sem]⟩ (by simp[go_sem]) ?_⟩
  rintro y rs ⟨rfl,rfl⟩
  simp (maxSteps:=1000000) (disch:=omega) [go_sem]
  exact⟨by omega,by omega,zg (.p (.str ([27,91]++d++c))) rfl (by simp[go_sem,zf,leA]) ⟨rfl,by simp[h]⟩⟩
def W0(n:Int):Int:=if 9999<n then 9999 else n+1
theorem zgF(n:Int)(h: -9223372036854775808≤n):CR Tryz.prog 92 [] [.p (.int .i64 n)] [] (is (.p (.int .i64 (W0 n)))):=by
 refine zx mixed 3 [] Tryz.func92 rfl (by kernel_rfl) rfl (by simp) (by simp) ?_
 simp (maxSteps:=1000000) (disch:=omega) [go_sem,Tryz.f92]
 refine zh (fun h=>?_) (fun h=>?_)
 ·simp (maxSteps:=1000000) (disch:=omega) [go_sem]
  exact zg (.p (.int .i64 9999)) rfl (by simp[go_sem,zf,leA]) ⟨rfl,by rw[W0,if_pos h]⟩
 ·simp (maxSteps:=1000000) (disch:=omega) [go_sem,wrap64]
  exact zg (.p (.int .i64 (n+1))) rfl (by simp[go_sem,zf,leA]) ⟨rfl,by rw[W0,if_neg h]⟩
theorem zkX(m:Nat)(h:0<m):(if m=0 then []else Lib.decDigits m)=(if m/10=0 then []else Lib.decDigits (m/10))++[UInt8.ofNat (48+m%10)]:=by
 rw[if_neg (by omega),Lib.decDigits]
 by_cases h1:m<10
 ·rw[dif_pos h1,if_pos (by omega),show m%10=m from by omega];rfl
 ·rw[dif_neg h1,if_neg (by omega)]
theorem yr(n:Int):CR Tryz.prog 91 [] [.p (.int .i64 n)] [] (is (.p (.str (Qp n)))):=by
 refine zx mixed 4 [] Tryz.func91 rfl (by kernel_rfl) rfl (by simp) (by simp) ?_
 simp (maxSteps:=1000000) (disch:=omega) [go_sem,Tryz.f91]
 refine zh (fun h=>?_) (fun h=>?_)
 ·simp (maxSteps:=1000000) (disch:=omega) [go_sem]
  refine zg (.p (.str [48])) rfl (by simp[go_sem,zf,leA]) ⟨rfl,?_⟩
  have:(min (max n 0) 9999).toNat=0:=by omega
  rw[Qp,this,Lib.decDigits_one (by decide)];rfl
 ·simp (maxSteps:=1000000) (disch:=omega) [go_sem]
  refine zh (fun h2=>?_) (fun h2=>?_)
  ·simp (maxSteps:=1000000) (disch:=omega) [go_sem]
   refine zg (.p (.str [57,57,57,57])) rfl (by simp[go_sem,zf,leA]) ⟨rfl,?_⟩
   have:(min (max n 0) 9999).toNat=9999:=by omega
   rw[Qp,this]
   have:Lib.decDigits 9999=[57,57,57,57]:=by decide+kernel
   rw[this]
  ·obtain⟨u,rfl⟩:∃u:Nat,n=u:=⟨n.toNat,by omega⟩
   have hd:Qp u=Lib.decDigits u:=by
    have:(min (max (u:Int) 0) 9999).toNat=u:=by omega
    rw[Qp,this]
   rw[hd]
   have hu:Lib.decDigits u=if u=0 then []else Lib.decDigits u:=by rw[if_neg (by omega)]
   simp (maxSteps:=1000000) (disch:=omega) [go_sem]
   refine qM (fun i:Nat×List UInt8=>i.1≤u∧i.2.length+i.1≤10000∧Lib.decDigits u=(if i.1=0 then []else Lib.decDigits i.1)++i.2) (fun i=>{n:=21,nv:=4,vs:=[(0,.p (.int .i64 i.1)),(3,.p (.str i.2))],ts:=[],rs:=[]}) (fun i=>i.1) (u,[]) ⟨Nat.le_refl _,by simp;omega,by rw[List.append_nil];exact hu⟩ (by simp[go_sem,LeS,leV,leR,leA]) ?_
   rintro⟨m,t⟩ ⟨hm,ht,he⟩
   simp only at hm ht he
   simp (maxSteps:=1000000) (disch:=omega) [go_sem]
   refine zh (fun h3=>?_) (fun h3=>?_)
   ·simp (maxSteps:=1000000) (disch:=omega) [go_sem,wrap64]
    have e0:(m:Int).tmod 10=((m%10:Nat):Int):=by
     rw[Int.tmod_eq_emod_of_nonneg (by omega)];rfl
    have e1:UInt8.ofNat (IntKind.u8.wrap (IntKind.i64.wrap (48+(m:Int).tmod 10))).toNat=UInt8.ofNat (48+m%10):=by
     rw[e0,wrap64 (by omega) (by omega)]
     have:IntKind.u8.wrap (48+((m%10:Nat):Int))=((48+m%10:Nat):Int):=by
      simp[IntKind.wrap,IntKind.signed,IntKind.bits];omega
     rw[this,Int.toNat_natCast]
    refine⟨by omega,zi (m/10,UInt8.ofNat (48+m%10)::t) ⟨by simp only;omega,by simp only[List.length_cons];omega,?_⟩ (by simp[go_sem,LeS,leV,leR,leA,e1]) (by simp only;omega)⟩
    show Lib.decDigits u=(if m/10=0 then []else Lib.decDigits (m/10))++UInt8.ofNat (48+m%10)::t
    rw[he,zkX m (by omega)]
    simp
   ·obtain rfl:m=0:=by omega
    simp (maxSteps:=1000000) (disch:=omega) [go_sem]
    exact zg (.p (.str t)) rfl (by simp[go_sem,zf,leA]) ⟨rfl,by rw[he];rfl⟩
theorem K7(a:Int)(c:List UInt8):(byL a c).length≤6+c.length:=by
 have:=Z4 a
 rw[byL]
 split<;>simp<;>omega
theorem zlF(o:AOp)(ha: -9223372036854775808≤o.a)(hb: -9223372036854775808≤o.b):CR Tryz.prog 99 [] [.p (opP o)] [] (is (.p (.str (Zx o)))):=by
 refine zK [7] mixed 5 [7,8,12,30,32,34,36,38,40,44,48,52] Tryz.func99 rfl (by kernel_rfl) rfl (by simp) (by simp) ?_
 simp (maxSteps:=1000000) (disch:=omega) [go_sem,Tryz.f99,Tryz.t175]
 refine⟨rfl,rfl,zh (fun h1=>?_) (fun h1=>?_)⟩
 ·simp (maxSteps:=1000000) (disch:=omega) [go_sem]
  exact zg (.p (.str o.t)) rfl (by simp[go_sem,zf,leA]) ⟨rfl,by simp[Zx,h1]⟩
 simp (maxSteps:=1000000) (disch:=omega) [go_sem]
 refine zh (fun h2=>?_) (fun h2=>?_)
 ·have l1:=Z4 (min o.a 9999+1)
  have l2:=Z4 (min o.b 9999+1)
  have hn1:=ze0 (min o.a 9999+1)
  have hn2:=ze0 (min o.b 9999+1)
  have hp:Zx o=[27,91]++Qp (min o.a 9999+1)++[59]++Qp (min o.b 9999+1)++[72]:=by simp[Zx,h2]
  rw[hp]
  clear hp
  generalize Qp (min o.a 9999+1)=d1 at*
  generalize Qp (min o.b 9999+1)=d2 at*
  simp (maxSteps:=1000000) (disch:=omega) [go_sem,wrap64,Tryz.t175]
  refine qm (.p (.str d1)) rfl rfl (fun _=>qk 151 hn1 rfl ⟨rfl,by simp[Tryz.f151]⟩ ⟨by simp[go_sem],by simp[go_sem]⟩) ?_
  simp (maxSteps:=1000000) (disch:=omega) [go_sem,wrap64,Tryz.t175]
  refine⟨by omega,by omega,qm (.p (.str d2)) rfl rfl (fun _=>qk 151 hn2 rfl ⟨rfl,by simp[Tryz.f151]⟩ ⟨by simp[go_sem],by simp[go_sem]⟩) ?_⟩
  simp (maxSteps:=1000000) (disch:=omega) [go_sem]
  exact⟨by omega,by omega,zg (.p (.str (27::91::(d1++59::(d2++[72]))))) rfl (by simp[go_sem,zf,leA]) ⟨rfl,rfl⟩⟩
 simp (maxSteps:=1000000) (disch:=omega) [go_sem]
 refine zh (fun h3=>?_) (fun h3=>?_)
 ·simp (maxSteps:=1000000) (disch:=omega) [go_sem]
  exact zg (.p (.str [27,91,75])) rfl (by simp[go_sem,zf,leA]) ⟨rfl,by simp[Zx,h3]⟩
 simp (maxSteps:=1000000) (disch:=omega) [go_sem]
 refine zh (fun h4=>?_) (fun h4=>?_)
 ·simp (maxSteps:=1000000) (disch:=omega) [go_sem]
  exact zg (.p (.str [27,91,50,74])) rfl (by simp[go_sem,zf,leA]) ⟨rfl,by simp[Zx,h4]⟩
 simp (maxSteps:=1000000) (disch:=omega) [go_sem]
 refine zh (fun h5=>?_) (fun h5=>?_)
 ·simp (maxSteps:=1000000) (disch:=omega) [go_sem]
  exact zg (.p (.str [7])) rfl (by simp[go_sem,zf,leA]) ⟨rfl,by simp[Zx,h5]⟩
 simp (maxSteps:=1000000) (disch:=omega) [go_sem]
 refine zh (fun h6=>?_) (fun h6=>?_)
 ·simp (maxSteps:=1000000) (disch:=omega) [go_sem]
  exact zg (.p (.str [13])) rfl (by simp[go_sem,zf,leA]) ⟨rfl,by simp[Zx,h6]⟩
 simp (maxSteps:=1000000) (disch:=omega) [go_sem]
 refine zh (fun h7=>?_) (fun h7=>?_)
 ·simp (maxSteps:=1000000) (disch:=omega) [go_sem]
  exact zg (.p (.str [10])) rfl (by simp[go_sem,zf,leA]) ⟨rfl,by simp[Zx,h7]⟩
 simp (maxSteps:=1000000) (disch:=omega) [go_sem]
 refine zh (fun h8=>?_) (fun h8=>?_)
 ·simp (maxSteps:=1000000) (disch:=omega) [go_sem]
  refine⟨⟨rfl,by simp[Tryz.f153]⟩,qO [([0],[1]),([1],[3])] (zgV o [67] (by simp)) (by simp[go_sem]) ⟨by simp[go_sem],by simp[go_sem]⟩ (by simp[go_sem,nfn]) ?_⟩
  rintro y rs ⟨rfl,rfl⟩
  simp (maxSteps:=1000000) (disch:=omega) [go_sem]
  exact zg (.p (.str (byL o.a [67]))) rfl (by simp[go_sem,zf,leA]) ⟨rfl,by simp[Zx,h8]⟩
 simp (maxSteps:=1000000) (disch:=omega) [go_sem]
 refine zh (fun h9=>?_) (fun h9=>?_)
 ·simp (maxSteps:=1000000) (disch:=omega) [go_sem]
  refine⟨⟨rfl,by simp[Tryz.f153]⟩,qO [([0],[1]),([1],[3])] (zgV o [68] (by simp)) (by simp[go_sem]) ⟨by simp[go_sem],by simp[go_sem]⟩ (by simp[go_sem,nfn]) ?_⟩
  rintro y rs ⟨rfl,rfl⟩
  simp (maxSteps:=1000000) (disch:=omega) [go_sem]
  exact zg (.p (.str (byL o.a [68]))) rfl (by simp[go_sem,zf,leA]) ⟨rfl,by simp[Zx,h9]⟩
 simp (maxSteps:=1000000) (disch:=omega) [go_sem]
 refine zh (fun h10=>?_) (fun h10=>?_)
 ·simp (maxSteps:=1000000) (disch:=omega) [go_sem]
  refine⟨⟨rfl,by simp[Tryz.f153]⟩,qO [([0],[1]),([1],[3])] (zgV o [65] (by simp)) (by simp[go_sem]) ⟨by simp[go_sem],by simp[go_sem]⟩ (by simp[go_sem,nfn]) ?_⟩
  rintro y rs ⟨rfl,rfl⟩
  simp (maxSteps:=1000000) (disch:=omega) [go_sem]
  exact zg (.p (.str (byL o.a [65]))) rfl (by simp[go_sem,zf,leA]) ⟨rfl,by simp[Zx,h10]⟩
 simp (maxSteps:=1000000) (disch:=omega) [go_sem]
 refine zh (fun h11=>?_) (fun h11=>?_)
 ·simp (maxSteps:=1000000) (disch:=omega) [go_sem]
  refine⟨⟨rfl,by simp[Tryz.f153]⟩,qO [([0],[1]),([1],[3])] (zgV o [66] (by simp)) (by simp[go_sem]) ⟨by simp[go_sem],by simp[go_sem]⟩ (by simp[go_sem,nfn]) ?_⟩
  rintro y rs ⟨rfl,rfl⟩
  simp (maxSteps:=1000000) (disch:=omega) [go_sem]
  exact zg (.p (.str (byL o.a [66]))) rfl (by simp[go_sem,zf,leA]) ⟨rfl,by simp[Zx,h11]⟩
 simp (maxSteps:=1000000) (disch:=omega) [go_sem]
 exact zg (.p (.str [])) rfl (by simp[go_sem,zf,leA]) ⟨rfl,by simp[Zx,h1,h2,h3,h4,h5,h6,h7,h8,h9,h10,h11]⟩
theorem zk8(n:Int):Qp (W0 n)=Qp (min n 9999+1):=by
 rw[W0,Qp,Qp]
 have:(min (max (if 9999<n then 9999 else n+1) 0) 9999).toNat=(min (max (min n 9999+1) 0) 9999).toNat:=by split<;>omega
 rw[this]
theorem zlI(o:AOp)(ha: -9223372036854775808≤o.a)(hb: -9223372036854775808≤o.b):CR Tryz.prog 40 [] [.p (opP o)] [] (is (.p (.str (Zx o)))):=by
 refine zK [5] mixed 6 [6,10,24,26,28,30,32,34] Tryz.func40 rfl (by kernel_rfl) rfl (by simp) (by simp) ?_
 simp (maxSteps:=1000000) (disch:=omega) [go_sem,Tryz.f40]
 refine zh (fun h1=>?_) (fun h1=>?_)
 ·simp (maxSteps:=1000000) (disch:=omega) [go_sem]
  exact zg (.p (.str o.t)) rfl (by simp[go_sem,zf,leA]) ⟨rfl,by simp[Zx,h1]⟩
 simp (maxSteps:=1000000) (disch:=omega) [go_sem]
 refine zh (fun h2=>?_) (fun h2=>?_)
 ·have l1:=Z4 (min o.a 9999+1)
  have l2:=Z4 (min o.b 9999+1)
  have m1:=zgF o.a ha
  have m2:=zgF o.b hb
  have hn1:=yr (W0 o.a)
  have hn2:=yr (W0 o.b)
  have hp:Zx o=[27,91]++Qp (min o.a 9999+1)++[59]++Qp (min o.b 9999+1)++[72]:=by simp[Zx,h2]
  rw[hp]
  rw[zk8]at hn1 hn2
  clear hp
  generalize Qp (min o.a 9999+1)=d1 at*
  generalize Qp (min o.b 9999+1)=d2 at*
  generalize W0 o.a=r1 at*
  generalize W0 o.b=r2 at*
  simp (maxSteps:=1000000) (disch:=omega) [go_sem]
  refine qm (.p (.int .i64 r1)) rfl rfl (fun _=>qk 92 m1 rfl ⟨rfl,by simp[Tryz.f92]⟩ ⟨by simp[go_sem],by simp[go_sem]⟩) ?_
  simp (maxSteps:=1000000) (disch:=omega) [go_sem]
  refine qm (.p (.str d1)) rfl rfl (fun _=>qk 91 hn1 rfl ⟨rfl,by simp[Tryz.f91]⟩ ⟨by simp[go_sem],by simp[go_sem]⟩) ?_
  simp (maxSteps:=1000000) (disch:=omega) [go_sem]
  refine⟨by omega,by omega,?_⟩
  refine qm (.p (.int .i64 r2)) rfl rfl (fun _=>qk 92 m2 rfl ⟨rfl,by simp[Tryz.f92]⟩ ⟨by simp[go_sem],by simp[go_sem]⟩) ?_
  simp (maxSteps:=1000000) (disch:=omega) [go_sem]
  refine qm (.p (.str d2)) rfl rfl (fun _=>qk 91 hn2 rfl ⟨rfl,by simp[Tryz.f91]⟩ ⟨by simp[go_sem],by simp[go_sem]⟩) ?_
  simp (maxSteps:=1000000) (disch:=omega) [go_sem]
  exact⟨by omega,by omega,zg (.p (.str (27::91::(d1++59::(d2++[72]))))) rfl (by simp[go_sem,zf,leA]) ⟨rfl,rfl⟩⟩
 simp (maxSteps:=1000000) (disch:=omega) [go_sem]
 refine zh (fun h3=>?_) (fun h3=>?_)
 ·simp (maxSteps:=1000000) (disch:=omega) [go_sem]
  exact zg (.p (.str [27,91,75])) rfl (by simp[go_sem,zf,leA]) ⟨rfl,by simp[Zx,h3]⟩
 simp (maxSteps:=1000000) (disch:=omega) [go_sem]
 refine zh (fun h4=>?_) (fun h4=>?_)
 ·simp (maxSteps:=1000000) (disch:=omega) [go_sem]
  exact zg (.p (.str [27,91,50,74])) rfl (by simp[go_sem,zf,leA]) ⟨rfl,by simp[Zx,h4]⟩
 simp (maxSteps:=1000000) (disch:=omega) [go_sem]
 refine zh (fun h5=>?_) (fun h5=>?_)
 ·simp (maxSteps:=1000000) (disch:=omega) [go_sem]
  exact zg (.p (.str [7])) rfl (by simp[go_sem,zf,leA]) ⟨rfl,by simp[Zx,h5]⟩
 simp (maxSteps:=1000000) (disch:=omega) [go_sem]
 refine zh (fun h6=>?_) (fun h6=>?_)
 ·simp (maxSteps:=1000000) (disch:=omega) [go_sem]
  exact zg (.p (.str [13])) rfl (by simp[go_sem,zf,leA]) ⟨rfl,by simp[Zx,h6]⟩
 simp (maxSteps:=1000000) (disch:=omega) [go_sem]
 refine zh (fun h7=>?_) (fun h7=>?_)
 ·simp (maxSteps:=1000000) (disch:=omega) [go_sem]
  exact zg (.p (.str [10])) rfl (by simp[go_sem,zf,leA]) ⟨rfl,by simp[Zx,h7]⟩
 simp (maxSteps:=1000000) (disch:=omega) [go_sem]
 refine zh (fun h8=>?_) (fun h8=>?_)
 ·simp (maxSteps:=1000000) (disch:=omega) [go_sem,h8]
  refine jy (fun p=>?_) (fun p=>?_)
  ·have hn:=yr o.a
   have hl:=Z4 o.a
   have hp:Zx o=[27,91]++Qp o.a++[67]:=by simp[Zx,h8,byL,p]
   rw[hp]
   clear hp
   generalize Qp o.a=d1 at*
   simp (maxSteps:=1000000) (disch:=omega) [go_sem]
   refine⟨⟨rfl,by simp[Tryz.f91]⟩,zd [] hn (by simp[go_sem]) ⟨by simp[go_sem],by simp[go_sem]⟩ (by simp[go_sem]) ?_⟩
   rintro y rs ⟨rfl,rfl⟩
   simp (maxSteps:=1000000) (disch:=omega) [go_sem,wrap64,cut]
   exact⟨by omega,by omega,zg (.p (.str ([27,91]++d1++[67]))) rfl (by simp[go_sem,zf,leA]) ⟨rfl,rfl⟩⟩
  ·have hp:Zx o=[27,91]++[67]:=by simp[Zx,h8,byL];omega
   rw[hp]
   clear hp
   simp (maxSteps:=1000000) (disch:=omega) [go_sem,wrap64,cut]
   exact zg (.p (.str [27,91,67])) rfl (by simp[go_sem,zf,leA]) ⟨rfl,rfl⟩
 simp (maxSteps:=1000000) (disch:=omega) [go_sem]
 refine zh (fun h9=>?_) (fun h9=>?_)
 ·simp (maxSteps:=1000000) (disch:=omega) [go_sem,h9]
  refine jy (fun p=>?_) (fun p=>?_)
  ·have hn:=yr o.a
   have hl:=Z4 o.a
   have hp:Zx o=[27,91]++Qp o.a++[68]:=by simp[Zx,h9,byL,p]
   rw[hp]
   clear hp
   generalize Qp o.a=d1 at*
   simp (maxSteps:=1000000) (disch:=omega) [go_sem]
   refine⟨⟨rfl,by simp[Tryz.f91]⟩,zd [] hn (by simp[go_sem]) ⟨by simp[go_sem],by simp[go_sem]⟩ (by simp[go_sem]) ?_⟩
   rintro y rs ⟨rfl,rfl⟩
   simp (maxSteps:=1000000) (disch:=omega) [go_sem,wrap64,cut]
   exact⟨by omega,by omega,zg (.p (.str ([27,91]++d1++[68]))) rfl (by simp[go_sem,zf,leA]) ⟨rfl,rfl⟩⟩
  ·have hp:Zx o=[27,91]++[68]:=by simp[Zx,h9,byL];omega
   rw[hp]
   clear hp
   simp (maxSteps:=1000000) (disch:=omega) [go_sem,wrap64,cut]
   exact zg (.p (.str [27,91,68])) rfl (by simp[go_sem,zf,leA]) ⟨rfl,rfl⟩
 simp (maxSteps:=1000000) (disch:=omega) [go_sem]
 refine zh (fun h10=>?_) (fun h10=>?_)
 ·simp (maxSteps:=1000000) (disch:=omega) [go_sem,h10]
  refine jy (fun p=>?_) (fun p=>?_)
  ·have hn:=yr o.a
   have hl:=Z4 o.a
   have hp:Zx o=[27,91]++Qp o.a++[65]:=by simp[Zx,h10,byL,p]
   rw[hp]
   clear hp
   generalize Qp o.a=d1 at*
   simp (maxSteps:=1000000) (disch:=omega) [go_sem]
   refine⟨⟨rfl,by simp[Tryz.f91]⟩,zd [] hn (by simp[go_sem]) ⟨by simp[go_sem],by simp[go_sem]⟩ (by simp[go_sem]) ?_⟩
   rintro y rs ⟨rfl,rfl⟩
   simp (maxSteps:=1000000) (disch:=omega) [go_sem,wrap64,cut]
   exact⟨by omega,by omega,zg (.p (.str ([27,91]++d1++[65]))) rfl (by simp[go_sem,zf,leA]) ⟨rfl,rfl⟩⟩
  ·have hp:Zx o=[27,91]++[65]:=by simp[Zx,h10,byL];omega
   rw[hp]
   clear hp
   simp (maxSteps:=1000000) (disch:=omega) [go_sem,wrap64,cut]
   exact zg (.p (.str [27,91,65])) rfl (by simp[go_sem,zf,leA]) ⟨rfl,rfl⟩
 simp (maxSteps:=1000000) (disch:=omega) [go_sem]
 by_cases h11:o.k=11
 ·simp (maxSteps:=1000000) (disch:=omega) [go_sem,h11]
  refine jy (fun p=>?_) (fun p=>?_)
  ·have hn:=yr o.a
   have hl:=Z4 o.a
   have hp:Zx o=[27,91]++Qp o.a++[66]:=by simp[Zx,h11,byL,p]
   rw[hp]
   clear hp
   generalize Qp o.a=d1 at*
   simp (maxSteps:=1000000) (disch:=omega) [go_sem]
   refine⟨⟨rfl,by simp[Tryz.f91]⟩,zd [] hn (by simp[go_sem]) ⟨by simp[go_sem],by simp[go_sem]⟩ (by simp[go_sem]) ?_⟩
   rintro y rs ⟨rfl,rfl⟩
   simp (maxSteps:=1000000) (disch:=omega) [go_sem,wrap64,cut]
   exact⟨by omega,by omega,zg (.p (.str ([27,91]++d1++[66]))) rfl (by simp[go_sem,zf,leA]) ⟨rfl,rfl⟩⟩
  ·have hp:Zx o=[27,91]++[66]:=by simp[Zx,h11,byL];omega
   rw[hp]
   clear hp
   simp (maxSteps:=1000000) (disch:=omega) [go_sem,wrap64,cut]
   exact zg (.p (.str [27,91,66])) rfl (by simp[go_sem,zf,leA]) ⟨rfl,rfl⟩
 simp (maxSteps:=1000000) (disch:=omega) [go_sem,h11]
 exact zg (.p (.str [])) rfl (by simp[go_sem,zf,leA]) ⟨rfl,by simp[Zx,h1,h2,h3,h4,h5,h6,h7,h8,h9,h10,h11]⟩
end
end Go.Proofs.YtfjdbbpimklecaaGreatDoor
