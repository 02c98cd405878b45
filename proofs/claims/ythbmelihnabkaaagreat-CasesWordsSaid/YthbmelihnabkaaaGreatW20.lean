/- A part of the proof of this seat's statements, by an abstract machine: what each operation does to values, and what the law's functions compute. Conditions: as each law says. -/
import Derived.Test.YthbmelihnabkaaaGreatW19
section
namespace Go.Proofs.YthbmelihnabkaaaGreat
open Go.AM
set_option maxHeartbeats 4000000
set_option maxRecDepth 10000
abbrev YH(w size:Nat)(X:AV)(blocks:List (List PV))(k2 x2:List PV):List (Tok×List AV):=zV w size X [905] blocks k2 x2
def zna(w size:Nat)(X:AV)(blocks:List (List PV))(k2 x2 cs:List PV)(x:AV)(rs:List (Tok×List AV)):Prop:=
 ∃(k:Nat) (bl:List (List PV)),x=.p (.int .i64 k)∧bl[k]?=some cs∧(bl=blocks∨bl=blocks++[cs])∧rs=YH w size X bl k2 x2
theorem wZ {P:Program} {f:FuncId}[Gi] {args:List AV} {rs:List (Tok×List AV)} {w size:Nat} {own:Bool} {idx:List Nat} {blocks:List (List PV)} {k2 x2 cs:List PV}
  (h:CR P f [[0],[1]] args rs fun x rs=>(∃k:Nat,x=.p (.int .i64 k)∧blocks[k]?=some cs∧rs=zV w size (Zo own idx) [905] blocks k2 x2)∨
    (x=.p (.int .i64 blocks.length)∧rs=zV w size (Zo own idx) [1,2] (blocks++[cs]) k2 x2)):
  CR P f [[0],[1]] args rs (zna w size (Zo own idx) blocks k2 x2 cs):=by
 refine CR.ren h 1000 ?_
 rintro x rs (⟨k,rfl,h1,rfl⟩|⟨rfl,rfl⟩)
 ·refine⟨[([0],[0]),([1],[1]),([902],[902]),([903],[903]),([904],[904]),([905],[905])],rfl,rfl,k,blocks,rfl,h1,.inl rfl,?_⟩
  cases own<;>simp[go_sem,zV,Zo]
 ·refine⟨[([0],[0]),([1],[1]),([902],[902]),([903],[903]),([904],[904]),([905],[1,2])],rfl,rfl,blocks.length,blocks++[cs],rfl,by simp,.inr rfl,?_⟩
  cases own<;>simp[go_sem,zV,Zo]
def yf(vs:List (List PV))(z:List PV):List PV:=vs.flatten++qH (128-vs.length) z
theorem xY(z:List PV):yf [] z=qH 128 z:=rfl
theorem Jw(v z:List PV):yf (List.replicate 128 v) z=qH 128 v:=by simp[yf,qH]
theorem we {vs:List (List PV)} {z:List PV} {w:Nat}(hv:∀v∈vs,v.length=w)(hz:z.length=w)(hn:vs.length≤128):(yf vs z).length=128*w:=by
 have:vs.flatten.length=vs.length*w:=by
  clear hn
  induction vs with
  |nil=>simp
  |cons v vs ih=>simp[ih (fun x hx=>hv x (by simp[hx])),hv v (by simp),Nat.add_mul];omega
 rw[yf,List.length_append,this,qC,hz,←Nat.add_mul]
 congr 1;omega
theorem ze9 {α:Type}(a b b' c:List α) {o:Nat}(ho:a.length=o)(h:b'.length=b.length):z7 (a++b++c) o b'=a++b'++c:=by
 subst ho
 unfold z7
 have e1:(a++b++c).take a.length=a:=by rw[List.append_assoc,List.take_left]
 have e2:(a++b++c).drop (a.length+b.length)=c:=by rw[←List.length_append,List.drop_left]
 rw[h,e1,e2]
theorem x5 {vs:List (List PV)} {z v:List PV} {w:Nat}(hv:∀v∈vs,v.length=w)(hw:v.length=w)(hz:z.length=w)(hn:vs.length<128):
  z7 ((yf vs z).map AV.p) (vs.length*w) (v.map .p)=(yf (vs++[v]) z).map .p:=by
 have hf:vs.flatten.length=vs.length*w:=by
  clear hn
  induction vs with
  |nil=>simp
  |cons v vs ih=>simp[ih (fun x hx=>hv x (by simp[hx])),hv v (by simp),Nat.add_mul];omega
 obtain⟨m,hm⟩:∃m,128-vs.length=m+1:=⟨128-vs.length-1,by omega⟩
 have hm':128- (vs++[v]).length=m:=by simp;omega
 simp only[yf,hm,hm']
 have e:qH (m+1) z=z++qH m z:=by simp[qH,List.replicate_succ]
 rw[e]
 have e2:(vs++[v]).flatten=vs.flatten++v:=by simp
 rw[e2]
 generalize vs.flatten=L at hf⊢
 rw[←List.append_assoc,List.map_append,List.map_append,ze9 _ _ _ _ (by simpa using hf) (by simp[hw,hz]),List.map_append,List.map_append]
def jX(ag:Bool)(kc:List Kc)(blocks:List (List PV))(k2 x2:List PV):Prop:=
 k2.length=x2.length∧(∀k∈k2,Qn ag kc k=true)∧∀(j:Nat) (k:PV),k2[j]?=some k→∃n:Nat,x2[j]?=some (.int .i64 n)∧blocks[n]?=some (qH 128 k.cells)
def zfa(ag:Bool)(kc:List Kc)(w size:Nat)(X:AV)(blocks:List (List PV))(v:PV)(x:AV)(rs:List (Tok×List AV)):Prop:=
 ∃(k:Nat) (bl:List (List PV)) (k2 x2:List PV),x=.p (.int .i64 k)∧bl[k]?=some (qH 128 v.cells)∧(bl=blocks∨bl=blocks++[qH 128 v.cells])∧jX ag kc bl k2 x2∧rs=YH w size X bl k2 x2
theorem vG:∀{k1 k2:List Kc} {x1 x2:List PV},okC k1 x1=true→okC k2 x2=true→okC (k1++k2) (x1++x2)=true
 | [],k2,[],x2,_,h=>h
 | [],_,_::_,_,h,_=>by simp[okC]at h
 |.b::k1,_,[],_,h,_=>by simp[okC]at h
 |.i _::k1,_,[],_,h,_=>by simp[okC]at h
 |.s::k1,_,[],_,h,_=>by simp[okC]at h
 |.b::k1,k2,x::x1,x2,h,h2=>by
  cases x<;>simp[okC]at h
  simp only[List.cons_append,okC];exact vG h h2
 |.i _::k1,k2,x::x1,x2,h,h2=>by
  cases x<;>simp[okC]at h
  simp only[List.cons_append,okC,Bool.and_eq_true];exact⟨by simpa using h.1,vG h.2 h2⟩
 |.s::k1,k2,x::x1,x2,h,h2=>by
  cases x<;>simp[okC]at h
  simp only[List.cons_append,okC];exact vG h h2
theorem xM {kc:List Kc} {v:List PV}(n:Nat)(h:okC kc v=true):okC (qH n kc) (qH n v)=true:=by
 induction n with
 |zero=>rfl
 |succ n ih=>
  have e1:qH (n+1) kc=kc++qH n kc:=by simp[qH,List.replicate_succ]
  have e2:qH (n+1) v=v++qH n v:=by simp[qH,List.replicate_succ]
  rw[e1,e2];exact vG h ih
theorem jX.grow {ag:Bool} {kc:List Kc} {blocks bl:List (List PV)} {k2 x2:List PV} {c:List PV}(h:jX ag kc blocks k2 x2)(hbl:bl=blocks∨bl=blocks++[c]):jX ag kc bl k2 x2:=by
 refine⟨h.1,h.2.1,fun j k hj=>?_⟩
 obtain⟨n,h1,h2⟩:=h.2.2 j k hj
 refine⟨n,h1,?_⟩
 rcases hbl with rfl|rfl
 ·exact h2
 ·rw[List.getElem?_append_left (List.getElem?_eq_some_iff.1 h2).1];exact h2
theorem jX.add {ag:Bool} {kc:List Kc} {bl:List (List PV)} {k2 x2:List PV} {v:PV} {n:Nat}(h:jX ag kc bl k2 x2)(hv:Qn ag kc v=true)(hf:qK v.cells k2 x2 0=none)(hn:bl[n]?=some (qH 128 v.cells)):
  jX ag kc bl (kW v k2 x2) (yb v (.int .i64 n) k2 x2):=by
 have e1:kW v k2 x2=k2++[v]:=by simp only[kW,hf];rfl
 have e2:yb v (.int .i64 n) k2 x2=x2++[.int .i64 n]:=by simp only[yb,hf]
 rw[e1,e2]
 refine⟨by simp[h.1],fun k hk=>?_,fun j k hj=>?_⟩
 ·rcases List.mem_append.1 hk with hk|hk
  ·exact h.2.1 k hk
  ·rw[List.mem_singleton.1 hk];exact hv
 ·by_cases hlt:j<k2.length
  ·rw[List.getElem?_append_left hlt]at hj
   obtain⟨q,h1,h2⟩:=h.2.2 j k hj
   exact⟨q,by rw[List.getElem?_append_left (by rw[←h.1];exact hlt)];exact h1,h2⟩
  ·rw[List.getElem?_append_right (by omega)]at hj
   have hj0:j-k2.length=0:=by
    have:=(List.getElem?_eq_some_iff.1 hj).1
    simp at this;omega
   rw[hj0]at hj
   simp at hj
   subst hj
   refine⟨n,?_,hn⟩
   rw[List.getElem?_append_right (by rw[←h.1];omega),←h.1,hj0]
   rfl
theorem zhn [Gi](own:Bool)(size:Nat)(idx:List Nat)(blocks:List (List PV))(k2 x2:List PV)(v:Int)(hb:∀b∈blocks,okC (qH 128 [.i .i64]) b=true)(hn:blocks.length<2^31)
  (hE:jX false [.i .i64] blocks k2 x2):
  CR Tryz.prog 142 [[0],[1]] [.lp [0] 0,.p (.int .i64 v)] (YH 1 size (Zo own idx) blocks k2 x2) (zfa false [.i .i64] 1 size (Zo own idx) blocks (.int .i64 v)):=by
 obtain⟨hE1,hE2,hE3⟩:=hE
 have hall:k2.all (fun k=>okC [.i .i64] k.cells)=true:=List.all_eq_true.2 fun k hk=>(zZ (hE2 k hk)).2
 have ho2:own=true∨own=false:=by cases own<;>simp
 rcases ho2 with ho|ho<;>
 ·refine zS [1] mixed 10 [20] Tryz.func142 rfl (by kernel_rfl) rfl (by simp) (by simp) ?_
  cases hf:qK [.int .i64 v] k2 x2 0 with
  |none=>
   simp (disch:=omega) [go_sem,Tryz.f142,zV,Zo,ho,Zl,mapOf,Q8,hf]
   refine⟨fun x hx=>by have:=zZ (hE2 x hx);exact this,?_,?_⟩
   ·intro x hx
    obtain⟨l,hl,hx⟩:=List.mem_flatten.1 hx
    rw[List.eq_of_mem_replicate hl]at hx
    simp only[List.mem_cons,List.not_mem_nil,or_false]at hx
    rcases hx with rfl<;>rfl
   refine zm (fun k:Nat=>k≤128) (fun k=>[(20,.p (.int .i64 k))]) (fun k=>[([7],(yf (List.replicate k [.int .i64 v]) [.int .i64 0]).map .p)]) (fun k=>128-k) 0 (by omega) (by simp[go_sem,LeS,leV,leR,leA,leL,xY,zj]) (fun k hk=>?_)
   simp (disch:=omega) [go_sem]
   refine zw (fun h=>?_) (fun h=>?_)
   ·have w1:IntKind.i64.wrap ((k:Int)+1)=((k+1:Nat):Int):=by rw[wrap64 (by omega) (by omega)];rfl
    have hlen:(yf (List.replicate k [PV.int .i64 v]) [PV.int .i64 0]).length=128:=we (w:=1) (by simp) rfl (by simp;omega)
    have hput:=x5 (vs:=List.replicate k [PV.int .i64 v]) (z:=[.int .i64 0]) (v:=[.int .i64 v]) (w:=1) (by simp) rfl rfl (by simp;omega)
    simp only[List.length_replicate,Nat.mul_one,←List.replicate_succ',List.map_cons,List.map_nil,z7,List.length_cons,List.length_nil,Nat.zero_add,List.append_assoc,List.cons_append,List.nil_append]at hput
    simp (disch:=omega) [go_sem,w1,hlen,h,hput]
    exact⟨by omega,zf (k+1) (by omega) (by simp[go_sem,LeS,leV,leR,leA,leL,zj]) (by omega)⟩
   ·obtain rfl:k=128:=by omega
    have hr:(qH 128 [PV.int .i64 v]).length=128:=by simp[qC]
    have ht:=QN hr
    simp only[Jw]
    simp (disch:=omega) [go_sem,ht,hr]
    refine⟨⟨rfl,by simp[Tryz.f143]⟩,zc [([0],[0]),([1],[1]),([902],[902]),([903],[903]),([904],[904]),([905],[905])] (wZ (US own size idx blocks k2 x2 (qH 128 [.int .i64 v]) (xM 128 rfl) hb hn)) (by simp[go_sem]) ⟨by simp[go_sem],by simp[go_sem]⟩ (by simp[go_sem,zV,Zo,ho]) ?_⟩
    rintro _ _ ⟨kk,bl,rfl,hk1,hbl,rfl⟩
    simp (maxSteps:=1000000) (disch:=omega) [go_sem,zV,Zo,ho]
    refine⟨fun x hx=>by have:=zZ (hE2 x hx);exact this,?_⟩
    exact zi [[0],[1]] (.p (.int .i64 kk)) ⟨rfl,by simp⟩ (by simp[go_sem,zd,leA,leT]) ⟨kk,bl,_,_,rfl,hk1,hbl,(jX.grow ⟨hE1,hE2,hE3⟩ hbl).add (v:=.int .i64 v) rfl hf hk1,by simp[go_sem,zV]⟩
  |some r=>
   obtain⟨j,x⟩:=r
   obtain⟨_,k,h3,h4,h5⟩:=Qc (kc:=[.i .i64]) rfl hall hf
   simp only[Nat.sub_zero]at h3 h5
   obtain⟨n,h6,h7⟩:=hE3 j k h3
   rw[h5]at h6
   injection h6 with h6
   subst h6
   rw[h4]at h7
   simp (disch:=omega) [go_sem,Tryz.f142,zV,Zo,ho,Zl,mapOf,Q8,hf]
   refine⟨fun x hx=>by have:=zZ (hE2 x hx);exact this,?_⟩
   exact zi [[0],[1]] (.p (.int .i64 n)) ⟨rfl,by simp⟩ (by simp[go_sem,zd,leA,leT]) ⟨n,blocks,k2,x2,rfl,h7,.inl rfl,⟨hE1,hE2,hE3⟩,by simp[go_sem,zV]⟩
end Go.Proofs.YthbmelihnabkaaaGreat
end
section
namespace Go.Proofs.YthbmelihnabkaaaGreat
open Go.AM
def qS {α:Type}(zero:α)(j:Int):List (QH α)→α
 | []=>zero
 |p::l=>if p.f≤j∧j≤p.t then p.v else qS zero j l
theorem ZU {α:Type}(zero:α)(i:Int):∀(l:List (QH α)) (last:Int),i≤last→i≤(ZC zero i l last).2∧(ZC zero i l last).2≤last∧∀j,i≤j→j≤(ZC zero i l last).2→qS zero j l=(ZC zero i l last).1
 | [],last,h=>⟨h,Int.le_refl _,fun j _ _=>rfl⟩
 |p::l,last,h=>by
  unfold ZC
  by_cases h1:p.f≤i∧i≤p.t
  ·rw[if_pos h1]
   refine⟨by simp only;omega,by simp only;omega,fun j h2 h3=>?_⟩
   simp only at h3⊢
   exact if_pos ⟨by omega,by omega⟩
  ·rw[if_neg h1]
   by_cases h2:i<p.f∧p.f≤last
   ·rw[if_pos h2]
    obtain⟨a,b,c⟩:=ZU zero i l (p.f-1) (by omega)
    refine⟨a,by omega,fun j h3 h4=>?_⟩
    rw[←c j h3 h4]
    exact if_neg (by omega)
   ·rw[if_neg h2]
    obtain⟨a,b,c⟩:=ZU zero i l last h
    refine⟨a,b,fun j h3 h4=>?_⟩
    rw[←c j h3 h4]
    exact if_neg (by omega)
structure yi(w size:Nat)(val:Nat→List PV)(idx:List Nat)(blocks:List (List PV)):Prop where
 each:∀n k,idx[n]?=some k→∃cs,blocks[k]?=some cs∧cs.length=128*w∧∀j,j<128→128*n+j<size→(cs.drop (j*w)).take w=val (128*n+j)
theorem yi.nil(w size:Nat)(val:Nat→List PV):yi w size val [] []:=⟨fun n k h=>by simp at h⟩
theorem yi.grow {w size:Nat} {val:Nat→List PV} {idx:List Nat} {blocks bl:List (List PV)} {c:List PV}(h:yi w size val idx blocks)(hb:bl=blocks∨bl=blocks++[c]):yi w size val idx bl:=by
 refine⟨fun n k hk=>?_⟩
 obtain⟨cs,h1,h2⟩:=h.each n k hk
 refine⟨cs,?_,h2⟩
 rcases hb with rfl|rfl
 ·exact h1
 ·rw[List.getElem?_append_left (List.getElem?_eq_some_iff.1 h1).1];exact h1
theorem yi.add {w size:Nat} {val:Nat→List PV} {idx:List Nat} {blocks:List (List PV)} {k:Nat} {cs:List PV}(h:yi w size val idx blocks)(h1:blocks[k]?=some cs)(h2:cs.length=128*w)
  (h3:∀j,j<128→128*idx.length+j<size→(cs.drop (j*w)).take w=val (128*idx.length+j)):yi w size val (idx++[k]) blocks:=by
 refine⟨fun n q hq=>?_⟩
 by_cases hn:n<idx.length
 ·rw[List.getElem?_append_left hn]at hq
  exact h.each n q hq
 ·rw[List.getElem?_append_right (by omega)]at hq
  have hn0:n-idx.length=0:=by
   have:=(List.getElem?_eq_some_iff.1 hq).1
   simp at this;omega
  have hn1:n=idx.length:=by omega
  subst hn1
  simp at hq
  subst hq
  exact⟨cs,h1,h2,h3⟩
theorem yi.qV {w size:Nat} {val:Nat→List PV} {idx:List Nat} {blocks:List (List PV)}(h:yi w size val idx blocks)(hn:size≤128*idx.length) {i:Nat}(hi:i<size):XQ w idx blocks i (val i):=by
 have hlt:i/128<idx.length:=by omega
 obtain⟨cs,h1,h2,h3⟩:=h.each (i/128) _ (List.getElem?_eq_getElem hlt)
 refine⟨_,cs,List.getElem?_eq_getElem hlt,h1,h2,?_⟩
 have:=h3 (i%128) (Nat.mod_lt _ (by omega)) (by omega)
 rw[this]
 congr 1;omega
theorem kh {w:Nat}:∀{vs:List (List PV)} {j:Nat} {v t:List PV},(∀x∈vs,x.length=w)→vs[j]?=some v→((vs.flatten++t).drop (j*w)).take w=v
 | [],j,v,t,_,h=>by simp at h
 |x::vs,0,v,t,hw,h=>by
  simp at h;subst h
  simp only[Nat.zero_mul,List.drop_zero,List.flatten_cons,List.append_assoc]
  rw[←hw x (by simp),List.take_left]
 |x::vs,j+1,v,t,hw,h=>by
  have hx:=hw x (by simp)
  rw[List.flatten_cons,List.append_assoc,Nat.add_mul,Nat.one_mul,Nat.add_comm,←List.drop_drop,←hx,List.drop_left,hx]
  exact kh (fun y hy=>hw y (by simp[hy])) (by simpa using h)
theorem UK {w n j:Nat} {v:List PV}(hv:v.length=w)(hj:j<n):((qH n v).drop (j*w)).take w=v:=by
 have:=kh (w:=w) (vs:=List.replicate n v) (j:=j) (v:=v) (t:=[]) (by simp[hv]) (by simp[hj])
 simpa[qH]using this
theorem KN {kc:List Kc}:∀{n:Nat} {vs:List (List PV)},(∀x∈vs,okC kc x=true)→vs.length=n→okC (qH n kc) vs.flatten=true
 |0,[],_,_=>rfl
 |0,_::_,_,h=>by simp at h
 |n+1,[],_,h=>by simp at h
 |n+1,x::vs,hx,h=>by
  have e1:qH (n+1) kc=kc++qH n kc:=by simp[qH,List.replicate_succ]
  rw[e1,List.flatten_cons]
  exact vG (hx x (by simp)) (KN (fun y hy=>hx y (by simp[hy])) (by simpa using h))
end Go.Proofs.YthbmelihnabkaaaGreat
end
