/- A part of this seat's proofs, by an abstract machine. Conditions: each law's. -/
import Derived.Test.YtfjdbbpimklecaaGreatDoorV18
import Derived.Test.YtfjdbbpimklecaaGreatDoorV17
set_option maxHeartbeats 8000000
set_option maxRecDepth 10000
namespace Go.Proofs.YtfjdbbpimklecaaGreatDoor
section
open Go.AM
def ZT(w size:Nat)(idx:List Nat)(blocks:List (List PV)):PV:=.agg [.int .i64 size,.sl 1 (idx.map fun k:Nat=>.int .i64 k),.sl (128*w) (blocks.map .agg)]
def K7(w:Nat)(idx:List Nat)(blocks:List (List PV))(i:Nat)(v:List PV):Prop:=
 ∃k cs,idx[i/128]?=some k∧blocks[k]?=some cs∧cs.length=128*w∧(cs.drop (i%128*w)).take w=v
theorem zg2 [Gi](size:Nat)(idx:List Nat)(blocks:List (List PV))(i:Nat)(v:Int)(hs:size<2^31)(hi:i<size)(h:K7 1 idx blocks i [.int .i64 v]):
  CR Tryz.prog 165 [] [.p (.pt 3 (ZT 1 size idx blocks)),.p (.int .i64 i)] [] (is (.p (.int .i64 v))):=by
 obtain⟨k,cs,h1,h2,h3,h4⟩:=h
 refine zN [] mixed 6 [] Tryz.func165 rfl (by kernel_rfl) rfl (by simp) (by simp) ?_
 have e1:¬(size:Int)≤i:=by omega
 have e2:¬(i:Int)<0:=by omega
 obtain⟨n1,h1⟩:=List.getElem?_eq_some_iff.1 h1
 obtain⟨n2,h2⟩:=List.getElem?_eq_some_iff.1 h2
 have m1:=zu (fun k:Nat=>PV.int .i64 k) idx (i/128) n1
 have m2:=zu PV.agg blocks k n2
 rw[h1]at m1
 rw[h2]at m2
 have q1:(i:Int).tdiv 128=((i/128:Nat):Int):=rfl
 have q2:(i:Int).tmod 128=((i%128:Nat):Int):=rfl
 have w1:IntKind.i64.wrap ((i:Int)/128)=((i/128:Nat):Int):=by rw[wrap64 (by omega) (by omega)];omega
 have w2:IntKind.i64.wrap ((i:Int)%128)=((i%128:Nat):Int):=by rw[wrap64 (by omega) (by omega)];omega
 have t1:((i:Int)/128).toNat=i/128:=by omega
 have t2:((i:Int)%128).toNat=i%128:=by omega
 have b0:0≤(i:Int)/128:=by omega
 have b1:(i:Int)/128<idx.length:=by omega
 have b2:0≤(i:Int)%128:=by omega
 have b3:(i:Int)%128<128:=by omega
 have hv:cs[i%128]?=some (.int .i64 v):=by
  simp only[Nat.mul_one]at h4
  rw[←List.head?_drop]
  cases hd:cs.drop (i%128)with
  |nil=>rw[hd]at h4;simp at h4
  |cons a l=>rw[hd]at h4;simp at h4;simp[h4]
 simp only[Nat.mul_one]at h3
 obtain⟨n3,hv'⟩:=List.getElem?_eq_some_iff.1 hv
 simp (disch:=omega) [go_sem,Tryz.f165,ZT,e1,e2,q1,q2,w1,m1,m2,n2,t1,t2,b0,b1,b2,b3,hv',h3]
 exact zn (.p (.int .i64 v)) rfl (by simp[go_sem,zg,leA]) ⟨rfl,rfl⟩
theorem zg7 [Gi](size:Nat)(idx:List Nat)(blocks:List (List PV))(i:Nat)(v:Qn)(hs:size<2^31)(hi:i<size)(h:K7 2 idx blocks i (qj v)):
  CR Tryz.prog 61 [] [.p (.pt 3 (ZT 2 size idx blocks)),.p (.int .i64 i)] [] (is (.p (.agg (qj v)))):=by
 obtain⟨k,cs,h1,h2,h3,h4⟩:=h
 refine zN [] mixed 6 [] Tryz.func61 rfl (by kernel_rfl) rfl (by simp) (by simp) ?_
 have e1:¬(size:Int)≤i:=by omega
 have e2:¬(i:Int)<0:=by omega
 obtain⟨n1,h1⟩:=List.getElem?_eq_some_iff.1 h1
 obtain⟨n2,h2⟩:=List.getElem?_eq_some_iff.1 h2
 have m1:=zu (fun k:Nat=>PV.int .i64 k) idx (i/128) n1
 have m2:=zu PV.agg blocks k n2
 rw[h1]at m1
 rw[h2]at m2
 have q1:(i:Int).tdiv 128=((i/128:Nat):Int):=rfl
 have q2:(i:Int).tmod 128=((i%128:Nat):Int):=rfl
 have w1:IntKind.i64.wrap ((i:Int)/128)=((i/128:Nat):Int):=by rw[wrap64 (by omega) (by omega)];omega
 have w2:IntKind.i64.wrap ((i:Int)%128)=((i%128:Nat):Int):=by rw[wrap64 (by omega) (by omega)];omega
 have t1:((i:Int)/128).toNat=i/128:=by omega
 have t2:((i:Int)%128).toNat=i%128:=by omega
 have b0:0≤(i:Int)/128:=by omega
 have b1:(i:Int)/128<idx.length:=by omega
 have b2:0≤(i:Int)%128:=by omega
 have b3:(i:Int)%128<128:=by omega
 have hl:i%128*2+2≤cs.length:=by omega
 simp only[qj]at h4
 simp (disch:=omega) [go_sem,Tryz.f61,ZT,e1,e2,q1,q2,w1,m1,m2,n2,t1,t2,b0,b1,b2,b3,h4,h3,qj]
 exact⟨by omega,zn (.p (.agg (qj v))) rfl (by simp[go_sem,zg,leA,qj]) ⟨rfl,rfl⟩⟩
theorem zhs [Gi](size:Nat)(idx:List Nat)(blocks:List (List PV))(i:Nat)(v:Flags)(hs:size<2^31)(hi:i<size)(h:K7 4 idx blocks i (z8 v)):
  CR Tryz.prog 116 [] [.p (.pt 3 (ZT 4 size idx blocks)),.p (.int .i64 i)] [] (is (.p (.agg (z8 v)))):=by
 obtain⟨k,cs,h1,h2,h3,h4⟩:=h
 refine zN [] mixed 6 [] Tryz.func116 rfl (by kernel_rfl) rfl (by simp) (by simp) ?_
 have e1:¬(size:Int)≤i:=by omega
 have e2:¬(i:Int)<0:=by omega
 obtain⟨n1,h1⟩:=List.getElem?_eq_some_iff.1 h1
 obtain⟨n2,h2⟩:=List.getElem?_eq_some_iff.1 h2
 have m1:=zu (fun k:Nat=>PV.int .i64 k) idx (i/128) n1
 have m2:=zu PV.agg blocks k n2
 rw[h1]at m1
 rw[h2]at m2
 have q1:(i:Int).tdiv 128=((i/128:Nat):Int):=rfl
 have q2:(i:Int).tmod 128=((i%128:Nat):Int):=rfl
 have w1:IntKind.i64.wrap ((i:Int)/128)=((i/128:Nat):Int):=by rw[wrap64 (by omega) (by omega)];omega
 have w2:IntKind.i64.wrap ((i:Int)%128)=((i%128:Nat):Int):=by rw[wrap64 (by omega) (by omega)];omega
 have t1:((i:Int)/128).toNat=i/128:=by omega
 have t2:((i:Int)%128).toNat=i%128:=by omega
 have b0:0≤(i:Int)/128:=by omega
 have b1:(i:Int)/128<idx.length:=by omega
 have b2:0≤(i:Int)%128:=by omega
 have b3:(i:Int)%128<128:=by omega
 have hl:i%128*4+4≤cs.length:=by omega
 simp only[z8]at h4
 simp (disch:=omega) [go_sem,Tryz.f116,ZT,e1,e2,q1,q2,w1,m1,m2,n2,t1,t2,b0,b1,b2,b3,h4,h3,z8]
 exact⟨by omega,zn (.p (.agg (z8 v))) rfl (by simp[go_sem,zg,leA,z8]) ⟨rfl,rfl⟩⟩
def uQ:OT:=.now 0 2 (.now 1 2 (.now 2 2 (.now 4 1 (.now 5 1 (.now 6 1 (.now 7 1 (.now 8 1 (.now 9 1 (.now 10 1 (.now 11 0 (.mk [(3,.mk [(12,.mk [(13,.now 14 0 (.now 15 0 (.mk [(16,.mk [])])))])]),(12,.mk [(3,.mk [(13,.now 14 0 (.now 15 0 (.mk [(16,.mk [])])))]),(13,.now 3 0 (.now 14 0 (.now 15 0 (.mk [(16,.mk [])]))))])])))))))))))
def ZU(n:Nat):List PV:=(List.range n).map fun k:Nat=>.int .i64 k
theorem vo(n:Nat):ZU (n+1)=ZU n++[.int .i64 (n:Nat)]:=by simp[ZU,List.range_succ]
def zG(w size:Nat)(X:AV)(tk:Tok)(blocks:List (List PV))(k2 x2:List PV):List (Tok×List AV):=
 [([0],[.lp [1] 0,.om [902] (blocks.map .agg) (ZU blocks.length),.om [903] k2 x2]),([1],[.p (.int .i64 size),X,.os tk (128*w) (blocks.map .agg)])]
def qN(own:Bool)(idx:List Nat):AV:=if own then .os [904] 1 (idx.map fun k:Nat=>.int .i64 k)else .p (.sl 1 (idx.map fun k:Nat=>.int .i64 k))
theorem uF [Gi](own:Bool)(size:Nat)(idx:List Nat)(blocks:List (List PV))(k2 x2:List PV)(cs:List PV)(hc:okC (qd 128 [.i .i64]) cs=true)(hb:∀b∈blocks,okC (qd 128 [.i .i64]) b=true)(hn:blocks.length<2^31):
  CR Tryz.prog 156 [[0],[1]] [.lp [0] 0,.p (.agg cs)] (zG 1 size (qN own idx) [905] blocks k2 x2)
   (fun x rs=>(∃k:Nat,x=.p (.int .i64 k)∧blocks[k]?=some cs∧rs=zG 1 size (qN own idx) [905] blocks k2 x2)∨
    (x=.p (.int .i64 blocks.length)∧rs=zG 1 size (qN own idx) [1,2] (blocks++[cs]) k2 x2)):=by
 have hl:cs.length=128:=by simpa[z7]using qY hc
 have ht:=ZO hl
 have hall:(blocks.map PV.agg).all (fun k=>okC (qd 128 [.i .i64]) k.cells)=true:=by simpa[PV.cells]using hb
 cases own<;>
 ·refine zN [1,200005] mixed 8 [] Tryz.func156 rfl (by kernel_rfl) rfl (by simp) (by simp) ?_
  cases hf:qq cs (blocks.map PV.agg) (ZU blocks.length) 0 with
  |none=>
   simp (disch:=omega) [go_sem,Tryz.f156,zG,qN,qU,mapOf,Z6,ht,hl,hc,hf]
   refine⟨hb,ZC uQ (by kernel_rfl) ?_⟩
   simp (disch:=omega) [go_sem,uQ,ht,hl]
   have e0:(qd 128 [PV.int IntKind.i64 0]).length=128:=by simp[z7]
   have e1:∀x∈qd 128 [PV.int IntKind.i64 0],(match x with|PV.agg cs=>false|PV.opq u=>u.oneCell'|x=>true)=true:=fun x hx=>by
    obtain⟨l,hl,hx⟩:=List.mem_flatten.1 hx
    rw[List.eq_of_mem_replicate hl]at hx
    rw[List.mem_singleton.1 hx]
   have u1:QA (PV.agg cs) (List.map PV.agg blocks) (ZU blocks.length)=List.map PV.agg blocks++[PV.agg cs]:=by simp[QA,PV.cells,hf]
   have u2:Qw (PV.agg cs) (PV.int IntKind.i64 ↑blocks.length) (List.map PV.agg blocks) (ZU blocks.length)=ZU (blocks.length+1):=by rw[vo];simp only[Qw,PV.cells,hf]
   refine⟨⟨e0,e1⟩,⟨e0,by omega⟩,?_⟩
   exact zt [[0],[1]] (.p (.int .i64 blocks.length)) ⟨rfl,by simp⟩ (by simp[go_sem,zg,leA,leT]) (.inr ⟨rfl,by simp[go_sem,u1,u2]⟩)
  |some r=>
   obtain⟨j,x⟩:=r
   obtain⟨_,k,h3,h4,h5⟩:=Zs hc hall hf
   simp only[Nat.sub_zero]at h3 h5
   simp only[List.getElem?_map,Option.map_eq_some_iff]at h3
   obtain⟨b,h3,rfl⟩:=h3
   simp only[PV.cells]at h4
   subst h4
   have hx:x=.int .i64 (j:Nat):=by
    simp only[ZU,List.getElem?_map,Option.map_eq_some_iff]at h5
    obtain⟨q,hq,rfl⟩:=h5
    rw[List.getElem?_range (List.getElem?_eq_some_iff.1 h3).1]at hq
    injection hq with hq;rw[hq]
   subst hx
   simp (disch:=omega) [go_sem,Tryz.f156,zG,qN,qU,mapOf,Z6,ht,hl,hc,hf]
   refine⟨hb,?_⟩
   exact zt [[0],[1]] (.p (.int .i64 j)) ⟨rfl,by simp⟩ (by simp[go_sem,zg,leA,leT]) (.inl ⟨j,rfl,h3,by simp[go_sem]⟩)
abbrev Uh(w size:Nat)(X:AV)(blocks:List (List PV))(k2 x2:List PV):List (Tok×List AV):=zG w size X [905] blocks k2 x2
def zje(w size:Nat)(X:AV)(blocks:List (List PV))(k2 x2 cs:List PV)(x:AV)(rs:List (Tok×List AV)):Prop:=
 ∃(k:Nat) (bl:List (List PV)),x=.p (.int .i64 k)∧bl[k]?=some cs∧(bl=blocks∨bl=blocks++[cs])∧rs=Uh w size X bl k2 x2
theorem yX {P:Program} {f:FuncId}[Gi] {args:List AV} {rs:List (Tok×List AV)} {w size:Nat} {own:Bool} {idx:List Nat} {blocks:List (List PV)} {k2 x2 cs:List PV}
  (h:CR P f [[0],[1]] args rs fun x rs=>(∃k:Nat,x=.p (.int .i64 k)∧blocks[k]?=some cs∧rs=zG w size (qN own idx) [905] blocks k2 x2)∨
    (x=.p (.int .i64 blocks.length)∧rs=zG w size (qN own idx) [1,2] (blocks++[cs]) k2 x2)):
  CR P f [[0],[1]] args rs (zje w size (qN own idx) blocks k2 x2 cs):=by
 refine CR.ren h 1000 ?_
 rintro x rs (⟨k,rfl,h1,rfl⟩|⟨rfl,rfl⟩)
 ·refine⟨[([0],[0]),([1],[1]),([902],[902]),([903],[903]),([904],[904]),([905],[905])],rfl,rfl,k,blocks,rfl,h1,.inl rfl,?_⟩
  cases own<;>simp[go_sem,zG,qN]
 ·refine⟨[([0],[0]),([1],[1]),([902],[902]),([903],[903]),([904],[904]),([905],[1,2])],rfl,rfl,blocks.length,blocks++[cs],rfl,by simp,.inr rfl,?_⟩
  cases own<;>simp[go_sem,zG,qN]
def ja(vs:List (List PV))(z:List PV):List PV:=vs.flatten++qd (128-vs.length) z
theorem kL(z:List PV):ja [] z=qd 128 z:=rfl
theorem UL(v z:List PV):ja (List.replicate 128 v) z=qd 128 v:=by simp[ja,qd]
theorem yf {vs:List (List PV)} {z:List PV} {w:Nat}(hv:∀v∈vs,v.length=w)(hz:z.length=w)(hn:vs.length≤128):(ja vs z).length=128*w:=by
 have:vs.flatten.length=vs.length*w:=by
  clear hn
  induction vs with
  |nil=>simp
  |cons v vs ih=>simp[ih (fun x hx=>hv x (by simp[hx])),hv v (by simp),Nat.add_mul];omega
 rw[ja,List.length_append,this,z7,hz,←Nat.add_mul]
 congr 1;omega
theorem zaB {α:Type}(a b b' c:List α) {o:Nat}(ho:a.length=o)(h:b'.length=b.length):zL (a++b++c) o b'=a++b'++c:=by
 subst ho
 unfold zL
 have e1:(a++b++c).take a.length=a:=by rw[List.append_assoc,List.take_left]
 have e2:(a++b++c).drop (a.length+b.length)=c:=by rw[←List.length_append,List.drop_left]
 rw[h,e1,e2]
theorem yb {vs:List (List PV)} {z v:List PV} {w:Nat}(hv:∀v∈vs,v.length=w)(hw:v.length=w)(hz:z.length=w)(hn:vs.length<128):
  zL ((ja vs z).map AV.p) (vs.length*w) (v.map .p)=(ja (vs++[v]) z).map .p:=by
 have hf:vs.flatten.length=vs.length*w:=by
  clear hn
  induction vs with
  |nil=>simp
  |cons v vs ih=>simp[ih (fun x hx=>hv x (by simp[hx])),hv v (by simp),Nat.add_mul];omega
 obtain⟨m,hm⟩:∃m,128-vs.length=m+1:=⟨128-vs.length-1,by omega⟩
 have hm':128- (vs++[v]).length=m:=by simp;omega
 simp only[ja,hm,hm']
 have e:qd (m+1) z=z++qd m z:=by simp[qd,List.replicate_succ]
 rw[e]
 have e2:(vs++[v]).flatten=vs.flatten++v:=by simp
 rw[e2]
 generalize vs.flatten=L at hf⊢
 rw[←List.append_assoc,List.map_append,List.map_append,zaB _ _ _ _ (by simpa using hf) (by simp[hw,hz]),List.map_append,List.map_append]
def QF(ag:Bool)(kc:List Kc)(blocks:List (List PV))(k2 x2:List PV):Prop:=
 k2.length=x2.length∧(∀k∈k2,ZB ag kc k=true)∧∀(j:Nat) (k:PV),k2[j]?=some k→∃n:Nat,x2[j]?=some (.int .i64 n)∧blocks[n]?=some (qd 128 k.cells)
def zbk(ag:Bool)(kc:List Kc)(w size:Nat)(X:AV)(blocks:List (List PV))(v:PV)(x:AV)(rs:List (Tok×List AV)):Prop:=
 ∃(k:Nat) (bl:List (List PV)) (k2 x2:List PV),x=.p (.int .i64 k)∧bl[k]?=some (qd 128 v.cells)∧(bl=blocks∨bl=blocks++[qd 128 v.cells])∧QF ag kc bl k2 x2∧rs=Uh w size X bl k2 x2
theorem xw:∀{k1 k2:List Kc} {x1 x2:List PV},okC k1 x1=true→okC k2 x2=true→okC (k1++k2) (x1++x2)=true
 | [],k2,[],x2,_,h=>h
 | [],_,_::_,_,h,_=>by simp[okC]at h
 |.b::k1,_,[],_,h,_=>by simp[okC]at h
 |.i _::k1,_,[],_,h,_=>by simp[okC]at h
 |.s::k1,_,[],_,h,_=>by simp[okC]at h
 |.b::k1,k2,x::x1,x2,h,h2=>by
  cases x<;>simp[okC]at h
  simp only[List.cons_append,okC];exact xw h h2
 |.i _::k1,k2,x::x1,x2,h,h2=>by
  cases x<;>simp[okC]at h
  simp only[List.cons_append,okC,Bool.and_eq_true];exact⟨by simpa using h.1,xw h.2 h2⟩
 |.s::k1,k2,x::x1,x2,h,h2=>by
  cases x<;>simp[okC]at h
  simp only[List.cons_append,okC];exact xw h h2
theorem yr {kc:List Kc} {v:List PV}(n:Nat)(h:okC kc v=true):okC (qd n kc) (qd n v)=true:=by
 induction n with
 |zero=>rfl
 |succ n ih=>
  have e1:qd (n+1) kc=kc++qd n kc:=by simp[qd,List.replicate_succ]
  have e2:qd (n+1) v=v++qd n v:=by simp[qd,List.replicate_succ]
  rw[e1,e2];exact xw h ih
theorem QF.grow {ag:Bool} {kc:List Kc} {blocks bl:List (List PV)} {k2 x2:List PV} {c:List PV}(h:QF ag kc blocks k2 x2)(hbl:bl=blocks∨bl=blocks++[c]):QF ag kc bl k2 x2:=by
 refine⟨h.1,h.2.1,fun j k hj=>?_⟩
 obtain⟨n,h1,h2⟩:=h.2.2 j k hj
 refine⟨n,h1,?_⟩
 rcases hbl with rfl|rfl
 ·exact h2
 ·rw[List.getElem?_append_left (List.getElem?_eq_some_iff.1 h2).1];exact h2
theorem QF.add {ag:Bool} {kc:List Kc} {bl:List (List PV)} {k2 x2:List PV} {v:PV} {n:Nat}(h:QF ag kc bl k2 x2)(hv:ZB ag kc v=true)(hf:qq v.cells k2 x2 0=none)(hn:bl[n]?=some (qd 128 v.cells)):
  QF ag kc bl (QA v k2 x2) (Qw v (.int .i64 n) k2 x2):=by
 have e1:QA v k2 x2=k2++[v]:=by simp only[QA,hf];rfl
 have e2:Qw v (.int .i64 n) k2 x2=x2++[.int .i64 n]:=by simp only[Qw,hf]
 rw[e1,e2]
 refine⟨by simp[h.1],fun k hk=>?_,fun j k hj=>?_⟩
 ·rcases List.mem_append.1 hk with hk|hk
  ·exact h.2.1 k hk
  ·rw[List.mem_singleton.1 hk];exact hv
 ·by_cases hlt:j<k2.length
  ·rw[List.getElem?_append_left hlt]at hj
   obtain⟨q,h1,h2⟩:=h.2.2 j k hj
   exact⟨q,by rw[List.getElem?_append_left (by rw[←h.1];exact hlt)];exact h1,h2⟩
  ·rw[List.getElem?_append_right (by omega)]at hj
   have hj0:j-k2.length=0:=by
    have:=(List.getElem?_eq_some_iff.1 hj).1
    simp at this;omega
   rw[hj0]at hj
   simp at hj
   subst hj
   refine⟨n,?_,hn⟩
   rw[List.getElem?_append_right (by rw[←h.1];omega),←h.1,hj0]
   rfl
theorem zc8 [Gi](own:Bool)(size:Nat)(idx:List Nat)(blocks:List (List PV))(k2 x2:List PV)(v:Int)(hb:∀b∈blocks,okC (qd 128 [.i .i64]) b=true)(hn:blocks.length<2^31)
  (hE:QF false [.i .i64] blocks k2 x2):
  CR Tryz.prog 155 [[0],[1]] [.lp [0] 0,.p (.int .i64 v)] (Uh 1 size (qN own idx) blocks k2 x2) (zbk false [.i .i64] 1 size (qN own idx) blocks (.int .i64 v)):=by
 obtain⟨hE1,hE2,hE3⟩:=hE
 have hall:k2.all (fun k=>okC [.i .i64] k.cells)=true:=List.all_eq_true.2 fun k hk=>(zJ (hE2 k hk)).2
 have ho2:own=true∨own=false:=by cases own<;>simp
 rcases ho2 with ho|ho<;>
 ·refine zN [1] mixed 10 [20] Tryz.func155 rfl (by kernel_rfl) rfl (by simp) (by simp) ?_
  cases hf:qq [.int .i64 v] k2 x2 0 with
  |none=>
   simp (disch:=omega) [go_sem,Tryz.f155,zG,qN,ho,qU,mapOf,Z6,hf]
   refine⟨fun x hx=>by have:=zJ (hE2 x hx);exact this,?_,?_⟩
   ·intro x hx
    obtain⟨l,hl,hx⟩:=List.mem_flatten.1 hx
    rw[List.eq_of_mem_replicate hl]at hx
    simp only[List.mem_cons,List.not_mem_nil,or_false]at hx
    rcases hx with rfl<;>rfl
   refine zF (fun k:Nat=>k≤128) (fun k=>[(20,.p (.int .i64 k))]) (fun k=>[([7],(ja (List.replicate k [.int .i64 v]) [.int .i64 0]).map .p)]) (fun k=>128-k) 0 (by omega) (by simp[go_sem,LeS,leV,leR,leA,leL,kL,zl]) (fun k hk=>?_)
   simp (disch:=omega) [go_sem]
   refine zq (fun h=>?_) (fun h=>?_)
   ·have w1:IntKind.i64.wrap ((k:Int)+1)=((k+1:Nat):Int):=by rw[wrap64 (by omega) (by omega)];rfl
    have hlen:(ja (List.replicate k [PV.int .i64 v]) [PV.int .i64 0]).length=128:=yf (w:=1) (by simp) rfl (by simp;omega)
    have hput:=yb (vs:=List.replicate k [PV.int .i64 v]) (z:=[.int .i64 0]) (v:=[.int .i64 v]) (w:=1) (by simp) rfl rfl (by simp;omega)
    simp only[List.length_replicate,Nat.mul_one,←List.replicate_succ',List.map_cons,List.map_nil,zL,List.length_cons,List.length_nil,Nat.zero_add,List.append_assoc,List.cons_append,List.nil_append]at hput
    simp (disch:=omega) [go_sem,w1,hlen,h,hput]
    exact⟨by omega,zj (k+1) (by omega) (by simp[go_sem,LeS,leV,leR,leA,leL,zl]) (by omega)⟩
   ·obtain rfl:k=128:=by omega
    have hr:(qd 128 [PV.int .i64 v]).length=128:=by simp[z7]
    have ht:=ZO hr
    simp only[UL]
    simp (disch:=omega) [go_sem,ht,hr]
    refine⟨⟨rfl,by simp[Tryz.f156]⟩,zh [([0],[0]),([1],[1]),([902],[902]),([903],[903]),([904],[904]),([905],[905])] (yX (uF own size idx blocks k2 x2 (qd 128 [.int .i64 v]) (yr 128 rfl) hb hn)) (by simp[go_sem]) ⟨by simp[go_sem],by simp[go_sem]⟩ (by simp[go_sem,zG,qN,ho]) ?_⟩
    rintro _ _ ⟨kk,bl,rfl,hk1,hbl,rfl⟩
    simp (maxSteps:=1000000) (disch:=omega) [go_sem,zG,qN,ho]
    refine⟨fun x hx=>by have:=zJ (hE2 x hx);exact this,?_⟩
    exact zt [[0],[1]] (.p (.int .i64 kk)) ⟨rfl,by simp⟩ (by simp[go_sem,zg,leA,leT]) ⟨kk,bl,_,_,rfl,hk1,hbl,(QF.grow ⟨hE1,hE2,hE3⟩ hbl).add (v:=.int .i64 v) rfl hf hk1,by simp[go_sem,zG]⟩
  |some r=>
   obtain⟨j,x⟩:=r
   obtain⟨_,k,h3,h4,h5⟩:=Zs (kc:=[.i .i64]) rfl hall hf
   simp only[Nat.sub_zero]at h3 h5
   obtain⟨n,h6,h7⟩:=hE3 j k h3
   rw[h5]at h6
   injection h6 with h6
   subst h6
   rw[h4]at h7
   simp (disch:=omega) [go_sem,Tryz.f155,zG,qN,ho,qU,mapOf,Z6,hf]
   refine⟨fun x hx=>by have:=zJ (hE2 x hx);exact this,?_⟩
   exact zt [[0],[1]] (.p (.int .i64 n)) ⟨rfl,by simp⟩ (by simp[go_sem,zg,leA,leT]) ⟨n,blocks,k2,x2,rfl,h7,.inl rfl,⟨hE1,hE2,hE3⟩,by simp[go_sem,zG]⟩
def qv {α:Type}(zero:α)(j:Int):List (Piece α)→α
 | []=>zero
 |p::l=>if p.f≤j∧j≤p.t then p.v else qv zero j l
theorem Zc {α:Type}(zero:α)(i:Int):∀(l:List (Piece α)) (last:Int),i≤last→i≤(qZ zero i l last).2∧(qZ zero i l last).2≤last∧∀j,i≤j→j≤(qZ zero i l last).2→qv zero j l=(qZ zero i l last).1
 | [],last,h=>⟨h,Int.le_refl _,fun j _ _=>rfl⟩
 |p::l,last,h=>by
  unfold qZ
  by_cases h1:p.f≤i∧i≤p.t
  ·rw[if_pos h1]
   refine⟨by simp only;omega,by simp only;omega,fun j h2 h3=>?_⟩
   simp only at h3⊢
   exact if_pos ⟨by omega,by omega⟩
  ·rw[if_neg h1]
   by_cases h2:i<p.f∧p.f≤last
   ·rw[if_pos h2]
    obtain⟨a,b,c⟩:=Zc zero i l (p.f-1) (by omega)
    refine⟨a,by omega,fun j h3 h4=>?_⟩
    rw[←c j h3 h4]
    exact if_neg (by omega)
   ·rw[if_neg h2]
    obtain⟨a,b,c⟩:=Zc zero i l last h
    refine⟨a,b,fun j h3 h4=>?_⟩
    rw[←c j h3 h4]
    exact if_neg (by omega)
structure Q6(w size:Nat)(val:Nat→List PV)(idx:List Nat)(blocks:List (List PV)):Prop where
 each:∀n k,idx[n]?=some k→∃cs,blocks[k]?=some cs∧cs.length=128*w∧∀j,j<128→128*n+j<size→(cs.drop (j*w)).take w=val (128*n+j)
theorem Q6.nil(w size:Nat)(val:Nat→List PV):Q6 w size val [] []:=⟨fun n k h=>by simp at h⟩
theorem Q6.grow {w size:Nat} {val:Nat→List PV} {idx:List Nat} {blocks bl:List (List PV)} {c:List PV}(h:Q6 w size val idx blocks)(hb:bl=blocks∨bl=blocks++[c]):Q6 w size val idx bl:=by
 refine⟨fun n k hk=>?_⟩
 obtain⟨cs,h1,h2⟩:=h.each n k hk
 refine⟨cs,?_,h2⟩
 rcases hb with rfl|rfl
 ·exact h1
 ·rw[List.getElem?_append_left (List.getElem?_eq_some_iff.1 h1).1];exact h1
theorem Q6.add {w size:Nat} {val:Nat→List PV} {idx:List Nat} {blocks:List (List PV)} {k:Nat} {cs:List PV}(h:Q6 w size val idx blocks)(h1:blocks[k]?=some cs)(h2:cs.length=128*w)
  (h3:∀j,j<128→128*idx.length+j<size→(cs.drop (j*w)).take w=val (128*idx.length+j)):Q6 w size val (idx++[k]) blocks:=by
 refine⟨fun n q hq=>?_⟩
 by_cases hn:n<idx.length
 ·rw[List.getElem?_append_left hn]at hq
  exact h.each n q hq
 ·rw[List.getElem?_append_right (by omega)]at hq
  have hn0:n-idx.length=0:=by
   have:=(List.getElem?_eq_some_iff.1 hq).1
   simp at this;omega
  have hn1:n=idx.length:=by omega
  subst hn1
  simp at hq
  subst hq
  exact⟨cs,h1,h2,h3⟩
theorem Q6.qI {w size:Nat} {val:Nat→List PV} {idx:List Nat} {blocks:List (List PV)}(h:Q6 w size val idx blocks)(hn:size≤128*idx.length) {i:Nat}(hi:i<size):K7 w idx blocks i (val i):=by
 have hlt:i/128<idx.length:=by omega
 obtain⟨cs,h1,h2,h3⟩:=h.each (i/128) _ (List.getElem?_eq_getElem hlt)
 refine⟨_,cs,List.getElem?_eq_getElem hlt,h1,h2,?_⟩
 have:=h3 (i%128) (Nat.mod_lt _ (by omega)) (by omega)
 rw[this]
 congr 1;omega
theorem QD {w:Nat}:∀{vs:List (List PV)} {j:Nat} {v t:List PV},(∀x∈vs,x.length=w)→vs[j]?=some v→((vs.flatten++t).drop (j*w)).take w=v
 | [],j,v,t,_,h=>by simp at h
 |x::vs,0,v,t,hw,h=>by
  simp at h;subst h
  simp only[Nat.zero_mul,List.drop_zero,List.flatten_cons,List.append_assoc]
  rw[←hw x (by simp),List.take_left]
 |x::vs,j+1,v,t,hw,h=>by
  have hx:=hw x (by simp)
  rw[List.flatten_cons,List.append_assoc,Nat.add_mul,Nat.one_mul,Nat.add_comm,←List.drop_drop,←hx,List.drop_left,hx]
  exact QD (fun y hy=>hw y (by simp[hy])) (by simpa using h)
theorem uV {w n j:Nat} {v:List PV}(hv:v.length=w)(hj:j<n):((qd n v).drop (j*w)).take w=v:=by
 have:=QD (w:=w) (vs:=List.replicate n v) (j:=j) (v:=v) (t:=[]) (by simp[hv]) (by simp[hj])
 simpa[qd]using this
theorem VC {kc:List Kc}:∀{n:Nat} {vs:List (List PV)},(∀x∈vs,okC kc x=true)→vs.length=n→okC (qd n kc) vs.flatten=true
 |0,[],_,_=>rfl
 |0,_::_,_,h=>by simp at h
 |n+1,[],_,h=>by simp at h
 |n+1,x::vs,hx,h=>by
  have e1:qd (n+1) kc=kc++qd n kc:=by simp[qd,List.replicate_succ]
  rw[e1,List.flatten_cons]
  exact xw (hx x (by simp)) (VC (fun y hy=>hx y (by simp[hy])) (by simpa using h))
def uZ:OT:=.now 0 2 (.now 1 2 (.now 2 2 (.now 3 2 (.now 5 0 (.now 6 0 (.mk [(4,.mk [(7,.mk [(8,.mk [(9,.now 10 0 (.now 11 0 (.mk [(12,.mk [])])))])])]),(7,.now 4 1 (.mk [(8,.mk [(9,.now 10 0 (.now 11 0 (.mk [(12,.mk [])])))])]))]))))))
structure BS(α:Type)where
 idx:List Nat
 blocks:List (List PV)
 k2:List PV
 x2:List PV
 v:α
 u:Int
structure BI {α:Type}(ag:Bool)(kc:List Kc)(w size:Nat)(cells:α→List PV)(zero:α)(l:List (Piece α))(b:BS α):Prop where
 ok:Q6 w size (fun j=>cells (qv zero j l)) b.idx b.blocks
 bl:∀x∈b.blocks,okC (qd 128 kc) x=true
 ev:QF ag kc b.blocks b.k2 b.x2
 le:b.blocks.length≤b.idx.length
 lt:128*b.idx.length<size+128
 u0:0≤b.u
 u1:b.u<size
 vl:∀j:Int,(128*b.idx.length:Nat)≤j→j≤b.u→qv zero j l=b.v
def yx {α:Type}(w size:Nat)(b:BS α):List (Tok×List AV):=
 [([20],[.p (.int .i64 size),.os [20,1] 1 (b.idx.map fun k:Nat=>.int .i64 k),.os [20,2] (128*w) (b.blocks.map .agg)]),([25],[.lp [20] 0,.om [22] (b.blocks.map .agg) (ZU b.blocks.length),.om [23] b.k2 b.x2])]
theorem Xd [Gi](l:List (Piece Int))(size:Nat)(h0:0<size)(hs:size<2^28)(hn:l.length<2^31)(hb:∀p∈l, -1000000000≤p.f∧p.f≤1000000000):
  CR Tryz.prog 102 [] [.p (.int .i64 size),.p (.int .i64 0),.p (ko l)] []
   (fun x rs=>∃idx blocks,x=.lp [20] 0∧Q6 1 size (fun j=>[.int .i64 (qv 0 j l)]) idx blocks∧size≤128*idx.length∧rs=[([20],[.p (.int .i64 size),.os [20,1] 1 (idx.map fun k:Nat=>.int .i64 k),.os [20,2] 128 (blocks.map .agg)])]):=by
 refine zN [200026] mixed 16 [88] Tryz.func102 rfl (by kernel_rfl) rfl (by simp) (by simp) ?_
 have e0:¬(size:Int)<1:=by omega
 have w0:IntKind.i64.wrap ((size:Int)-1)=(size:Int)-1:=wrap64 (by omega) (by omega)
 simp (maxSteps:=1000000) (disch:=omega) [go_sem,Tryz.f102,e0,w0]
 refine⟨rfl,⟨rfl,rfl⟩,⟨rfl,by simp[Tryz.f154]⟩,?_⟩
 refine zh [] (Uo l 0 0 ((size:Int)-1) hn hb) (by simp[go_sem]) ⟨by simp[go_sem],by simp[go_sem]⟩ (by simp[go_sem]) ?_
 rintro y rs ⟨rfl,rfl⟩
 obtain⟨f1,f2,f3⟩:=Zc 0 0 l ((size:Int)-1) (by omega)
 generalize qZ 0 0 l ((size:Int)-1)=r at f1 f2 f3
 obtain⟨v0,u0⟩:=r
 simp only at f1 f2 f3
 simp (maxSteps:=1000000) (disch:=omega) [go_sem]
 refine zF (fun b:BS Int=>BI false [.i .i64] 1 size (fun v=>[.int .i64 v]) 0 l b) (fun b=>[(9,.p (.int .i64 b.v)),(10,.p (.int .i64 b.u)),(11,.p (.int .i64 (128*(b.idx.length:Int))))]) (fun b=>yx 1 size b) (fun b=>size+128-128*b.idx.length) ⟨[],[],[],[],v0,u0⟩
  ⟨.nil _ _ _,by simp,⟨rfl,by simp,by simp⟩,by simp,by simp,f1,by show u0< (size:Int);omega,fun j h1 h2=>f3 j (by simpa using h1) h2⟩ ?_ (fun b hI=>?_)
 ·simp[go_sem,LeS,leV,leR,leA,leL,yx,ZU]
 obtain⟨idx,blocks,k2,x2,v,u⟩:=b
 obtain⟨i1,i2,i3,i4,i5,i6,i7,i8⟩:=hI
 simp only at i1 i2 i3 i4 i5 i6 i7 i8
 simp (maxSteps:=1000000) (disch:=omega) [go_sem,yx]
 refine zq (fun hat=>?_) (fun hat=>?_)
 ·simp (maxSteps:=1000000) (disch:=omega) [go_sem]
  refine Zn (fun r:Int×Int=>0≤r.2∧r.2<size∧128*(idx.length:Int)≤r.2∧∀j,128*(idx.length:Int)≤j→j≤r.2→qv 0 j l=r.1) (fun r=>[(9,.p (.int .i64 r.1)),(10,.p (.int .i64 r.2))]) (fun _=>[]) (zq (fun hu=>?_) (fun hu=>?_)) ?_
  ·simp (maxSteps:=1000000) (disch:=omega) [go_sem]
   refine⟨⟨rfl,by simp[Tryz.f154]⟩,?_⟩
   refine zh [] (Uo l 0 (128*(idx.length:Int)) ((size:Int)-1) hn hb) (by simp[go_sem]) ⟨by simp[go_sem],by simp[go_sem,w0]⟩ (by simp[go_sem]) ?_
   rintro y rs ⟨rfl,rfl⟩
   obtain⟨g1,g2,g3⟩:=Zc 0 (128*(idx.length:Int)) l ((size:Int)-1) (by omega)
   generalize qZ 0 (128*(idx.length:Int)) l ((size:Int)-1)=r at g1 g2 g3
   obtain⟨v',u'⟩:=r
   simp only at g1 g2 g3
   simp (maxSteps:=1000000) (disch:=omega) [go_sem]
   exact zR (v',u') ⟨by show 0≤u';omega,by show u'< (size:Int);omega,g1,g3⟩ (by simp[go_sem])
  ·simp (maxSteps:=1000000) (disch:=omega) [go_sem]
   exact zR (v,u) ⟨i6,i7,by show 128*(idx.length:Int)≤u;omega,i8⟩ (by simp[go_sem])
  ·clear i6 i7 i8
   rintro⟨v',u'⟩ ts ⟨j1,j2,j3,j4⟩
   simp only at j1 j2 j3 j4
   have w1:IntKind.i64.wrap (128*(idx.length:Int)+128)=128*(idx.length:Int)+128:=wrap64 (by omega) (by omega)
   have w2:IntKind.i64.wrap (min (128*(idx.length:Int)+128) (size:Int)-1)=min (128*(idx.length:Int)+128) (size:Int)-1:=wrap64 (by omega) (by omega)
   simp (maxSteps:=1000000) (disch:=omega) [go_sem,w1,w2]
   refine zq (fun hu=>?_) (fun hu=>?_)
   ·simp (maxSteps:=1000000) (disch:=omega) [go_sem]
    refine⟨⟨rfl,by simp[Tryz.f155]⟩,?_⟩
    refine zh [([0],[25]),([1],[20]),([902],[22]),([903],[23]),([904],[20,1]),([905],[20,2])] (zc8 true size idx blocks k2 x2 v' i2 (by omega) i3) (by simp[go_sem]) ⟨by simp[go_sem],by simp[go_sem]⟩ (by simp[go_sem,zG,qN]) ?_
    rintro _ _ ⟨kk,bl,k2',x2',rfl,hk,hbl,hE,rfl⟩
    simp (maxSteps:=1000000) (disch:=omega) [go_sem,zG,qN]
    have hbn:bl.length≤blocks.length+1:=by rcases hbl with rfl|rfl<;>simp
    have i1':=i1.grow hbl
    have i2':∀x∈bl,okC (qd 128 [.i .i64]) x=true:=fun x hx=>by
     rcases hbl with rfl|rfl
     ·exact i2 x hx
     ·rcases List.mem_append.1 hx with hx|hx
      ·exact i2 x hx
      ·rw[List.mem_singleton.1 hx];exact yr 128 rfl
    refine zF (fun id:List Nat=>Q6 1 size (fun j=>[.int .i64 (qv 0 j l)]) id bl∧idx.length≤id.length∧128*id.length<size+128∧(id.length=idx.length∨idx.length<id.length)) (fun id=>[(11,.p (.int .i64 (128*(id.length:Int))))]) (fun id=>[([20],[.p (.int .i64 size),.os [20,1] 1 (id.map fun k:Nat=>.int .i64 k),.os [20,2] 128 (bl.map .agg)])]) (fun id=>size+128-128*id.length) idx ⟨i1',Nat.le_refl _,i5,.inl rfl⟩ ?_ (fun id hid=>?_)
    ·simp[go_sem,LeS,leV,leR,leA,leL]
    obtain⟨q1,q2,q3,q4⟩:=hid
    have w3:IntKind.i64.wrap (128*(id.length:Int)+128)=128*(id.length:Int)+128:=wrap64 (by omega) (by omega)
    have w4:IntKind.i64.wrap (min (128*(id.length:Int)+128) (size:Int)-1)=min (128*(id.length:Int)+128) (size:Int)-1:=wrap64 (by omega) (by omega)
    have w5:IntKind.i64.wrap (128*(id.length:Int)-128)=128*(id.length:Int)-128:=wrap64 (by omega) (by omega)
    simp (maxSteps:=1000000) (disch:=omega) [go_sem,w3,w4]
    refine qn (fun hc=>?_) (fun hc=>?_)
    ·have hc':128*(id.length:Int)<size∧min (128*(id.length:Int)+128) (size:Int)-1≤u':=by simpa using hc
     simp (maxSteps:=1000000) (disch:=omega) [go_sem,w3]
     refine⟨by omega,zj (id++[kk]) ⟨q1.add hk (by simp[z7,PV.cells]) (fun j hj1 hj2=>?_),by simp;omega,by simp;omega,.inr (by simp;omega)⟩ ?_ (by simp;omega)⟩
     ·rw[uV (w:=1) rfl hj1,j4 (((128*id.length+j:Nat):Int)) (by omega) (by omega)]
      rfl
     ·simp[go_sem,LeS,leV,leR,leA,leL,Int.mul_add]
    ·have hc':¬(128*(id.length:Int)<size∧min (128*(id.length:Int)+128) (size:Int)-1≤u'):=fun h=>by simp[h.1,h.2]at hc
     have hlt:idx.length<id.length:=by
      rcases q4 with q4|q4
      ·exact absurd ⟨by rw[q4];exact hat,by rw[q4];exact hu⟩ hc'
      ·exact q4
     have w6:IntKind.i64.wrap (128*(id.length:Int)-128+128)=128*(id.length:Int):=by rw[wrap64 (by omega) (by omega)];omega
     have w7:IntKind.i64.wrap (128*(id.length:Int))=128*(id.length:Int):=wrap64 (by omega) (by omega)
     simp (maxSteps:=1000000) (disch:=omega) [go_sem,w5,w7]
     exact zj ⟨id,bl,k2',x2',v',u'⟩ ⟨q1,i2',hE,by show bl.length≤id.length;omega,by show 128*id.length<size+128;omega,j1,j2,fun j h1 h2=>j4 j (by simp only at h1;omega) h2⟩ (by simp[go_sem,LeS,leV,leR,leA,leL]) (by show size+128-128*id.length<size+128-128*idx.length;omega)
   ·simp (maxSteps:=1000000) (disch:=omega) [go_sem]
    refine⟨?_,?_⟩
    ·intro x hx
     obtain⟨l,hl,hx⟩:=List.mem_flatten.1 hx
     rw[List.eq_of_mem_replicate hl]at hx
     simp only[List.mem_cons,List.not_mem_nil,or_false]at hx
     rcases hx with rfl<;>rfl
    refine zF (fun r:List (List PV)×Int×Int=>r.1.length≤128∧(∀x∈r.1,okC [.i .i64] x=true)∧(∀j:Nat,j<r.1.length→128*idx.length+j<size→r.1[j]?=some [.int .i64 (qv 0 ((128*idx.length+j:Nat):Int) l)])∧0≤r.2.2∧r.2.2<size∧∀j:Int,128*(idx.length:Int)+r.1.length≤j→j≤r.2.2→qv 0 j l=r.2.1)
     (fun r=>[(88,.p (.int .i64 (r.1.length:Nat))),(9,.p (.int .i64 r.2.1)),(10,.p (.int .i64 r.2.2))]) (fun r=>[([14],(ja r.1 [.int .i64 0]).map .p)]) (fun r=>128-r.1.length) ([],v',u')
     ⟨by simp,by simp,by simp,j1,j2,fun j h1 h2=>j4 j (by simpa using h1) h2⟩ ?_ (fun r hr=>?_)
    ·simp[go_sem,LeS,leV,leR,leA,leL,kL,zl]
    obtain⟨vs,v2,u2⟩:=r
    obtain⟨q1,q2,q3,q4,q5,q6⟩:=hr
    simp only at q1 q2 q3 q4 q5 q6
    simp (maxSteps:=1000000) (disch:=omega) [go_sem]
    refine zq (fun hc=>?_) (fun hc=>?_)
    ·have w3:IntKind.i64.wrap (128*(idx.length:Int)+vs.length)=128*(idx.length:Int)+vs.length:=wrap64 (by omega) (by omega)
     simp (maxSteps:=1000000) (disch:=omega) [go_sem,w3]
     refine Zn (fun r:Int×Int=>0≤r.2∧r.2<size∧(128*(idx.length:Int)+vs.length<size→128*(idx.length:Int)+vs.length≤r.2)∧∀j,128*(idx.length:Int)+vs.length≤j→j≤r.2→qv 0 j l=r.1) (fun r=>[(9,.p (.int .i64 r.1)),(10,.p (.int .i64 r.2))]) (fun _=>[]) (qn (fun hu=>?_) (fun hu=>?_)) ?_
     ·have hu':u2<128*(idx.length:Int)+vs.length∧128*(idx.length:Int)+vs.length<size:=by simpa using hu
      simp (maxSteps:=1000000) (disch:=omega) [go_sem,w3]
      refine⟨⟨rfl,by simp[Tryz.f154]⟩,?_⟩
      refine zh [] (Uo l 0 (128*(idx.length:Int)+vs.length) ((size:Int)-1) hn hb) (by simp[go_sem]) ⟨by simp[go_sem],by simp[go_sem,w0]⟩ (by simp[go_sem]) ?_
      rintro y rs ⟨rfl,rfl⟩
      obtain⟨g1,g2,g3⟩:=Zc 0 (128*(idx.length:Int)+vs.length) l ((size:Int)-1) (by omega)
      generalize qZ 0 (128*(idx.length:Int)+vs.length) l ((size:Int)-1)=r at g1 g2 g3
      obtain⟨v3,u3⟩:=r
      simp only at g1 g2 g3
      simp (maxSteps:=1000000) (disch:=omega) [go_sem]
      exact zR (v3,u3) ⟨by show 0≤u3;omega,by show u3< (size:Int);omega,fun _=>g1,g3⟩ (by simp[go_sem])
     ·have hu':¬(u2<128*(idx.length:Int)+vs.length∧128*(idx.length:Int)+vs.length<size):=fun h=>by simp[h.1,h.2]at hu
      simp (maxSteps:=1000000) (disch:=omega) [go_sem]
      exact zR (v2,u2) ⟨q4,q5,fun h=>by show 128*(idx.length:Int)+vs.length≤u2;omega,q6⟩ (by simp[go_sem])
     ·rintro⟨v3,u3⟩ ts2 ⟨k1,k2',k3,k4⟩
      simp only at k1 k2' k3 k4
      have hw:∀x∈vs,x.length=1:=fun x hx=>by have:=qY (q2 x hx);simpa using this
      have hlen:(ja vs [PV.int .i64 0]).length=128:=yf (w:=1) hw rfl (by omega)
      have hput:=yb (vs:=vs) (z:=[.int .i64 0]) (v:=[.int .i64 v3]) (w:=1) hw rfl rfl (by omega)
      simp only[Nat.mul_one,List.map_cons,List.map_nil,zL,List.length_cons,List.length_nil,Nat.zero_add,List.append_assoc,List.cons_append,List.nil_append]at hput
      have w4:IntKind.i64.wrap ((vs.length:Int)+1)=(vs.length:Int)+1:=wrap64 (by omega) (by omega)
      simp (maxSteps:=1000000) (disch:=omega) [go_sem,w4,hlen,hput,hc]
      refine⟨by omega,zj (vs++[[.int .i64 v3]],v3,u3) ⟨by simp;omega,fun x hx=>?_,fun j hj1 hj2=>?_,k1,k2',fun j h1 h2=>k4 j (by simp at h1;omega) h2⟩ (by simp[go_sem,LeS,leV,leR,leA,leL,zl]) (by simp;omega)⟩
      ·rcases List.mem_append.1 hx with hx|hx
       ·exact q2 x hx
       ·rw[List.mem_singleton.1 hx];rfl
      ·by_cases hj:j<vs.length
       ·rw[List.getElem?_append_left hj];exact q3 j hj hj2
       ·have hjl:j=vs.length:=by simp at hj1;omega
        subst hjl
        rw[List.getElem?_append_right (Nat.le_refl _),Nat.sub_self]
        have hv:qv 0 (128*(idx.length:Int)+vs.length) l=v3:=k4 _ (by omega) (by have:=k3 (by omega);omega)
        rw[hv];rfl
    ·have hvl:vs.length=128:=by omega
     have hw:∀x∈vs,x.length=1:=fun x hx=>by have:=qY (q2 x hx);simpa using this
     have hrow:ja vs [PV.int .i64 0]=vs.flatten:=by simp[ja,hvl,qd]
     have hok:okC (qd 128 [.i .i64]) vs.flatten=true:=VC q2 hvl
     have hfl:vs.flatten.length=128:=by have:=qY hok;simpa[z7]using this
     simp only[hrow]
     have hpart:∀j,j<128→128*idx.length+j<size→(vs.flatten.drop (j*1)).take 1=[.int .i64 (qv 0 ((128*idx.length+j:Nat):Int) l)]:=fun j h1 h2=>by
      have:=QD (w:=1) (t:=[]) hw (q3 j (by omega) h2)
      simpa using this
     generalize vs.flatten=cs at hok hfl hpart
     have ht:=ZO hfl
     simp (maxSteps:=1000000) (disch:=omega) [go_sem]
     refine ZC uZ (by kernel_rfl) ?_
     simp (maxSteps:=1000000) (disch:=omega) [go_sem,uZ,ht,hfl]
     refine⟨?_,?_⟩
     ·refine⟨⟨rfl,by simp[Tryz.f156]⟩,zh [([0],[25]),([1],[20]),([902],[22]),([903],[23]),([905],[20,2])] (yX (uF false size idx blocks k2 x2 cs hok i2 (by omega))) (by simp[go_sem]) ⟨by simp[go_sem],by simp[go_sem]⟩ (by simp[go_sem,zG,qN]) ?_⟩
      rintro _ _ ⟨kk,bl,rfl,hk,hbl,rfl⟩
      have hbn:bl.length≤blocks.length+1:=by rcases hbl with rfl|rfl<;>simp
      have i2':∀x∈bl,okC (qd 128 [.i .i64]) x=true:=fun x hx=>by
       rcases hbl with rfl|rfl
       ·exact i2 x hx
       ·rcases List.mem_append.1 hx with hx|hx
        ·exact i2 x hx
        ·rw[List.mem_singleton.1 hx];exact hok
      simp (maxSteps:=1000000) (disch:=omega) [go_sem,zG,qN,w1]
      refine⟨by omega,zj ⟨idx++[kk],bl,k2,x2,v2,u2⟩ ⟨(i1.grow hbl).add hk (by simpa using hfl) hpart,i2',i3.grow hbl,by show bl.length≤(idx++[kk]).length;simp;omega,by show 128*(idx++[kk]).length<size+128;simp;omega,q4,q5,fun j h1 h2=>q6 j (by simp at h1;omega) h2⟩ (by simp[go_sem,LeS,leV,leR,leA,leL,Int.mul_add]) (by show size+128-128*(idx++[kk]).length<size+128-128*idx.length;simp;omega)⟩
     ·refine⟨⟨rfl,by simp[Tryz.f156]⟩,zh [([0],[25]),([1],[20]),([902],[22]),([903],[23]),([904],[20,1]),([905],[20,2])] (yX (uF true size idx blocks k2 x2 cs hok i2 (by omega))) (by simp[go_sem]) ⟨by simp[go_sem],by simp[go_sem]⟩ (by simp[go_sem,zG,qN]) ?_⟩
      rintro _ _ ⟨kk,bl,rfl,hk,hbl,rfl⟩
      have hbn:bl.length≤blocks.length+1:=by rcases hbl with rfl|rfl<;>simp
      have i2':∀x∈bl,okC (qd 128 [.i .i64]) x=true:=fun x hx=>by
       rcases hbl with rfl|rfl
       ·exact i2 x hx
       ·rcases List.mem_append.1 hx with hx|hx
        ·exact i2 x hx
        ·rw[List.mem_singleton.1 hx];exact hok
      simp (maxSteps:=1000000) (disch:=omega) [go_sem,zG,qN,w1]
      refine⟨by omega,zj ⟨idx++[kk],bl,k2,x2,v2,u2⟩ ⟨(i1.grow hbl).add hk (by simpa using hfl) hpart,i2',i3.grow hbl,by show bl.length≤(idx++[kk]).length;simp;omega,by show 128*(idx++[kk]).length<size+128;simp;omega,q4,q5,fun j h1 h2=>q6 j (by simp at h1;omega) h2⟩ (by simp[go_sem,LeS,leV,leR,leA,leL,Int.mul_add]) (by show size+128-128*(idx++[kk]).length<size+128-128*idx.length;simp;omega)⟩
 ·simp (maxSteps:=1000000) (disch:=omega) [go_sem]
  refine zt [[20]] (.lp [20] 0) ⟨rfl,by simp⟩ (by simp[go_sem,zg,leA,leT]) ⟨rfl,idx,blocks,i1,by omega,by simp[go_sem]⟩
end
end Go.Proofs.YtfjdbbpimklecaaGreatDoor
namespace Go.AM
section
theorem zbp [Gi] {rs:List (Tok×List AV)} {rt:Tok→Bool} {t:Tok} {cs:List AV} {ps:List PV}(hl:zw rs t=some cs)(ht:rt t=false)(hp:zaY cs=some ps):ze2 rt rs (.lp t 0) (.p (.pt cs.length (.agg ps))):=by
 intro g w v hG hv
 simp only[za]at hv
 obtain⟨b,hk,rfl⟩:=hv
 obtain⟨cs',hl',hfr,arr,T,hb,hle,hc⟩:=hG.roots b t hk
 rw[hl]at hl';injection hl' with hl';subst hl'
 have hx:=xX hG rt
 have hfb:(frz g w rt).fr b=arr.size:=by rw[xx hk ht];simp[frW,hb]
 have hRC:zm g w cs (arr.toList.take cs.length)∧∀u∈arr.toList.take cs.length,u.oneCell'=true:=by
  have key:∀(ys:List AV) (vs:List Value),ys.length=vs.length→(∀(j:Nat) (x:AV),ys[j]?=some x→∃v,vs[j]?=some v∧v.oneCell'=true∧za g w x v)→zm g w ys vs∧∀u∈vs,u.oneCell'=true:=by
   intro ys
   induction ys with
   |nil=>intro vs hl _;cases vs with
    |nil=>exact⟨by simp[zm],by simp⟩
    |cons v vs=>simp at hl
   |cons y ys ih=>
    intro vs hl hh
    cases vs with
    |nil=>simp at hl
    |cons v vs=>
     obtain⟨u,hu,h1,hr⟩:=hh 0 y rfl
     simp at hu;subst hu
     obtain⟨i1,i2⟩:=ih vs (by simpa using hl) (fun j x hj=>by simpa using hh (j+1) x (by simpa using hj))
     refine⟨by simp only[zm];exact⟨v,vs,rfl,hr,i1⟩,fun u hu=>?_⟩
     rcases List.mem_cons.1 hu with rfl|hu
     ·exact h1
     ·exact i2 u hu
  refine key cs _ (by simp;omega) (fun j x hj=>?_)
  obtain⟨v,hv,h1,hr⟩:=hc j x hj
  exact⟨v,by rw[List.getElem?_take,if_pos (List.getElem?_eq_some_iff.1 hj).1];simpa using hv,h1,hr⟩
 have hP:=zr.ext hx _ _ (u6 hp hRC.2 hRC.1)
 simp only[za,zi]
 refine⟨b,0,rfl,by rw[hfb];omega,.agg (arr.toList.take cs.length).toArray,⟨_,rfl,by simpa using hP⟩,by simp[Value.cells];omega,fun j c hj=>?_⟩
 have hj':(arr.toList.take cs.length)[j]?=some c:=by simpa[Value.cells]using hj
 refine⟨hRC.2 c (List.mem_of_getElem? hj'),?_⟩
 rw[zT hb,Nat.zero_add]
 rw[List.getElem?_take]at hj'
 split at hj'
 ·simpa using hj'
 ·cases hj'
end
end Go.AM
namespace Go.Proofs.YtfjdbbpimklecaaGreatDoor
section
open Go.AM
def jy(w size:Nat)(val:Nat→List PV)(e:PV):Prop:=∃idx blocks,e=.pt 3 (ZT w size idx blocks)∧∀i,i<size→K7 w idx blocks i (val i)
theorem zdm [Gi](l:List (Piece Int))(size:Nat)(h0:0<size)(hs:size<2^28)(hn:l.length<2^31)(hb:∀p∈l, -1000000000≤p.f∧p.f≤1000000000):
  CR Tryz.prog 102 [] [.p (.int .i64 size),.p (.int .i64 0),.p (ko l)] [] (fun x rs=>rs=[]∧∃e,x=.p e∧jy 1 size (fun j=>[.int .i64 (qv 0 j l)]) e):=by
 refine CR.freeze (Xd l size h0 hs hn hb) (fun _=>false) rfl ?_
 rintro x rs ⟨idx,blocks,rfl,h1,h2,rfl⟩
 exact⟨_,zbp rfl rfl rfl,rfl,_,rfl,idx,blocks,rfl,fun i hi=>h1.qI h2 hi⟩
theorem K8 [Gi] {size:Nat} {val:Nat→Int} {e:PV}(h:jy 1 size (fun j=>[.int .i64 (val j)]) e)(hs:size<2^31) {i:Nat}(hi:i<size):CR Tryz.prog 165 [] [.p e,.p (.int .i64 i)] [] (is (.p (.int .i64 (val i)))):=by
 obtain⟨idx,blocks,rfl,h⟩:=h
 exact zg2 size idx blocks i _ hs hi (h i hi)
end
end Go.Proofs.YtfjdbbpimklecaaGreatDoor
