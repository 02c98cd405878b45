/- A part of this seat's proofs, by an abstract machine. Conditions: each law's. -/
import Derived.Test.YtfjdbbpimklecaaGreatDoorV19
set_option maxHeartbeats 8000000
set_option maxRecDepth 10000
namespace Go.Proofs.YtfjdbbpimklecaaGreatDoor
section
open Go.AM
theorem Wd [Gi](own:Bool)(size:Nat)(idx:List Nat)(blocks:List (List PV))(k2 x2:List PV)(cs:List PV)(hc:okC (qd 128 [.b,.b,.b,.b]) cs=true)(hb:∀b∈blocks,okC (qd 128 [.b,.b,.b,.b]) b=true)(hn:blocks.length<2^31):
  CR Tryz.prog 161 [[0],[1]] [.lp [0] 0,.p (.agg cs)] (zG 4 size (qN own idx) [905] blocks k2 x2)
   (fun x rs=>(∃k:Nat,x=.p (.int .i64 k)∧blocks[k]?=some cs∧rs=zG 4 size (qN own idx) [905] blocks k2 x2)∨
    (x=.p (.int .i64 blocks.length)∧rs=zG 4 size (qN own idx) [1,2] (blocks++[cs]) k2 x2)):=by
 have hl:cs.length=512:=by simpa[z7]using qY hc
 have ht:=ZO hl
 have hall:(blocks.map PV.agg).all (fun k=>okC (qd 128 [.b,.b,.b,.b]) k.cells)=true:=by simpa[PV.cells]using hb
 cases own<;>
 ·refine zN [1,200005] mixed 8 [] Tryz.func161 rfl (by kernel_rfl) rfl (by simp) (by simp) ?_
  cases hf:qq cs (blocks.map PV.agg) (ZU blocks.length) 0 with
  |none=>
   simp (disch:=omega) [go_sem,Tryz.f161,zG,qN,qU,mapOf,Z6,ht,hl,hc,hf]
   refine⟨hb,ZC uQ (by kernel_rfl) ?_⟩
   simp (disch:=omega) [go_sem,uQ,ht,hl]
   have e0:(qd 128 [PV.bool false,PV.bool false,PV.bool false,PV.bool false]).length=512:=by simp[z7]
   have e1:∀x∈qd 128 [PV.bool false,PV.bool false,PV.bool false,PV.bool false],(match x with|PV.agg cs=>false|PV.opq u=>u.oneCell'|x=>true)=true:=fun x hx=>by
    obtain⟨l,hl,hx⟩:=List.mem_flatten.1 hx
    rw[List.eq_of_mem_replicate hl]at hx
    simp only[List.mem_cons,List.not_mem_nil,or_false]at hx
    rcases hx with rfl|rfl|rfl|rfl<;>rfl
   have u1:QA (PV.agg cs) (List.map PV.agg blocks) (ZU blocks.length)=List.map PV.agg blocks++[PV.agg cs]:=by simp[QA,PV.cells,hf]
   have u2:Qw (PV.agg cs) (PV.int IntKind.i64 ↑blocks.length) (List.map PV.agg blocks) (ZU blocks.length)=ZU (blocks.length+1):=by rw[vo];simp only[Qw,PV.cells,hf]
   refine⟨⟨e0,e1⟩,⟨e0,by omega⟩,?_⟩
   exact zt [[0],[1]] (.p (.int .i64 blocks.length)) ⟨rfl,by simp⟩ (by simp[go_sem,zg,leA,leT]) (.inr ⟨rfl,by simp[go_sem,u1,u2]⟩)
  |some r=>
   obtain⟨j,x⟩:=r
   obtain⟨_,k,h3,h4,h5⟩:=Zs hc hall hf
   simp only[Nat.sub_zero]at h3 h5
   simp only[List.getElem?_map,Option.map_eq_some_iff]at h3
   obtain⟨b,h3,rfl⟩:=h3
   simp only[PV.cells]at h4
   subst h4
   have hx:x=.int .i64 (j:Nat):=by
    simp only[ZU,List.getElem?_map,Option.map_eq_some_iff]at h5
    obtain⟨q,hq,rfl⟩:=h5
    rw[List.getElem?_range (List.getElem?_eq_some_iff.1 h3).1]at hq
    injection hq with hq;rw[hq]
   subst hx
   simp (disch:=omega) [go_sem,Tryz.f161,zG,qN,qU,mapOf,Z6,ht,hl,hc,hf]
   refine⟨hb,?_⟩
   exact zt [[0],[1]] (.p (.int .i64 j)) ⟨rfl,by simp⟩ (by simp[go_sem,zg,leA,leT]) (.inl ⟨j,rfl,h3,by simp[go_sem]⟩)
theorem zdT [Gi](own:Bool)(size:Nat)(idx:List Nat)(blocks:List (List PV))(k2 x2:List PV)(a b c d:Bool)(hb:∀b∈blocks,okC (qd 128 [.b,.b,.b,.b]) b=true)(hn:blocks.length<2^31)
  (hE:QF true [.b,.b,.b,.b] blocks k2 x2):
  CR Tryz.prog 160 [[0],[1]] [.lp [0] 0,.p (.agg [PV.bool a,PV.bool b,PV.bool c,PV.bool d])] (Uh 4 size (qN own idx) blocks k2 x2) (zbk true [.b,.b,.b,.b] 4 size (qN own idx) blocks (.agg [PV.bool a,PV.bool b,PV.bool c,PV.bool d])):=by
 obtain⟨hE1,hE2,hE3⟩:=hE
 have hall:k2.all (fun k=>okC [.b,.b,.b,.b] k.cells)=true:=List.all_eq_true.2 fun k hk=>(zJ (hE2 k hk)).2
 have ho2:own=true∨own=false:=by cases own<;>simp
 rcases ho2 with ho|ho<;>
 ·refine zN [1] mixed 10 [20] Tryz.func160 rfl (by kernel_rfl) rfl (by simp) (by simp) ?_
  cases hf:qq [PV.bool a,PV.bool b,PV.bool c,PV.bool d] k2 x2 0 with
  |none=>
   simp (disch:=omega) [go_sem,Tryz.f160,zG,qN,ho,qU,mapOf,Z6,hf]
   refine⟨fun x hx=>by have:=zJ (hE2 x hx);exact this,?_,?_⟩
   ·intro x hx
    obtain⟨l,hl,hx⟩:=List.mem_flatten.1 hx
    rw[List.eq_of_mem_replicate hl]at hx
    simp only[List.mem_cons,List.not_mem_nil,or_false]at hx
    rcases hx with rfl|rfl|rfl|rfl<;>rfl
   refine zF (fun k:Nat=>k≤128) (fun k=>[(20,.p (.int .i64 k))]) (fun k=>[([7],(ja (List.replicate k [PV.bool a,PV.bool b,PV.bool c,PV.bool d]) [PV.bool false,PV.bool false,PV.bool false,PV.bool false]).map .p)]) (fun k=>128-k) 0 (by omega) (by simp[go_sem,LeS,leV,leR,leA,leL,kL,zl]) (fun k hk=>?_)
   simp (disch:=omega) [go_sem]
   refine zq (fun h=>?_) (fun h=>?_)
   ·have w1:IntKind.i64.wrap ((k:Int)+1)=((k+1:Nat):Int):=by rw[wrap64 (by omega) (by omega)];rfl
    have hlen:(ja (List.replicate k [PV.bool a,PV.bool b,PV.bool c,PV.bool d]) [PV.bool false,PV.bool false,PV.bool false,PV.bool false]).length=512:=yf (w:=4) (by simp) rfl (by simp;omega)
    have hput:=yb (vs:=List.replicate k [PV.bool a,PV.bool b,PV.bool c,PV.bool d]) (z:=[PV.bool false,PV.bool false,PV.bool false,PV.bool false]) (v:=[PV.bool a,PV.bool b,PV.bool c,PV.bool d]) (w:=4) (by simp) rfl rfl (by simp;omega)
    simp only[List.length_replicate,←List.replicate_succ',List.map_cons,List.map_nil,zL,List.length_cons,List.length_nil,Nat.zero_add,List.append_assoc,List.cons_append,List.nil_append]at hput
    simp (disch:=omega) [go_sem,w1,hlen,h,hput]
    exact⟨by omega,zj (k+1) (by omega) (by simp[go_sem,LeS,leV,leR,leA,leL,zl]) (by omega)⟩
   ·obtain rfl:k=128:=by omega
    have hr:(qd 128 [PV.bool a,PV.bool b,PV.bool c,PV.bool d]).length=512:=by simp[z7]
    have ht:=ZO hr
    simp only[UL]
    simp (disch:=omega) [go_sem,ht,hr]
    refine⟨⟨rfl,by simp[Tryz.f161]⟩,zh [([0],[0]),([1],[1]),([902],[902]),([903],[903]),([904],[904]),([905],[905])] (yX (Wd own size idx blocks k2 x2 (qd 128 [PV.bool a,PV.bool b,PV.bool c,PV.bool d]) (yr 128 rfl) hb hn)) (by simp[go_sem]) ⟨by simp[go_sem],by simp[go_sem]⟩ (by simp[go_sem,zG,qN,ho]) ?_⟩
    rintro _ _ ⟨kk,bl,rfl,hk1,hbl,rfl⟩
    simp (maxSteps:=1000000) (disch:=omega) [go_sem,zG,qN,ho]
    refine⟨fun x hx=>by have:=zJ (hE2 x hx);exact this,?_⟩
    exact zt [[0],[1]] (.p (.int .i64 kk)) ⟨rfl,by simp⟩ (by simp[go_sem,zg,leA,leT]) ⟨kk,bl,_,_,rfl,hk1,hbl,(QF.grow ⟨hE1,hE2,hE3⟩ hbl).add (v:=.agg [PV.bool a,PV.bool b,PV.bool c,PV.bool d]) rfl hf hk1,by simp[go_sem,zG]⟩
  |some r=>
   obtain⟨j,x⟩:=r
   obtain⟨_,k,h3,h4,h5⟩:=Zs (kc:=[.b,.b,.b,.b]) rfl hall hf
   simp only[Nat.sub_zero]at h3 h5
   obtain⟨n,h6,h7⟩:=hE3 j k h3
   rw[h5]at h6
   injection h6 with h6
   subst h6
   rw[h4]at h7
   simp (disch:=omega) [go_sem,Tryz.f160,zG,qN,ho,qU,mapOf,Z6,hf]
   refine⟨fun x hx=>by have:=zJ (hE2 x hx);exact this,?_⟩
   exact zt [[0],[1]] (.p (.int .i64 n)) ⟨rfl,by simp⟩ (by simp[go_sem,zg,leA,leT]) ⟨n,blocks,k2,x2,rfl,h7,.inl rfl,⟨hE1,hE2,hE3⟩,by simp[go_sem,zG]⟩
theorem X1 [Gi](l:List (Piece Flags))(size:Nat)(h0:0<size)(hs:size<2^28)(hn:l.length<2^31)(hb:∀p∈l, -1000000000≤p.f∧p.f≤1000000000):
  CR Tryz.prog 106 [] [.p (.int .i64 size),.p (.agg [PV.bool false,PV.bool false,PV.bool false,PV.bool false]),.p (kx l)] []
   (fun x rs=>∃idx blocks,x=.lp [20] 0∧Q6 4 size (fun j=>[PV.bool (qv ⟨false,false,false,false⟩ j l).p,PV.bool (qv ⟨false,false,false,false⟩ j l).w,PV.bool (qv ⟨false,false,false,false⟩ j l).l,PV.bool (qv ⟨false,false,false,false⟩ j l).o]) idx blocks∧size≤128*idx.length∧rs=[([20],[.p (.int .i64 size),.os [20,1] 1 (idx.map fun k:Nat=>.int .i64 k),.os [20,2] 512 (blocks.map .agg)])]):=by
 refine zN [200026] mixed 16 [88] Tryz.func106 rfl (by kernel_rfl) rfl (by simp) (by simp) ?_
 have e0:¬(size:Int)<1:=by omega
 have w0:IntKind.i64.wrap ((size:Int)-1)=(size:Int)-1:=wrap64 (by omega) (by omega)
 simp (maxSteps:=1000000) (disch:=omega) [go_sem,Tryz.f106,e0,w0]
 refine⟨rfl,⟨rfl,rfl⟩,⟨rfl,by simp[Tryz.f159]⟩,?_⟩
 refine zh [] (V1 l ⟨false,false,false,false⟩ 0 ((size:Int)-1) hn hb) (by simp[go_sem]) ⟨by simp[go_sem],by simp[go_sem,z8]⟩ (by simp[go_sem]) ?_
 rintro y rs ⟨rfl,rfl⟩
 obtain⟨f1,f2,f3⟩:=Zc ⟨false,false,false,false⟩ 0 l ((size:Int)-1) (by omega)
 generalize qZ ⟨false,false,false,false⟩ 0 l ((size:Int)-1)=r at f1 f2 f3
 obtain⟨v0,u0⟩:=r
 simp only at f1 f2 f3
 simp (maxSteps:=1000000) (disch:=omega) [go_sem,z8]
 refine zF (fun b:BS Flags=>BI true [.b,.b,.b,.b] 4 size (fun v=>[PV.bool v.p,PV.bool v.w,PV.bool v.l,PV.bool v.o]) ⟨false,false,false,false⟩ l b) (fun b=>[(10,.p (.int .i64 b.u)),(11,.p (.int .i64 (128*(b.idx.length:Int))))]) (fun b=>([9],[.p (PV.bool b.v.p),.p (PV.bool b.v.w),.p (PV.bool b.v.l),.p (PV.bool b.v.o)])::yx 4 size b) (fun b=>size+128-128*b.idx.length) ⟨[],[],[],[],v0,u0⟩
  ⟨.nil _ _ _,by simp,⟨rfl,by simp,by simp⟩,by simp,by simp,f1,by show u0< (size:Int);omega,fun j h1 h2=>f3 j (by simpa using h1) h2⟩ ?_ (fun b hI=>?_)
 ·simp[go_sem,LeS,leV,leR,leA,leL,yx,ZU]
 obtain⟨idx,blocks,k2,x2,v,u⟩:=b
 obtain⟨i1,i2,i3,i4,i5,i6,i7,i8⟩:=hI
 simp only at i1 i2 i3 i4 i5 i6 i7 i8
 simp (maxSteps:=1000000) (disch:=omega) [go_sem,yx]
 refine zq (fun hat=>?_) (fun hat=>?_)
 ·simp (maxSteps:=1000000) (disch:=omega) [go_sem]
  refine Zn (fun r:Flags×Int=>0≤r.2∧r.2<size∧128*(idx.length:Int)≤r.2∧∀j,128*(idx.length:Int)≤j→j≤r.2→qv ⟨false,false,false,false⟩ j l=r.1) (fun r=>[(10,.p (.int .i64 r.2))]) (fun r=>[([9],[.p (PV.bool r.1.p),.p (PV.bool r.1.w),.p (PV.bool r.1.l),.p (PV.bool r.1.o)])]) (zq (fun hu=>?_) (fun hu=>?_)) ?_
  ·simp (maxSteps:=1000000) (disch:=omega) [go_sem]
   refine⟨⟨rfl,by simp[Tryz.f159]⟩,?_⟩
   refine zh [] (V1 l ⟨false,false,false,false⟩ (128*(idx.length:Int)) ((size:Int)-1) hn hb) (by simp[go_sem]) ⟨by simp[go_sem],by simp[go_sem,z8,w0]⟩ (by simp[go_sem]) ?_
   rintro y rs ⟨rfl,rfl⟩
   obtain⟨g1,g2,g3⟩:=Zc ⟨false,false,false,false⟩ (128*(idx.length:Int)) l ((size:Int)-1) (by omega)
   generalize qZ ⟨false,false,false,false⟩ (128*(idx.length:Int)) l ((size:Int)-1)=r at g1 g2 g3
   obtain⟨v',u'⟩:=r
   simp only at g1 g2 g3
   simp (maxSteps:=1000000) (disch:=omega) [go_sem,z8]
   exact zR (v',u') ⟨by show 0≤u';omega,by show u'< (size:Int);omega,g1,g3⟩ (by simp[go_sem])
  ·simp (maxSteps:=1000000) (disch:=omega) [go_sem]
   exact zR (v,u) ⟨i6,i7,by show 128*(idx.length:Int)≤u;omega,i8⟩ (by simp[go_sem])
  ·clear i6 i7 i8
   rintro⟨v',u'⟩ ts ⟨j1,j2,j3,j4⟩
   simp only at j1 j2 j3 j4
   have w1:IntKind.i64.wrap (128*(idx.length:Int)+128)=128*(idx.length:Int)+128:=wrap64 (by omega) (by omega)
   have w2:IntKind.i64.wrap (min (128*(idx.length:Int)+128) (size:Int)-1)=min (128*(idx.length:Int)+128) (size:Int)-1:=wrap64 (by omega) (by omega)
   simp (maxSteps:=1000000) (disch:=omega) [go_sem,w1,w2]
   refine zq (fun hu=>?_) (fun hu=>?_)
   ·simp (maxSteps:=1000000) (disch:=omega) [go_sem]
    refine⟨⟨rfl,by simp[Tryz.f160]⟩,?_⟩
    refine zh [([0],[25]),([1],[20]),([902],[22]),([903],[23]),([904],[20,1]),([905],[20,2])] (zdT true size idx blocks k2 x2 v'.p v'.w v'.l v'.o i2 (by omega) i3) (by simp[go_sem]) ⟨by simp[go_sem],by simp[go_sem]⟩ (by simp[go_sem,zG,qN]) ?_
    rintro _ _ ⟨kk,bl,k2',x2',rfl,hk,hbl,hE,rfl⟩
    simp (maxSteps:=1000000) (disch:=omega) [go_sem,zG,qN]
    have hbn:bl.length≤blocks.length+1:=by rcases hbl with rfl|rfl<;>simp
    have i1':=i1.grow hbl
    have i2':∀x∈bl,okC (qd 128 [.b,.b,.b,.b]) x=true:=fun x hx=>by
     rcases hbl with rfl|rfl
     ·exact i2 x hx
     ·rcases List.mem_append.1 hx with hx|hx
      ·exact i2 x hx
      ·rw[List.mem_singleton.1 hx];exact yr 128 rfl
    refine zF (fun id:List Nat=>Q6 4 size (fun j=>[PV.bool (qv ⟨false,false,false,false⟩ j l).p,PV.bool (qv ⟨false,false,false,false⟩ j l).w,PV.bool (qv ⟨false,false,false,false⟩ j l).l,PV.bool (qv ⟨false,false,false,false⟩ j l).o]) id bl∧idx.length≤id.length∧128*id.length<size+128∧(id.length=idx.length∨idx.length<id.length)) (fun id=>[(11,.p (.int .i64 (128*(id.length:Int))))]) (fun id=>[([20],[.p (.int .i64 size),.os [20,1] 1 (id.map fun k:Nat=>.int .i64 k),.os [20,2] 512 (bl.map .agg)])]) (fun id=>size+128-128*id.length) idx ⟨i1',Nat.le_refl _,i5,.inl rfl⟩ ?_ (fun id hid=>?_)
    ·simp[go_sem,LeS,leV,leR,leA,leL]
    obtain⟨q1,q2,q3,q4⟩:=hid
    have w3:IntKind.i64.wrap (128*(id.length:Int)+128)=128*(id.length:Int)+128:=wrap64 (by omega) (by omega)
    have w4:IntKind.i64.wrap (min (128*(id.length:Int)+128) (size:Int)-1)=min (128*(id.length:Int)+128) (size:Int)-1:=wrap64 (by omega) (by omega)
    have w5:IntKind.i64.wrap (128*(id.length:Int)-128)=128*(id.length:Int)-128:=wrap64 (by omega) (by omega)
    simp (maxSteps:=1000000) (disch:=omega) [go_sem,w3,w4]
    refine qn (fun hc=>?_) (fun hc=>?_)
    ·have hc':128*(id.length:Int)<size∧min (128*(id.length:Int)+128) (size:Int)-1≤u':=by simpa using hc
     simp (maxSteps:=1000000) (disch:=omega) [go_sem,w3]
     refine⟨by omega,zj (id++[kk]) ⟨q1.add hk (by simp[z7,PV.cells]) (fun j hj1 hj2=>?_),by simp;omega,by simp;omega,.inr (by simp;omega)⟩ ?_ (by simp;omega)⟩
     ·rw[uV (w:=4) rfl hj1,j4 (((128*id.length+j:Nat):Int)) (by omega) (by omega)]
      rfl
     ·simp[go_sem,LeS,leV,leR,leA,leL,Int.mul_add]
    ·have hc':¬(128*(id.length:Int)<size∧min (128*(id.length:Int)+128) (size:Int)-1≤u'):=fun h=>by simp[h.1,h.2]at hc
     have hlt:idx.length<id.length:=by
      rcases q4 with q4|q4
      ·exact absurd ⟨by rw[q4];exact hat,by rw[q4];exact hu⟩ hc'
      ·exact q4
     have w6:IntKind.i64.wrap (128*(id.length:Int)-128+128)=128*(id.length:Int):=by rw[wrap64 (by omega) (by omega)];omega
     have w7:IntKind.i64.wrap (128*(id.length:Int))=128*(id.length:Int):=wrap64 (by omega) (by omega)
     simp (maxSteps:=1000000) (disch:=omega) [go_sem,w5,w7]
     exact zj ⟨id,bl,k2',x2',v',u'⟩ ⟨q1,i2',hE,by show bl.length≤id.length;omega,by show 128*id.length<size+128;omega,j1,j2,fun j h1 h2=>j4 j (by simp only at h1;omega) h2⟩ (by simp[go_sem,LeS,leV,leR,leA,leL]) (by show size+128-128*id.length<size+128-128*idx.length;omega)
   ·simp (maxSteps:=1000000) (disch:=omega) [go_sem]
    refine⟨?_,?_⟩
    ·intro x hx
     obtain⟨l,hl,hx⟩:=List.mem_flatten.1 hx
     rw[List.eq_of_mem_replicate hl]at hx
     simp only[List.mem_cons,List.not_mem_nil,or_false]at hx
     rcases hx with rfl|rfl|rfl|rfl<;>rfl
    refine zF (fun r:List (List PV)×Flags×Int=>r.1.length≤128∧(∀x∈r.1,okC [.b,.b,.b,.b] x=true)∧(∀j:Nat,j<r.1.length→128*idx.length+j<size→r.1[j]?=some [PV.bool (qv ⟨false,false,false,false⟩ ((128*idx.length+j:Nat):Int) l).p,PV.bool (qv ⟨false,false,false,false⟩ ((128*idx.length+j:Nat):Int) l).w,PV.bool (qv ⟨false,false,false,false⟩ ((128*idx.length+j:Nat):Int) l).l,PV.bool (qv ⟨false,false,false,false⟩ ((128*idx.length+j:Nat):Int) l).o])∧0≤r.2.2∧r.2.2<size∧∀j:Int,128*(idx.length:Int)+r.1.length≤j→j≤r.2.2→qv ⟨false,false,false,false⟩ j l=r.2.1)
     (fun r=>[(88,.p (.int .i64 (r.1.length:Nat))),(10,.p (.int .i64 r.2.2))]) (fun r=>[([14],(ja r.1 [PV.bool false,PV.bool false,PV.bool false,PV.bool false]).map .p),([9],[.p (PV.bool r.2.1.p),.p (PV.bool r.2.1.w),.p (PV.bool r.2.1.l),.p (PV.bool r.2.1.o)])]) (fun r=>128-r.1.length) ([],v',u')
     ⟨by simp,by simp,by simp,j1,j2,fun j h1 h2=>j4 j (by simpa using h1) h2⟩ ?_ (fun r hr=>?_)
    ·simp[go_sem,LeS,leV,leR,leA,leL,kL,zl]
    obtain⟨vs,v2,u2⟩:=r
    obtain⟨q1,q2,q3,q4,q5,q6⟩:=hr
    simp only at q1 q2 q3 q4 q5 q6
    simp (maxSteps:=1000000) (disch:=omega) [go_sem]
    refine zq (fun hc=>?_) (fun hc=>?_)
    ·have w3:IntKind.i64.wrap (128*(idx.length:Int)+vs.length)=128*(idx.length:Int)+vs.length:=wrap64 (by omega) (by omega)
     simp (maxSteps:=1000000) (disch:=omega) [go_sem,w3]
     refine Zn (fun r:Flags×Int=>0≤r.2∧r.2<size∧(128*(idx.length:Int)+vs.length<size→128*(idx.length:Int)+vs.length≤r.2)∧∀j,128*(idx.length:Int)+vs.length≤j→j≤r.2→qv ⟨false,false,false,false⟩ j l=r.1) (fun r=>[(10,.p (.int .i64 r.2))]) (fun r=>[([9],[.p (PV.bool r.1.p),.p (PV.bool r.1.w),.p (PV.bool r.1.l),.p (PV.bool r.1.o)])]) (qn (fun hu=>?_) (fun hu=>?_)) ?_
     ·have hu':u2<128*(idx.length:Int)+vs.length∧128*(idx.length:Int)+vs.length<size:=by simpa using hu
      simp (maxSteps:=1000000) (disch:=omega) [go_sem,w3]
      refine⟨⟨rfl,by simp[Tryz.f159]⟩,?_⟩
      refine zh [] (V1 l ⟨false,false,false,false⟩ (128*(idx.length:Int)+vs.length) ((size:Int)-1) hn hb) (by simp[go_sem]) ⟨by simp[go_sem],by simp[go_sem,z8,w0]⟩ (by simp[go_sem]) ?_
      rintro y rs ⟨rfl,rfl⟩
      obtain⟨g1,g2,g3⟩:=Zc ⟨false,false,false,false⟩ (128*(idx.length:Int)+vs.length) l ((size:Int)-1) (by omega)
      generalize qZ ⟨false,false,false,false⟩ (128*(idx.length:Int)+vs.length) l ((size:Int)-1)=r at g1 g2 g3
      obtain⟨v3,u3⟩:=r
      simp only at g1 g2 g3
      simp (maxSteps:=1000000) (disch:=omega) [go_sem,z8]
      exact zR (v3,u3) ⟨by show 0≤u3;omega,by show u3< (size:Int);omega,fun _=>g1,g3⟩ (by simp[go_sem])
     ·have hu':¬(u2<128*(idx.length:Int)+vs.length∧128*(idx.length:Int)+vs.length<size):=fun h=>by simp[h.1,h.2]at hu
      simp (maxSteps:=1000000) (disch:=omega) [go_sem]
      exact zR (v2,u2) ⟨q4,q5,fun h=>by show 128*(idx.length:Int)+vs.length≤u2;omega,q6⟩ (by simp[go_sem])
     ·rintro⟨v3,u3⟩ ts2 ⟨k1,k2',k3,k4⟩
      simp only at k1 k2' k3 k4
      have hw:∀x∈vs,x.length=4:=fun x hx=>by have:=qY (q2 x hx);simpa using this
      have hlen:(ja vs [PV.bool false,PV.bool false,PV.bool false,PV.bool false]).length=512:=yf (w:=4) hw rfl (by omega)
      have hput:=yb (vs:=vs) (z:=[PV.bool false,PV.bool false,PV.bool false,PV.bool false]) (v:=[PV.bool v3.p,PV.bool v3.w,PV.bool v3.l,PV.bool v3.o]) (w:=4) hw rfl rfl (by omega)
      simp only[List.map_cons,List.map_nil,zL,List.length_cons,List.length_nil,Nat.zero_add,List.append_assoc,List.cons_append,List.nil_append]at hput
      have w4:IntKind.i64.wrap ((vs.length:Int)+1)=(vs.length:Int)+1:=wrap64 (by omega) (by omega)
      simp (maxSteps:=1000000) (disch:=omega) [go_sem,w4,hlen,hput,hc]
      refine⟨by omega,zj (vs++[[PV.bool v3.p,PV.bool v3.w,PV.bool v3.l,PV.bool v3.o]],v3,u3) ⟨by simp;omega,fun x hx=>?_,fun j hj1 hj2=>?_,k1,k2',fun j h1 h2=>k4 j (by simp at h1;omega) h2⟩ (by simp[go_sem,LeS,leV,leR,leA,leL,zl]) (by simp;omega)⟩
      ·rcases List.mem_append.1 hx with hx|hx
       ·exact q2 x hx
       ·rw[List.mem_singleton.1 hx];rfl
      ·by_cases hj:j<vs.length
       ·rw[List.getElem?_append_left hj];exact q3 j hj hj2
       ·have hjl:j=vs.length:=by simp at hj1;omega
        subst hjl
        rw[List.getElem?_append_right (Nat.le_refl _),Nat.sub_self]
        have hv:qv ⟨false,false,false,false⟩ (128*(idx.length:Int)+vs.length) l=v3:=k4 _ (by omega) (by have:=k3 (by omega);omega)
        rw[hv];rfl
    ·have hvl:vs.length=128:=by omega
     have hw:∀x∈vs,x.length=4:=fun x hx=>by have:=qY (q2 x hx);simpa using this
     have hrow:ja vs [PV.bool false,PV.bool false,PV.bool false,PV.bool false]=vs.flatten:=by simp[ja,hvl,qd]
     have hok:okC (qd 128 [.b,.b,.b,.b]) vs.flatten=true:=VC q2 hvl
     have hfl:vs.flatten.length=512:=by have:=qY hok;simpa[z7]using this
     simp only[hrow]
     have hpart:∀j,j<128→128*idx.length+j<size→(vs.flatten.drop (j*4)).take 4=[PV.bool (qv ⟨false,false,false,false⟩ ((128*idx.length+j:Nat):Int) l).p,PV.bool (qv ⟨false,false,false,false⟩ ((128*idx.length+j:Nat):Int) l).w,PV.bool (qv ⟨false,false,false,false⟩ ((128*idx.length+j:Nat):Int) l).l,PV.bool (qv ⟨false,false,false,false⟩ ((128*idx.length+j:Nat):Int) l).o]:=fun j h1 h2=>by
      have:=QD (w:=4) (t:=[]) hw (q3 j (by omega) h2)
      simpa using this
     generalize vs.flatten=cs at hok hfl hpart
     have ht:=ZO hfl
     simp (maxSteps:=1000000) (disch:=omega) [go_sem]
     refine ZC uZ (by kernel_rfl) ?_
     simp (maxSteps:=1000000) (disch:=omega) [go_sem,uZ,ht,hfl]
     refine⟨?_,?_⟩
     ·refine⟨⟨rfl,by simp[Tryz.f161]⟩,zh [([0],[25]),([1],[20]),([902],[22]),([903],[23]),([905],[20,2])] (yX (Wd false size idx blocks k2 x2 cs hok i2 (by omega))) (by simp[go_sem]) ⟨by simp[go_sem],by simp[go_sem]⟩ (by simp[go_sem,zG,qN]) ?_⟩
      rintro _ _ ⟨kk,bl,rfl,hk,hbl,rfl⟩
      have hbn:bl.length≤blocks.length+1:=by rcases hbl with rfl|rfl<;>simp
      have i2':∀x∈bl,okC (qd 128 [.b,.b,.b,.b]) x=true:=fun x hx=>by
       rcases hbl with rfl|rfl
       ·exact i2 x hx
       ·rcases List.mem_append.1 hx with hx|hx
        ·exact i2 x hx
        ·rw[List.mem_singleton.1 hx];exact hok
      simp (maxSteps:=1000000) (disch:=omega) [go_sem,zG,qN,w1]
      refine⟨by omega,zj ⟨idx++[kk],bl,k2,x2,v2,u2⟩ ⟨(i1.grow hbl).add hk (by simpa using hfl) hpart,i2',i3.grow hbl,by show bl.length≤(idx++[kk]).length;simp;omega,by show 128*(idx++[kk]).length<size+128;simp;omega,q4,q5,fun j h1 h2=>q6 j (by simp at h1;omega) h2⟩ (by simp[go_sem,LeS,leV,leR,leA,leL,Int.mul_add]) (by show size+128-128*(idx++[kk]).length<size+128-128*idx.length;simp;omega)⟩
     ·refine⟨⟨rfl,by simp[Tryz.f161]⟩,zh [([0],[25]),([1],[20]),([902],[22]),([903],[23]),([904],[20,1]),([905],[20,2])] (yX (Wd true size idx blocks k2 x2 cs hok i2 (by omega))) (by simp[go_sem]) ⟨by simp[go_sem],by simp[go_sem]⟩ (by simp[go_sem,zG,qN]) ?_⟩
      rintro _ _ ⟨kk,bl,rfl,hk,hbl,rfl⟩
      have hbn:bl.length≤blocks.length+1:=by rcases hbl with rfl|rfl<;>simp
      have i2':∀x∈bl,okC (qd 128 [.b,.b,.b,.b]) x=true:=fun x hx=>by
       rcases hbl with rfl|rfl
       ·exact i2 x hx
       ·rcases List.mem_append.1 hx with hx|hx
        ·exact i2 x hx
        ·rw[List.mem_singleton.1 hx];exact hok
      simp (maxSteps:=1000000) (disch:=omega) [go_sem,zG,qN,w1]
      refine⟨by omega,zj ⟨idx++[kk],bl,k2,x2,v2,u2⟩ ⟨(i1.grow hbl).add hk (by simpa using hfl) hpart,i2',i3.grow hbl,by show bl.length≤(idx++[kk]).length;simp;omega,by show 128*(idx++[kk]).length<size+128;simp;omega,q4,q5,fun j h1 h2=>q6 j (by simp at h1;omega) h2⟩ (by simp[go_sem,LeS,leV,leR,leA,leL,Int.mul_add]) (by show size+128-128*(idx++[kk]).length<size+128-128*idx.length;simp;omega)⟩
 ·simp (maxSteps:=1000000) (disch:=omega) [go_sem]
  refine zt [[20]] (.lp [20] 0) ⟨rfl,by simp⟩ (by simp[go_sem,zg,leA,leT]) ⟨rfl,idx,blocks,i1,by omega,by simp[go_sem]⟩
end
end Go.Proofs.YtfjdbbpimklecaaGreatDoor
