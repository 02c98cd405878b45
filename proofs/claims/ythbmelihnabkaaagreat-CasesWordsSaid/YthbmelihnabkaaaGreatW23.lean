/- A part of the proof of this seat's statements, by an abstract machine: what each operation does to values, and what the law's functions compute. Conditions: as each law says. -/
import Derived.Test.YthbmelihnabkaaaGreatW19
import Derived.Test.YthbmelihnabkaaaGreatW20
section
namespace Go.Proofs.YthbmelihnabkaaaGreat
open Go.AM
set_option maxHeartbeats 4000000
set_option maxRecDepth 10000
theorem VM [Gi](own:Bool)(size:Nat)(idx:List Nat)(blocks:List (List PV))(k2 x2:List PV)(cs:List PV)(hc:okC (qH 128 [.i .i32,.i .i32]) cs=true)(hb:∀b∈blocks,okC (qH 128 [.i .i32,.i .i32]) b=true)(hn:blocks.length<2^31):
  CR Tryz.prog 102 [[0],[1]] [.lp [0] 0,.p (.agg cs)] (zV 2 size (Zo own idx) [905] blocks k2 x2)
   (fun x rs=>(∃k:Nat,x=.p (.int .i64 k)∧blocks[k]?=some cs∧rs=zV 2 size (Zo own idx) [905] blocks k2 x2)∨
    (x=.p (.int .i64 blocks.length)∧rs=zV 2 size (Zo own idx) [1,2] (blocks++[cs]) k2 x2)):=by
 have hl:cs.length=256:=by simpa[qC]using ZF hc
 have ht:=QN hl
 have hall:(blocks.map PV.agg).all (fun k=>okC (qH 128 [.i .i32,.i .i32]) k.cells)=true:=by simpa[PV.cells]using hb
 cases own<;>
 ·refine zS [1,200005] mixed 8 [] Tryz.func102 rfl (by kernel_rfl) rfl (by simp) (by simp) ?_
  cases hf:qK cs (blocks.map PV.agg) (ja blocks.length) 0 with
  |none=>
   simp (disch:=omega) [go_sem,Tryz.f102,zV,Zo,Zl,mapOf,Q8,ht,hl,hc,hf]
   refine⟨hb,Zh VL (by kernel_rfl) ?_⟩
   simp (disch:=omega) [go_sem,VL,ht,hl]
   have e0:(qH 128 [PV.int IntKind.i32 0,PV.int IntKind.i32 0]).length=256:=by simp[qC]
   have e1:∀x∈qH 128 [PV.int IntKind.i32 0,PV.int IntKind.i32 0],(match x with|PV.agg cs=>false|PV.opq u=>u.oneCell'|x=>true)=true:=fun x hx=>by
    obtain⟨l,hl,hx⟩:=List.mem_flatten.1 hx
    rw[List.eq_of_mem_replicate hl]at hx
    simp only[List.mem_cons,List.not_mem_nil,or_false]at hx
    rcases hx with rfl|rfl<;>rfl
   have u1:kW (PV.agg cs) (List.map PV.agg blocks) (ja blocks.length)=List.map PV.agg blocks++[PV.agg cs]:=by simp[kW,PV.cells,hf]
   have u2:yb (PV.agg cs) (PV.int IntKind.i64 ↑blocks.length) (List.map PV.agg blocks) (ja blocks.length)=ja (blocks.length+1):=by rw[WA];simp only[yb,PV.cells,hf]
   refine⟨⟨e0,e1⟩,⟨e0,by omega⟩,?_⟩
   exact zi [[0],[1]] (.p (.int .i64 blocks.length)) ⟨rfl,by simp⟩ (by simp[go_sem,zd,leA,leT]) (.inr ⟨rfl,by simp[go_sem,u1,u2]⟩)
  |some r=>
   obtain⟨j,x⟩:=r
   obtain⟨_,k,h3,h4,h5⟩:=Qc hc hall hf
   simp only[Nat.sub_zero]at h3 h5
   simp only[List.getElem?_map,Option.map_eq_some_iff]at h3
   obtain⟨b,h3,rfl⟩:=h3
   simp only[PV.cells]at h4
   subst h4
   have hx:x=.int .i64 (j:Nat):=by
    simp only[ja,List.getElem?_map,Option.map_eq_some_iff]at h5
    obtain⟨q,hq,rfl⟩:=h5
    rw[List.getElem?_range (List.getElem?_eq_some_iff.1 h3).1]at hq
    injection hq with hq;rw[hq]
   subst hx
   simp (disch:=omega) [go_sem,Tryz.f102,zV,Zo,Zl,mapOf,Q8,ht,hl,hc,hf]
   refine⟨hb,?_⟩
   exact zi [[0],[1]] (.p (.int .i64 j)) ⟨rfl,by simp⟩ (by simp[go_sem,zd,leA,leT]) (.inl ⟨j,rfl,h3,by simp[go_sem]⟩)
end Go.Proofs.YthbmelihnabkaaaGreat
end
section
namespace Go.Proofs.YthbmelihnabkaaaGreat
open Go.AM
set_option maxHeartbeats 4000000
set_option maxRecDepth 10000
theorem zh6 [Gi](own:Bool)(size:Nat)(idx:List Nat)(blocks:List (List PV))(k2 x2:List PV)(a b:Int)(hb:∀b∈blocks,okC (qH 128 [.i .i32,.i .i32]) b=true)(hn:blocks.length<2^31)
  (hE:jX true [.i .i32,.i .i32] blocks k2 x2):
  CR Tryz.prog 101 [[0],[1]] [.lp [0] 0,.p (.agg [PV.int .i32 a,PV.int .i32 b])] (YH 2 size (Zo own idx) blocks k2 x2) (zfa true [.i .i32,.i .i32] 2 size (Zo own idx) blocks (.agg [PV.int .i32 a,PV.int .i32 b])):=by
 obtain⟨hE1,hE2,hE3⟩:=hE
 have hall:k2.all (fun k=>okC [.i .i32,.i .i32] k.cells)=true:=List.all_eq_true.2 fun k hk=>(zZ (hE2 k hk)).2
 have ho2:own=true∨own=false:=by cases own<;>simp
 rcases ho2 with ho|ho<;>
 ·refine zS [1] mixed 10 [20] Tryz.func101 rfl (by kernel_rfl) rfl (by simp) (by simp) ?_
  cases hf:qK [PV.int .i32 a,PV.int .i32 b] k2 x2 0 with
  |none=>
   simp (disch:=omega) [go_sem,Tryz.f101,zV,Zo,ho,Zl,mapOf,Q8,hf]
   refine⟨fun x hx=>by have:=zZ (hE2 x hx);exact this,?_,?_⟩
   ·intro x hx
    obtain⟨l,hl,hx⟩:=List.mem_flatten.1 hx
    rw[List.eq_of_mem_replicate hl]at hx
    simp only[List.mem_cons,List.not_mem_nil,or_false]at hx
    rcases hx with rfl|rfl<;>rfl
   refine zm (fun k:Nat=>k≤128) (fun k=>[(20,.p (.int .i64 k))]) (fun k=>[([7],(yf (List.replicate k [PV.int .i32 a,PV.int .i32 b]) [PV.int .i32 0,PV.int .i32 0]).map .p)]) (fun k=>128-k) 0 (by omega) (by simp[go_sem,LeS,leV,leR,leA,leL,xY,zj]) (fun k hk=>?_)
   simp (disch:=omega) [go_sem]
   refine zw (fun h=>?_) (fun h=>?_)
   ·have w1:IntKind.i64.wrap ((k:Int)+1)=((k+1:Nat):Int):=by rw[wrap64 (by omega) (by omega)];rfl
    have hlen:(yf (List.replicate k [PV.int .i32 a,PV.int .i32 b]) [PV.int .i32 0,PV.int .i32 0]).length=256:=we (w:=2) (by simp) rfl (by simp;omega)
    have hput:=x5 (vs:=List.replicate k [PV.int .i32 a,PV.int .i32 b]) (z:=[PV.int .i32 0,PV.int .i32 0]) (v:=[PV.int .i32 a,PV.int .i32 b]) (w:=2) (by simp) rfl rfl (by simp;omega)
    simp only[List.length_replicate,←List.replicate_succ',List.map_cons,List.map_nil,z7,List.length_cons,List.length_nil,Nat.zero_add,List.append_assoc,List.cons_append,List.nil_append]at hput
    simp (disch:=omega) [go_sem,w1,hlen,h,hput]
    exact⟨by omega,zf (k+1) (by omega) (by simp[go_sem,LeS,leV,leR,leA,leL,zj]) (by omega)⟩
   ·obtain rfl:k=128:=by omega
    have hr:(qH 128 [PV.int .i32 a,PV.int .i32 b]).length=256:=by simp[qC]
    have ht:=QN hr
    simp only[Jw]
    simp (disch:=omega) [go_sem,ht,hr]
    refine⟨⟨rfl,by simp[Tryz.f102]⟩,zc [([0],[0]),([1],[1]),([902],[902]),([903],[903]),([904],[904]),([905],[905])] (wZ (VM own size idx blocks k2 x2 (qH 128 [PV.int .i32 a,PV.int .i32 b]) (xM 128 rfl) hb hn)) (by simp[go_sem]) ⟨by simp[go_sem],by simp[go_sem]⟩ (by simp[go_sem,zV,Zo,ho]) ?_⟩
    rintro _ _ ⟨kk,bl,rfl,hk1,hbl,rfl⟩
    simp (maxSteps:=1000000) (disch:=omega) [go_sem,zV,Zo,ho]
    refine⟨fun x hx=>by have:=zZ (hE2 x hx);exact this,?_⟩
    exact zi [[0],[1]] (.p (.int .i64 kk)) ⟨rfl,by simp⟩ (by simp[go_sem,zd,leA,leT]) ⟨kk,bl,_,_,rfl,hk1,hbl,(jX.grow ⟨hE1,hE2,hE3⟩ hbl).add (v:=.agg [PV.int .i32 a,PV.int .i32 b]) rfl hf hk1,by simp[go_sem,zV]⟩
  |some r=>
   obtain⟨j,x⟩:=r
   obtain⟨_,k,h3,h4,h5⟩:=Qc (kc:=[.i .i32,.i .i32]) rfl hall hf
   simp only[Nat.sub_zero]at h3 h5
   obtain⟨n,h6,h7⟩:=hE3 j k h3
   rw[h5]at h6
   injection h6 with h6
   subst h6
   rw[h4]at h7
   simp (disch:=omega) [go_sem,Tryz.f101,zV,Zo,ho,Zl,mapOf,Q8,hf]
   refine⟨fun x hx=>by have:=zZ (hE2 x hx);exact this,?_⟩
   exact zi [[0],[1]] (.p (.int .i64 n)) ⟨rfl,by simp⟩ (by simp[go_sem,zd,leA,leT]) ⟨n,blocks,k2,x2,rfl,h7,.inl rfl,⟨hE1,hE2,hE3⟩,by simp[go_sem,zV]⟩
end Go.Proofs.YthbmelihnabkaaaGreat
end
