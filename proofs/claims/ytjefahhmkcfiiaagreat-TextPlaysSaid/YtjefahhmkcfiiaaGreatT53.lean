/- A part of the proof of this seat's statements, by an abstract machine: what each operation does to values, and what the law's functions compute. Conditions: as each law says. -/
import Derived.Test.YtjefahhmkcfiiaaGreatT52
import Derived.Test.YtjefahhmkcfiiaaGreatT48
import Derived.Test.YtjefahhmkcfiiaaGreatT40
import Derived.Test.YtjefahhmkcfiiaaGreatT45
import Derived.Test.YtjefahhmkcfiiaaGreatT44
import Derived.Test.YtjefahhmkcfiiaaGreatT36
section
namespace Go.Proofs.YtjefahhmkcfiiaaGreat
open Go.AM
set_option maxHeartbeats 4000000
set_option maxRecDepth 10000
attribute [local irreducible] za
theorem zix [Gi]:CR Tryz.prog 158 [] [.p (QL [])] [] (is (.p (QL []))):=by
 intro w g vs hargs hG
 have hv:∃a cap,vs=[.slice a 0 cap]:=by
  simp only[zt,zc,QL,Zt,List.map_nil,zl]at hargs
  obtain⟨v,vs',rfl,h,rfl⟩:=hargs
  rcases h with ⟨_,a,cap,rfl⟩|⟨b,o,cap,rfl,_⟩
  ·exact⟨_,_,rfl⟩
  ·exact⟨_,_,rfl⟩
 obtain⟨a,cap,rfl⟩:=hv
 have hres:∀(g':Gh) (w':World) (a':Option Addr) (c':Nat),zc g' w' (.p (QL [])) (.slice a' 0 c'):=fun g' w' a' c'=>by
  simp only[zc,QL,Zt,List.map_nil,zl];exact .inl ⟨trivial,_,_,rfl⟩
 cases a with
 |none=>
  refine(JU cap w).mono ?_
  rintro e w' ⟨rfl,rfl⟩
  let g2:Gh:=⟨g.fr,fun _=>.prot⟩
  exact⟨_,.p (QL []),[],g2,rfl,⟨rfl,rfl⟩,hres _ _ _ _,⟨fun b t h=>(by cases h),fun b b' t h=>(by cases h),fun b b' t h=>(by cases h),fun b h=>absurd rfl h,hG.frb,fun b arr e=>⟨rfl,(hG.gl b arr e).2⟩⟩,
   ⟨fun d _ _=>⟨rfl,rfl,rfl⟩,Ext.refl _ _,⟨rfl,rfl,rfl⟩,Nat.le_refl _,fun b t _ ht=>(by cases ht)⟩⟩
 |some q=>
  refine(JA q cap w).mono ?_
  rintro e w' ⟨v',rfl,⟨_,hv⟩,hne,hB⟩
  rcases hv with ⟨rfl,_⟩|⟨b,c',cur,rfl,h1,h2,_⟩
  ·exact absurd rfl hne
  ·have hlt:w.heap.size<w'.heap.size:=by
    have:b<w'.heap.size:=by
     rcases Nat.lt_or_ge b w'.heap.size with q|q
     ·exact q
     ·rw[Array.getElem?_eq_none q]at h2;cases h2
    omega
   have c:Chg g w w' w.heap.size:=⟨fun d hd _=>hB.block d hd,hG.frb _ (Nat.le_refl _),.inl (Nat.le_refl _),hlt,hB.size,⟨hB.os,hB.tape,hB.output⟩⟩
   exact⟨_,.p (QL []),[],ngh g w.heap.size 0 .prot,rfl,⟨rfl,rfl⟩,hres _ _ _ _,c.zmu hG 0 [],c.aft hG 0 .prot⟩
theorem zjL [Gi](l:List Nat)(hn:l.length<2^31):CR Tryz.prog 158 [] [.p (QL l)] [] (is (.p (QL l))):=by
 cases l with
 |nil=>exact zix
 |cons x l=>
  refine walk Tryz.func158 3 [] [] [] ?_
  have e:Zt (x::l)=.int .i64 x::Zt l:=rfl
  simp only[List.length_cons]at hn
  simp (maxSteps:=1000000) [go_sem,Tryz.f158,QL,e]
  refine⟨by omega,?_⟩
  exact ret (hx:=by simp[go_sem,zd,leA,leT])
theorem zhg [Gi](L:List (List Int))(hn:L.length<2^31):CR Tryz.prog 108 [] [.p (X1 L)] [] (is (.p (QL (pl L)))):=by
 refine walk Tryz.func108 3 [] [] [] ?_
 simp (maxSteps:=1000000) [go_sem,Tryz.f108]
 refine zo (zjL (pl L) (by rw[qo];exact hn)) ?_ (ha':=by simp[go_sem])
 simp (maxSteps:=1000000) [go_sem]
 exact ret
theorem zfK [Gi](e:PV) {x:Tx} {L:List (List Int)}(h:yP x L):CR Tryz.prog 56 txT [.lp [0] 0] (txR e x L) (keeps (txR e x L) (QL (pl L))):=by
 refine JE Tryz.func56 3 [] [] [] ?_
 simp (maxSteps:=1000000) [go_sem,Tryz.f56]
 refine zo (zhg L h.cl.full.n) ?_
 simp (maxSteps:=1000000) [go_sem]
 exact U4
theorem zgN [Gi] {l:List Int} {L:List (List Int)}(h:Ln l L)(i:Nat)(hi:i<l.length):CR Tryz.prog 90 [] [.p (zK za),.p (zg l),.p (.int .i64 i)] [] (is (.p (.bool (isB L i)))):=by
 rcases Nat.eq_zero_or_pos i with rfl|h0
 ·have:=zah l
  rw[←zeO L]at this
  exact this
 ·obtain⟨m,hm⟩:∃m,i=m+1:=⟨i-1,by omega⟩
  have hb:=KN ZN l i m hm hi h.n h.r
  have e:=Ye l L h.eq h.cl m (by omega)
  subst hm
  rw[e]at hb
  exact hb
theorem zfM [Gi] {l:List Int} {L:List (List Int)}(h:Ln l L):CR Tryz.prog 102 [] [.p (zK za),.p (zg l)] [] (is (.p (QL (pl L)))):=by
 refine walk Tryz.func102 7 [] [] [] ?_
 have hs:=h.sum
 have hn:=h.n
 have hcl:=h.cl
 have hfin:(pl L).take (cnt (pl L) (l.length:Nat))=pl L:=by
  have e2:=vE hcl (k:=L.length) (Nat.le_refl _)
  rw[Zj,hs]at e2
  rw[e2]
  exact List.take_of_length_le (by rw[qo];omega)
 simp (maxSteps:=1000000) [go_sem,Tryz.f102]
 refine loop (fun i:Nat=>i≤l.length) (fun i=>[(5,.os [5] 1 (Zt ((pl L).take (cnt (pl L) i)))),(6,.p (.int .i64 i))]) (fun _=>[]) (fun i=>l.length-i) 0 (Nat.zero_le _) (fun i hi=>?_) (h0:=by simp[go_sem,LeS,leV,leR,leA,zek,Zt])
 by_cases c:i<l.length
 ·have hb:=zgN h i c
  have w1:IntKind.i64.wrap ((i:Int)+1)=((i+1:Nat):Int):=zI (by omega)
  have hc:=zlm hcl (i:=i) (by omega)
  have e:((i+1:Nat):Int)=(i:Int)+1:=by omega
  have hl:=uK (pl L) ((i+1:Nat):Int)
  have hlen:(pl L).length≤l.length:=by rw[qo,←hs];exact hcl.len
  have hlt:((pl L).take (cnt (pl L) i)).length≤l.length:=by rw[List.length_take];omega
  simp (maxSteps:=1000000) [go_sem,c]
  refine zo hb ?_
  cases hv:isB L i with
  |true=>
   rw[hv,if_pos rfl]at hc
   rw[e,hc]at hl
   have t1:Zt ((pl L).take (cnt (pl L) i))++[.int .i64 (i:Nat)]=Zt ((pl L).take (cnt (pl L) ((i+1:Nat):Int))):=by
    rw[e,hc,List.take_succ_eq_append_getElem (by omega),V5,ZU,za2 hcl hv];rfl
   simp (maxSteps:=1000000) [go_sem,w1,t1]
   refine⟨by omega,?_⟩
   exact next (i+1) c (h3:=by show l.length- (i+1)<l.length-i;omega)
  |false=>
   rw[hv,if_neg (by decide),Nat.add_zero]at hc
   have t1:(pl L).take (cnt (pl L) i)=(pl L).take (cnt (pl L) ((i+1:Nat):Int)):=by rw[e,hc]
   simp (maxSteps:=1000000) [go_sem,w1,t1]
   exact next (i+1) c (h3:=by show l.length- (i+1)<l.length-i;omega)
 ·obtain rfl:i=l.length:=by omega
  simp (maxSteps:=1000000) [go_sem,hfin]
  exact ret
theorem zla [Gi](l:List Nat)(hn:l.length<2^31):CR Tryz.prog 101 [] [.p (QL l),.p (QL l)] [] (is (.p (.bool true))):=by
 refine walk Tryz.func101 6 [] [] [] ?_
 simp (maxSteps:=1000000) [go_sem,Tryz.f101,QL]
 refine loop (fun i:Nat=>i≤l.length) (fun i=>[(5,.p (.int .i64 i))]) (fun _=>[]) (fun i=>l.length-i) 0 (Nat.zero_le _) (fun i hi=>?_)
 by_cases c:i<l.length
 ·have em:=WD c
  have w1:IntKind.i64.wrap ((i:Int)+1)=((i+1:Nat):Int):=zI (by omega)
  simp (maxSteps:=1000000) [go_sem,c,em,w1]
  exact next (i+1) c (h3:=by show l.length- (i+1)<l.length-i;omega)
 ·obtain rfl:i=l.length:=by omega
  simp (maxSteps:=1000000) [go_sem]
  exact ret
end Go.Proofs.YtjefahhmkcfiiaaGreat
end
section
namespace Go.Proofs.YtjefahhmkcfiiaaGreat
open Go.AM
set_option maxHeartbeats 4000000
set_option maxRecDepth 10000
attribute [local irreducible] za
theorem zfo [Gi](e:PV) {x:Tx} {L:List (List Int)}(h:yP x L) {l:List Int}(hl:Ln l L):CR Tryz.prog 48 txT [.lp [0] 0,.p (zK za),.p (zg l)] (txR e x L) (keeps (txR e x L) (.bool true)):=by
 refine JE Tryz.func48 7 [] [] [] ?_
 have h1:=WR e h
 rw[hl.flat]at h1
 have h2:=jv l hl.n
 have h3:=yA e h
 have h4:=zfK e h
 have h5:=zfM hl
 have h6:=zla (pl L) (by rw[qo];exact h.cl.full.n)
 have hs:=hl.sum.symm
 simp (maxSteps:=1000000) [go_sem,Tryz.f48]
 refine call (idm txT) h1 ?_
 rintro _ _ ⟨rfl,rfl⟩
 simp (maxSteps:=1000000) [go_sem]
 refine zo h2 ?_
 simp (maxSteps:=1000000) [go_sem]
 refine call (idm txT) h3 ?_
 rintro _ _ ⟨rfl,rfl⟩
 simp (maxSteps:=1000000) [go_sem,hs]
 refine call (idm txT) h4 ?_
 rintro _ _ ⟨rfl,rfl⟩
 simp (maxSteps:=1000000) [go_sem]
 refine zo h5 ?_
 simp (maxSteps:=1000000) [go_sem]
 refine zo h6 ?_ (ha':=by simp[go_sem])
 simp (maxSteps:=1000000) [go_sem]
 exact U4
theorem YK [Gi]:CR Tryz.prog 23 [] [.p (.opq (.slice none 0 0)),.p (.opq (.slice none 0 0))] [] (is (.p (.bool true))):=by
 have h:=jv [] (by decide)
 intro w g vs h1 h2
 refine h w g vs ?_ h2
 simp only[zt,zc,zl,zg,zu,List.map_nil]at h1⊢
 obtain⟨v1,w1,e1,rfl,v2,w2,e2,rfl,e3⟩:=h1
 exact⟨_,w1,e1,.inl ⟨trivial,none,0,rfl⟩,_,w2,e2,.inl ⟨trivial,none,0,rfl⟩,e3⟩
theorem zeh [Gi](b:Nat)(x y:List Int)(hx:x.length<2^31)(hy:y.length<2^31):CR Tryz.prog 50 [] [.p (jW b x y),.p (jW b x y)] [] (is (.p (.bool true))):=by
 refine walk Tryz.func50 5 [] [] [] ?_
 simp (maxSteps:=1000000) [go_sem,Tryz.f50,jW]
 refine zo (jv x hx) ?_
 simp (maxSteps:=1000000) [go_sem]
 refine zo (jv y hy) ?_
 simp (maxSteps:=1000000) [go_sem]
 exact ret
theorem Jr [Gi]:CR Tryz.prog 50 [] [.p Wi,.p Wi] [] (is (.p (.bool true))):=by
 refine walk Tryz.func50 5 [] [] [] ?_
 simp (maxSteps:=1000000) [go_sem,Tryz.f50,Wi]
 refine zo YK ?_
 simp (maxSteps:=1000000) [go_sem]
 refine zo YK ?_
 simp (maxSteps:=1000000) [go_sem]
 exact ret
end Go.Proofs.YtjefahhmkcfiiaaGreat
end
section
namespace Go.Proofs.YtjefahhmkcfiiaaGreat
open Go.AM
set_option maxHeartbeats 4000000
set_option maxRecDepth 10000
attribute [local irreducible] za
theorem zl5 [Gi] {l:List Int} {L:List (List Int)}(hl:Ln l L)(hn:l.length≤65536)(f t:Int)(ins:List Int)(hi:ins.length≤65536)(hri:∀x∈ins,zB x):
  CR Tryz.prog 49 [] [.p (zK za),.p (zg l),.p (.int .i64 f),.p (.int .i64 t),.p (zg ins)] [] (is (WU (yh l f t ins).l (yh l f t ins).edit (yh l f t ins).k (yh l f t ins).s)):=by
 have hL:=hl.eq
 cases hok:okT L f t with
 |false=>
  have hr:yh l f t ins=⟨l,.int .i64 0,JX,JX,0,2⟩:=by unfold yh;rw[←hL,if_neg (by rw[hok];decide)]
  rw[hr]
  exact Yo hl f t ins hok
 |true=>
  obtain⟨f',t',rfl,rfl,h1,h2,h3,h4⟩:=Kt hl hok
  have b1:isB L f'=true:=decide_eq_true (by omega)
  have b2:isB L t'=true:=decide_eq_true (by omega)
  by_cases hs:(zD l f' t' ins).length≤65536
  ·have hr:yh l f' t' ins=ux l f' t' ins:=by
    unfold yh;rw[←hL,if_pos hok];simp only[Int.toNat_natCast];rw[if_pos hs]
   rw[hr]
   have sf:=Ui hl.r hn h1 h2 hi hri
   exact zau hl hn f' t' h1 h2 b1 b2 ins hi hri rfl rfl rfl rfl hs ⟨rfl,by omega,sf.1⟩ sf.2
  ·have hr:yh l f' t' ins=⟨l,.int .i64 0,JX,JX,0,3⟩:=by
    unfold yh;rw[←hL,if_pos hok];simp only[Int.toNat_natCast];rw[if_neg hs]
   rw[hr]
   exact XN hl hn f' t' h1 h2 b1 b2 ins hi hri (by omega)
theorem zmr [Gi] {l:List Int} {L:List (List Int)}(hl:Ln l L)(hn:l.length≤65536)(f t:Int)(ins:List Int):CR Tryz.prog 50 [] [.p (yh l f t ins).edit,.p (yh l f t ins).edit] [] (is (.p (.bool true))):=by
 unfold yh
 split
 ·split
  ·rename_i hs
   have c1:∀(a b:Int),(cut l a b).length<2^31:=fun a b=>by unfold cut;rw[List.length_take,List.length_drop];omega
   have c2:∀(a b:Int),(cut (zD l f.toNat t.toNat ins) a b).length<2^31:=fun a b=>by unfold cut;rw[List.length_take,List.length_drop];omega
   exact zeh _ _ _ (c1 _ _) (c2 _ _)
  ·exact Jr
 ·exact Jr
end Go.Proofs.YtjefahhmkcfiiaaGreat
end
section
namespace Go.Proofs.YtjefahhmkcfiiaaGreat
open Go.AM
set_option maxHeartbeats 4000000
set_option maxRecDepth 10000
attribute [local irreducible] za
theorem zcX [Gi](s:List Int)(es:List WW)(hs:∀x∈s,zB x)(he:∀o∈es,kd o):CR Tryz.prog 10 [] [.p (zg s),.p (Z9 es)] [] (is (.p (.bool true))):=by
 refine walk Tryz.func10 17 [] [] [] ?_
 simp (maxSteps:=1000000) [go_sem,Tryz.f10]
 refine zo (vu s 40 (by decide)) ?_
 have hl:(s.take 40).length≤40:=by rw[List.length_take];omega
 have hr:∀x∈s.take 40,zB x:=fun x hx=>hs x (List.mem_of_mem_take hx)
 generalize s.take 40=l at hl hr
 simp (maxSteps:=1000000) [go_sem]
 refine zo xV ?_
 simp (maxSteps:=1000000) [go_sem]
 refine call [] kS ?_
 rintro _ _ ⟨rfl,e,rfl,hT⟩
 have hsh:=yd l
 have hnew:=WB hT l (by omega) hr (by omega)
 have hnf:=Wx za ZN l (by omega) hr
 have hln:=lnC l (by omega) hr
 have hlt:(zZ za l).length≤65536:=by omega
 generalize zZ za l=t at hnew hnf hln hlt
 obtain⟨z0,e0,rfl⟩:=jB hT
 simp (maxSteps:=1000000) [go_sem]
 refine call [] hnew ?_
 rintro _ _ ⟨X,hX,_,rfl,rfl⟩
 simp (maxSteps:=1000000) [go_sem]
 refine zo hnf ?_
 simp (maxSteps:=1000000) [go_sem]
 refine call (xm 23) (zfo (.pt z0 e0) hX hln) ?_
 rintro _ _ ⟨rfl,rfl⟩
 simp (maxSteps:=1000000) [go_sem]
 refine loop (fun r:Nat×List Int×Tx=>r.1≤es.length∧r.1≤10∧Ln r.2.1 (zL za r.2.1)∧r.2.1.length≤65536∧yP r.2.2 (zL za r.2.1))
  (fun r=>[(8,.p (.int .i64 r.1)),(7,.p (.sl 1 (zu r.2.1))),(9,.zW),(10,.zW),(11,.zW),(12,.zW),(13,.zW),(14,.zW),(15,.zW),(16,.zW)])
  (fun r=>[([23,0],[.p (.pt z0 e0),.lp [23,0,1] 0,.p (.sl 1 (Zt (pl (zL za r.2.1)))),.p (.int .i64 (qd (zL za r.2.1):Nat))]),([23,0,1],[.la [23,0,2] 1 0 r.2.2.g.length,.p (.int .i64 (r.2.2.f:Nat)),.p (.int .i64 (r.2.2.t:Nat))]),([23,0,2],rcs r.2.2.g)])
  (fun r=>10-r.1) (0,t,X) ⟨Nat.zero_le _,by show 0≤10;omega,hln,hlt,hX⟩ (fun r hi=>?_)
 obtain⟨i,l,X⟩:=r
 obtain⟨i1,i2,hl,hn,hX⟩:=hi
 simp only at i1 i2 hl hn hX
 by_cases c1:i<es.length
 ·by_cases c2:i<10
  ·have em:elemAt (es.map kj) i=kj es[i]:=zr kj es i c1
   have hk:=he es[i] (List.getElem_mem c1)
   generalize es[i]=x at em hk
   obtain⟨xf,xb,xk⟩:=x
   simp only[kd]at hk
   have c2':(i:Int)<10:=by omega
   have lk:(xk.take 15).length≤15:=by rw[List.length_take];omega
   have rk:∀y∈xk.take 15,zB y:=fun y hy=>hk y (List.mem_of_mem_take hy)
   have hfew:=vu xk 15 (by decide)
   generalize xk.take 15=ks at lk rk hfew
   have w3:IntKind.i64.wrap ((i:Int)+1)=((i+1:Nat):Int):=zI (by omega)
   simp (maxSteps:=1000000) [go_sem,Z9,kj,c1,c2,c2',em]
   refine zo hfew ?_
   simp (maxSteps:=1000000) [go_sem]
   refine Zf (fun _:Int=>True) (fun te=>[(10,.p (.int .i64 te))]) (fun _=>[]) ?_ ?_
   ·obtain⟨B,hB⟩:∃B,(decide (0≤xb)&&decide (xb<100)&&decide (0≤xf)&&decide (xf<1000))=B:=⟨_,rfl⟩
    rw[hB]
    cases B with
    |false=>
     simp (maxSteps:=1000000) [go_sem]
     exact z6 xf trivial (by simp[go_sem])
    |true=>
     simp (maxSteps:=1000000) [go_sem]
     exact z6 (IntKind.i64.wrap (xf+xb)) trivial (by simp[go_sem])
   ·intro te ts _
    have hM:=zcb hT hX hl hn xf te ks (by omega) rk
    have hD:=zl5 hl hn xf te ks (by omega) rk
    have hE:=zmr hl hn xf te ks
    have hO:=zf7 hl hn xf te (ins:=ks) (by omega) rk
    generalize yh l xf te ks=rp at hM hD hE hO
    obtain⟨l',pa,pb,pc,k,st⟩:=rp
    simp only at hO
    simp (maxSteps:=1000000) [go_sem]
    refine call (xm 23) hM ?_
    rintro _ _ ⟨Y,hY,rfl,rfl⟩
    simp (maxSteps:=1000000) [go_sem,Rep.told]
    refine zo hD ?_
    simp (maxSteps:=1000000) [go_sem,WU,Rep.edit]
    refine zo hE ?_ (ha':=by simp[go_sem,Rep.edit])
    simp (maxSteps:=1000000) [go_sem]
    refine call (xm 23) (zfo (.pt z0 e0) hY hO.1) ?_
    rintro _ _ ⟨rfl,rfl⟩
    simp (maxSteps:=1000000) [go_sem,w3]
    exact next (i+1,l',Y) ⟨c1,c2,hO.1,hO.2,hY⟩ (h3:=by show 10- (i+1)<10-i;omega)
  ·obtain rfl:i=10:=by omega
   simp (maxSteps:=1000000) [go_sem,Z9,c1]
   refine zo xg ?_
   simp (maxSteps:=1000000) [go_sem]
   exact ret
 ·simp (maxSteps:=1000000) [go_sem,Z9,c1]
  refine zo xg ?_
  simp (maxSteps:=1000000) [go_sem]
  exact ret
end Go.Proofs.YtjefahhmkcfiiaaGreat
end
