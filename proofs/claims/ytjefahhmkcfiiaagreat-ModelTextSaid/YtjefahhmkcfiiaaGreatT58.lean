/- A part of the proof of this seat's statements, by an abstract machine: what each operation does to values, and what the law's functions compute. Conditions: as each law says. -/
import Derived.Test.YtjefahhmkcfiiaaGreatT48
import Derived.Test.YtjefahhmkcfiiaaGreatT39
section
namespace Go.Proofs.YtjefahhmkcfiiaaGreat
open Go.AM
set_option maxHeartbeats 4000000
set_option maxRecDepth 10000
attribute [local irreducible] za
theorem zfV [Gi]:CR Tryz.prog 158 [] [.p (QL [])] [] (is (.os [2] 1 (Zt []))):=by
 intro w g vs hargs hG
 have hv:∃a cap,vs=[.slice a 0 cap]:=by
  simp only[zt,zc,QL,Zt,List.map_nil,zl]at hargs
  obtain⟨v,vs',rfl,h,rfl⟩:=hargs
  rcases h with ⟨_,a,cap,rfl⟩|⟨b,o,cap,rfl,_⟩
  ·exact⟨_,_,rfl⟩
  ·exact⟨_,_,rfl⟩
 obtain⟨a,cap,rfl⟩:=hv
 have hres:∀(g':Gh) (w':World) (a':Option Addr) (c':Nat),zl g'.fr w' (.sl 1 (Zt [])) (.slice a' 0 c'):=fun g' w' a' c'=>by
  simp only[Zt,List.map_nil,zl];exact .inl ⟨trivial,_,_,rfl⟩
 cases a with
 |none=>
  refine(JU cap w).mono ?_
  rintro e w' ⟨rfl,rfl⟩
  let g2:Gh:=⟨g.fr,fun _=>.prot⟩
  refine⟨_,.os [2] 1 (Zt []),[],g2,rfl,⟨rfl,rfl⟩,?_,⟨fun b t h=>(by cases h),fun b b' t h=>(by cases h),fun b b' t h=>(by cases h),fun b h=>absurd rfl h,hG.frb,fun b arr e=>⟨rfl,(hG.gl b arr e).2⟩⟩,
   ⟨fun d _ _=>⟨rfl,rfl,rfl⟩,Ext.refl _ _,⟨rfl,rfl,rfl⟩,Nat.le_refl _,fun b t _ ht=>(by cases ht)⟩⟩
  simp only[zc]
  exact⟨hres g2 _ _ _,.inl ⟨none,0,rfl⟩⟩
 |some q=>
  refine(JA q cap w).mono ?_
  rintro e w' ⟨v',rfl,⟨_,hv⟩,hne,hB⟩
  rcases hv with ⟨rfl,_⟩|⟨b,c',cur,rfl,h1,h2,h3,h4,h5,_⟩
  ·exact absurd rfl hne
  ·have hlt:b<w'.heap.size:=by
    rcases Nat.lt_or_ge b w'.heap.size with q|q
    ·exact q
    ·rw[Array.getElem?_eq_none q]at h2;cases h2
   have c:Chg g w w' b:=⟨fun d hd _=>hB.block d hd,hG.frb _ h1,.inl h1,hlt,hB.size,⟨hB.os,hB.tape,hB.output⟩⟩
   refine⟨_,.os [2] 1 (Zt []),[],ngh g b 0 (.tail [2]),rfl,⟨rfl,rfl⟩,?_,c.zhR hG 0 [2] [],c.aft hG 0 _⟩
   simp only[zc]
   refine⟨hres _ _ _ _,.inr ⟨b,0,0,c',rfl,znz _ _ _ _,by rw[zkw],cur,3,h2,by omega⟩⟩
theorem zfU [Gi](l:List Nat)(hn:l.length<2^31):CR Tryz.prog 158 [] [.p (QL l)] [] (is (.os [2] 1 (Zt l))):=by
 cases l with
 |nil=>exact zfV
 |cons x l=>
  refine walk Tryz.func158 3 [] [] [] ?_
  have e:Zt (x::l)=.int .i64 x::Zt l:=rfl
  simp only[List.length_cons]at hn
  simp (maxSteps:=1000000) [go_sem,Tryz.f158,QL,e]
  refine⟨by omega,?_⟩
  exact ret (hx:=by simp[go_sem,zd,leA,leT])
theorem zeH [Gi](L:List (List Int))(hn:L.length<2^31):CR Tryz.prog 108 [] [.p (X1 L)] [] (is (.os [2] 1 (Zt (pl L)))):=by
 refine walk Tryz.func108 3 [] [] [] ?_
 simp (maxSteps:=1000000) [go_sem,Tryz.f108]
 refine zo (zfU (pl L) (by rw[qo];exact hn)) ?_ (ha':=by simp[go_sem])
 simp (maxSteps:=1000000) [go_sem]
 exact ret
def smap:List (Tok×Tok):=[([0],[0]),([0,1],[0,1]),([0,2],[0,2]),([6],[2])]
theorem zfb [Gi](e:PV) {x:Tx} {L:List (List Int)}(h:yP x L):CR Tryz.prog 56 txT [.lp [0] 0] (txR e x L) (fun y rs=>rs=txR e x L∧y=.os [6] 1 (Zt (pl L))):=by
 refine CR.ren (R:=fun y rs=>y=.os [2] 1 (Zt (pl L))∧Qo (St.ofR rs) smap smap=txR e x L) ?_ 1000000 ?_
 ·refine walk Tryz.func56 3 [] [] [] ?_
  simp (maxSteps:=1000000) [go_sem,Tryz.f56]
  refine zo (zeH L h.cl.full.n) ?_
  simp (maxSteps:=1000000) [go_sem]
  exact zi txT (.os [2] 1 (Zt (pl L))) (by simp[go_sem]) (by simp[go_sem,zd,leA,leT]) ⟨rfl,by simp[go_sem,smap]⟩
 ·rintro y rs ⟨rfl,h2⟩
  exact⟨smap,by decide,by decide,h2,rfl⟩
end Go.Proofs.YtjefahhmkcfiiaaGreat
end
