/- A part of the proof of this seat's statements, by an abstract machine: what each operation does to values, and what the law's functions compute. Conditions: as each law says. -/
import Derived.Test.YthbmelihnabkaaaGreatT54
import Derived.Test.YthbmelihnabkaaaGreatT37
section
namespace Go.Proofs.YthbmelihnabkaaaGreat
open Go.AM
set_option maxHeartbeats 4000000
set_option maxRecDepth 10000
theorem t7f:zpa zo8 [101,769]=[201]∧zpa zo7 [201]=[233]:=by decide+kernel
attribute [local irreducible] za
theorem ln7:Ln l7 L7:=⟨t7b,by decide,by simp[l7,zD]⟩
theorem pl7:plc L7 0=0∧plc L7 3=3∧plc L7 4=4∧plc L7 7=7:=by decide
theorem zqt:cnt (pl L7) 0=0∧cnt (pl L7) 4=4:=by decide
def at7:Nat→Int
 |0=>0
 |1=>3
 |2=>4
 |_=>7
def w7:Nat→List PV
 |0=>[]
 |1=>[.agg [.int .i64 0,.int .i64 3]]
 |2=>[.agg [.int .i64 0,.int .i64 3]]
 |_=>[.agg [.int .i64 0,.int .i64 3],.agg [.int .i64 4,.int .i64 7]]
theorem zp6 [Gi] {e:PV}(hT:Zl e):CR Tryz.prog 113 [] [.p e,.p (zh l7)] [] (is (.p (.sl 2 (w7 3)))):=by
 refine walk Tryz.func113 8 [] [] [] ?_
 have i0:=V9 hT ln7 (k:=0) (by decide)
 have i3:=V9 hT ln7 (k:=3) (by decide)
 have i4:=V9 hT ln7 (k:=4) (by decide)
 have f0:=XY hT ln7 0
 have f4:=XY hT ln7 4
 have n3:=va hT ln7 (k:=3) (by decide)
 rw[pl7.1,t7c.1]at i0
 rw[pl7.2.1,t7c.2.1]at i3
 rw[pl7.2.2.1,t7c.2.2.1]at i4
 rw[zqt.1,t7c.2.2.2.1,pl7.2.1]at f0
 rw[zqt.2,t7c.2.2.2.2,pl7.2.2.2]at f4
 rw[pl7.2.1,pl7.2.2.1]at n3
 have hl:l7.length=7:=rfl
 generalize l7=s at i0 i3 i4 f0 f4 n3 hl⊢
 obtain⟨z0,y0,rfl⟩:=ym hT
 simp (maxSteps:=1000000) [go_sem,Tryz.f113]
 refine loop (fun i:Nat=>i≤3) (fun i=>[(6,.p (.int .i64 (at7 i))),(5,.os [5] 2 (w7 i)),(7,.zX)]) (fun _=>[]) (fun i=>3-i) 0 (by omega) (fun i hi=>?_) (h0:=by simp[go_sem,LeS,leV,leR,leA,at7,w7])
 rcases(show i=0∨i=1∨i=2∨i=3 by omega)with rfl|rfl|rfl|rfl
 ·simp (maxSteps:=1000000) [go_sem,at7,w7,hl]
  refine zn i0 ?_
  simp (maxSteps:=1000000) [go_sem]
  refine zn f0 ?_
  simp (maxSteps:=1000000) [go_sem]
  exact next 1 (by omega) (h3:=by decide) (h2:=by simp[go_sem,LeS,leV,leR,leA])
 ·simp (maxSteps:=1000000) [go_sem,at7,w7,hl]
  refine zn i3 ?_
  simp (maxSteps:=1000000) [go_sem]
  refine zn n3 ?_
  simp (maxSteps:=1000000) [go_sem]
  exact next 2 (by omega) (h3:=by decide) (h2:=by simp[go_sem,LeS,leV,leR,leA])
 ·simp (maxSteps:=1000000) [go_sem,at7,w7,hl]
  refine zn i4 ?_
  simp (maxSteps:=1000000) [go_sem]
  refine zn f4 ?_
  simp (maxSteps:=1000000) [go_sem]
  exact next 3 (by omega) (h3:=by decide) (h2:=by simp[go_sem,LeS,leV,leR,leA])
 ·simp (maxSteps:=1000000) [go_sem,at7,w7,hl]
  exact ret (hx:=by simp[go_sem,zd,leA,leT])
def o7:Nat→List Int
 |0=>[]
 |1=>[79,110,101]
 |_=>[79,110,101,32,84,119,111]
def p7:Nat→Int
 |0=>0
 |1=>3
 |_=>7
theorem zpZ [Gi] {e:PV}(hT:Zl e):CR Tryz.prog 57 [] [.p e,.p (zh l7)] [] (is (.p (zh [79,110,101,32,84,119,111]))):=by
 refine walk Tryz.func57 10 [15,16,17] [] [] ?_
 have h1:=zgg hT l7 (by decide) ln7.r
 rw[t7a]at h1
 have h2:=zp6 hT
 have h3:=zpU hT [111,78,69] (by decide) (by simp[zD]) (by simp)
 have h4:=zpU hT [116,119,111] (by decide) (by simp[zD]) (by simp)
 have h5:=zgg hT [79,110,101,32,84,119,111] (by decide) (by simp[zD])
 rw[t7d.1]at h3
 rw[t7d.2]at h4
 rw[t7e]at h5
 have s1:cut l7 0 0=[]:=rfl
 have s2:cut l7 0 3=[111,78,69]:=rfl
 have s3:cut l7 3 4=[32]:=rfl
 have s4:cut l7 4 7=[116,119,111]:=rfl
 have s5:cut l7 7 7=[]:=rfl
 have hl:l7.length=7:=rfl
 have v1:IntKind.i64.wrap 1=1:=wrap64 (by omega) (by omega)
 have v2:IntKind.i64.wrap 2=2:=wrap64 (by omega) (by omega)
 have e0:elemAt [PV.agg [.int .i64 0,.int .i64 3],PV.agg [.int .i64 4,.int .i64 7]] 0=.agg [.int .i64 0,.int .i64 3]:=rfl
 have e1:elemAt [PV.agg [.int .i64 0,.int .i64 3],PV.agg [.int .i64 4,.int .i64 7]] 1=.agg [.int .i64 4,.int .i64 7]:=rfl
 generalize l7=s at h1 h2 s1 s2 s3 s4 s5 hl⊢
 obtain⟨z0,y0,rfl⟩:=ym hT
 simp (maxSteps:=1000000) [go_sem,Tryz.f57]
 refine zn h1 ?_
 simp (maxSteps:=1000000) [go_sem]
 refine zn h2 ?_
 simp (maxSteps:=1000000) [go_sem,w7]
 refine loop (fun i:Nat=>i≤2) (fun i=>[(17,.p (.int .i64 i)),(5,.os [5] 1 (zx (o7 i))),(6,.p (.int .i64 (p7 i))),(8,.zX),(9,.zX)]) (fun _=>[]) (fun i=>2-i) 0 (by omega) (fun i hi=>?_) (h0:=by simp[go_sem,LeS,leV,leR,leA,o7,p7,zx])
 rcases(show i=0∨i=1∨i=2 by omega)with rfl|rfl|rfl
 ·simp (maxSteps:=1000000) [go_sem,o7,p7,hl,s1,s2,e0]
  refine call [([0],[9])] h3 ?_ (ha':=by simp[go_sem,zx])
  rintro _ _ ⟨⟨b,rfl⟩,rfl⟩
  simp (maxSteps:=1000000) [go_sem]
  exact next 1 (by omega) (h3:=by decide) (h2:=by simp[go_sem,LeS,leV,leR,leA,zx,v1])
 ·simp (maxSteps:=1000000) [go_sem,o7,p7,hl,s3,s4,e1]
  refine call [([0],[9])] h4 ?_ (ha':=by simp[go_sem,zx])
  rintro _ _ ⟨⟨b,rfl⟩,rfl⟩
  simp (maxSteps:=1000000) [go_sem]
  exact next 2 (by omega) (h3:=by decide) (h2:=by simp[go_sem,LeS,leV,leR,leA,zx,v2])
 ·simp (maxSteps:=1000000) [go_sem,o7,p7,hl,s5]
  refine zn h5 ?_
  simp (maxSteps:=1000000) [go_sem]
  exact ret
theorem zp8 [Gi]:CR Tryz.prog 16 [] [] [] (is (.p (.bool true))):=by
 refine walk Tryz.func16 2 [] [] [] ?_
 simp (maxSteps:=1000000) [go_sem,Tryz.f16]
 refine zn zbg ?_
 simp (maxSteps:=1000000) [go_sem]
 refine call [] Wk ?_
 rintro _ _ ⟨rfl,e,rfl,hT⟩
 have u1:=zph hT [101,769] (by decide) (by simp[zD])
 have u2:=zpl hT [201] (by decide) (by simp[zD])
 have u3:=zpZ hT
 rw[t7f.1]at u1
 rw[t7f.2]at u2
 obtain⟨z0,y0,rfl⟩:=ym hT
 have q1:=zgb [201] (by decide)
 have q2:=zgb [233] (by decide)
 have q3:=zgb [79,110,101,32,84,119,111] (by decide)
 simp (maxSteps:=1000000) [go_sem]
 refine⟨by decide,zn u1 ?_ (ha':=by simp[go_sem,zx])⟩
 simp (maxSteps:=1000000) [go_sem]
 refine zn q1 ?_ (ha':=by simp[go_sem,zx])
 simp (maxSteps:=1000000) [go_sem]
 refine zn u2 ?_ (ha':=by simp[go_sem,zx])
 simp (maxSteps:=1000000) [go_sem]
 refine zn q2 ?_ (ha':=by simp[go_sem,zx])
 simp (maxSteps:=1000000) [go_sem]
 refine⟨by decide,zn u3 ?_ (ha':=by simp[go_sem,zx,l7])⟩
 simp (maxSteps:=1000000) [go_sem]
 refine⟨by decide,zn q3 ?_ (ha':=by simp[go_sem,zx])⟩
 simp (maxSteps:=1000000) [go_sem]
 exact ret
theorem zpS(F:Int→Int)(l:List Int):(zpa F l).length≤9*l.length:=by
 have h1:=uf ((jM za l).map F)
 have h2:=zpe l
 rw[List.length_map]at h1
 unfold zpa;omega
theorem zpD {F:Int→Int}(hF:∀{r:Int},zD r→zD (F r)) {l:List Int}(hn:l.length≤20000)(hl:∀x∈l,zD x):∀x∈zpa F l,zD x:=by
 have h2:=zpe l
 exact kj.rune _ (by rw[List.length_map];omega) (zpv hF (zpp hl))
theorem zpy [Gi](s1 s2:List Int)(hs1:∀x∈s1,zD x)(hs2:∀x∈s2,zD x):CR Tryz.prog 3 [] [.p (zh s1),.p (zh s2)] [] (is (.p (.bool true))):=by
 refine walk Tryz.func3 9 [] [] [] ?_
 have f1:=zaQ s1 60 (by decide)
 have f2:=zaQ s2 60 (by decide)
 have la:(s1.take 60).length≤60:=by rw[List.length_take];omega
 have lb:(s2.take 60).length≤60:=by rw[List.length_take];omega
 have ra:∀x∈s1.take 60,zD x:=fun x hx=>hs1 x (List.mem_of_mem_take hx)
 have rb:∀x∈s2.take 60,zD x:=fun x hx=>hs2 x (List.mem_of_mem_take hx)
 generalize s1.take 60=a at f1 la ra
 generalize s2.take 60=b at f2 lb rb
 simp (maxSteps:=1000000) [go_sem,Tryz.f3]
 refine zn f1 ?_
 simp (maxSteps:=1000000) [go_sem]
 refine zn f2 ?_
 simp (maxSteps:=1000000) [go_sem]
 refine zn zbg ?_
 simp (maxSteps:=1000000) [go_sem]
 refine call [] Wk ?_
 rintro _ _ ⟨rfl,e,rfl,hT⟩
 have hq:=zp5 a b (by omega) (by omega) ra rb
 have hnf:=zkv za yS a (by omega) ra
 have hU:=zph hT a (by omega) ra
 have hD:=zpl hT a (by omega) ra
 have lU:=zpS zo8 a
 have lD:=zpS zo7 a
 have rU:=zpD zpo (by omega) ra
 have rD:=zpD zpk (by omega) ra
 have hUU:=zph hT (zpa zo8 a) (by omega) rU
 have hDD:=zpl hT (zpa zo7 a) (by omega) rD
 have hUD:=zph hT (zpa zo7 a) (by omega) rD
 rw[zpx zpO zpN]at hUU
 rw[zpx zps zpX]at hDD
 rw[zpx zps zpV]at hUD
 have hb0:∀b':List Int,jM za b'=jM za a→b'.length≤180→(∀x∈b',zD x)→CR Tryz.prog 13 [] [.p e,.p (zh b')] [] (is (.p (zh (zpa zo8 a))))∧CR Tryz.prog 14 [] [.p e,.p (zh b')] [] (is (.p (zh (zpa zo7 a)))):=fun b' h1 h2 h3=>by
  have g1:=zph hT b' (by omega) h3
  have g2:=zpl hT b' (by omega) h3
  rw[zqq h1]at g1 g2
  exact⟨g1,g2⟩
 have hn2:=zp2 a
 have hn3:=uf a
 have hn4:∀x∈qv za a,zD x:=kj.rune a (by omega) ra
 generalize qv za a=c at hnf hn2 hn3 hn4
 generalize zpa zo8 a=U at hU hUU hUD hb0 lU rU
 generalize zpa zo7 a=D at hD hDD hUD hb0 lD rD
 obtain⟨z0,y0,rfl⟩:=ym hT
 simp (maxSteps:=1000000) [go_sem]
 refine zn hq ?_
 simp (maxSteps:=1000000) [go_sem]
 refine qO (fun b':List Int=>jM za b'=jM za a∧b'.length≤180∧∀x∈b',zD x) (fun b'=>[(1,.p (.sl 1 (zx b')))]) (fun _=>[]) ?_ ?_
 ·by_cases h:jM za a=jM za b
  ·simp (maxSteps:=1000000) [go_sem,h]
   exact zN b ⟨rfl,by omega,rb⟩ (by simp[go_sem])
  ·simp (maxSteps:=1000000) [go_sem,h]
   refine zn hnf ?_
   simp (maxSteps:=1000000) [go_sem]
   exact zN c ⟨hn2,by omega,hn4⟩ (by simp[go_sem])
 rintro b' ts ⟨h1,h2,h3⟩
 obtain⟨hB,hB2⟩:=hb0 b' h1 h2 h3
 have qU:=zgb U (by omega)
 have qD:=zgb D (by omega)
 simp (maxSteps:=1000000) [go_sem]
 refine zn hU ?_
 simp (maxSteps:=1000000) [go_sem]
 refine zn hD ?_
 simp (maxSteps:=1000000) [go_sem]
 refine zn hUU ?_
 simp (maxSteps:=1000000) [go_sem]
 refine zn qU ?_
 simp (maxSteps:=1000000) [go_sem]
 refine zn hDD ?_
 simp (maxSteps:=1000000) [go_sem]
 refine zn qD ?_
 simp (maxSteps:=1000000) [go_sem]
 refine zn hB ?_
 simp (maxSteps:=1000000) [go_sem]
 refine zn qU ?_
 simp (maxSteps:=1000000) [go_sem]
 refine zn hB2 ?_
 simp (maxSteps:=1000000) [go_sem]
 refine zn qD ?_
 simp (maxSteps:=1000000) [go_sem]
 refine zn hUD ?_
 simp (maxSteps:=1000000) [go_sem]
 refine zn qU ?_
 simp (maxSteps:=1000000) [go_sem]
 refine zn zp8 ?_
 simp (maxSteps:=1000000) [go_sem]
 exact ret
end Go.Proofs.YthbmelihnabkaaaGreat
end
