/- A part of the proof of this seat's statements, by an abstract machine: what each operation does to values, and what the law's functions compute. Conditions: as each law says. -/
import Derived.Test.YtjefahhmkcfiiaaGreatN45
import Derived.Test.YtjefahhmkcfiiaaGreatN46
section
namespace Go.Proofs.YtjefahhmkcfiiaaGreat
open Go.AM
set_option maxHeartbeats 4000000
set_option maxRecDepth 10000
def rcs(l:List Int):List AV:=l.map fun i=>.p (.int .i32 i)
@[go_sem] theorem zlO (l : List Int) : (rcs l).length = l.length := by simp [rcs]
@[go_sem] theorem zn8 (rt tt : Tok → Bool) (l : List Int) : (rcs l).map (AV.upd (fil rt tt)) = rcs l := by
 simp[rcs,AV.upd,fil,QB,Function.comp_def]
@[go_sem] theorem zob (f : Tok → Option Tok) (l : List Int) : (rcs l).map (AV.ren f) = rcs l := by
 simp[rcs,AV.ren,AV.upd,YW,yZ,Function.comp_def]
@[go_sem] theorem znu (l : List Int) (n : Nat) : (rcs l).take n = rcs (l.take n) := by simp [rcs]
@[go_sem] theorem znY (l : List Int) (n : Nat) : (rcs l).drop n = rcs (l.drop n) := by simp [rcs]
@[go_sem] theorem zn9 (l l' : List Int) : rcs l ++ rcs l' = rcs (l ++ l') := by simp [rcs]
@[go_sem] theorem znq (l : List Int) : Vh (rcs l) = some (zB l) := by
 unfold rcs zB
 induction l with
 |nil=>rfl
 |cons x l ih=>simp[Vh,ih]
attribute [go_sem] zp zhj zat
@[go_sem] theorem zn1 (l : List Int) : (zB l).map AV.p = rcs l := by simp [rcs, zB]
@[go_sem] theorem znb (l : List Int) (n : Nat) : (zB l).take n = zB (l.take n) := by simp [zB]
@[go_sem] theorem zm2 (l l' : List Int) : zB l ++ zB l' = zB (l ++ l') := by simp [zB]
@[go_sem] theorem znL (l : List Int) : (zB l).all PV.one = true := by simp [zB, PV.one]
@[go_sem] theorem znC : zB [] = [] := rfl
@[go_sem] theorem zn0 (l : List Int) (a b : Int) : cut (zB l) a b = zB (cut l a b) := by simp [cut, zB]
@[go_sem] theorem zm6 (n : Nat) : List.replicate n (AV.p (PV.int .i32 0)) = rcs (List.replicate n 0) := by simp [rcs]
def kT(l:List Int)(f t:Nat):List (Tok×List AV):=[([0],[.la [0,0] 1 0 l.length,.p (.int .i64 (f:Int)),.p (.int .i64 (t:Int))]),([0,0],rcs l)]
def jm:List Tok:=[[0],[0,0]]
theorem V5 [Gi](l:List Int)(f t:Nat)(h1:f≤t)(h2:t≤l.length)(h3:(l.length:Int)≤140737488355328):CR Tryz.prog 93 jm [.lp [0] 0] (kT l f t) fun x rs=>rs=kT l f t∧x=.p (.int .i64 (l.length- (t-f))):=by
 refine zm mixed 3 [] Tryz.func93 rfl (by kernel_rfl) rfl (by simp) (by simp) ?_
 simp (maxSteps:=1000000) [go_sem,Tryz.f93,kT,jm]
 refine zl jm (.p (.int .i64 (l.length- (t-f)))) (by simp[jm]) (by simp (maxSteps:=1000000) (disch:=omega) [go_sem,zf,leA,wrap64]) ?_
 simp (maxSteps:=1000000) [go_sem,jm]
def held(l:List Int)(f t:Nat):List Int:=l.take f++l.drop t
def zoc(l:List Int):AV→List (Tok×List AV)→Prop:=fun x rs=>∃l':List Int,rs=kT l' l.length (l.length+8)∧l'.length=l.length+8∧x=.lp [0] 0∧held l' l.length (l.length+8)=l
def zou(l:List Int):AV→List (Tok×List AV)→Prop:=fun x rs=>x=.lp [9] 0∧rs=[([7],rcs (l++List.replicate 8 0)),([9],[.la [7] 1 0 (l.length+8),.p (.int .i64 (l.length:Int)),.p (.int .i64 ((l.length+8:Nat):Int))])]
theorem zhM [Gi](l:List Int)(h:(l.length:Int)≤4398046511104):CR Tryz.prog 83 [] [.p (zh l)] [] (zoc l):=by
 refine CR.ren (R:=zou l) ?_ 100 ?_
 ·refine zm mixed 4 [] Tryz.func83 rfl (by kernel_rfl) rfl (by simp) (by simp) ?_
  obtain⟨N,hN⟩:∃N:Nat,N=l.length+8:=⟨_,rfl⟩
  have e1:((l.length:Int)+8)=N:=by omega
  simp (maxSteps:=1000000) (disch:=omega) [go_sem,Tryz.f83,zh,wrap64,e1]
  refine⟨by omega,by omega,?_⟩
  refine zl [[7],[9]] (.lp [9] 0) (by simp) (by simp (maxSteps:=1000000) [go_sem,zf,leA]) ⟨rfl,?_⟩
  have e2:N-l.length=8:=by omega
  simp (maxSteps:=1000000) [go_sem,e2,←hN]
 ·rintro x rs ⟨rfl,rfl⟩
  exact⟨[([0],[9]),([0,0],[7])],by simp (maxSteps:=1000000) [go_sem],by simp,l++List.replicate 8 0,by simp (maxSteps:=1000000) [go_sem,kT],by simp,by simp (maxSteps:=1000000) [go_sem],by simp[held]⟩
def sliced(l:List Int)(a b:Int):List Int:=(l.take b.toNat).drop a.toNat
theorem vU(l:List Int)(f t:Nat)(h1:f≤t)(h2:t≤l.length):(held l f t).length=l.length- (t-f):=by
 simp[held];omega
theorem zfq(H:List Int)(a b:Int)(h:min b H.length≤max a 0):sliced H a b=[]:=by
 unfold sliced
 apply List.drop_eq_nil_of_le
 simp
 omega
theorem zhI(H:List Int)(a b:Int)(A B:Nat)(hA:(A:Int)=max a 0)(hB:(B:Int)=min b H.length):sliced H a b=(H.take B).drop A:=by
 unfold sliced
 have e1:a.toNat=A:=by omega
 rw[e1]
 congr 1
 by_cases h:b≤H.length
 ·have e2:b.toNat=B:=by omega
  rw[e2]
 ·rw[List.take_of_length_le (by omega),List.take_of_length_le (by omega)]
def zok(l:List Int)(f t:Nat)(a b:Int):AV→List (Tok×List AV)→Prop:=fun x rs=>rs=kT l f t∧x=.os [6] 1 (zB (sliced (held l f t) a b))
def fin(l:List Int)(f t:Nat)(a b:Int):AV→List (Tok×List AV)→Prop:=fun x rs=>rs=kT l f t∧x=.p (zh (sliced (held l f t) a b))
theorem Vg [Gi](l:List Int)(f t:Nat)(a b:Int)(h1:f≤t)(h2:t≤l.length)(h3:(l.length:Int)≤4398046511104):
  CR Tryz.prog 149 jm [.lp [0] 0,.p (.int .i64 a),.p (.int .i64 b)] (kT l f t) (zok l f t a b):=by
 refine zm mixed 9 [] Tryz.func149 rfl (by kernel_rfl) rfl (by simp) (by simp) ?_
 simp (maxSteps:=1000000) (disch:=omega) [go_sem,Tryz.f149,kT,jm]
 refine⟨⟨rfl,by simp[Tryz.f93]⟩,?_⟩
 refine zb [([0],[0]),([0,0],[0,0])] (V5 l f t h1 h2 (by omega)) (by simp (maxSteps:=1000000) [go_sem,jm]) ⟨by simp (maxSteps:=1000000) [go_sem],by simp (maxSteps:=1000000) [go_sem]⟩ (by simp (maxSteps:=1000000) [go_sem,kT]) ?_
 rintro x rs ⟨rfl,rfl⟩
 obtain⟨A,hA⟩:∃A:Nat,(A:Int)=max a 0:=⟨(max a 0).toNat,by omega⟩
 obtain⟨M,hM⟩:∃M:Int,M=min b (l.length- (t-f)):=⟨_,rfl⟩
 simp (maxSteps:=1000000) (disch:=omega) [go_sem,kT,jm,←hA,←hM]
 have hl:=vU l f t h1 h2
 refine zx (fun h=>?_) (fun h=>?_)
 ·simp (maxSteps:=1000000) (disch:=omega) [go_sem]
  refine zl jm (.os [6] 1 (zB [])) (by simp[jm]) (by simp (maxSteps:=1000000) [go_sem,zf,leA]) ⟨by simp (maxSteps:=1000000) [go_sem,jm,kT],?_⟩
  rw[zfq _ _ _ (by rw[hl];omega)]
 ·obtain⟨B,rfl⟩:=Int.eq_ofNat_of_zero_le (show 0≤M by omega)
  have hs:=zhI (held l f t) a b A B hA (by rw[hl];omega)
  simp (maxSteps:=1000000) (disch:=omega) [go_sem]
  refine zx (fun h'=>?_) (fun h'=>?_)
  ·obtain⟨C,hC⟩:∃C:Nat,(C:Int)=min (B:Int) (f:Int):=⟨min B f,by omega⟩
   simp (maxSteps:=1000000) (disch:=omega) [go_sem,←hC]
   refine⟨by omega,by omega,?_⟩
   refine zx (fun h2=>?_) (fun h2=>?_)
   ·have e1:max (A:Int) (f:Int)+((t:Int)-f)=t:=by omega
    obtain⟨D,hD⟩:∃D:Nat,(D:Int)=(B:Int)+((t:Int)-f):=⟨B+t-f,by omega⟩
    simp (maxSteps:=1000000) (disch:=omega) [go_sem,wrap64,e1,←hD]
    refine⟨by omega,by omega,?_⟩
    refine zl jm (.os [6] 1 (zB ((l.drop A).take (C-A)++(l.drop t).take (D-t)))) (by simp[jm]) (by simp (maxSteps:=1000000) [go_sem,zf,leA]) ⟨by simp (maxSteps:=1000000) [go_sem,jm,kT],?_⟩
    rw[hs]
    congr 2
    unfold held
    (apply List.ext_getElem?;intro j;simp only[List.getElem?_append,List.getElem?_take,List.getElem?_drop,List.length_take,List.length_drop];(repeat' split);all_goals first|rfl|omega|(congr 1;omega)|(symm;apply List.getElem?_eq_none;omega)|(apply List.getElem?_eq_none;omega))
   ·simp (maxSteps:=1000000) (disch:=omega) [go_sem]
    have hCB:C=B:=by omega
    refine zl jm (.os [6] 1 (zB ((l.drop A).take (C-A)))) (by simp[jm]) (by simp (maxSteps:=1000000) [go_sem,zf,leA]) ⟨by simp (maxSteps:=1000000) [go_sem,jm,kT],?_⟩
    rw[hs]
    congr 2
    unfold held
    (apply List.ext_getElem?;intro j;simp only[List.getElem?_append,List.getElem?_take,List.getElem?_drop,List.length_take];(repeat' split);all_goals first|rfl|omega|(congr 1;omega)|(symm;apply List.getElem?_eq_none;omega)|(apply List.getElem?_eq_none;omega))
  ·simp (maxSteps:=1000000) (disch:=omega) [go_sem]
   refine zx (fun h4=>?_) (fun h4=>?_)
   ·have e1:max (A:Int) (f:Int)+((t:Int)-f)=(A+t-f:Nat):=by omega
    obtain⟨D,hD⟩:∃D:Nat,(D:Int)=(B:Int)+((t:Int)-f):=⟨B+t-f,by omega⟩
    simp (maxSteps:=1000000) (disch:=omega) [go_sem,wrap64,e1,←hD]
    refine⟨by omega,by omega,?_⟩
    refine zl jm (.os [6] 1 (zB ((l.drop (A+t-f)).take (D- (A+t-f))))) (by simp[jm]) (by simp (maxSteps:=1000000) [go_sem,zf,leA]) ⟨by simp (maxSteps:=1000000) [go_sem,jm,kT],?_⟩
    rw[hs]
    congr 2
    unfold held
    (apply List.ext_getElem?;intro j;simp only[List.getElem?_append,List.getElem?_take,List.getElem?_drop,List.length_take];(repeat' split);all_goals first|rfl|omega|(congr 1;omega)|(symm;apply List.getElem?_eq_none;omega)|(apply List.getElem?_eq_none;omega))
   ·omega
theorem zdJ [Gi](l:List Int)(f t:Nat)(a b:Int)(h1:f≤t)(h2:t≤l.length)(h3:(l.length:Int)≤4398046511104):
  CR Tryz.prog 149 jm [.lp [0] 0,.p (.int .i64 a),.p (.int .i64 b)] (kT l f t) (fin l f t a b):=by
 refine CR.ren (Vg l f t a b h1 h2 h3) 100 ?_
 rintro x rs ⟨rfl,rfl⟩
 exact⟨[([0],[0]),([0,0],[0,0])],by simp[go_sem],by simp[go_sem,jm],by simp[go_sem,kT],by simp[go_sem]⟩
def zoq(l:List Int)(f t:Nat):AV→List (Tok×List AV)→Prop:=fun x rs=>rs=kT l f t∧x=.p (zh (held l f t))
theorem X5 [Gi](l:List Int)(f t:Nat)(h1:f≤t)(h2:t≤l.length)(h3:(l.length:Int)≤4398046511104):CR Tryz.prog 94 jm [.lp [0] 0] (kT l f t) (zoq l f t):=by
 refine zm mixed 3 [] Tryz.func94 rfl (by kernel_rfl) rfl (by simp) (by simp) ?_
 simp (maxSteps:=1000000) (disch:=omega) [go_sem,Tryz.f94,kT,jm]
 refine⟨⟨rfl,by simp[Tryz.f93]⟩,?_⟩
 refine zb [([0],[0]),([0,0],[0,0])] (V5 l f t h1 h2 (by omega)) (by simp (maxSteps:=1000000) [go_sem,jm]) ⟨by simp (maxSteps:=1000000) [go_sem],by simp (maxSteps:=1000000) [go_sem]⟩ (by simp (maxSteps:=1000000) [go_sem,kT]) ?_
 rintro x rs ⟨rfl,rfl⟩
 have hl:=vU l f t h1 h2
 simp (maxSteps:=1000000) (disch:=omega) [go_sem,kT,jm]
 refine⟨⟨rfl,by simp[Tryz.f149]⟩,?_⟩
 refine zb [([0],[0]),([0,0],[0,0])] (zdJ l f t 0 (l.length- (t-f)) h1 h2 h3) (by simp (maxSteps:=1000000) [go_sem,jm]) ⟨by simp (maxSteps:=1000000) [go_sem],by simp (maxSteps:=1000000) [go_sem]⟩ (by simp (maxSteps:=1000000) [go_sem,kT]) ?_
 rintro x rs ⟨rfl,rfl⟩
 simp (maxSteps:=1000000) (disch:=omega) [go_sem,kT,jm,zh]
 refine zl jm (.p (zh (sliced (held l f t) 0 (l.length- (t-f))))) (by simp[jm]) (by simp (maxSteps:=1000000) [go_sem,zf,leA,zh]) ⟨by simp (maxSteps:=1000000) [go_sem,jm,kT],?_⟩
 have e:sliced (held l f t) 0 ((l.length:Int)- (t-f))=held l f t:=by
  unfold sliced
  have:((l.length:Int)- (t-f)).toNat=(held l f t).length:=by omega
  rw[this];simp
 rw[e]
end Go.Proofs.YtjefahhmkcfiiaaGreat
end
section
namespace Go.Proofs.YtjefahhmkcfiiaaGreat
open Go.AM
set_option maxHeartbeats 4000000
set_option maxRecDepth 10000
attribute [local irreducible] za
structure Tx where
 g:List Int
 f:Nat
 t:Nat
def txR(e:PV)(x:Tx)(L:List (List Int)):List (Tok×List AV):=
 [([0],[.p e,.lp [0,1] 0,.p (X3 (pl L)),.p (.int .i64 (qi L:Nat))]),([0,1],[.la [0,2] 1 0 x.g.length,.p (.int .i64 (x.f:Nat)),.p (.int .i64 (x.t:Nat))]),([0,2],rcs x.g)]
def txT:List Tok:=[[0],[0,1],[0,2]]
def zdK:List (Tok×Tok):=[([0],[0,1]),([0,0],[0,2])]
attribute [go_sem] txR txT zdK kT jm
structure Wr(x:Tx)(L:List (List Int)):Prop where
 ft:x.f≤x.t
 tl:x.t≤x.g.length
 n:(x.g.length:Int)≤4398046511104
 held:held x.g x.f x.t=L.flatten
 cl:ClL L
theorem Wr.len {x:Tx} {L:List (List Int)}(h:Wr x L):(x.g.length:Int)- (x.t-x.f)=qi L:=by
 have:=vU x.g x.f x.t h.ft h.tl
 rw[h.held,Zm]at this
 have h1:=h.ft
 have h2:=h.tl
 omega
theorem XM {e:PV}(h:ZR e):∃z y,e=.pt z y:=by
 obtain⟨c,b,j,f,p,_,rfl⟩:=h
 exact⟨_,_,rfl⟩
theorem jO [Gi](e:PV) {x:Tx} {L:List (List Int)}(h:Wr x L)(a:Int):CR Tryz.prog 44 txT [.lp [0] 0,.p (.int .i64 a)] (txR e x L) (keeps (txR e x L) (.int .i64 (plc L (kf L a):Nat))):=by
 refine X0 Tryz.func44 5 [] [] [] ?_
 simp (maxSteps:=1000000) [go_sem,Tryz.f44]
 refine zn (UK h.cl a) ?_
 simp (maxSteps:=1000000) [go_sem]
 exact YK
theorem vB [Gi](e:PV) {x:Tx} {L:List (List Int)}(h:Wr x L)(a n:Int):CR Tryz.prog 52 txT [.lp [0] 0,.p (.int .i64 a),.p (.int .i64 n)] (txR e x L) (keeps (txR e x L) (.int .i64 (plc L (goK L a n):Nat))):=by
 refine X0 Tryz.func52 7 [] [] [] ?_
 simp (maxSteps:=1000000) [go_sem,Tryz.f52]
 refine zn (zmK h.cl a n) ?_
 simp (maxSteps:=1000000) [go_sem]
 exact YK
theorem xz [Gi](e:PV) {x:Tx} {L:List (List Int)}(h:Wr x L):CR Tryz.prog 46 txT [.lp [0] 0] (txR e x L) (keeps (txR e x L) (.int .i64 (qi L:Nat))):=by
 refine X0 Tryz.func46 3 [] [] [] ?_
 simp (maxSteps:=1000000) [go_sem,Tryz.f46]
 have hn:=h.n
 refine call zdK (V5 x.g x.f x.t h.ft h.tl (by omega)) ?_
 rintro _ _ ⟨rfl,rfl⟩
 simp (maxSteps:=1000000) [go_sem,h.len]
 exact YK
theorem zho [Gi](e:PV) {x:Tx} {L:List (List Int)}(h:Wr x L):CR Tryz.prog 51 txT [.lp [0] 0] (txR e x L) (keeps (txR e x L) (zh L.flatten)):=by
 refine X0 Tryz.func51 3 [] [] [] ?_
 simp (maxSteps:=1000000) [go_sem,Tryz.f51]
 refine call zdK (X5 x.g x.f x.t h.ft h.tl h.n) ?_
 rintro _ _ ⟨rfl,rfl⟩
 rw[h.held]
 simp (maxSteps:=1000000) [go_sem]
 exact YK
def znE(e:PV)(L:List (List Int)):AV→List (Tok×List AV)→Prop:=fun x rs=>∃X:Tx,Wr X L∧X.g.length=qi L+8∧x=.lp [0] 0∧rs=txR e X L
def znP(e:PV)(L:List (List Int)):AV→List (Tok×List AV)→Prop:=fun x rs=>∃X:Tx,Wr X L∧X.g.length=qi L+8∧x=.lp [18] 0∧rs=[([13,0],[.la [13,0,0] 1 0 X.g.length,.p (.int .i64 (X.f:Nat)),.p (.int .i64 (X.t:Nat))]),([13,0,0],rcs X.g),([18],[.p e,.lp [13,0] 0,.p (X3 (pl L)),.p (.int .i64 (qi L:Nat))])]
theorem ziT(l:List Int)(hn:l.length<2^31)(hr:∀x∈l,zL x):ClL (qR za l)where
 full:=wh l hn hr
 sum:=by rw[ju.sum];exact hn
theorem zkP [Gi] {e:PV}(hT:ZR e)(l:List Int)(hn:l.length<2^20)(hr:∀x∈l,zL x):CR Tryz.prog 72 [] [.p e,.p (zh l)] [] (is (.p (zh (Zu za l)))):=by
 obtain⟨c,b,j,f,p,h,rfl⟩:=hT
 have:=zea h je zeX M0.1 (Z9 M0.2) (qm M0.2) l hn hr
 rw[zfw]at this
 exact this
theorem zbL [Gi] {e:PV}(hT:ZR e)(l:List Int)(hn:l.length<2^20)(hr:∀x∈l,zL x)(hs:(Zu za l).length≤65536):CR Tryz.prog 33 [] [.p e,.p (zh l)] [] (znE e (qR za (Zu za l))):=by
 refine CR.ren (R:=znP e (qR za (Zu za l))) ?_ 100 ?_
 ·refine walk Tryz.func33 5 [] [] [] ?_
  have hr2:=ju.rune l hn hr
  have hnf:=zkP hT l hn hr
  generalize Zu za l=s at hs hr2 hnf
  have hcl:=ziT s (by omega) hr2
  have hio:=zeJ hT s (by omega) hr2
  have hsum:qi (qR za s)=s.length:=ju.sum s
  have hfl:(qR za s).flatten=s:=ju.flat s
  generalize qR za s=L at hcl hio hsum hfl
  obtain⟨z,y,rfl⟩:=XM hT
  simp (maxSteps:=1000000) [go_sem,Tryz.f33]
  refine zn hnf ?_
  have g:¬(65536:Int)<s.length:=by omega
  simp (maxSteps:=1000000) [go_sem,g]
  refine call [] (zhM s (by omega)) ?_
  rintro _ _ ⟨l',rfl,hl',rfl,hh⟩
  simp (maxSteps:=1000000) [go_sem]
  refine zn hio ?_
  simp (maxSteps:=1000000) [go_sem]
  refine zl [[13,0],[13,0,0],[18]] (.lp [18] 0) (by simp) (by simp[go_sem,zf,leA,leT]) ⟨⟨l',s.length,s.length+8⟩,⟨by simp,by simp[hl'],by simp only[hl'];omega,by rw[hfl];exact hh,hcl⟩,by rw[hl',hsum],rfl,?_⟩
  simp (maxSteps:=1000000) [go_sem]
 ·rintro x rs ⟨X,h1,h2,rfl,rfl⟩
  exact⟨[([0],[18]),([0,1],[13,0]),([0,2],[13,0,0])],by simp[go_sem],by simp,X,h1,h2,by simp[go_sem],by simp[go_sem]⟩
end Go.Proofs.YtjefahhmkcfiiaaGreat
end
section
namespace Go.Proofs.YtjefahhmkcfiiaaGreat
open Go.AM
set_option maxHeartbeats 4000000
set_option maxRecDepth 10000
attribute [local irreducible] za
def zln:OT:=.now 0 0 (.now 1 0 (.now 2 0 (.now 3 0 (.now 4 0 (.now 5 0 (.now 6 0 (.mk [(7,.now 8 0 (.now 9 0 (.now 10 2 (.mk [(11,.mk [])]))))])))))))
def ziz(L:List (List Int))(a:Nat):AV→List (Tok×List AV)→Prop:=fun y rs=>∃k,(k<L.length∧plc L k≤a∧y=.p (.int .i64 (plc L k:Nat)))∧rs=[]
theorem zkN [Gi] {e:PV}(hT:ZR e) {l:List Int} {L:List (List Int)}(h:Ln l L)(a:Nat)(ha:a<l.length):CR Tryz.prog 229 [] [.p e,.p (zh l),.p (.int .i64 a)] [] (ziz L a):=by
 refine walk Tryz.func229 10 [] [200004,200005] [] ?_
 have hs:=h.sum
 have hcl:=h.cl
 have hln:=h.n
 have h0:0<L.length:=by
  cases L with
  |nil=>rw[show qi []=0 from rfl]at hs;omega
  |cons c L=>simp
 simp (maxSteps:=1000000) [go_sem,Tryz.f229]
 refine loop (fun i:Nat=>i≤a) (fun i=>[(2,.p (.int .i64 (i:Nat))),(7,.zZ),(8,.zZ),(9,.zZ)]) (fun _=>[]) (fun i=>i) a (Nat.le_refl _) (fun i hi=>?_)
 by_cases c0:i=0
 ·subst c0
  simp (maxSteps:=1000000) [go_sem]
  exact zg (.p (.int .i64 0)) rfl (by simp[go_sem,zf,leA,leT]) ⟨0,⟨h0,by rw[qV];omega,by rw[qV];rfl⟩,rfl⟩
 ·obtain⟨j,hj⟩:∃j,i=j+1:=⟨i-1,by omega⟩
  have c1:(0:Int)<i:=by omega
  have c1':0<i:=by omega
  have w1:IntKind.i64.wrap ((i:Int)-1)=(j:Int):=qC (by omega) hj
  have hjl:j<l.length:=by omega
  have hil:i<l.length:=by omega
  obtain⟨p,hp⟩:∃p,l[j]=p:=⟨_,rfl⟩
  obtain⟨x,hx⟩:∃x,l[i]=x:=⟨_,rfl⟩
  have em1:elemAt (zB l) j=.int .i32 p:=by rw[ZF hjl,hp]
  have em2:elemAt (zB l) i=.int .i32 x:=by rw[ZF hil,hx]
  have hpr:zL p:=h.r p (by rw[←hp];exact List.getElem_mem _)
  have hxr:zL x:=h.r x (by rw[←hx];exact List.getElem_mem _)
  have g1:(j:Int)<l.length:=by omega
  have g2:(i:Int)<l.length:=by omega
  have hst:=YB hT (Zo T0 QV p).1 x hxr
  have hcut:(Zo T0 (Zo T0 QV p).1 x).2=yV za p [] x:=by
   have e1:(Zo T0 QV p).1=Zk QV (zJ za p) (pcD p) (ZC za p):=by rw[yF]
   rw[e1,yF]
   have hv:=Us.start (pre:=[]) (x:=p) (.inl rfl)
   have:=hv.cut x
   simp only[hv.so,Bool.not_true,Bool.false_or]
   exact this
  have hall:yV za p [] x=true→J8 p x=false→∃k,k<L.length∧plc L k=i:=fun b1 b2=>by
   have b3:=KT l L h.eq hcl j (by omega)
   simp only[hp,←hj,hx]at b3
   rw[zie b1 b2]at b3
   have b4:(plc L (kf L i):Int)=i:=of_decide_eq_true b3.symm
   exact⟨kf L i,V0 hcl (by omega) (by omega),by omega⟩
  simp (maxSteps:=1000000) [go_sem,c1']
  refine Zg zln (by kernel_rfl) ?_
  simp (maxSteps:=1000000) [go_sem,zln,w1,em1,g1]
  refine zn (YB hT QV p hpr) ?_ (ha':=by simp[go_sem,jT,QV])
  simp (maxSteps:=1000000) [go_sem,jT]
  refine Zg zfD (by kernel_rfl) ?_
  simp (maxSteps:=1000000) [go_sem,zfD,em2,g2]
  constructor
  ·refine zn hst ?_ (ha':=by simp[go_sem,jT])
   rw[hcut]
   cases hb:yV za p [] x with
   |true=>
    simp (maxSteps:=1000000) [go_sem,jT,w1,em1,em2,g1,g2]
    refine zn (zdj hT hpr hxr) ?_
    cases hh:J8 p x with
    |true=>
     simp (maxSteps:=1000000) [go_sem,w1]
     exact next j (by omega) (by omega)
    |false=>
     obtain⟨k,k1,k2⟩:=hall hb hh
     simp (maxSteps:=1000000) [go_sem]
     exact zg (.p (.int .i64 (i:Nat))) rfl (by simp[go_sem,zf,leA,leT]) ⟨k,⟨k1,by omega,by rw[k2]⟩,rfl⟩
   |false=>
    simp (maxSteps:=1000000) [go_sem,jT,w1,em1,em2,g1,g2]
    exact next j (by omega) (by omega)
  ·refine zn hst ?_ (ha':=by simp[go_sem,jT])
   rw[hcut]
   cases hb:yV za p [] x with
   |true=>
    simp (maxSteps:=1000000) [go_sem,jT,w1,em1,em2,g1,g2]
    refine zn (zdj hT hpr hxr) ?_
    cases hh:J8 p x with
    |true=>
     simp (maxSteps:=1000000) [go_sem,w1]
     exact next j (by omega) (by omega)
    |false=>
     obtain⟨k,k1,k2⟩:=hall hb hh
     simp (maxSteps:=1000000) [go_sem]
     exact zg (.p (.int .i64 (i:Nat))) rfl (by simp[go_sem,zf,leA,leT]) ⟨k,⟨k1,by omega,by rw[k2]⟩,rfl⟩
   |false=>
    simp (maxSteps:=1000000) [go_sem,jT,w1,em1,em2,g1,g2]
    exact next j (by omega) (by omega)
end Go.Proofs.YtjefahhmkcfiiaaGreat
end
section
namespace Go.Proofs.YtjefahhmkcfiiaaGreat
open Go.AM
set_option maxHeartbeats 4000000
set_option maxRecDepth 10000
attribute [local irreducible] za
theorem UB [Gi] {e:PV}(hT:ZR e) {l:List Int} {L:List (List Int)}(h:Ln l L)(a:Int):CR Tryz.prog 213 [] [.p e,.p (zh l),.p (.int .i64 a)] [] (is (.p (.int .i64 (plc L (kf L a):Nat)))):=by
 refine XD 9 [] Tryz.func213 rfl [] rfl (by simp) (by simp) ?_
 have hs:=h.sum
 have hcl:=h.cl
 have hln:=h.n
 refine Sem.WV [] mixed ?_
 simp (maxSteps:=1000000) [go_sem,Tryz.f213]
 refine Sem.scope ?_
 refine Sem.WV [] mixed ?_
 by_cases c1:a≤0
 ·have e1:plc L (kf L a)=0:=by
   by_cases c0:a<0
   ·rw[za8 L c0,qV]
   ·have:=vT L a (by omega);omega
  rw[e1]
  simp (maxSteps:=1000000) [go_sem,c1]
  exact ret
 by_cases c2:(l.length:Int)≤a
 ·rw[zby hcl (by omega),qc,hs]
  simp (maxSteps:=1000000) [go_sem,c1,c2]
  exact ret
 obtain⟨n,rfl⟩:∃n:Nat,a=n:=⟨a.toNat,by omega⟩
 simp (maxSteps:=1000000) [go_sem]
 have c1':¬n=0:=by omega
 have c2':¬l.length≤n:=by omega
 simp (maxSteps:=1000000) [go_sem,c1',c2']
 refine Sem.WV [] mixed ?_
 simp (maxSteps:=1000000) [go_sem]
 refine call [] (zkN hT h n (by omega)) ?_
 rintro _ _ ⟨k0,⟨k1,k2,rfl⟩,rfl⟩
 simp (maxSteps:=1000000) [go_sem]
 refine Sem.label (Sem.WV [] mixed ?_)
 simp (maxSteps:=1000000) [go_sem]
 obtain⟨N,hN⟩:∃N,N=kf L (n:Nat):=⟨_,rfl⟩
 rw[←hN]
 refine loop (fun k:Nat=>k<L.length∧plc L k≤n) (fun k=>[(7,.p (.int .i64 (plc L k:Nat))),(8,.zZ)]) (fun _=>[]) (fun k=>L.length-k) k0 ⟨k1,k2⟩ (fun k hk=>?_)
 obtain⟨h1,h2⟩:=hk
 have hlt:=j8 hcl h1
 by_cases c3:plc L k<n
 ·have c3':(plc L k:Int)<n:=by omega
  have hX:=VR hT h h1
  simp (maxSteps:=1000000) [go_sem,c3']
  refine zn hX ?_
  by_cases c4:n<plc L (k+1)
  ·have c4':(n:Int)<plc L (k+1):=by omega
   have e1:N=k:=by rw[hN];exact Vn hcl (by omega) (by omega) (fun _=>by omega)
   rw[e1]
   simp (maxSteps:=1000000) [go_sem,c4']
   refine Sem.of [] mixed ?_
   simp (maxSteps:=1000000) [go_sem]
   exact ret
  ·have c4':¬(n:Int)<plc L (k+1):=by omega
   have k3:k+1<L.length:=by
    refine Nat.lt_of_le_of_ne (by omega) (fun e=>?_)
    rw[e,qc]at c4;omega
   simp (maxSteps:=1000000) [go_sem,c4']
   exact next (k+1) ⟨k3,by omega⟩ (by omega)
 ·have c3':¬(plc L k:Int)<n:=by omega
  have e1:N=k:=by rw[hN];exact Vn hcl (by omega) (by omega) (fun _=>by omega)
  rw[e1]
  simp (maxSteps:=1000000) [go_sem,c3']
  refine Sem.of [] mixed ?_
  simp (maxSteps:=1000000) [go_sem]
  exact ret
theorem zjy [Gi] {e:PV}(hT:ZR e) {l:List Int} {L:List (List Int)}(h:Ln l L) {k:Nat}(hk:k<L.length):CR Tryz.prog 214 [] [.p e,.p (zh l),.p (.int .i64 (plc L (k+1):Nat))] [] (is (.p (.int .i64 (plc L k:Nat)))):=by
 refine walk Tryz.func214 7 [] [] [] ?_
 have hs:=h.sum
 have hln:=h.n
 have h1:=j8 h.cl hk
 have h2:=va h.cl (k:=k+1) hk
 have hf:=UB hT h ((plc L (k+1):Int)-1)
 rw[Vn h.cl (k:=k) (by omega) (by omega) (fun _=>by omega)]at hf
 have w1:IntKind.i64.wrap ((l.length:Int)+1)=(l.length:Int)+1:=wrap64 (by omega) (by omega)
 have w2:max (min (plc L (k+1):Int) ((l.length:Int)+1)) 0=plc L (k+1):=by omega
 have w3:IntKind.i64.wrap ((plc L (k+1):Int)-1)=(plc L (k+1):Int)-1:=wrap64 (by omega) (by omega)
 simp (maxSteps:=1000000) [go_sem,Tryz.f214,w1,w2,w3]
 refine zn hf ?_
 simp (maxSteps:=1000000) [go_sem]
 exact ret
theorem XJ {L:List (List Int)}(h:ClL L) {a:Int}(ha:a≤(plc L (kf L a):Int)):cnt (pl L) a=kf L a:=by
 have q3:=Qx L a
 by_cases c0:a<0
 ·rw[za8 L c0]
  exact wB (Nat.zero_le _) (fun i _ hi=>absurd hi (by omega)) (fun i _ _=>by omega)
 ·have q1:=vT L a (by omega)
  have e:a=(plc L (kf L a):Int):=by omega
  have:=Vy h q3
  rw[←e]at this
  exact this
theorem zdk {L:List (List Int)}(h:ClL L) {a:Int}(ha:(plc L (kf L a):Int)<a)(hk:kf L a<L.length):cnt (pl L) a=kf L a+1:=by
 have q2:=Jn L a hk
 refine wB (by rw[ZU];omega) (fun i hi hik=>?_) (fun i hi hik=>?_)
 ·rw[jh];have:=jI h (i:=i) (j:=kf L a) (by omega) (by omega);omega
 ·rw[jh];rw[ZU]at hi;have:=jI h (i:=kf L a+1) (j:=i) hik (by omega);omega
theorem zfT {L:List (List Int)}(h:ClL L) {a:Int}(ha:(qi L:Int)≤a):cnt (pl L) a=L.length:=by
 refine wB (by rw[ZU];omega) (fun i hi _=>?_) (fun i hi hik=>?_)
 ·rw[jh];rw[ZU]at hi;have:=qS h hi (Nat.le_refl _);rw[qc]at this;omega
 ·rw[ZU]at hi;omega
theorem zfA(L:List (List Int))(a:Int):cnt (pl L) a≤L.length:=by have:=zjK (pl L) a;rwa[ZU]at this
theorem ziH [Gi] {e:PV}(hT:ZR e) {l:List Int} {L:List (List Int)}(h:Ln l L)(a:Int):CR Tryz.prog 216 [] [.p e,.p (zh l),.p (.int .i64 a)] [] (is (.p (.int .i64 (plc L (cnt (pl L) a):Nat)))):=by
 refine walk Tryz.func216 8 [] [] [] ?_
 have hs:=h.sum
 have q3:=Qx L a
 have hF:=UB hT h a
 by_cases c1:a≤(plc L (kf L a):Int)
 ·rw[XJ h.cl c1]
  simp (maxSteps:=1000000) [go_sem,Tryz.f216]
  refine zn hF ?_
  simp (maxSteps:=1000000) [go_sem,c1]
  exact ret
 ·by_cases c2:kf L a<L.length
  ·rw[zdk h.cl (by omega) c2]
   simp (maxSteps:=1000000) [go_sem,Tryz.f216]
   refine zn hF ?_
   simp (maxSteps:=1000000) [go_sem,c1]
   refine zn (VR hT h c2) ?_
   simp (maxSteps:=1000000) [go_sem]
   exact ret
  ·have e1:kf L a=L.length:=by omega
   rw[e1,qc,hs]at c1 hF
   rw[zfT h.cl (by omega),qc,hs]
   simp (maxSteps:=1000000) [go_sem,Tryz.f216]
   refine zn hF ?_
   simp (maxSteps:=1000000) [go_sem,c1]
   refine zn (zh3 e l) ?_
   simp (maxSteps:=1000000) [go_sem]
   exact ret
theorem zfX {l:List Int} {L:List (List Int)}(h:Ln l L) {k:Nat}(hk:k<L.length):∃x,l[plc L k]?=some x∧(L[k]?.getD [])[0]?.getD 0=x∧zL x:=by
 obtain⟨x,c',e,hx⟩:=h.cl.full.r L[k] (List.getElem_mem hk)
 refine⟨x,?_,by rw[List.getElem?_eq_getElem hk];simp[e],hx⟩
 have e1:l=(L.take k).flatten++(L[k]++(L.drop (k+1)).flatten):=by
  have:=congrArg List.flatten (List.take_append_drop k L)
  rw[List.drop_eq_getElem_cons hk,List.flatten_append,List.flatten_cons,h.flat]at this
  exact this.symm
 have e2:plc L k=(L.take k).flatten.length:=by rw[Zm];rfl
 rw[e1,e2,List.getElem?_append_right (Nat.le_refl _),e]
 simp
theorem V6 [Gi] {e:PV}(hT:ZR e) {l:List Int} {L:List (List Int)}(h:Ln l L) {k:Nat}(hk:k<L.length):CR Tryz.prog 215 [] [.p e,.p (zh l),.p (.int .i64 (plc L k:Nat))] [] (is (.p (.bool (qT L k)))):=by
 refine walk Tryz.func215 7 [] [] [] ?_
 obtain⟨x,x1,x2,hx⟩:=zfX h hk
 have hlt:plc L k<l.length:=(List.getElem?_eq_some_iff.1 x1).1
 have em:elemAt (zB l) (plc L k)=.int .i32 x:=by rw[ZF hlt,(List.getElem?_eq_some_iff.1 x1).2]
 have e1:qT L k=decide (aL za 8 x=1):=by rw[qT,x2]
 have g:(plc L k:Int)<l.length:=by omega
 rw[e1]
 simp (maxSteps:=1000000) [go_sem,Tryz.f215,g,em]
 refine zn (zfo hT hx) ?_
 simp (maxSteps:=1000000) [go_sem]
 exact ret
theorem J5 [Gi](e:PV)(l:List Int):CR Tryz.prog 215 [] [.p e,.p (zh l),.p (.int .i64 (l.length:Nat))] [] (is (.p (.bool false))):=by
 refine walk Tryz.func215 7 [] [] [] ?_
 have em:elemAt (zB l) l.length=.int .i8 0:=by
  unfold elemAt
  rw[List.getD_eq_getElem?_getD,List.getElem?_eq_none (by rw[zp];omega)];rfl
 simp (maxSteps:=1000000) [go_sem,Tryz.f215,em]
 exact ret
def jU(L:List (List Int))(k:Nat):Nat:=fwW L true (L.length-fwW L false (L.length-k) k) (fwW L false (L.length-k) k)
def yx(L:List (List Int))(k:Nat):Nat:=bkW L true (bkW L false k)
theorem xX(L:List (List Int))(q:Bool)(p:Nat):bkW L q (p+1)=if qT L p=q then bkW L q p else p+1:=rfl
theorem xN(L:List (List Int))(q:Bool) {p:Nat}(h:p<L.length):fwW L q (L.length-p) p=if qT L p=q then fwW L q (L.length- (p+1)) (p+1)else p:=by
 have:L.length-p=(L.length- (p+1))+1:=by omega
 rw[this];rfl
theorem uC(L:List (List Int))(q:Bool):fwW L q (L.length-L.length) L.length=L.length:=by rw[Nat.sub_self];rfl
theorem Ka [Gi] {e:PV}(hT:ZR e) {l:List Int} {L:List (List Int)}(h:Ln l L)(a:Int):CR Tryz.prog 182 [] [.p e,.p (zh l),.p (.int .i64 a)] [] (is (.p (.int .i64 (plc L (yx L (kf L a)):Nat)))):=by
 refine walk Tryz.func182 10 [] [] [] ?_
 have hcl:=h.cl
 obtain⟨R,hR⟩:∃R,R=yx L (kf L a):=⟨_,rfl⟩
 have q3:=Qx L a
 rw[←hR]
 simp (maxSteps:=1000000) [go_sem,Tryz.f182]
 refine zn (UB hT h a) ?_
 simp (maxSteps:=1000000) [go_sem]
 refine loop (fun r:Nat×Bool=>r.1≤L.length∧R=bkW L true (if r.2 then r.1 else bkW L false r.1)) (fun r=>[(2,.p (.int .i64 (plc L r.1:Nat))),(7,.p (.bool r.2)),(8,.zZ),(9,.zZ)]) (fun _=>[]) (fun r=>r.1) (kf L a,false) ⟨q3,by rw[hR];rfl⟩ (fun r hr=>?_)
 obtain⟨k,b⟩:=r
 obtain⟨h1,h2⟩:=hr
 simp only at h1 h2
 by_cases c0:k=0
 ·subst c0
  have e1:R=0:=by rw[h2];cases b<;>rfl
  rw[e1]
  simp (maxSteps:=1000000) [go_sem,qV]
  exact ret
 ·obtain⟨p,rfl⟩:∃p,k=p+1:=⟨k-1,by omega⟩
  have hp:p<L.length:=by omega
  have g1:=j8 hcl hp
  have g2:(0:Int)<plc L (p+1):=by omega
  have g3:0<plc L (p+1):=by omega
  have hI:=V6 hT h hp
  rw[xX]at h2
  simp (maxSteps:=1000000) [go_sem,g3]
  refine zn (zjy hT h hp) ?_
  simp (maxSteps:=1000000) [go_sem]
  refine zn hI ?_
  cases hb:qT L p with
  |true=>
   rw[hb]at h2
   cases b with
   |true=>
    simp (maxSteps:=1000000) [go_sem]
    exact next (p,true) ⟨by show p≤L.length;omega,by rw[h2];simp[xX,hb]⟩ (by show p<p+1;omega)
   |false=>
    simp (maxSteps:=1000000) [go_sem]
    exact next (p,true) ⟨by show p≤L.length;omega,by rw[h2];simp[xX,hb]⟩ (by show p<p+1;omega)
  |false=>
   rw[hb]at h2
   cases b with
   |true=>
    have e1:R=p+1:=by rw[h2];simp[xX,hb]
    rw[e1]
    simp (maxSteps:=1000000) [go_sem]
    exact ret
   |false=>
    simp (maxSteps:=1000000) [go_sem]
    exact next (p,false) ⟨by show p≤L.length;omega,by rw[h2];simp⟩ (by show p<p+1;omega)
end Go.Proofs.YtjefahhmkcfiiaaGreat
end
