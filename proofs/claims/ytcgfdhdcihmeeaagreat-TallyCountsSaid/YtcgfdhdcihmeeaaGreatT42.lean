/- A part of the proof of this seat's statements, by an abstract machine: what each operation does to values, and what the law's functions compute. Conditions: as each law says. -/
import Derived.Test.YtcgfdhdcihmeeaaGreatT17
section
namespace Go.AM
def zkZ {ι:Type}(k:Nat)(S:St)(inv:ι→Prop)(V:ι→List (Nat×AV))(R:ι→List (Tok×List AV))(Q:Exit→St→Prop):Exit→St→Prop:=fun e S'=>match e with
 |.exit j=>if j=k then ∃i ts,inv i∧S'=S.Ja (V i) (R i) ts else Q (.exit j) S'
 |e=>Q e S'
theorem Kp {ι:Type} {k:Nat} {S:St} {inv:ι→Prop} {V:ι→List (Nat×AV)} {R:ι→List (Tok×List AV)} {Q:Exit→St→Prop} {S':St}(i:ι)(hi:inv i)(h:S'=S.Ja (V i) (R i) S'.ts):zkZ k S inv V R Q (.exit k) S':=by
 show(if k=k then _ else _)
 rw[if_pos rfl]
 exact⟨i,_,hi,h⟩
theorem zf2 [Gi] {P:Program} {D:List Nat} {c:Code} {Q:Exit→St→Prop} {S:St} {ι:Type}(k:Nat)(inv:ι→Prop)(V:ι→List (Nat×AV))(R:ι→List (Tok×List AV))(h:wpA P D c (zkZ k S inv V R Q) S)
  (hr:∀i ts,inv i→Q (.exit k) (S.Ja (V i) (R i) ts)):wpA P D c Q S:=by
 refine Z6 c (fun e S' h=>?_) h
 cases e with
 |exit j=>
  have h':if j=k then ∃i ts,inv i∧S'=S.Ja (V i) (R i) ts else Q (.exit j) S':=h
  split at h'
  ·rename_i e
   subst e
   obtain⟨i,ts,hi,rfl⟩:=h'
   exact hr i ts hi
  ·exact h'
 |_=>exact h
end Go.AM
end
section
namespace Go.AM
def Zv(a:Nat):Nat→Nat→(Nat→List AV)→List (Tok×List AV)
 |_,0,_=>[]
 |k,n+1,f=>([a,k],f k)::Zv a (k+1) n f
def fam(a n:Nat)(f:Nat→List AV):List (Tok×List AV):=Zv a 0 n f
def x8(a b:Nat):Nat→Nat→List (Tok×Tok)
 |_,0=>[]
 |k,n+1=>([a,k],[b,k])::x8 a b (k+1) n
def xW(a b n:Nat):List (Tok×Tok):=x8 a b 0 n
def xm(a:Nat):Nat→Nat→List Tok
 |_,0=>[]
 |k,n+1=>[a,k]::xm a (k+1) n
def KR(a n:Nat):List Tok:=xm a 0 n
def laK(a z m:Nat):Nat→Nat→List AV
 |_,0=>[]
 |k,n+1=>.la [a,k] z 0 m::laK a z m (k+1) n
def laF(a z m n:Nat):List AV:=laK a z m 0 n
def VU(f:Nat→List AV)(k:Nat)(x:List AV):Nat→List AV:=fun i=>if i=k then x else f i
def inF(a k n:Nat):Tok→Bool
 | [b,i]=>b==a&&decide (k≤i)&&decide (i<k+n)
 |_=>false
theorem xd(a k:Nat)(t:Tok):inF a k 0 t=false:=by
 unfold inF
 split
 ·rename_i b i
  by_cases h:k≤i
  ·simp[h]
  ·simp[h]
 ·rfl
theorem kZ(a k n:Nat)(t:Tok):inF a k (n+1) t=(t== [a,k] || inF a (k+1) n t):=by
 unfold inF
 split
 ·rename_i b i
  by_cases hb:b=a
  ·subst hb
   by_cases hi:i=k
   ·subst hi;simp
   ·have:([b,i]== [b,k])=false:=by simp[hi]
    rw[this]
    simp
    rw[show decide (k≤i)=decide (k+1≤i)from decide_eq_decide.2 (by omega),show k+(n+1)=k+1+n by omega]
  ·have h3:(b==a)=false:=by simpa using hb
   simp[h3]
 ·rename_i hno
  have:(t== [a,k])=false:=by
   simp only[beq_eq_false_iff_ne,ne_eq]
   intro e;exact hno _ _ e
  simp[this]
def noF:Tok→Nat
 | [_,i]=>i
 |_=>0
theorem KU(a:Nat)(f:Nat→List AV)(t:Tok):∀(n k:Nat),zl (Zv a k n f) t=if inF a k n t then some (f (noF t))else none
 |0,k=>by rw[xd];rfl
 |n+1,k=>by
  rw[kZ]
  simp only[Zv,zl,KU a f t n (k+1)]
  by_cases h:[a,k]=t
  ·subst h;simp[noF]
  ·have h2:(t== [a,k])=false:=by simp only[beq_eq_false_iff_ne,ne_eq];exact fun e=>h e.symm
   rw[if_neg h,h2];simp
theorem vM {a n:Nat} {f:Nat→List AV} {t:Tok}:zl (fam a n f) t=if inF a 0 n t then some (f (noF t))else none:=KU a f t n 0
@[go_sem] theorem zkK {a n i : Nat} {f : Nat → List AV} (h : i < n) : zl (fam a n f) [a, i] = some (f i) := by rw [vM]; simp [inF, h, noF]
@[go_sem] theorem zk4 {a b n : Nat} {f : Nat → List AV} : zl (fam a n f) [b] = none := by rw [vM]; simp [inF]
theorem uC {a:Nat} {f g:Nat→List AV}:∀{n k:Nat},(∀i,k≤i→i<k+n→f i=g i)→Zv a k n f=Zv a k n g
 |0,k,_=>rfl
 |n+1,k,h=>by
  simp only[Zv]
  rw[h k (by omega) (by omega),uC fun i h1 h2=>h i (by omega) (by omega)]
theorem zaS {a:Nat} {f:Nat→List AV} {g:List AV→List AV}:∀{n k:Nat},(Zv a k n f).map (fun x=>(x.1,g x.2))=Zv a k n fun i=>g (f i)
 |0,k=>rfl
 |n+1,k=>by simp only[Zv,List.map_cons,zaS]
@[go_sem] theorem zjR {a n : Nat} {f : Nat → List AV} {h : AV → AV} : (fam a n f).map (fun x => (x.1, List.map h x.2)) = fam a n fun i => (f i).map h := zaS (g := fun l => l.map h)
theorem Xd {a:Nat} {f:Nat→List AV} {x:List AV} {j:Nat}:∀{n k:Nat},k≤j→j<k+n→QB (Zv a k n f) [a,j] x=Zv a k n (VU f j x)
 |0,k,h1,h2=>by omega
 |n+1,k,h1,h2=>by
  simp only[Zv,QB]
  by_cases e:k=j
  ·subst e
   rw[if_pos rfl]
   simp only[VU,if_true]
   congr 1
   exact uC fun i h3 _=>by rw[VU,if_neg (show ¬i=k by omega)]
  ·rw[if_neg (by simp[e]),Xd (by omega) (by omega)]
   simp only[VU,if_neg e]
@[go_sem] theorem ziR {a n j : Nat} {f : Nat → List AV} {x : List AV} (h : j < n) : QB (fam a n f) [a, j] x = fam a n (VU f j x) := Xd (by omega) (by omega)
theorem zcr {a:Nat} {f:Nat→List AV} {t:Tok}:∀{n k:Nat},has (Zv a k n f) t=inF a k n t
 |0,k=>by rw[xd];rfl
 |n+1,k=>by
  have ih:=zcr (a:=a) (f:=f) (t:=t) (n:=n) (k:=k+1)
  unfold has at ih⊢
  rw[kZ]
  simp only[Zv,List.any_cons,ih]
  congr 1
  exact Bool.beq_comm
theorem zj3 {a n:Nat} {f:Nat→List AV} {t:Tok}:has (fam a n f) t=inF a 0 n t:=zcr
theorem VM {a b:Nat} {t:Tok}:∀{n k:Nat},inM (x8 a b k n) t=if inF b k n t then some [a,noF t]else none
 |0,k=>by rw[xd];rfl
 |n+1,k=>by
  rw[kZ]
  simp only[x8,inM,VM]
  by_cases h:[b,k]=t
  ·subst h;simp[noF]
  ·have h2:(t== [b,k])=false:=by simp only[beq_eq_false_iff_ne,ne_eq];exact fun e=>h e.symm
   rw[if_neg h,h2];simp
theorem zbY {a b n:Nat} {t:Tok}:inM (xW a b n) t=if inF b 0 n t then some [a,noF t]else none:=VM
theorem wS {a b:Nat} {t:Tok}:∀{n k:Nat},zl (x8 a b k n) t=if inF a k n t then some [b,noF t]else none
 |0,k=>by rw[xd];rfl
 |n+1,k=>by
  rw[kZ]
  simp only[x8,zl,wS]
  by_cases h:[a,k]=t
  ·subst h;simp[noF]
  ·have h2:(t== [a,k])=false:=by simp only[beq_eq_false_iff_ne,ne_eq];exact fun e=>h e.symm
   rw[if_neg h,h2];simp
theorem KB {a b n:Nat} {t:Tok}:zl (xW a b n) t=if inF a 0 n t then some [b,noF t]else none:=wS
theorem Yw {a b d:Nat}(h:b≠d):∀{n k:Nat},okM d (x8 a b k n)=true
 |0,k=>rfl
 |n+1,k=>by
  have h1:inF a (k+1) n [a,k]=false:=by simp[inF];omega
  have h2:inF b (k+1) n [b,k]=false:=by simp[inF];omega
  simp only[x8,okM,wS,VM,Yw h,zM,h1,h2]
  simp[h]
theorem zcK {a b d n:Nat}(h:b≠d):okM d (xW a b n)=true:=Yw h
theorem YF {a:Nat} {p:Tok→Bool}:∀{n k:Nat},(∀i,k≤i→i<k+n→p [a,i]=true)→(xm a k n).all p=true
 |0,k,_=>rfl
 |n+1,k,h=>by
  simp only[xm,List.all_cons,h k (by omega) (by omega),Bool.true_and]
  exact YF fun i h1 h2=>h i (by omega) (by omega)
theorem zbE {a n:Nat} {p:Tok→Bool}(h:∀i,i<n→p [a,i]=true):(KR a n).all p=true:=YF fun i _ h2=>h i (by omega)
theorem vo {a:Nat} {t:Tok}:∀{n k:Nat},(xm a k n).contains t=inF a k n t
 |0,k=>by rw[xd];rfl
 |n+1,k=>by
  rw[kZ]
  simp only[xm,List.contains_cons,vo]
theorem Yc {a n:Nat} {t:Tok}:(KR a n).contains t=inF a 0 n t:=vo
theorem Wx {S:St} {m0:List (Tok×Tok)} {a b:Nat} {f:Nat→List AV}:∀{n k:Nat},(∀i,k≤i→i<k+n→zl S.rs [b,i]=some (f i))→qB S m0 (x8 a b k n)=Zv a k n fun i=>(f i).map (AV.ren (inM m0))
 |0,k,_=>rfl
 |n+1,k,h=>by
  simp only[x8,qB,h k (by omega) (by omega),Zv]
  rw[Wx fun i h1 h2=>h i (by omega) (by omega)]
theorem zcg {S:St} {m0:List (Tok×Tok)} {a b n:Nat} {f:Nat→List AV}(h:∀i,i<n→zl S.rs [b,i]=some (f i)):qB S m0 (xW a b n)=fam a n fun i=>(f i).map (AV.ren (inM m0)):=Wx fun i _ h2=>h i (by omega)
theorem zb7 {rs:List (Tok×List AV)} {a:Nat} {f:Nat→List AV}:∀{n k:Nat},(∀i,k≤i→i<k+n→∃xs,zl rs [a,i]=some xs∧leL xs (f i))→leR rs (Zv a k n f)
 |0,k,_=>trivial
 |n+1,k,h=>by
  obtain⟨xs,h1,h2⟩:=h k (by omega) (by omega)
  refine⟨by rw[h1];exact h2,zb7 fun i h1 h2=>h i (by omega) (by omega)⟩
theorem zkv {rs:List (Tok×List AV)} {a n:Nat} {f:Nat→List AV}(h:∀i,i<n→∃xs,zl rs [a,i]=some xs∧leL xs (f i)):leR rs (fam a n f):=zb7 fun i _ h2=>h i (by omega)
theorem zeL {a z m:Nat}:∀{n k:Nat},(laK a z m k n).length=n
 |0,k=>rfl
 |n+1,k=>by simp only[laK,List.length_cons,zeL]
@[go_sem] theorem zau {a z m n : Nat} : (laF a z m n).length = n := zeL
theorem zjF {a z m j:Nat}:∀{n k:Nat},j<n→(laK a z m k n)[j]?=some (.la [a,k+j] z 0 m):=by
 induction j with
 |zero=>intro n k h;obtain⟨n,rfl⟩:∃q,n=q+1:=⟨n-1,by omega⟩;simp[laK]
 |succ j ih=>
  intro n k h
  obtain⟨n,rfl⟩:∃q,n=q+1:=⟨n-1,by omega⟩
  simp only[laK,List.getElem?_cons_succ]
  rw[ih (by omega),show k+1+j=k+(j+1) by omega]
@[go_sem] theorem WA {a z m n j : Nat} (h : j < n) : (laF a z m n)[j]? = some (.la [a, j] z 0 m) := by
 have:=zjF (a:=a) (z:=z) (m:=m) (k:=0) h
 rwa[Nat.zero_add]at this
theorem zbX {a z m:Nat}:∀{n k:Nat},laK a z m k (n+1)=laK a z m k n++[.la [a,k+n] z 0 m]
 |0,k=>rfl
 |n+1,k=>by
  rw[laK,zbX]
  simp only[laK,List.cons_append]
  rw[show k+1+n=k+(n+1) by omega]
theorem zjo {a z m n:Nat}:laF a z m (n+1)=laF a z m n++[.la [a,n] z 0 m]:=by
 have:=zbX (a:=a) (z:=z) (m:=m) (n:=n) (k:=0)
 rwa[Nat.zero_add]at this
theorem zfj {a b z m:Nat} {h:AV→AV}:∀{n k:Nat},(∀i,k≤i→i<k+n→h (.la [a,i] z 0 m)=.la [b,i] z 0 m)→(laK a z m k n).map h=laK b z m k n
 |0,k,_=>rfl
 |n+1,k,hh=>by
  simp only[laK,List.map_cons,hh k (by omega) (by omega)]
  rw[zfj fun i h1 h2=>hh i (by omega) (by omega)]
theorem zeK {a b z m n:Nat} {h:AV→AV}(hh:∀i,i<n→h (.la [a,i] z 0 m)=.la [b,i] z 0 m):(laF a z m n).map h=laF b z m n:=zfj fun i _ h2=>hh i (by omega)
theorem zjI {a z m n:Nat} {rt tt:Tok→Bool}(h:∀i,i<n→rt [a,i]=true):(laF a z m n).map (AV.upd (AM.fil rt tt))=laF a z m n:=zeK fun i hi=>by simp[AV.upd,AM.fil,Qj,h i hi]
theorem Xn {a b z m n:Nat} {f:Tok→Option Tok}(h:∀i,i<n→f [a,i]=some [b,i]):(laF a z m n).map (AV.ren f)=laF b z m n:=zeK fun i hi=>by simp[AV.ren,AV.upd,UP,kG,h i hi]
end Go.AM
end
