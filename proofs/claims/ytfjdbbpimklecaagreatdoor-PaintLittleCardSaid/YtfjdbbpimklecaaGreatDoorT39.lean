/- A part of this seat's proofs, by an abstract machine. Conditions: each law's. -/
import Derived.Test.YtfjdbbpimklecaaGreatDoorT31
namespace Go.AM
section
@[go_sem] theorem zma {a n : Nat} {f : Nat → List AV} {t : Tok} : (fam a n f).any (fun x => x.1 == t) = inF a 0 n t := zmA
@[go_sem] theorem zmr {a b n i : Nat} : inF a 0 n [b, i] = (b == a && decide (i < n)) := by simp [inF]
@[go_sem] theorem zqJ {a b n : Nat} : inF a 0 n [b] = false := rfl
@[go_sem] theorem Vn {a z m n : Nat} {rt tt : Tok → Bool} (h : ∀ i, i < n → rt [a, i] = true) : (laF a z m n).map (AV.upd (AM.fil rt tt)) = laF a z m n := zme h
@[go_sem] theorem zcO {rs : List (Tok × List AV)} {a n : Nat} {f : Nat → List AV} (h : ∀ i, i < n → zn rs [a, i] = some (f i)) : leR rs (fam a n f) := zlT fun i hi => ⟨f i, h i hi, zj _⟩
@[go_sem] theorem zos {a b n i : Nat} {f : Nat → List AV} : zn (fam a n f) [b, i] = if b = a ∧ i < n then some (f i) else none := by
 rw[uw]
 by_cases h1:b=a
 ·by_cases h2:i<n<;>simp[inF,h1,h2,noF]
 ·simp[inF,h1]
@[go_sem] theorem zqF {a z m n : Nat} {r1 t1 r2 t2 : Tok → Bool} (h : ∀ i, i < n → (r1 [a, i] && r2 [a, i]) = true) : (laF a z m n).map (AV.upd (AM.fil r1 t1) ∘ AV.upd (AM.fil r2 t2)) = laF a z m n := by
 rw[←List.map_map,Vn fun i hi=>(Bool.and_eq_true _ _▸h i hi).2,Vn fun i hi=>(Bool.and_eq_true _ _▸h i hi).1]
theorem Yx {a d:Nat} {m:List (Tok×Tok)} {f:Nat→List AV}:∀{n k:Nat},(∀i,k≤i→i<k+n→Zw d m [a,i]=true)→ja d m (ZN a k n f)=ZN a k n f
 |0,k,_=>rfl
 |n+1,k,h=>by
  simp only[ZN,ja,h k (by omega) (by omega),if_true]
  rw[Yx fun i h1 h2=>h i (by omega) (by omega)]
@[go_sem] theorem zpt {a d n : Nat} {m : List (Tok × Tok)} {f : Nat → List AV} (h : ∀ i, i < n → Zw d m [a, i] = true) : ja d m (fam a n f) = fam a n f := Yx fun i _ h2 => h i (by omega)
@[go_sem] theorem zei {a b n i c : Nat} : zn (wS a b n) [c, i] = if c = a ∧ i < n then some [b, i] else none := by
 rw[J2]
 by_cases h1:c=a
 ·by_cases h2:i<n<;>simp[inF,h1,h2,noF]
 ·simp[inF,h1]
@[go_sem] theorem zdc {a b n c : Nat} : zn (wS a b n) [c] = none := by rw [J2]; rfl
@[go_sem] theorem zhE {a b n i c : Nat} : inM (wS a b n) [c, i] = if c = b ∧ i < n then some [a, i] else none := by
 rw[zcC]
 by_cases h1:c=b
 ·by_cases h2:i<n<;>simp[inF,h1,h2,noF]
 ·simp[inF,h1]
@[go_sem] theorem zad {a b n c : Nat} : inM (wS a b n) [c] = none := by rw [zcC]; rfl
@[go_sem] theorem zpe {a b d n : Nat} (h : b ≠ d) : okM d (wS a b n) = true := zcr h
theorem uc {S:St} {m0:List (Tok×Tok)} {a b n:Nat} {f:Nat→List AV}(h:∀i,i<n→zn S.rs [b,i]=some (f i)):qW S m0 (wS a b n)=fam a n fun i=>(f i).map (AV.ren (inM m0)):=zdm h
@[go_sem] theorem zqq {a z m n : Nat} {f : Tok → Option Tok} (h : ∀ i, i < n → f [a, i] = some [a, i]) : (laF a z m n).map (AV.ren f) = laF a z m n := zbc h
theorem JL {a n:Nat} {t:Tok}:t∈J3 a n↔inF a 0 n t=true:=by rw[←Xb,List.contains_iff_mem]
@[go_sem] theorem V0 {a n b i : Nat} : [b, i] ∈ J3 a n ↔ b = a ∧ i < n := by rw [JL, zmr]; simp
@[go_sem] theorem zpk {a n b : Nat} : [b] ∈ J3 a n ↔ False := by rw [JL]; simp [inF]
theorem Km {a:Nat} {p:Tok×List AV→Bool} {f:Nat→List AV}:∀{n k:Nat},(∀i,k≤i→i<k+n→p ([a,i],f i)=true)→List.filter p (ZN a k n f)=ZN a k n f
 |0,k,_=>rfl
 |n+1,k,h=>by
  simp only[ZN,List.filter_cons,h k (by omega) (by omega),if_true]
  rw[Km fun i h1 h2=>h i (by omega) (by omega)]
@[go_sem] theorem zom {a n : Nat} {p : Tok × List AV → Bool} {f : Nat → List AV} (h : ∀ i, i < n → p ([a, i], f i) = true) : List.filter p (fam a n f) = fam a n f := Km fun i _ h2 => h i (by omega)
@[go_sem] theorem zq7 {a z m n k : Nat} {h : k < (laF a z m n).length} : (laF a z m n)[k] = .la [a, k] z 0 m := by
 have h2:=VS (a:=a) (z:=z) (m:=m) (n:=n) (j:=k) (by simpa[zaP]using h)
 rw[List.getElem?_eq_getElem h]at h2
 exact Option.some.inj h2
def gM(k a R:Nat):List (Tok×Tok):=([0],[k])::wS 1 a R
def gT(R:Nat):List Tok:=[0]::J3 1 R
def gy(k a R C:Nat)(F:Nat→List AV):List (Tok×List AV):=([k],laF a 2 C R)::fam a R F
theorem zbM {k a R:Nat}:inM (gM k a R) [k]=some [0]:=by simp[gM,inM]
theorem K3 {k a R b i:Nat}:inM (gM k a R) [b,i]=if b=a∧i<R then some [1,i]else none:=by simp[gM,inM,zhE]
theorem zl1 {k a R b:Nat}(h:b≠k):inM (gM k a R) [b]=none:=by simp[gM,inM,zad,h.symm]
theorem X1 {k a R:Nat}:zn (gM k a R) [0]=some [k]:=by simp[gM,zn]
theorem ziA {k a R b i:Nat}:zn (gM k a R) [b,i]=if b=1∧i<R then some [a,i]else none:=by simp[gM,zn,zei]
@[go_sem high] theorem zqX {k a d R : Nat} (h1 : k ≠ d) (h2 : a ≠ d) : okM d (gM k a R) = true := by
 have e:inM (wS 1 a R) [k]=none:=zad
 simp[gM,okM,zdc,e,zS,zcr h2,h1]
@[go_sem high] theorem zkR {k a d R : Nat} : Q8 d (gM k a R) [0] = [k] := by rw [Q8, X1]
@[go_sem high] theorem zeg {k a d R i : Nat} : Q8 d (gM k a R) [1, i] = if i < R then [a, i] else [d, 1, i] := by
 rw[Q8,ziA]
 by_cases h:i<R<;>simp[h]
@[go_sem high] theorem zg5 {k a d R : Nat} (h : k ≠ d) : Zq d (gM k a R) (gT R) [k] = true := by simp [Zq, zbM, gT, zS, h]
@[go_sem high] theorem XX {k a d R i : Nat} (h : a ≠ d) : Zq d (gM k a R) (gT R) [a, i] = true := by
 rw[Zq,K3]
 by_cases q:i<R
 ·simp[q,zS,h,gT,V0]
 ·simp[q,zS,h]
@[go_sem high] theorem ziq {k a d R : Nat} : Zw d (gM k a R) [k] = false := by simp [Zw, zbM]
@[go_sem high] theorem zhQ {k a d R i : Nat} (h : a ≠ d) : Zw d (gM k a R) [a, i] = !decide (i < R) := by
 rw[Zw,K3]
 by_cases q:i<R<;>simp[q,zS,h]
theorem zct {a b z m n:Nat} {f:Tok→Option Tok}(h:∀i,i<n→f [a,i]=some [b,i]):(laF a z m n).map (AV.ren f)=laF b z m n:=zbc h
theorem ziv {S:St} {k a R C:Nat} {F:Nat→List AV}(h0:zn S.rs [k]=some (laF a 2 C R))(h1:∀i,i<R→zn S.rs [a,i]=some (F i)):qW S (gM k a R) (gM k a R)=gy 0 1 R C fun i=>(F i).map (AV.ren (inM (gM k a R))):=by
 have e:qW S (gM k a R) (gM k a R)=match zn S.rs [k]with
  |some cs=>([0],cs.map (AV.ren (inM (gM k a R))))::qW S (gM k a R) (wS 1 a R)
  |none=>qW S (gM k a R) (wS 1 a R):=rfl
 rw[e,h0]
 simp only
 rw[uc h1,zct (b:=1) fun i hi=>by rw[K3];simp[hi]]
 rfl
theorem Kg {S:St} {m0:List (Tok×Tok)} {a b:Nat}:∀{n k:Nat},(∀i,k≤i→i<k+n→zn S.rs [b,i]=none)→qW S m0 (vr a b k n)=[]
 |0,k,_=>rfl
 |n+1,k,h=>by
  simp only[vr,qW,h k (by omega) (by omega)]
  exact Kg fun i h1 h2=>h i (by omega) (by omega)
theorem zfc {S:St} {k a R:Nat}(h0:zn S.rs [k]=none)(h1:∀i,zn S.rs [a,i]=none):qW S (gM k a R) (gM k a R)=[]:=by
 have e:qW S (gM k a R) (gM k a R)=match zn S.rs [k]with
  |some cs=>([0],cs.map (AV.ren (inM (gM k a R))))::qW S (gM k a R) (wS 1 a R)
  |none=>qW S (gM k a R) (wS 1 a R):=rfl
 rw[e,h0]
 exact Kg fun i _ _=>h1 i
theorem YM {d a:Nat} {m:List (Tok×Tok)} {rest:List (Tok×List AV)} {f:Nat→List AV} {b:Nat}:∀{n k:Nat},(∀i,k≤i→i<k+n→Q8 d m [a,i]=[b,i])→vj d m rest (ZN a k n f)=ZN b k n (fun i=>(f i).map (AV.ren fun u=>some (Q8 d m u)))++rest
 |0,k,_=>rfl
 |n+1,k,h=>by
  simp only[ZN,vj,h k (by omega) (by omega),List.cons_append]
  rw[YM fun i h1 h2=>h i (by omega) (by omega)]
@[go_sem high] theorem zp5 {d k a R C : Nat} {rest : List (Tok × List AV)} {F : Nat → List AV} : vj d (gM k a R) rest (gy 0 1 R C F) = gy k a R C (fun i => (F i).map (AV.ren fun u => some (Q8 d (gM k a R) u))) ++ rest := by
 unfold gy
 simp only[vj,zkR,List.cons_append]
 rw[zct (b:=a) fun i hi=>by rw[zeg];simp[hi]]
 congr 1
 exact YM fun i _ hi=>by rw[zeg];simp[show i<R by omega]
theorem UZ {d a:Nat} {m:List (Tok×Tok)} {f:Nat→List AV} {rest:List (Tok×List AV)}:∀{n k:Nat},(∀i,k≤i→i<k+n→Zw d m [a,i]=false)→ja d m (ZN a k n f++rest)=ja d m rest
 |0,k,_=>rfl
 |n+1,k,h=>by
  simp only[ZN,List.cons_append,ja,h k (by omega) (by omega)]
  exact UZ fun i h1 h2=>h i (by omega) (by omega)
@[go_sem high] theorem zll {d k a R C : Nat} {F : Nat → List AV} {rest : List (Tok × List AV)} (h : a ≠ d) : ja d (gM k a R) (gy k a R C F ++ rest) = ja d (gM k a R) rest := by
 unfold gy
 simp only[List.cons_append,ja,ziq,Bool.false_eq_true,if_false]
 exact UZ fun i _ hi=>by rw[zhQ h];simp;omega
theorem zhq {d k a R C:Nat} {F:Nat→List AV}(h:a≠d):ja d (gM k a R) (gy k a R C F)=[]:=by
 have:=zll (rest:=[]) (F:=F) (C:=C) (R:=R) (k:=k) h
 rwa[List.append_nil]at this
attribute [go_sem high] zhq
@[go_sem high] theorem zh9 {k a R C : Nat} {F : Nat → List AV} {rest : List (Tok × List AV)} : zn (gy k a R C F ++ rest) [k] = some (laF a 2 C R) := by simp [gy, zn]
@[go_sem high] theorem zfe {k a R C : Nat} {F : Nat → List AV} : zn (gy k a R C F) [k] = some (laF a 2 C R) := by simp [gy, zn]
theorem Kq {a:Nat} {f:Nat→List AV} {t:Tok} {rest:List (Tok×List AV)}:∀{n k:Nat},zn (ZN a k n f++rest) t=if inF a k n t then some (f (noF t))else zn rest t
 |0,k=>by rw[xQ];rfl
 |n+1,k=>by
  rw[yS]
  simp only[ZN,List.cons_append,zn,Kq]
  by_cases h:[a,k]=t
  ·subst h;simp[noF]
  ·have h2:(t== [a,k])=false:=by simp only[beq_eq_false_iff_ne,ne_eq];exact fun e=>h e.symm
   rw[if_neg h,h2];simp
theorem Yl {a n:Nat} {f:Nat→List AV} {t:Tok} {rest:List (Tok×List AV)}:zn (fam a n f++rest) t=if inF a 0 n t then some (f (noF t))else zn rest t:=Kq
@[go_sem high] theorem zhN {k a R C i : Nat} {F : Nat → List AV} {rest : List (Tok × List AV)} (h : i < R) : zn (gy k a R C F ++ rest) [a, i] = some (F i) := by
 simp[gy,zn,Yl,inF,h,noF]
@[go_sem high] theorem Jo {k a R C i : Nat} {F : Nat → List AV} (h : i < R) : zn (gy k a R C F) [a, i] = some (F i) := by
 simp[gy,zn,uw,inF,h,noF]
@[go_sem high] theorem zph {k a R C b : Nat} {F : Nat → List AV} {rest : List (Tok × List AV)} (h : k ≠ b) : zn (gy k a R C F ++ rest) [b] = zn rest [b] := by
 simp[gy,zn,Yl,inF,h]
@[go_sem high] theorem zpy {k a R C j : Nat} {F : Nat → List AV} {x : List AV} (h : j < R) : QW (gy k a R C F) [a, j] x = gy k a R C (Uv F j x) := by
 simp[gy,QW,zjd h]
theorem JI {a:Nat} {f:Nat→List AV} {t:Tok} {x:List AV} {rest:List (Tok×List AV)}:∀{n k:Nat},inF a k n t=false→QW (ZN a k n f++rest) t x=ZN a k n f++QW rest t x
 |0,k,_=>rfl
 |n+1,k,h=>by
  rw[yS,Bool.or_eq_false_iff]at h
  have h1:¬ [a,k]=t:=fun e=>by have:=h.1;rw[e]at this;simp at this
  simp only[ZN,List.cons_append,QW,if_neg h1,JI h.2]
theorem Yn {a:Nat} {f:Nat→List AV} {x:List AV} {j:Nat} {rest:List (Tok×List AV)}:∀{n k:Nat},k≤j→j<k+n→QW (ZN a k n f++rest) [a,j] x=ZN a k n (Uv f j x)++rest
 |0,k,h1,h2=>by omega
 |n+1,k,h1,h2=>by
  simp only[ZN,List.cons_append,QW]
  by_cases e:k=j
  ·subst e
   rw[if_pos rfl]
   simp only[Uv,if_true]
   congr 2
   exact WM fun i h3 _=>by rw[Uv,if_neg (show ¬i=k by omega)]
  ·rw[if_neg (by simp[e]),Yn (by omega) (by omega)]
   simp only[Uv,if_neg e]
@[go_sem high] theorem zqn {k a R C j : Nat} {F : Nat → List AV} {x : List AV} {rest : List (Tok × List AV)} (h : j < R) : QW (gy k a R C F ++ rest) [a, j] x = gy k a R C (Uv F j x) ++ rest := by
 have:=Yn (a:=a) (f:=F) (x:=x) (rest:=rest) (k:=0) (n:=R) (j:=j) (Nat.zero_le _) (by omega)
 simp only[gy,List.cons_append,QW]
 rw[if_neg (by simp)]
 exact congrArg _ this
@[go_sem high] theorem zkq {k a R C b : Nat} {F : Nat → List AV} {x : List AV} {rest : List (Tok × List AV)} (h : k ≠ b) : QW (gy k a R C F ++ rest) [b] x = gy k a R C F ++ QW rest [b] x := by
 simp only[gy,List.cons_append,QW]
 rw[if_neg (by simp[h])]
 exact congrArg _ (JI (by simp[inF]))
@[go_sem high] theorem zpa {k a R C b : Nat} {F : Nat → List AV} {x : List AV} (h : k ≠ b) : QW (gy k a R C F) [b] x = gy k a R C F ++ [([b], x)] := by
 have:=zkq (F:=F) (x:=x) (rest:=[]) (R:=R) (C:=C) (a:=a) h
 rwa[List.append_nil]at this
@[go_sem high] theorem zbs {k a R C : Nat} {F : Nat → List AV} {rt tt : Tok → Bool} (h : ∀ i, i < R → rt [a, i] = true) : (gy k a R C F).map (fun x => (x.1, List.map (AV.upd (AM.fil rt tt)) x.2)) = gy k a R C fun i => (F i).map (AV.upd (AM.fil rt tt)) := by
 simp only[gy,List.map_cons,zmy,Vn h]
@[go_sem high] theorem zq9 {k a R C : Nat} {F : Nat → List AV} {t : Tok} : (gy k a R C F).any (fun x => x.1 == t) = ([k] == t || inF a 0 R t) := by simp only [gy, List.any_cons, zma]
@[go_sem high] theorem zoY {rs : List (Tok × List AV)} {k a R C : Nat} {F : Nat → List AV} (h0 : zn rs [k] = some (laF a 2 C R)) (h : ∀ i, i < R → zn rs [a, i] = some (F i)) : leR rs (gy k a R C F) := by
 refine⟨?_,zcO h⟩
 rw[h0];exact zj _
theorem zgR {rs:List (Tok×List AV)}:∀{l m:List (Tok×List AV)},leR rs (l++m)↔leR rs l∧leR rs m
 | [],m=>by simp[leR]
 |(t,y)::l,m=>by simp only[List.cons_append,leR,zgR,and_assoc]
attribute [go_sem] zgR
theorem zlC {R:Nat}:(gT R).contains [0]=true:=by simp[gT]
theorem zb2 {R i:Nat}(h:i<R):(gT R).contains [1,i]=true:=by simp[gT,V0,h]
theorem Vd {a:Nat} {F:Nat→List AV} {p:Tok×List AV→Bool}:∀{n k:Nat},(∀i,k≤i→i<k+n→p ([a,i],F i)=true)→(ZN a k n F).filter p=ZN a k n F
 |0,k,_=>rfl
 |n+1,k,h=>by
  simp only[ZN,List.filter_cons,h k (by omega) (by omega),if_true]
  rw[Vd fun i h1 h2=>h i (by omega) (by omega)]
theorem zch {R C:Nat} {F:Nat→List AV} {rest:List (Tok×List AV)}(hr:∀x∈rest,(gT R).contains x.1=false):VI (gT R) (gy 0 1 R C F++rest)=gy 0 1 R C F:=by
 unfold VI
 rw[List.filter_append]
 have e1:rest.filter (fun x=>(gT R).contains x.1)=[]:=List.filter_eq_nil_iff.2 fun x hx=>by rw[hr x hx];simp
 rw[e1,List.append_nil]
 unfold gy
 rw[List.filter_cons]
 simp only[zlC,if_true]
 congr 1
 exact Vd fun i _ hi=>zb2 (by omega)
theorem xA [Gi] {P:Program} {ts:List (Nat×Option TypeId)} {S:St} {R C:Nat} {F:Nat→List AV} {rest:List (Tok×List AV)}(x:AV)(hp:S.pin=gT R)(hrs:S.rs=gy 0 1 R C F++rest)(hr:∀y∈rest,(gT R).contains y.1=false)
  (hF:∀i (rt tt:Tok→Bool),(F i).map (AV.upd (AM.fil rt tt))=F i) (hx:(zf P S ts).1∧leT ((zf P S ts).2.upd (AM.fil (fun t=>(gT R).contains t) ftt)) x):uT P (gT R) ts (fun y rs=>y=x∧rs=gy 0 1 R C F) S:=by
 refine zA (gT R) x ⟨hp,?_⟩ hx ⟨rfl,?_⟩
 ·exact List.all_eq_true.2 fun t ht=>by simpa using ht
 ·have e:(S.fil (fun t=>(gT R).contains t) ftt).rs=gy 0 1 R C F++rest.map (fun x=>(x.1,x.2.map (AV.upd (AM.fil (fun t=>(gT R).contains t) ftt)))):=by
   show S.rs.map _=_
   rw[hrs,List.map_append,zbs fun i hi=>zb2 hi]
   simp only[hF]
  rw[e]
  refine zch fun y hy=>?_
  obtain⟨z,hz,rfl⟩:=List.mem_map.1 hy
  exact hr z hz
@[go_sem] theorem zqO {R b : Nat} : [b] ∈ gT R ↔ b = 0 := by
 unfold gT
 rw[List.mem_cons]
 constructor
 ·rintro(h|h)
  ·simpa using h
  ·exact absurd h (by rw[JL];simp[inF])
 ·rintro rfl;exact .inl rfl
@[go_sem] theorem zqN {R a i : Nat} : [a, i] ∈ gT R ↔ a = 1 ∧ i < R := by
 unfold gT
 rw[List.mem_cons,V0]
 simp
@[go_sem high] theorem znH {d k a R : Nat} (h1 : k ≠ d) (h2 : a ≠ d) : (([k] :: J3 a R : List Tok)).all (Zq d (gM k a R) (gT R)) = true := by
 rw[List.all_cons,zg5 h1,zcA fun i _=>XX h2];rfl
@[go_sem high] theorem zqL {d R : Nat} (h1 : 0 ≠ d) (h2 : 1 ≠ d) : (gT R).all (Zq d (gM 0 1 R) (gT R)) = true := znH h1 h2
@[go_sem high] theorem Qe {S : St} {R C : Nat} {F : Nat → List AV} {rest : List (Tok × List AV)} (hS : S.rs = gy 0 1 R C F ++ rest) : qW S (gM 0 1 R) (gM 0 1 R) = gy 0 1 R C fun i => (F i).map (AV.ren (inM (gM 0 1 R))) :=
 ziv (by rw[hS];exact zh9) fun i hi=>by rw[hS];exact zhN hi
attribute [go_sem high] zbM K3 zl1
@[go_sem high] theorem zqK {d R C : Nat} {F : Nat → List AV} {tt : Tok → Bool} (h1 : 1 ≠ d) : (gy 0 1 R C F).map (fun x => (x.1, List.map (AV.upd (AM.fil (Zq d (gM 0 1 R) (gT R)) tt)) x.2)) = gy 0 1 R C fun i => (F i).map (AV.upd (AM.fil (Zq d (gM 0 1 R) (gT R)) tt)) :=
 zbs fun _ _=>XX h1
theorem U1 {d a:Nat} {F:Nat→List AV}(h:a≠d):∀{n k:Nat},ja d [] (ZN a k n F)=ZN a k n F
 |0,k=>rfl
 |n+1,k=>by
  have e:Zw d [] [a,k]=true:=by simp[Zw,inM,zS,h]
  simp only[ZN,ja,e,if_true,U1 h]
@[go_sem high] theorem zlK {d k a R C : Nat} {F : Nat → List AV} (h1 : k ≠ d) (h2 : a ≠ d) : ja d [] (gy k a R C F) = gy k a R C F := by
 have e:Zw d [] [k]=true:=by simp[Zw,inM,zS,h1]
 unfold gy
 simp only[ja,e,if_true]
 exact congrArg _ (U1 h2)
@[go_sem high] theorem zq1 {d R : Nat} (h1 : 0 ≠ d) (h2 : 1 ≠ d) : (gT R).all (Zq d [] []) = true := by
 unfold gT
 rw[List.all_cons,zcA fun i _=>by simp[Zq,inM,zS,h2]]
 simp[Zq,inM,zS,h1]
theorem zo0 {d k a R C:Nat} {F:Nat→List AV} {tt:Tok→Bool}(h1:a≠d):(gy k a R C F).map (fun x=>(x.1,List.map (AV.upd (AM.fil (Zq d [] []) tt)) x.2))=gy k a R C fun i=>(F i).map (AV.upd (AM.fil (Zq d [] []) tt)):=
 zbs fun i _=>by simp[Zq,inM,zS,h1]
attribute [go_sem high] zo0
end
end Go.AM
