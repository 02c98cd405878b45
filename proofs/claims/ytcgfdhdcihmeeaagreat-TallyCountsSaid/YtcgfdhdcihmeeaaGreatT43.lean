/- A part of the proof of this seat's statements, by an abstract machine: what each operation does to values, and what the law's functions compute. Conditions: as each law says. -/
import Derived.Test.YtcgfdhdcihmeeaaGreatT42
import Derived.Test.YtcgfdhdcihmeeaaGreatT34
section
namespace Go.AM
@[go_sem] theorem zko {a n : Nat} {f : Nat → List AV} {t : Tok} : (fam a n f).any (fun x => x.1 == t) = inF a 0 n t := zj3
@[go_sem] theorem zkN {a b n i : Nat} : inF a 0 n [b, i] = (b == a && decide (i < n)) := by simp [inF]
@[go_sem] theorem zop {a b n : Nat} : inF a 0 n [b] = false := rfl
@[go_sem] theorem WL {a z m n : Nat} {rt tt : Tok → Bool} (h : ∀ i, i < n → rt [a, i] = true) : (laF a z m n).map (AV.upd (AM.fil rt tt)) = laF a z m n := zjI h
@[go_sem] theorem zcH {rs : List (Tok × List AV)} {a n : Nat} {f : Nat → List AV} (h : ∀ i, i < n → zl rs [a, i] = some (f i)) : leR rs (fam a n f) := zkv fun i hi => ⟨f i, h i hi, zi _⟩
@[go_sem] theorem zmz {a b n i : Nat} {f : Nat → List AV} : zl (fam a n f) [b, i] = if b = a ∧ i < n then some (f i) else none := by
 rw[vM]
 by_cases h1:b=a
 ·by_cases h2:i<n<;>simp[inF,h1,h2,noF]
 ·simp[inF,h1]
@[go_sem] theorem znO {a z m n : Nat} {r1 t1 r2 t2 : Tok → Bool} (h : ∀ i, i < n → (r1 [a, i] && r2 [a, i]) = true) : (laF a z m n).map (AV.upd (AM.fil r1 t1) ∘ AV.upd (AM.fil r2 t2)) = laF a z m n := by
 rw[←List.map_map,WL fun i hi=>(Bool.and_eq_true _ _▸h i hi).2,WL fun i hi=>(Bool.and_eq_true _ _▸h i hi).1]
theorem JB {a d:Nat} {m:List (Tok×Tok)} {f:Nat→List AV}:∀{n k:Nat},(∀i,k≤i→i<k+n→Zd d m [a,i]=true)→QQ d m (Zv a k n f)=Zv a k n f
 |0,k,_=>rfl
 |n+1,k,h=>by
  simp only[Zv,QQ,h k (by omega) (by omega),if_true]
  rw[JB fun i h1 h2=>h i (by omega) (by omega)]
@[go_sem] theorem zmW {a d n : Nat} {m : List (Tok × Tok)} {f : Nat → List AV} (h : ∀ i, i < n → Zd d m [a, i] = true) : QQ d m (fam a n f) = fam a n f := JB fun i _ h2 => h i (by omega)
@[go_sem] theorem zaU {a b n i c : Nat} : zl (xW a b n) [c, i] = if c = a ∧ i < n then some [b, i] else none := by
 rw[KB]
 by_cases h1:c=a
 ·by_cases h2:i<n<;>simp[inF,h1,h2,noF]
 ·simp[inF,h1]
@[go_sem] theorem zaN {a b n c : Nat} : zl (xW a b n) [c] = none := by rw [KB]; rfl
@[go_sem] theorem zfz {a b n i c : Nat} : inM (xW a b n) [c, i] = if c = b ∧ i < n then some [a, i] else none := by
 rw[zbY]
 by_cases h1:c=b
 ·by_cases h2:i<n<;>simp[inF,h1,h2,noF]
 ·simp[inF,h1]
@[go_sem] theorem YN {a b n c : Nat} : inM (xW a b n) [c] = none := by rw [zbY]; rfl
@[go_sem] theorem zm3 {a b d n : Nat} (h : b ≠ d) : okM d (xW a b n) = true := zcK h
theorem wM {S:St} {m0:List (Tok×Tok)} {a b n:Nat} {f:Nat→List AV}(h:∀i,i<n→zl S.rs [b,i]=some (f i)):qB S m0 (xW a b n)=fam a n fun i=>(f i).map (AV.ren (inM m0)):=zcg h
@[go_sem] theorem znE {a z m n : Nat} {f : Tok → Option Tok} (h : ∀ i, i < n → f [a, i] = some [a, i]) : (laF a z m n).map (AV.ren f) = laF a z m n := Xn h
theorem JV {a n:Nat} {t:Tok}:t∈KR a n↔inF a 0 n t=true:=by rw[←Yc,List.contains_iff_mem]
@[go_sem] theorem V3 {a n b i : Nat} : [b, i] ∈ KR a n ↔ b = a ∧ i < n := by rw [JV, zkN]; simp
@[go_sem] theorem zmO {a n b : Nat} : [b] ∈ KR a n ↔ False := by rw [JV]; simp [inF]
theorem Uk {a:Nat} {p:Tok×List AV→Bool} {f:Nat→List AV}:∀{n k:Nat},(∀i,k≤i→i<k+n→p ([a,i],f i)=true)→List.filter p (Zv a k n f)=Zv a k n f
 |0,k,_=>rfl
 |n+1,k,h=>by
  simp only[Zv,List.filter_cons,h k (by omega) (by omega),if_true]
  rw[Uk fun i h1 h2=>h i (by omega) (by omega)]
@[go_sem] theorem zl7 {a n : Nat} {p : Tok × List AV → Bool} {f : Nat → List AV} (h : ∀ i, i < n → p ([a, i], f i) = true) : List.filter p (fam a n f) = fam a n f := Uk fun i _ h2 => h i (by omega)
@[go_sem] theorem zoF {a z m n k : Nat} {h : k < (laF a z m n).length} : (laF a z m n)[k] = .la [a, k] z 0 m := by
 have h2:=WA (a:=a) (z:=z) (m:=m) (n:=n) (j:=k) (by simpa[zau]using h)
 rw[List.getElem?_eq_getElem h]at h2
 exact Option.some.inj h2
end Go.AM
end
section
namespace Go.AM
def gM(k a R:Nat):List (Tok×Tok):=([0],[k])::xW 1 a R
def gT(R:Nat):List Tok:=[0]::KR 1 R
def gy(k a R C:Nat)(F:Nat→List AV):List (Tok×List AV):=([k],laF a 2 C R)::fam a R F
theorem zaH {k a R:Nat}:inM (gM k a R) [k]=some [0]:=by simp[gM,inM]
theorem Ka {k a R b i:Nat}:inM (gM k a R) [b,i]=if b=a∧i<R then some [1,i]else none:=by simp[gM,inM,zfz]
theorem zkL {k a R b:Nat}(h:b≠k):inM (gM k a R) [b]=none:=by simp[gM,inM,YN,h.symm]
theorem Y8 {k a R:Nat}:zl (gM k a R) [0]=some [k]:=by simp[gM,zl]
theorem zfF {k a R b i:Nat}:zl (gM k a R) [b,i]=if b=1∧i<R then some [a,i]else none:=by simp[gM,zl,zaU]
@[go_sem high] theorem zoz {k a d R : Nat} (h1 : k ≠ d) (h2 : a ≠ d) : okM d (gM k a R) = true := by
 have e:inM (xW 1 a R) [k]=none:=YN
 simp[gM,okM,zaN,e,zM,zcK h2,h1]
@[go_sem high] theorem zhp {k a d R : Nat} : Q2 d (gM k a R) [0] = [k] := by rw [Q2, Y8]
@[go_sem high] theorem zbj {k a d R i : Nat} : Q2 d (gM k a R) [1, i] = if i < R then [a, i] else [d, 1, i] := by
 rw[Q2,zfF]
 by_cases h:i<R<;>simp[h]
@[go_sem high] theorem zgu {k a d R : Nat} (h : k ≠ d) : q8 d (gM k a R) (gT R) [k] = true := by simp [q8, zaH, gT, zM, h]
@[go_sem high] theorem Yr {k a d R i : Nat} (h : a ≠ d) : q8 d (gM k a R) (gT R) [a, i] = true := by
 rw[q8,Ka]
 by_cases q:i<R
 ·simp[q,zM,h,gT,V3]
 ·simp[q,zM,h]
@[go_sem high] theorem zfS {k a d R : Nat} : Zd d (gM k a R) [k] = false := by simp [Zd, zaH]
@[go_sem high] theorem zgV {k a d R i : Nat} (h : a ≠ d) : Zd d (gM k a R) [a, i] = !decide (i < R) := by
 rw[Zd,Ka]
 by_cases q:i<R<;>simp[q,zM,h]
theorem zbz {a b z m n:Nat} {f:Tok→Option Tok}(h:∀i,i<n→f [a,i]=some [b,i]):(laF a z m n).map (AV.ren f)=laF b z m n:=Xn h
theorem zfy {S:St} {k a R C:Nat} {F:Nat→List AV}(h0:zl S.rs [k]=some (laF a 2 C R))(h1:∀i,i<R→zl S.rs [a,i]=some (F i)):qB S (gM k a R) (gM k a R)=gy 0 1 R C fun i=>(F i).map (AV.ren (inM (gM k a R))):=by
 have e:qB S (gM k a R) (gM k a R)=match zl S.rs [k]with
  |some cs=>([0],cs.map (AV.ren (inM (gM k a R))))::qB S (gM k a R) (xW 1 a R)
  |none=>qB S (gM k a R) (xW 1 a R):=rfl
 rw[e,h0]
 simp only
 rw[wM h1,zbz (b:=1) fun i hi=>by rw[Ka];simp[hi]]
 rfl
theorem Uv {S:St} {m0:List (Tok×Tok)} {a b:Nat}:∀{n k:Nat},(∀i,k≤i→i<k+n→zl S.rs [b,i]=none)→qB S m0 (x8 a b k n)=[]
 |0,k,_=>rfl
 |n+1,k,h=>by
  simp only[x8,qB,h k (by omega) (by omega)]
  exact Uv fun i h1 h2=>h i (by omega) (by omega)
theorem zdn {S:St} {k a R:Nat}(h0:zl S.rs [k]=none)(h1:∀i,zl S.rs [a,i]=none):qB S (gM k a R) (gM k a R)=[]:=by
 have e:qB S (gM k a R) (gM k a R)=match zl S.rs [k]with
  |some cs=>([0],cs.map (AV.ren (inM (gM k a R))))::qB S (gM k a R) (xW 1 a R)
  |none=>qB S (gM k a R) (xW 1 a R):=rfl
 rw[e,h0]
 exact Uv fun i _ _=>h1 i
theorem JF {d a:Nat} {m:List (Tok×Tok)} {rest:List (Tok×List AV)} {f:Nat→List AV} {b:Nat}:∀{n k:Nat},(∀i,k≤i→i<k+n→Q2 d m [a,i]=[b,i])→we d m rest (Zv a k n f)=Zv b k n (fun i=>(f i).map (AV.ren fun u=>some (Q2 d m u)))++rest
 |0,k,_=>rfl
 |n+1,k,h=>by
  simp only[Zv,we,h k (by omega) (by omega),List.cons_append]
  rw[JF fun i h1 h2=>h i (by omega) (by omega)]
@[go_sem high] theorem zog {d k a R C : Nat} {rest : List (Tok × List AV)} {F : Nat → List AV} : we d (gM k a R) rest (gy 0 1 R C F) = gy k a R C (fun i => (F i).map (AV.ren fun u => some (Q2 d (gM k a R) u))) ++ rest := by
 unfold gy
 simp only[we,zhp,List.cons_append]
 rw[zbz (b:=a) fun i hi=>by rw[zbj];simp[hi]]
 congr 1
 exact JF fun i _ hi=>by rw[zbj];simp[show i<R by omega]
theorem V5 {d a:Nat} {m:List (Tok×Tok)} {f:Nat→List AV} {rest:List (Tok×List AV)}:∀{n k:Nat},(∀i,k≤i→i<k+n→Zd d m [a,i]=false)→QQ d m (Zv a k n f++rest)=QQ d m rest
 |0,k,_=>rfl
 |n+1,k,h=>by
  simp only[Zv,List.cons_append,QQ,h k (by omega) (by omega)]
  exact V5 fun i h1 h2=>h i (by omega) (by omega)
@[go_sem high] theorem zh4 {d k a R C : Nat} {F : Nat → List AV} {rest : List (Tok × List AV)} (h : a ≠ d) : QQ d (gM k a R) (gy k a R C F ++ rest) = QQ d (gM k a R) rest := by
 unfold gy
 simp only[List.cons_append,QQ,zfS,Bool.false_eq_true,if_false]
 exact V5 fun i _ hi=>by rw[zgV h];simp;omega
theorem zgc {d k a R C:Nat} {F:Nat→List AV}(h:a≠d):QQ d (gM k a R) (gy k a R C F)=[]:=by
 have:=zh4 (rest:=[]) (F:=F) (C:=C) (R:=R) (k:=k) h
 rwa[List.append_nil]at this
attribute [go_sem high] zgc
@[go_sem high] theorem zgk {k a R C : Nat} {F : Nat → List AV} {rest : List (Tok × List AV)} : zl (gy k a R C F ++ rest) [k] = some (laF a 2 C R) := by simp [gy, zl]
@[go_sem high] theorem zd3 {k a R C : Nat} {F : Nat → List AV} : zl (gy k a R C F) [k] = some (laF a 2 C R) := by simp [gy, zl]
theorem UH {a:Nat} {f:Nat→List AV} {t:Tok} {rest:List (Tok×List AV)}:∀{n k:Nat},zl (Zv a k n f++rest) t=if inF a k n t then some (f (noF t))else zl rest t
 |0,k=>by rw[xd];rfl
 |n+1,k=>by
  rw[kZ]
  simp only[Zv,List.cons_append,zl,UH]
  by_cases h:[a,k]=t
  ·subst h;simp[noF]
  ·have h2:(t== [a,k])=false:=by simp only[beq_eq_false_iff_ne,ne_eq];exact fun e=>h e.symm
   rw[if_neg h,h2];simp
theorem Jo {a n:Nat} {f:Nat→List AV} {t:Tok} {rest:List (Tok×List AV)}:zl (fam a n f++rest) t=if inF a 0 n t then some (f (noF t))else zl rest t:=UH
@[go_sem high] theorem zgx {k a R C i : Nat} {F : Nat → List AV} {rest : List (Tok × List AV)} (h : i < R) : zl (gy k a R C F ++ rest) [a, i] = some (F i) := by
 simp[gy,zl,Jo,inF,h,noF]
@[go_sem high] theorem JT {k a R C i : Nat} {F : Nat → List AV} (h : i < R) : zl (gy k a R C F) [a, i] = some (F i) := by
 simp[gy,zl,vM,inF,h,noF]
@[go_sem high] theorem zmP {k a R C b : Nat} {F : Nat → List AV} {rest : List (Tok × List AV)} (h : k ≠ b) : zl (gy k a R C F ++ rest) [b] = zl rest [b] := by
 simp[gy,zl,Jo,inF,h]
@[go_sem high] theorem zmX {k a R C j : Nat} {F : Nat → List AV} {x : List AV} (h : j < R) : QB (gy k a R C F) [a, j] x = gy k a R C (VU F j x) := by
 simp[gy,QB,ziR h]
theorem Ki {a:Nat} {f:Nat→List AV} {t:Tok} {x:List AV} {rest:List (Tok×List AV)}:∀{n k:Nat},inF a k n t=false→QB (Zv a k n f++rest) t x=Zv a k n f++QB rest t x
 |0,k,_=>rfl
 |n+1,k,h=>by
  rw[kZ,Bool.or_eq_false_iff]at h
  have h1:¬ [a,k]=t:=fun e=>by have:=h.1;rw[e]at this;simp at this
  simp only[Zv,List.cons_append,QB,if_neg h1,Ki h.2]
theorem K9 {a:Nat} {f:Nat→List AV} {x:List AV} {j:Nat} {rest:List (Tok×List AV)}:∀{n k:Nat},k≤j→j<k+n→QB (Zv a k n f++rest) [a,j] x=Zv a k n (VU f j x)++rest
 |0,k,h1,h2=>by omega
 |n+1,k,h1,h2=>by
  simp only[Zv,List.cons_append,QB]
  by_cases e:k=j
  ·subst e
   rw[if_pos rfl]
   simp only[VU,if_true]
   congr 2
   exact uC fun i h3 _=>by rw[VU,if_neg (show ¬i=k by omega)]
  ·rw[if_neg (by simp[e]),K9 (by omega) (by omega)]
   simp only[VU,if_neg e]
@[go_sem high] theorem zoh {k a R C j : Nat} {F : Nat → List AV} {x : List AV} {rest : List (Tok × List AV)} (h : j < R) : QB (gy k a R C F ++ rest) [a, j] x = gy k a R C (VU F j x) ++ rest := by
 have:=K9 (a:=a) (f:=F) (x:=x) (rest:=rest) (k:=0) (n:=R) (j:=j) (Nat.zero_le _) (by omega)
 simp only[gy,List.cons_append,QB]
 rw[if_neg (by simp)]
 exact congrArg _ this
@[go_sem high] theorem zim {k a R C b : Nat} {F : Nat → List AV} {x : List AV} {rest : List (Tok × List AV)} (h : k ≠ b) : QB (gy k a R C F ++ rest) [b] x = gy k a R C F ++ QB rest [b] x := by
 simp only[gy,List.cons_append,QB]
 rw[if_neg (by simp[h])]
 exact congrArg _ (Ki (by simp[inF]))
@[go_sem high] theorem zmM {k a R C b : Nat} {F : Nat → List AV} {x : List AV} (h : k ≠ b) : QB (gy k a R C F) [b] x = gy k a R C F ++ [([b], x)] := by
 have:=zim (F:=F) (x:=x) (rest:=[]) (R:=R) (C:=C) (a:=a) h
 rwa[List.append_nil]at this
@[go_sem high] theorem XD {k a R C : Nat} {F : Nat → List AV} {rt tt : Tok → Bool} (h : ∀ i, i < R → rt [a, i] = true) : (gy k a R C F).map (fun x => (x.1, List.map (AV.upd (AM.fil rt tt)) x.2)) = gy k a R C fun i => (F i).map (AV.upd (AM.fil rt tt)) := by
 simp only[gy,List.map_cons,zjR,WL h]
@[go_sem high] theorem zoM {k a R C : Nat} {F : Nat → List AV} {t : Tok} : (gy k a R C F).any (fun x => x.1 == t) = ([k] == t || inF a 0 R t) := by simp only [gy, List.any_cons, zko]
@[go_sem high] theorem zlx {rs : List (Tok × List AV)} {k a R C : Nat} {F : Nat → List AV} (h0 : zl rs [k] = some (laF a 2 C R)) (h : ∀ i, i < R → zl rs [a, i] = some (F i)) : leR rs (gy k a R C F) := by
 refine⟨?_,zcH h⟩
 rw[h0];exact zi _
theorem zfo {rs:List (Tok×List AV)}:∀{l m:List (Tok×List AV)},leR rs (l++m)↔leR rs l∧leR rs m
 | [],m=>by simp[leR]
 |(t,y)::l,m=>by simp only[List.cons_append,leR,zfo,and_assoc]
attribute [go_sem] zfo
end Go.AM
end
section
namespace Go.AM
theorem zkk {R:Nat}:(gT R).contains [0]=true:=by simp[gT]
theorem zax {R i:Nat}(h:i<R):(gT R).contains [1,i]=true:=by simp[gT,V3,h]
theorem WM {a:Nat} {F:Nat→List AV} {p:Tok×List AV→Bool}:∀{n k:Nat},(∀i,k≤i→i<k+n→p ([a,i],F i)=true)→(Zv a k n F).filter p=Zv a k n F
 |0,k,_=>rfl
 |n+1,k,h=>by
  simp only[Zv,List.filter_cons,h k (by omega) (by omega),if_true]
  rw[WM fun i h1 h2=>h i (by omega) (by omega)]
theorem zbf {R C:Nat} {F:Nat→List AV} {rest:List (Tok×List AV)}(hr:∀x∈rest,(gT R).contains x.1=false):Wl (gT R) (gy 0 1 R C F++rest)=gy 0 1 R C F:=by
 unfold Wl
 rw[List.filter_append]
 have e1:rest.filter (fun x=>(gT R).contains x.1)=[]:=List.filter_eq_nil_iff.2 fun x hx=>by rw[hr x hx];simp
 rw[e1,List.append_nil]
 unfold gy
 rw[List.filter_cons]
 simp only[zkk,if_true]
 congr 1
 exact WM fun i _ hi=>zax (by omega)
theorem yT [Gi] {P:Program} {ts:List (Nat×Option TypeId)} {S:St} {R C:Nat} {F:Nat→List AV} {rest:List (Tok×List AV)}(x:AV)(hp:S.pin=gT R)(hrs:S.rs=gy 0 1 R C F++rest)(hr:∀y∈rest,(gT R).contains y.1=false)
  (hF:∀i (rt tt:Tok→Bool),(F i).map (AV.upd (AM.fil rt tt))=F i) (hx:(zf P S ts).1∧leT ((zf P S ts).2.upd (AM.fil (fun t=>(gT R).contains t) ftt)) x):uz P (gT R) ts (fun y rs=>y=x∧rs=gy 0 1 R C F) S:=by
 refine zu (gT R) x ⟨hp,?_⟩ hx ⟨rfl,?_⟩
 ·exact List.all_eq_true.2 fun t ht=>by simpa using ht
 ·have e:(S.fil (fun t=>(gT R).contains t) ftt).rs=gy 0 1 R C F++rest.map (fun x=>(x.1,x.2.map (AV.upd (AM.fil (fun t=>(gT R).contains t) ftt)))):=by
   show S.rs.map _=_
   rw[hrs,List.map_append,XD fun i hi=>zax hi]
   simp only[hF]
  rw[e]
  refine zbf fun y hy=>?_
  obtain⟨z,hz,rfl⟩:=List.mem_map.1 hy
  exact hr z hz
@[go_sem] theorem zoq {R b : Nat} : [b] ∈ gT R ↔ b = 0 := by
 unfold gT
 rw[List.mem_cons]
 constructor
 ·rintro(h|h)
  ·simpa using h
  ·exact absurd h (by rw[JV];simp[inF])
 ·rintro rfl;exact .inl rfl
@[go_sem] theorem zor {R a i : Nat} : [a, i] ∈ gT R ↔ a = 1 ∧ i < R := by
 unfold gT
 rw[List.mem_cons,V3]
 simp
@[go_sem high] theorem zlo {d k a R : Nat} (h1 : k ≠ d) (h2 : a ≠ d) : (([k] :: KR a R : List Tok)).all (q8 d (gM k a R) (gT R)) = true := by
 rw[List.all_cons,zgu h1,zbE fun i _=>Yr h2];rfl
@[go_sem high] theorem zoo {d R : Nat} (h1 : 0 ≠ d) (h2 : 1 ≠ d) : (gT R).all (q8 d (gM 0 1 R) (gT R)) = true := zlo h1 h2
@[go_sem high] theorem Z1 {S : St} {R C : Nat} {F : Nat → List AV} {rest : List (Tok × List AV)} (hS : S.rs = gy 0 1 R C F ++ rest) : qB S (gM 0 1 R) (gM 0 1 R) = gy 0 1 R C fun i => (F i).map (AV.ren (inM (gM 0 1 R))) :=
 zfy (by rw[hS];exact zgk) fun i hi=>by rw[hS];exact zgx hi
attribute [go_sem high] zaH Ka zkL
@[go_sem high] theorem zon {d R C : Nat} {F : Nat → List AV} {tt : Tok → Bool} (h1 : 1 ≠ d) : (gy 0 1 R C F).map (fun x => (x.1, List.map (AV.upd (AM.fil (q8 d (gM 0 1 R) (gT R)) tt)) x.2)) = gy 0 1 R C fun i => (F i).map (AV.upd (AM.fil (q8 d (gM 0 1 R) (gT R)) tt)) :=
 XD fun i _=>Yr h1
theorem Um {d a:Nat} {F:Nat→List AV}(h:a≠d):∀{n k:Nat},QQ d [] (Zv a k n F)=Zv a k n F
 |0,k=>rfl
 |n+1,k=>by
  have e:Zd d [] [a,k]=true:=by simp[Zd,inM,zM,h]
  simp only[Zv,QQ,e,if_true,Um h]
@[go_sem high] theorem zkH {d k a R C : Nat} {F : Nat → List AV} (h1 : k ≠ d) (h2 : a ≠ d) : QQ d [] (gy k a R C F) = gy k a R C F := by
 have e:Zd d [] [k]=true:=by simp[Zd,inM,zM,h1]
 unfold gy
 simp only[QQ,e,if_true]
 exact congrArg _ (Um h2)
@[go_sem high] theorem zoD {d R : Nat} (h1 : 0 ≠ d) (h2 : 1 ≠ d) : (gT R).all (q8 d [] []) = true := by
 unfold gT
 rw[List.all_cons,zbE fun i _=>by simp[q8,inM,zM,h2]]
 simp[q8,inM,zM,h1]
theorem zmA {d k a R C:Nat} {F:Nat→List AV} {tt:Tok→Bool}(h1:a≠d):(gy k a R C F).map (fun x=>(x.1,List.map (AV.upd (AM.fil (q8 d [] []) tt)) x.2))=gy k a R C fun i=>(F i).map (AV.upd (AM.fil (q8 d [] []) tt)):=
 XD fun i _=>by simp[q8,inM,zM,h1]
attribute [go_sem high] zmA
end Go.AM
end
