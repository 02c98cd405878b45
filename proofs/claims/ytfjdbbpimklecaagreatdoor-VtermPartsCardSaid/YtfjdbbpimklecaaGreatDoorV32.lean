/- A part of this seat's proofs, by an abstract machine. Conditions: each law's. -/
import Derived.Test.YtfjdbbpimklecaaGreatDoorV28
namespace Go.AM
section
@[go_sem] theorem zkZ {a b n : Nat} : inF a 0 n [b] = false := rfl
@[go_sem] theorem zge {a z m n : Nat} {rt tt : Tok → Bool} (h : ∀ i, i < n → rt [a, i] = true) : (laF a z m n).map (AV.upd (AM.fil rt tt)) = laF a z m n := zgd h
@[go_sem] theorem zdB {a b n i c : Nat} : inM (zgI a b n) [c, i] = if c = b ∧ i < n then some [a, i] else none := by
 rw[zaf]
 by_cases h1:c=b
 ·by_cases h2:i<n<;>simp[inF,h1,h2,noF]
 ·simp[inF,h1]
@[go_sem] theorem zc3 {a b n c : Nat} : inM (zgI a b n) [c] = none := by rw [zaf]; rfl
def gM(k a R:Nat):List (Tok×Tok):=([0],[k])::zgI 1 a R
def gy(k a R C:Nat)(F:Nat→List AV):List (Tok×List AV):=([k],laF a 2 C R)::fam a R F
theorem zbM {k a R:Nat}:inM (gM k a R) [k]=some [0]:=by simp[gM,inM]
theorem zb7 {k a R b i:Nat}:inM (gM k a R) [b,i]=if b=a∧i<R then some [1,i]else none:=by simp[gM,inM,zdB]
theorem zhi {k a R b:Nat}(h:b≠k):inM (gM k a R) [b]=none:=by simp[gM,inM,zc3,h.symm]
@[go_sem high] theorem zdW {k a d R : Nat} : ZE d (gM k a R) [k] = false := by simp [ZE, zbM]
@[go_sem high] theorem zdw {k a d R i : Nat} (h : a ≠ d) : ZE d (gM k a R) [a, i] = !decide (i < R) := by
 rw[ZE,zb7]
 by_cases q:i<R<;>simp[q,z6,h]
theorem WS {d a:Nat} {m:List (Tok×Tok)} {f:Nat→List AV} {rest:List (Tok×List AV)}:∀{n k:Nat},(∀i,k≤i→i<k+n→ZE d m [a,i]=false)→ku d m (zaS a k n f++rest)=ku d m rest
 |0,k,_=>rfl
 |n+1,k,h=>by
  simp only[zaS,List.cons_append,ku,h k (by omega) (by omega)]
  exact WS fun i h1 h2=>h i (by omega) (by omega)
@[go_sem high] theorem zf4 {d k a R C : Nat} {F : Nat → List AV} {rest : List (Tok × List AV)} (h : a ≠ d) : ku d (gM k a R) (gy k a R C F ++ rest) = ku d (gM k a R) rest := by
 unfold gy
 simp only[List.cons_append,ku,zdW,Bool.false_eq_true,if_false]
 exact WS fun i _ hi=>by rw[zdw h];simp;omega
theorem zdG {d k a R C:Nat} {F:Nat→List AV}(h:a≠d):ku d (gM k a R) (gy k a R C F)=[]:=by
 have:=zf4 (rest:=[]) (F:=F) (C:=C) (R:=R) (k:=k) h
 rwa[List.append_nil]at this
attribute [go_sem high] zdG
@[go_sem high] theorem ziv {k a R C : Nat} {F : Nat → List AV} {rt tt : Tok → Bool} (h : ∀ i, i < R → rt [a, i] = true) : (gy k a R C F).map (fun x => (x.1, List.map (AV.upd (AM.fil rt tt)) x.2)) = gy k a R C fun i => (F i).map (AV.upd (AM.fil rt tt)) := by
 simp only[gy,List.map_cons,zhf,zge h]
theorem zcC {rs:List (Tok×List AV)}:∀{l m:List (Tok×List AV)},leR rs (l++m)↔leR rs l∧leR rs m
 | [],m=>by simp[leR]
 |(t,y)::l,m=>by simp only[List.cons_append,leR,zcC,and_assoc]
attribute [go_sem] zcC
attribute [go_sem high] zbM zb7 zhi
theorem ziJ {d k a R C:Nat} {F:Nat→List AV} {tt:Tok→Bool}(h1:a≠d):(gy k a R C F).map (fun x=>(x.1,List.map (AV.upd (AM.fil (ZZ d [] []) tt)) x.2))=gy k a R C fun i=>(F i).map (AV.upd (AM.fil (ZZ d [] []) tt)):=
 ziv fun i _=>by simp[ZZ,inM,z6,h1]
attribute [go_sem high] ziJ
end
end Go.AM
