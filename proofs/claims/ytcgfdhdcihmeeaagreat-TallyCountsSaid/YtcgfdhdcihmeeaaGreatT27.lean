/- A part of the proof of this seat's statements, by an abstract machine: what each operation does to values, and what the law's functions compute. Conditions: as each law says. -/
import Derived.Test.YtcgfdhdcihmeeaaGreatT17
import Derived.Test.YtcgfdhdcihmeeaaGreatT16
import Derived.Test.YtcgfdhdcihmeeaaGreatT25
section
namespace Go.Proofs.YtcgfdhdcihmeeaaGreat
open Go.AM
set_option maxHeartbeats 4000000
set_option maxRecDepth 10000
def XV(M:List Int):List AV:=(M.map fun r=>PV.int .i32 r).map .p
end Go.Proofs.YtcgfdhdcihmeeaaGreat
end
section
namespace Go.Proofs.YtcgfdhdcihmeeaaGreat
open Go.AM
set_option maxHeartbeats 4000000
set_option maxRecDepth 10000
end Go.Proofs.YtcgfdhdcihmeeaaGreat
end
section
namespace Go.Proofs.YtcgfdhdcihmeeaaGreat
open Go.AM
set_option maxHeartbeats 4000000
set_option maxRecDepth 10000
end Go.Proofs.YtcgfdhdcihmeeaaGreat
end
section
namespace Go.Proofs.YtcgfdhdcihmeeaaGreat
def QJ(k:Int→Int)(l:List Int):Prop:=l.Pairwise fun a b=>k a≤k b
def ZS(k:Int→Int)(l m:List Int):Prop:=∀c,l.filter (fun x=>k x==c)=m.filter (fun x=>k x==c)
theorem ZS.refl(k:Int→Int)(l:List Int):ZS k l l:=fun _=>rfl
theorem ZS.symm {k:Int→Int} {l m:List Int}(h:ZS k l m):ZS k m l:=fun c=>(h c).symm
theorem ZS.trans {k:Int→Int} {l m n:List Int}(h:ZS k l m)(h':ZS k m n):ZS k l n:=fun c=>(h c).trans (h' c)
theorem ZS.app {k:Int→Int} {a b c d:List Int}(h:ZS k a b)(h':ZS k c d):ZS k (a++c) (b++d):=fun e=>by
 rw[List.filter_append,List.filter_append,h e,h' e]
theorem ZS.mem {k:Int→Int} {l m:List Int}(h:ZS k l m) {x:Int}(hx:x∈l):x∈m:=by
 have:x∈l.filter (fun y=>k y==k x):=List.mem_filter.2 ⟨hx,by simp⟩
 rw[h (k x)]at this
 exact(List.mem_filter.1 this).1
theorem ZS.uniq {k:Int→Int}:∀{l m:List Int},QJ k l→QJ k m→ZS k l m→l=m
 | [],[],_,_,_=>rfl
 | [],y::m,_,_,h=>by have:=h.symm.mem (x:=y) (by simp);simp at this
 |x::l,[],_,_,h=>by have:=h.mem (x:=x) (by simp);simp at this
 |x::l,y::m,h1,h2,h=>by
  have hx:k x≤k y:=by
   have:=h.symm.mem (x:=y) (by simp)
   rcases List.mem_cons.1 this with e|e
   ·rw[e];exact Int.le_refl _
   ·exact(List.pairwise_cons.1 h1).1 y e
  have hy:k y≤k x:=by
   have:=h.mem (x:=x) (by simp)
   rcases List.mem_cons.1 this with e|e
   ·rw[e];exact Int.le_refl _
   ·exact(List.pairwise_cons.1 h2).1 x e
  have hk:k x=k y:=by omega
  have hc:=h (k x)
  rw[List.filter_cons_of_pos (by simp),List.filter_cons_of_pos (by simp[hk])]at hc
  injection hc with e1 e2
  subst e1
  rw[ZS.uniq (List.pairwise_cons.1 h1).2 (List.pairwise_cons.1 h2).2 (fun c=>by
   have:=h c
   by_cases hcx:k x=c
   ·rw[List.filter_cons_of_pos (by simp[hcx]),List.filter_cons_of_pos (by simp[hcx])]at this
    injection this
   ·rw[List.filter_cons_of_neg (by simp[hcx]),List.filter_cons_of_neg (by simp[hcx])]at this
    exact this)]
theorem QJ.app {k:Int→Int} {a b:List Int}(h1:QJ k a)(h2:QJ k b)(h:∀x∈a,∀y∈b,k x≤k y):QJ k (a++b):=List.pairwise_append.2 ⟨h1,h2,h⟩
theorem QJ.left {k:Int→Int} {a b:List Int}(h:QJ k (a++b)):QJ k a:=(List.pairwise_append.1 h).1
theorem QJ.right {k:Int→Int} {a b:List Int}(h:QJ k (a++b)):QJ k b:=(List.pairwise_append.1 h).2.1
def zcV(k:Int→Int)(l m:List Int):Prop:=QJ k m∧ZS k m l
theorem zcV.refl {k:Int→Int} {l:List Int}(h:QJ k l):zcV k l l:=⟨h,ZS.refl k l⟩
theorem zcV.uniq {k:Int→Int} {l m n:List Int}(h:zcV k l m)(h':zcV k l n):m=n:=ZS.uniq h.1 h'.1 (h.2.trans h'.2.symm)
theorem zcV.trans {k:Int→Int} {l m n:List Int}(h:ZS k m l)(h':zcV k m n):zcV k l n:=⟨h'.1,h'.2.trans h⟩
theorem ZS.perm {k:Int→Int} {l m:List Int}(h:ZS k l m):l.Perm m:=by
 rw[List.perm_iff_count]
 intro x
 have hc:∀n:List Int,n.count x=(n.filter (fun y=>k y==k x)).count x:=fun n=>by
  induction n with
  |nil=>rfl
  |cons y n ih=>
   by_cases e:y=x
   ·subst e;rw[List.filter_cons_of_pos (by simp),List.count_cons_self,List.count_cons_self,ih]
   ·rw[List.count_cons_of_ne e,ih]
    by_cases e2:k y=k x
    ·rw[List.filter_cons_of_pos (by simp[e2]),List.count_cons_of_ne e]
    ·rw[List.filter_cons_of_neg (by simp[e2])]
 rw[hc l,hc m,h (k x)]
end Go.Proofs.YtcgfdhdcihmeeaaGreat
end
section
namespace Go.Proofs.YtcgfdhdcihmeeaaGreat
open Go.AM
set_option maxHeartbeats 4000000
set_option maxRecDepth 10000
end Go.Proofs.YtcgfdhdcihmeeaaGreat
end
section
namespace Go.Proofs.YtcgfdhdcihmeeaaGreat
theorem QJ.get {k:Int→Int} {l:List Int}(h:QJ k l) {i j:Nat}(hi:i<l.length)(hj:j<l.length)(hij:i≤j):k l[i]≤k l[j]:=by
 rcases Nat.lt_or_ge i j with h1|h1
 ·exact List.pairwise_iff_getElem.1 h i j hi hj h1
 ·obtain rfl:i=j:=by omega
  exact Int.le_refl _
end Go.Proofs.YtcgfdhdcihmeeaaGreat
end
section
namespace Go.Proofs.YtcgfdhdcihmeeaaGreat
open Go.AM
set_option maxHeartbeats 4000000
set_option maxRecDepth 10000
end Go.Proofs.YtcgfdhdcihmeeaaGreat
end
section
namespace Go.Proofs.YtcgfdhdcihmeeaaGreat
open Go.AM
set_option maxHeartbeats 4000000
set_option maxRecDepth 10000
end Go.Proofs.YtcgfdhdcihmeeaaGreat
end
