/- A part of the proof of this seat's statements, by an abstract machine: what each operation does to values, and what the law's functions compute. Conditions: as each law says. -/
import Derived.Test.YtcgfdhdcihmeeaaGreatT27
import Derived.Test.YtcgfdhdcihmeeaaGreatT18
section
namespace Go.Proofs.YtcgfdhdcihmeeaaGreat
open Go.AM
set_option maxHeartbeats 4000000
set_option maxRecDepth 10000
structure zoV(a m e mid z s0 r0:Nat):Prop where
 lo:a≤s0
 hi:z≤s0+e
 le:s0≤r0
 lm:r0≤m
 lmid:r0≤mid
 first:∀i,s0≤i→a<i→mid+m<i+e→s0<i
 last:∀i,i≤r0→i<m→i<mid→i<r0
structure zoW(a m e mid z s0 r0 i k g g2:Nat):Prop where
 ig:i≤g
 gk:g<k
 ag:a≤g
 gm:g<m
 gmid:g<mid
 mg:m≤g2
 ge:g2<e
 eq:z-1=g2+g
 e1:mid-1-g=g2-m
 e2:mid- (g+1)=g2-m
end Go.Proofs.YtcgfdhdcihmeeaaGreat
end
section
namespace Go.Proofs.YtcgfdhdcihmeeaaGreat
open Go.AM
set_option maxHeartbeats 4000000
set_option maxRecDepth 10000
def Wd(k:Int→Int)(z:Nat)(l:List Int):Prop:=∀j,QJ k ((l.drop (j*z)).take z)
theorem Wd.app {k:Int→Int} {z c:Nat} {E F:List Int}(hl:E.length=c*z)(hE:Wd k z E)(hF:Wd k z F):Wd k z (E++F):=fun j=>by
 rcases Nat.lt_or_ge j c with h|h
 ·have h1:(j+1)*z≤c*z:=Nat.mul_le_mul_right z h
  rw[Nat.add_mul,Nat.one_mul]at h1
  rw[List.drop_append_of_le_length (by omega),List.take_append_of_le_length (by rw[List.length_drop];omega)]
  exact hE j
 ·have e:(E++F).drop (j*z)=F.drop ((j-c)*z):=by
   rw[List.drop_append,List.drop_eq_nil_of_le (by rw[hl];exact Nat.mul_le_mul_right z h),hl,Nat.sub_mul];rfl
  rw[e];exact hF _
theorem Wd.one {k:Int→Int} {z:Nat} {l:List Int}(hl:l.length≤z)(h:QJ k l):Wd k z l:=fun j=>by
 cases j with
 |zero=>simp only[Nat.zero_mul,List.drop_zero];rw[List.take_of_length_le hl];exact h
 |succ j=>
  rw[List.drop_eq_nil_of_le (by rw[Nat.add_mul];omega)]
  simp[QJ]
theorem Wd.head {k:Int→Int} {z:Nat} {l:List Int}(h:Wd k z l):QJ k (l.take z):=by
 have:=h 0
 simpa using this
theorem Wd.drop {k:Int→Int} {z:Nat} {l:List Int}(h:Wd k z l):Wd k z (l.drop z):=fun j=>by
 have:=h (j+1)
 rw[List.drop_drop]
 rw[Nat.add_mul,Nat.one_mul]at this
 rwa[Nat.add_comm z]
theorem Wd.all {k:Int→Int} {z:Nat} {l:List Int}(h:Wd k z l)(hl:l.length≤z):QJ k l:=by
 have:=h.head
 rwa[List.take_of_length_le hl]at this
theorem Wd.nil(k:Int→Int)(z:Nat):Wd k z []:=fun j=>by simp[QJ]
end Go.Proofs.YtcgfdhdcihmeeaaGreat
end
section
namespace Go.Proofs.YtcgfdhdcihmeeaaGreat
open Go.AM
set_option maxHeartbeats 4000000
set_option maxRecDepth 10000
theorem ZS.len {k:Int→Int} {l m:List Int}(h:ZS k l m):l.length=m.length:=h.perm.length_eq
end Go.Proofs.YtcgfdhdcihmeeaaGreat
end
