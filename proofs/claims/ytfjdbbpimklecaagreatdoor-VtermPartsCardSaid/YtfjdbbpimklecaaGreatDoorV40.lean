/- A part of this seat's proofs, by an abstract machine. Conditions: each law's. -/
import Derived.Test.YtfjdbbpimklecaaGreatDoorV27
import Derived.Test.YtfjdbbpimklecaaGreatDoorV33
import Derived.Test.YtfjdbbpimklecaaGreatDoorV32
import Derived.Test.YtfjdbbpimklecaaGreatDoorV35
import Derived.Test.YtfjdbbpimklecaaGreatDoorV23
import Derived.Test.YtfjdbbpimklecaaGreatDoorV34
import Derived.Test.YtfjdbbpimklecaaGreatDoorV18
set_option maxHeartbeats 4000000
set_option maxRecDepth 10000
namespace Go.Proofs.YtfjdbbpimklecaaGreatDoor
section
open Go.AM
variable [Gi]
attribute [local go_sem] zf zd zeu ze1 zk zce
end
section
open Go.AM
end
section
open Go.AM
attribute [local go_sem] zf zd zeu ze1 zk zce
end
section
open Go.AM
attribute [local irreducible] zb
attribute [local go_sem] zf zd
end
section
open Go.AM
attribute [local irreducible] zb
structure zeP(C:Nat)(a b:zQ)(F:Nat):Prop where
 la:a.length=C
 lb:b.length=C
 hF:dF a b C=(F:Int)
 ht:∀c∈b,c.t.length≤100000
theorem zeP.at {C F:Nat} {a b:zQ}(h:zeP C a b F) {i:Nat}(hi:i<C):elemAt (a.map clP) i=.agg [.str (a.getD i blk).t,.int .i64 (a.getD i blk).w]∧elemAt (b.map clP) i=.agg [.str (b.getD i blk).t,.int .i64 (b.getD i blk).w]:=by
 have h1:i<a.length:=by rw[h.la];exact hi
 have h2:i<b.length:=by rw[h.lb];exact hi
 rw[XW h1,XW h2,jd h1,jd h2];exact⟨rfl,rfl⟩
end
section
open Go.AM
attribute [local irreducible] zb vwL
theorem zeS [Gi](n:Int)(K:Int)(hK:0≤K∧K≤1000):∃m:Nat,(m:Int)≤K∧IntKind.i64.wrap (BitVec.ofInt IntKind.i64.bits n&&& BitVec.ofInt IntKind.i64.bits K).toNat=(m:Int):=by
 have e:((BitVec.ofInt IntKind.i64.bits K).toNat:Int)=K:=by
  show((BitVec.ofInt 64 K).toNat:Int)=K
  rw[BitVec.toNat_ofInt]
  omega
 have h:(BitVec.ofInt IntKind.i64.bits n&&& BitVec.ofInt IntKind.i64.bits K).toNat≤(BitVec.ofInt IntKind.i64.bits K).toNat:=by
  rw[BitVec.toNat_and]
  exact Nat.and_le_right
 exact⟨_,by omega,wrap64 (by omega) (by omega)⟩
section
attribute [local semireducible] vwL
end
end
end Go.Proofs.YtfjdbbpimklecaaGreatDoor
