/- A part of the proof of this seat's statements, by an abstract machine: what each operation does to values, and what the law's functions compute. Conditions: as each law says. -/
import Derived.Test.YthbmelihnabkaaaGreatT42
import Derived.Test.YthbmelihnabkaaaGreatT43
section
namespace Go.Proofs.YthbmelihnabkaaaGreat
open Go.AM
set_option maxHeartbeats 4000000
set_option maxRecDepth 10000
attribute [local irreducible] za
end Go.Proofs.YthbmelihnabkaaaGreat
end
section
namespace Go.Proofs.YthbmelihnabkaaaGreat
open Go.AM
set_option maxHeartbeats 4000000
set_option maxRecDepth 10000
attribute [local irreducible] za
end Go.Proofs.YthbmelihnabkaaaGreat
end
section
namespace Go.Proofs.YthbmelihnabkaaaGreat
open Go.AM
set_option maxHeartbeats 4000000
set_option maxRecDepth 10000
attribute [local irreducible] za
theorem Xx {L:List (List Int)}(h:ClL L) {i:Nat}(hb:isB L i=true):plc L (cnt (pl L) i)=i:=by
 have hk:=yp L i
 have e:(plc L (kf L i):Int)=i:=of_decide_eq_true hb
 have e2:=KC h hk
 rw[e]at e2
 rw[e2];omega
end Go.Proofs.YthbmelihnabkaaaGreat
end
