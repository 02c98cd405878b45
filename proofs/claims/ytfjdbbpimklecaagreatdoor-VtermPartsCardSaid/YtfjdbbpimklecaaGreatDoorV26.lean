/- A part of this seat's proofs, by an abstract machine. Conditions: each law's. -/
import Derived.Test.YtfjdbbpimklecaaGreatDoorV18
import Derived.Test.YtfjdbbpimklecaaGreatDoorV17
import Derived.Test.YtfjdbbpimklecaaGreatDoorV24
import Derived.StillTail
import Derived.OrdersIn
import Derived.TacticsIn
import Derived.RangeFuncCalls
set_option maxHeartbeats 4000000
set_option maxRecDepth 10000
namespace Go.Proofs.YtfjdbbpimklecaaGreatDoor
section
open Go.AM
def zdq(r:Int):Bool:=decide (44032≤r)&&decide (r<55204)
theorem wrap32 {x:Int}(h1: -2147483648≤x)(h2:x≤2147483647):IntKind.i32.wrap x=x:=by
 simp only[IntKind.wrap,IntKind.signed,IntKind.bits]
 simp
 omega
def Wk(r:Int):List Int:=
 if(r-44032)%28=0 then [4352+(r-44032)/588,4449+(r-44032)/28%21]else [4352+(r-44032)/588,4449+(r-44032)/28%21,4519+(r-44032)%28]
theorem WU(l:List Int):(l.map fun k=>PV.int .i32 k).flatMap PV.cells=l.map fun k=>PV.int .i32 k:=by
 induction l with
 |nil=>rfl
 |cons k l ih=>simp only[List.map_cons,List.flatMap_cons,ih];rfl
end
end Go.Proofs.YtfjdbbpimklecaaGreatDoor
namespace Go.AM
section
section
variable {r:Option Nat} {n:Nat} {P:Program} {Q:Exit→Act→World→Prop}
end
def zkk(ds:List Deferred)(a:Act):Act:={a with defers:=ds}
end
end Go.AM
