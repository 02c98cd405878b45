/- A part of the proof of this seat's statements, by an abstract machine: what each operation does to values, and what the law's functions compute. Conditions: as each law says. -/
import Derived.Test.YtjefahhmkcfiiaaGreatT40
section
namespace Go.Proofs.YtjefahhmkcfiiaaGreat
open Go.AM
set_option maxHeartbeats 4000000
set_option maxRecDepth 10000
attribute [local irreducible] za
theorem zlA [Gi] {e:PV}(hT:Zc e)(l:List Int)(hn:l.length<2^20)(hr:∀x∈l,zB x):
  CR Tryz.prog 18 [] [.p e,.p (zg l)] [] (is (.p (zG (zL za (zZ za l)) 0))):=by
 obtain⟨c,b,j,f,p,h,rfl⟩:=hT
 exact zcu h _ _ l hn hr
theorem Zc.pt [Gi] {e:PV}(hT:Zc e):∃x,e=.pt 7 x:=by
 obtain⟨c,b,j,f,p,h,rfl⟩:=hT
 exact⟨_,rfl⟩
theorem K6 [Gi](L:List (List Int))(a:Int)(k:Nat)(hk:jr L a=k)(hL:L.length<2^31)(hn:qd L<2^31):CR Tryz.prog 26 [] [.p (zG L a)] [] (is (.p (.int .i64 (plc L k:Nat)))):=by
 have:=yJ L a hL hn
 unfold wy at this
 rw[hk]at this
 exact this
theorem Ut {L:List (List Int)} {k:Nat}(h:k≤L.length):jr L k=k:=by unfold jr;omega
end Go.Proofs.YtjefahhmkcfiiaaGreat
end
