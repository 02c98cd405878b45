/- A part of the proof of this seat's statements, by an abstract machine: what each operation does to values, and what the law's functions compute. Conditions: as each law says. -/
import Derived.Test.YtcgfdhdcihmeeaaGreatT40
section
namespace Go.Proofs.YtcgfdhdcihmeeaaGreat
open Go.AM
set_option maxHeartbeats 4000000
set_option maxRecDepth 10000
attribute [local irreducible] za vwL
theorem zmh [Gi](a b c d:Nat)(ha:a<65536)(hb:b<65536)(hc:c<65536)(hd:d<65536):CR Tryz.prog 17 [] [.p (.agg [.int .i64 a,.int .i64 b]),.p (.agg [.int .i64 c,.int .i64 d])] [] (is (.p (.agg [.int .i64 ((a:Int)+c),.int .i64 ((b:Int)+d)]))):=by
 refine walk Tryz.func17 5 [] [] [] ?_
 have w1:IntKind.i64.wrap ((a:Int)+c)=(a:Int)+c:=wrap64 (by omega) (by omega)
 have w2:IntKind.i64.wrap ((b:Int)+d)=(b:Int)+d:=wrap64 (by omega) (by omega)
 simp (maxSteps:=1000000) [go_sem,Tryz.f17,w1,w2]
 exact ret
theorem XZ [Gi](a b c d:Nat)(ha:a<65536)(hb:b<65536)(hc:c<65536)(hd:d<65536):CR Tryz.prog 4 [] [.p (.int .u16 a),.p (.int .u16 b),.p (.int .u16 c),.p (.int .u16 d)] [] (is (.p (.bool true))):=by
 refine walk Tryz.func4 12 [] [4] [] ?_
 have k1:IntKind.i64.wrap (a:Int)=a:=wrap64 (by omega) (by omega)
 have k2:IntKind.i64.wrap (b:Int)=b:=wrap64 (by omega) (by omega)
 have k3:IntKind.i64.wrap (c:Int)=c:=wrap64 (by omega) (by omega)
 have k4:IntKind.i64.wrap (d:Int)=d:=wrap64 (by omega) (by omega)
 have w1:IntKind.i64.wrap ((a:Int)+c)=(a:Int)+c:=wrap64 (by omega) (by omega)
 have w2:IntKind.i64.wrap ((b:Int)+d)=(b:Int)+d:=wrap64 (by omega) (by omega)
 have w3:IntKind.i64.wrap (32+16*(a:Int)+4*(b:Int)+(32+16*(c:Int)+4*(d:Int)))=32+16*(a:Int)+4*(b:Int)+(32+16*(c:Int)+4*(d:Int)):=wrap64 (by omega) (by omega)
 have w4:IntKind.i64.wrap (32+16*(a:Int)+4*(b:Int)+(32+16*(c:Int)+4*(d:Int))-32)=32+16*((a:Int)+c)+4*((b:Int)+d):=by rw[wrap64 (by omega) (by omega)];omega
 have b1:=wP a b (by omega) (by omega)
 have b2:=wP c d (by omega) (by omega)
 have b3:=wP ((a:Int)+c) ((b:Int)+d) (by omega) (by omega)
 simp (maxSteps:=1000000) [go_sem,Tryz.f4,k1,k2,k3,k4]
 refine zq (zmh a b c d ha hb hc hd) ?_
 simp (maxSteps:=1000000) [go_sem,k1,k2,k3,k4,w1,w2]
 refine ZB 14 b3 ?_
 simp (maxSteps:=1000000) [go_sem]
 refine ZB 14 b1 ?_
 simp (maxSteps:=1000000) [go_sem]
 refine ZB 14 b2 ?_
 simp (maxSteps:=1000000) [go_sem,w3,w4]
 refine ZB 16 KN ?_
 simp (maxSteps:=1000000) [go_sem]
 exact ret
end Go.Proofs.YtcgfdhdcihmeeaaGreat
end
