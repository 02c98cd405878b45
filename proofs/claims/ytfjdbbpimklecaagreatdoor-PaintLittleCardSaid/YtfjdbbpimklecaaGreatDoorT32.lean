/- A part of this seat's proofs, by an abstract machine. Conditions: each law's. -/
import Derived.Test.YtfjdbbpimklecaaGreatDoorChecked
import Derived.Shelf.Strings.BuilderX
import Derived.Shelf.RegionOpenPlain
import Derived.Lib.Strings
import Derived.Lib.Slices
import Derived.Lib.Walk
import Derived.Lib.Builder
import Derived.Lib.AppendStr
import Derived.Lib.UnsafeStr
import Derived.Lib.MakeNoZero
import Derived.Lib.AppendZerosOnto
import Derived.WalkKit
import Derived.KernelRfl
import Derived.Laws.Externs
import Derived.Laws.IdiomCopy
import Derived.Laws.BitsLemmas
set_option maxHeartbeats 2000000
set_option maxRecDepth 100000
namespace Go.Proofs.YtfjdbbpimklecaaGreatDoor
section
open Go.RowKit
theorem sizeBuilder:∃j,Tryz.prog.info? 188=some j∧j.size=2:=by
 have h:(Tryz.prog.info? 188).map (·.size)=some 2:=by kernel_rfl
 simpa[Option.map_eq_some_iff]using h
theorem liesBuilder:liesAt Tryz.prog Tryz.prog.depth 188 (2/Tryz.prog.cellsOf 188) 0 188 1=true:=by kernel_rfl
theorem zhM(b:Nat)(w:World)(h0:w.cell? ⟨b,0,none⟩=some (.pointer (some ⟨b,0,none⟩))):
  Calls Tryz.prog 150 #[.pointer (some ⟨b,0,none⟩)] w fun e w'=>e=.returned (.tuple #[])∧w'=w:=by
 obtain⟨j,hj,_⟩:=sizeBuilder
 go_enter Tryz.func150,Tryz.ntmps150
 go_wp2
 rw[Lib.run_neq_ptr_same w _ Tryz.underlying185 hj]
 go_wp2
 go_end0
 exact⟨rfl,rfl⟩
theorem zfN(b:Nat)(w:World)(h0:w.cell? ⟨b,0,none⟩=some (.pointer none))(hsh:w.shape? b=some (188,2))(hfz:w.frozen? ⟨b,0,none⟩=false):
  Calls Tryz.prog 150 #[.pointer (some ⟨b,0,none⟩)] w fun e w'=>e=.returned (.tuple #[])∧w'=w.setCell ⟨b,0,none⟩ (.pointer (some ⟨b,0,none⟩)):=by
 obtain⟨j,hj,hjs⟩:=sizeBuilder
 go_enter Tryz.func150,Tryz.ntmps150
 go_wp2
 rw[Lib.run_to_unsafe w ⟨b,0,none⟩ Tryz.underlying185 Tryz.underlying330 hj (by rw[hjs];decide) hsh (Nat.zero_lt_succ _)]
 simp only[Result.andThen]
 rw[Oper.upon_value]
 go_wp2
 rw[run_callFunc_extern Tryz.func195 (by kernel_rfl) (by kernel_rfl) (by kernel_rfl) (e:=Extern.AbiNoEscape.same) (by kernel_rfl)]
 rw[Lib.run_noEscape]
 simp only[Result.andThen]
 rw[Oper.upon_value]
 go_wp2
 rw[Lib.run_from_unsafe w ⟨b,0,none⟩ Tryz.underlying330 Tryz.underlying185 hj hsh liesBuilder]
 simp only[Result.andThen]
 rw[Oper.upon_value]
 go_wp2
 go_end0
 exact⟨rfl,rfl⟩
theorem infoByte:∃i,Tryz.prog.info? 5=some i∧i.zero=some (.int .u8 0)∧i.size=1∧i.bytes=1:=by
 have h:(Tryz.prog.info? 5).map (fun i=>(i.zero,i.size,i.bytes))=some (some (.int .u8 0),1,1):=by kernel_rfl
 simp only[Option.map_eq_some_iff,Prod.mk.injEq]at h
 obtain⟨i,h0,h1,h2,h3⟩:=h
 exact⟨i,h0,h1,h2,h3⟩
theorem Xi(l s:List UInt8):Lib.byteCells l++Lib.strCells ⟨s.toArray⟩=Lib.byteCells (l++s):=by
 simp[Lib.byteCells,Lib.strCells]
theorem zm5 {w:World} {v:Value} {l:List UInt8}(hown:w.ownsRow 0 5 1 v l.length (Lib.byteCells l))(s:List UInt8)(hlen:l.length+s.length≤140737488355328):
  ∃v' w',(∀ty,(Builtin.append_ #[186,9] ty #[v,.string ⟨s.toArray⟩]).run Tryz.prog w=.ok v' w')∧w'.ownsRow 0 5 1 v' (l++s).length (Lib.byteCells (l++s))∧w.grownBy w' v.ownBlock∧
   (v'=.slice none 0 0↔v=.slice none 0 0∧s=[])∧(v'.ownBlock=v.ownBlock∨∃B,v'.ownBlock=some B∧w.heap.size≤B):=by
 obtain⟨i,hi,hz0,hz1,hz2⟩:=infoByte
 have hsz:(⟨s.toArray⟩:ByteArray).size=s.length:=by simp[ByteArray.size]
 have hany:∀base,w.ownsRow base 5 1 v l.length (Lib.byteCells l)→base≤w.heap.size→∀ty,_:=fun base ho hb ty=>
  Lib.run_append_own_string (P:=Tryz.prog) w base 186 9 ty 5 i Tryz.underlying186 Tryz.underlying9 hi hz0 hz1 hz2 v l.length (Lib.byteCells l) ho ⟨s.toArray⟩ (by rw[hsz];unfold maxLen;omega) (by rw[hsz];omega) hb
 have hll:(l++s).length=l.length+s.length:=List.length_append
 rw[hll,←Xi,←hsz]
 have hs0:∀{q:Nat},q=(⟨s.toArray⟩:ByteArray).size→(q=0↔s=[]):=fun {q} e=>by rw[e,hsz];exact List.length_eq_zero_iff
 rcases hown.2 with ⟨rfl,h0⟩|⟨g,cap,cur,rfl,hbg,hg,hnc,hcm,hcs,htake⟩
 ·obtain⟨v',w',hr,h2,h3,h4⟩:=hany w.heap.size ⟨hown.1,.inl ⟨rfl,h0⟩⟩ (Nat.le_refl _) 186
  refine⟨v',w',fun ty=>?_,⟨h2.1,h2.2.imp id ?_⟩,h3,by rw[h4,hs0 rfl],?_⟩
  ·obtain⟨v2,w2,hr2,_⟩:=hany 0 hown (Nat.zero_le _) ty
   have:(Builtin.append_ #[186,9] ty #[Value.slice none 0 0,.string ⟨s.toArray⟩]).run Tryz.prog w=(Builtin.append_ #[186,9] 186 #[Value.slice none 0 0,.string ⟨s.toArray⟩]).run Tryz.prog w:=rfl
   rw[this];exact hr
  ·rintro⟨g,cap,cur,e,_,rest⟩
   exact⟨g,cap,cur,e,Nat.zero_le _,rest⟩
  ·rcases h2.2 with ⟨rfl,_⟩|⟨g,cap,cur,rfl,hb,_⟩
   ·exact .inl rfl
   ·exact .inr ⟨g,rfl,hb⟩
 ·obtain⟨v',w',hr,h2,h3,h4⟩:=hany 0 hown (Nat.zero_le _) 186
  have hty:∀ty,(Builtin.append_ #[186,9] ty #[Value.slice (some ⟨g,0,none⟩) l.length cap,.string ⟨s.toArray⟩]).run Tryz.prog w=.ok v' w':=fun ty=>by
   have:(Builtin.append_ #[186,9] ty #[Value.slice (some ⟨g,0,none⟩) l.length cap,.string ⟨s.toArray⟩]).run Tryz.prog w=(Builtin.append_ #[186,9] 186 #[Value.slice (some ⟨g,0,none⟩) l.length cap,.string ⟨s.toArray⟩]).run Tryz.prog w:=rfl
   rw[this];exact hr
  refine⟨v',w',hty,h2,h3,by rw[h4,hs0 rfl],?_⟩
  have hcs':cur.size=cap:=by simpa using hcs
  by_cases hroom:l.length+(⟨s.toArray⟩:ByteArray).size≤cap
  ·have hr':=Lib.run_append_room_string (P:=Tryz.prog) w 186 9 186 5 i Tryz.underlying186 Tryz.underlying9 hi hz1 g l.length cap cur hg ⟨s.toArray⟩ hroom (by omega)
   rw[hr]at hr'
   injection hr' with e1 e2
   subst e1
   exact .inl rfl
  ·have hr':=Lib.run_append_grow_string (P:=Tryz.prog) w 186 9 186 5 i (.int .u8 0) Tryz.underlying186 Tryz.underlying9 hi hz0 ⟨g,0,none⟩ l.length cap (Lib.byteCells l) (by rw[hz1];simpa using hown.1) (hown.cells (g:=g) rfl) ⟨s.toArray⟩ (by omega) (by omega) (by rw[hz2];exact growslice_fits (by omega) (by omega))
   rw[hr]at hr'
   injection hr' with e1 e2
   subst e1
   exact .inr ⟨_,rfl,Nat.le_refl _⟩
theorem zhz(b:Nat)(v:Value)(l s:List UInt8)(w W1:World)(arr1:Array Value)(T:TypeId)(hcopy:Calls Tryz.prog 150 #[.pointer (some ⟨b,0,none⟩)] w fun e w'=>e=.returned (.tuple #[])∧w'=W1)
  (hb1:W1.heap[b]?=some (.cells arr1 T (0,0))) (h1:arr1[1]?=some v) (hown:W1.ownsRow 0 5 1 v l.length (Lib.byteCells l)) (hne:v.ownBlock≠some b) (hlen:l.length+s.length≤140737488355328):
  Calls Tryz.prog 98 #[.pointer (some ⟨b,0,none⟩),.string ⟨s.toArray⟩] w fun e w'=>e=.returned (.tuple #[.int .i64 s.length,.nilIface])∧∃v' W2,w'=W2.setCell ⟨b,1,none⟩ v'∧W2.ownsRow 0 5 1 v' (l++s).length (Lib.byteCells (l++s))∧
   W1.grownBy W2 v.ownBlock∧(v'=.slice none 0 0↔v=.slice none 0 0∧s=[])∧(v'.ownBlock=v.ownBlock∨∃B,v'.ownBlock=some B∧W1.heap.size≤B):=by
 obtain⟨v',W2,hr,hown',hgrow,hiff,hblk⟩:=zm5 hown s hlen
 have hsz:(⟨s.toArray⟩:ByteArray).size=s.length:=by simp[ByteArray.size]
 have c1:W1.cell? ⟨b,1,none⟩=some v:=by rw[Lib.cell_of_heap hb1];exact h1
 have hlt:b<W1.heap.size:=(Array.getElem?_eq_some_iff.1 hb1).1
 have hb2:W2.heap[b]?=some (.cells arr1 T (0,0)):=by
  rw[hgrow.block b hlt (fun e=>hne e.symm)]
  exact hb1
 have d1:W2.cell? ⟨b,1,none⟩=some v:=by rw[Lib.cell_of_heap hb2];exact h1
 have f1:W2.frozen? ⟨b,1,none⟩=false:=Lib.frozen_of_heap hb2 1
 obtain⟨ao,n',cap,rfl⟩:∃ao n' cap,v'=.slice ao n' cap:=by
  rcases hown'.2 with ⟨hv,_⟩|⟨g,cap,cur,hv,_⟩
  ·exact⟨_,_,_,hv⟩
  ·exact⟨_,_,_,hv⟩
 go_enter Tryz.func98,Tryz.ntmps98
 go_wp2_with (first|(go_at_call 150;refine hcopy.mono ?_;rintro e w1 ⟨rfl,rfl⟩)|(at_builtin;refine Lib.wpList_append_run _ rfl _ _ _ _ rfl _ _ rfl rfl _ _ (hr _) ?_))
 go_ret2
 exact⟨rfl,_,W2,rfl,hown',hgrow,hiff,hblk⟩
theorem zlL(b g cap:Nat)(cur arr:Array Value)(T:TypeId)(l:List UInt8)(w:World)(hbk:w.heap[b]?=some (.cells arr T (0,0)))(h1:arr[1]?=some (.slice (some ⟨g,0,none⟩) l.length cap))(hg:w.heap[g]?=some (.cells cur 5 (0,0)))
  (hnc:l.length≤cap) (hcm:cap≤9223372036854775807) (hcs:cur.size=cap) (htake:cur.toList.take l.length=Lib.byteCells l) (h0:l≠ []):
  Calls Tryz.prog 100 #[.pointer (some ⟨b,0,none⟩)] w fun e w'=>e=.returned (.string ⟨l.toArray⟩)∧w'=w.drew.freeze ⟨g,0,none⟩ l.length:=by
 have c1:w.drew.cell? ⟨b,1,none⟩=some (.slice (some ⟨g,0,none⟩) l.length cap):=by
  have:w.drew.heap[b]?=some (.cells arr T (0,0)):=hbk
  rw[Lib.cell_of_heap this];exact h1
 have hl0:l.length≠0:=by simpa using h0
 have hSD:(Builtin.unsafeSliceData_ #[186] 275 #[.slice (some ⟨g,0,none⟩) l.length cap]).run Tryz.prog w.drew=.ok (.pointer (some ⟨g,0,none⟩)) w.drew:=
  Lib.run_unsafeSliceData_row _ _ _ _ _ _ (by omega)
 have hUS:(Builtin.unsafeString_ #[275,3] 9 #[.pointer (some ⟨g,0,none⟩),.int .i64 l.length]).run Tryz.prog w.drew=.ok (.string ⟨l.toArray⟩) (w.drew.freeze ⟨g,0,none⟩ l.length):=by
  refine Lib.run_unsafeString_row w.drew 275 3 9 5 Tryz.underlying275 (by kernel_rfl) g cur.size (by have hg':w.drew.heap[g]?=some (.cells cur 5 (0,0)):=hg;simp[World.shape?,hg']) l h0 (by omega) (by omega) ?_
  intro j x hx
  have hg':w.drew.heap[g]?=some (.cells cur 5 (0,0)):=hg
  rw[Addr.add_lit,Nat.zero_add,Lib.cell_of_heap hg']
  have:(cur.toList.take l.length)[j]?=some (.int .u8 x.toNat):=by rw[htake];simp[Lib.byteCells,hx]
  rw[List.getElem?_take]at this
  split at this
  ·simpa using this
  ·cases this
 have mixed:Tryz.prog.follows .mixedOrders=true:=Tryz.checked.mixed
 go_enter Tryz.func100,Tryz.ntmps100
 go_wp2
 go_region_o
 all_goals(go_wp2;go_ret;exact⟨rfl,rfl⟩)
theorem zdI(b:Nat)(arr:Array Value)(T:TypeId)(w:World)(hbk:w.heap[b]?=some (.cells arr T (0,0)))(h1:arr[1]?=some (.slice none 0 0)):
  Calls Tryz.prog 100 #[.pointer (some ⟨b,0,none⟩)] w fun e w'=>e=.returned (.string ⟨#[]⟩)∧w'=w.drew:=by
 have hUS:=fun(W:World) q=>Lib.run_unsafeString_none (P:=Tryz.prog) W 275 3 9 q
 have c1:w.drew.cell? ⟨b,1,none⟩=some (.slice none 0 0):=by
  have:w.drew.heap[b]?=some (.cells arr T (0,0)):=hbk
  rw[Lib.cell_of_heap this];exact h1
 have hSD:(Builtin.unsafeSliceData_ #[186] 275 #[.slice none 0 0]).run Tryz.prog w.drew=.ok (.pointer none) w.drew:=rfl
 have mixed:Tryz.prog.follows .mixedOrders=true:=Tryz.checked.mixed
 go_enter Tryz.func100,Tryz.ntmps100
 go_wp2
 go_region_o
 all_goals(go_wp2;go_ret;exact⟨rfl,rfl⟩)
end
end Go.Proofs.YtfjdbbpimklecaaGreatDoor
