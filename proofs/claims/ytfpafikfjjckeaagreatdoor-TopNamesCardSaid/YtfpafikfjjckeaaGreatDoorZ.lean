import Derived.Orders
import Derived.Below
import Derived.Laws.OwnMore
import Derived.Laws.Rows
import Derived.Deep.Draws
import Derived.Lib.Strings
import Derived.Lib.OthersKept
import Derived.Lib.Hide
import Derived.KernelRfl
namespace Go.Proofs.YtfpafikfjjckeaaGreatDoor
set_option maxRecDepth 100000
set_option maxHeartbeats 200000000
theorem Ki{p:Prop}(h:p):Go.RowKit.Hid p:=h
theorem Kj(p:Prop)(h:p):Go.RowKit.Hid p:=h
theorem _root_.Go.RowKit.Hid.o{p:Prop}(h:Go.RowKit.Hid p):p:=h
instance : Coe Go.World Nat:=⟨λw=>w.heap.size⟩
theorem PS:(∀(l:List Go.Oper)(i:Nat)(h:i<l.toArray.size),l.toArray[i]=l[i]'(by simpa using h))/\(∀(a:Go.Oper)(l:List Go.Oper)(i:Nat) (h:i+1<(a::l).length),(a::l)[i+1]=l[i]'(Nat.lt_of_succ_lt_succ h))/\(∀(a:Go.Oper)(l:List Go.Oper) (h:0<(a::l).length),(a::l)[0]=a)/\(∀(l:List Go.Value)(i:Nat)(x:Go.Value),l.toArray.setIfInBounds i x=(l.set i x).toArray)/\(∀(l:List Bool)(i:Nat)(x:Bool),l.toArray.setIfInBounds i x=(l.set i x).toArray)/\(∀(a:Go.Value)(l:List Go.Value)(b:Go.Value),(a::l).set 0 b=b::l)/\(∀(a:Go.Value)(l:List Go.Value)(i:Nat)(b:Go.Value),(a::l).set (i+1) b=a::l.set i b)/\(∀(a:Bool)(l:List Bool)(b:Bool),(a::l).set 0 b=b::l)/\(∀(a:Bool)(l:List Bool)(i:Nat)(b:Bool),(a::l).set (i+1) b=a::l.set i b):=⟨λ_ _ _=>rfl,λ_ _ _ _=>rfl,λ_ _ _=>rfl,λ_ _ _=>List.setIfInBounds_toArray ..,λ_ _ _=>List.setIfInBounds_toArray ..,λ_ _ _=>rfl,λ_ _ _ _=>rfl,λ_ _ _=>rfl,λ_ _ _ _=>rfl⟩
theorem ex{α}(a:α):∃b,a=b:=⟨a,rfl⟩
instance : Coe Int Go.Value:=⟨λx=>.int .i64 x⟩
instance : Coe Nat Go.Value:=⟨λx=>.int .i64 (x:Int)⟩
instance {a b:Nat}:CoeDep (Nat×Nat) (a,b) Go.Addr:=⟨⟨a,b,none⟩⟩
instance {a b:Nat}:CoeDep (Nat×Nat) (a,b) (Option Go.Addr):=⟨some ⟨a,b,none⟩⟩
instance : Coe ByteArray Go.Value:=⟨λx=>.string x⟩
section
open Go Go.RowKit
theorem bn{w W:World}{o:Obj}(h:w.alloc o=W):W.heap[w.heap.size]?=some o:=by rw[<-h];exact heap_alloc_new w _
theorem bl{w W:World}{o:Obj}(h:w.alloc o=W):Below w.heap.size w W:=by rw[<-h];exact(Below.refl _ w).alloc (Nat.le_refl _) _
end
section
open Go
variable {w:World} {g:Nat} {t:TypeId} {fr:Nat×Nat} {x:Value} {l:List Value} {y0 y1 y2 y3 y4 y5 y6 y7 y8 y9 y10 y11 y12 y13 y14 y15 y16:Value}
theorem cr0(h:w.heap[g]?=some (.cells (x::l).toArray t fr)):w.cell? ⟨g,0,none⟩=some x:=cell_of_row w g 0 _ _ _ h
theorem cr1(h:w.heap[g]?=some (.cells (y0::x::l).toArray t fr)):w.cell? ⟨g,1,none⟩=some x:=cell_of_row w g 1 _ _ _ h
theorem cr2(h:w.heap[g]?=some (.cells (y0::y1::x::l).toArray t fr)):w.cell? ⟨g,2,none⟩=some x:=cell_of_row w g 2 _ _ _ h
theorem cr3(h:w.heap[g]?=some (.cells (y0::y1::y2::x::l).toArray t fr)):w.cell? ⟨g,3,none⟩=some x:=cell_of_row w g 3 _ _ _ h
theorem cr4(h:w.heap[g]?=some (.cells (y0::y1::y2::y3::x::l).toArray t fr)):w.cell? ⟨g,4,none⟩=some x:=cell_of_row w g 4 _ _ _ h
theorem cr5(h:w.heap[g]?=some (.cells (y0::y1::y2::y3::y4::x::l).toArray t fr)):w.cell? ⟨g,5,none⟩=some x:=cell_of_row w g 5 _ _ _ h
theorem cr6(h:w.heap[g]?=some (.cells (y0::y1::y2::y3::y4::y5::x::l).toArray t fr)):w.cell? ⟨g,6,none⟩=some x:=cell_of_row w g 6 _ _ _ h
theorem cr7(h:w.heap[g]?=some (.cells (y0::y1::y2::y3::y4::y5::y6::x::l).toArray t fr)):w.cell? ⟨g,7,none⟩=some x:=cell_of_row w g 7 _ _ _ h
theorem cr8(h:w.heap[g]?=some (.cells (y0::y1::y2::y3::y4::y5::y6::y7::x::l).toArray t fr)):w.cell? ⟨g,8,none⟩=some x:=cell_of_row w g 8 _ _ _ h
theorem cr9(h:w.heap[g]?=some (.cells (y0::y1::y2::y3::y4::y5::y6::y7::y8::x::l).toArray t fr)):w.cell? ⟨g,9,none⟩=some x:=cell_of_row w g 9 _ _ _ h
theorem cr10(h:w.heap[g]?=some (.cells (y0::y1::y2::y3::y4::y5::y6::y7::y8::y9::x::l).toArray t fr)):w.cell? ⟨g,10,none⟩=some x:=cell_of_row w g 10 _ _ _ h
theorem cr11(h:w.heap[g]?=some (.cells (y0::y1::y2::y3::y4::y5::y6::y7::y8::y9::y10::x::l).toArray t fr)):w.cell? ⟨g,11,none⟩=some x:=cell_of_row w g 11 _ _ _ h
theorem cr12(h:w.heap[g]?=some (.cells (y0::y1::y2::y3::y4::y5::y6::y7::y8::y9::y10::y11::x::l).toArray t fr)):w.cell? ⟨g,12,none⟩=some x:=cell_of_row w g 12 _ _ _ h
theorem cr13(h:w.heap[g]?=some (.cells (y0::y1::y2::y3::y4::y5::y6::y7::y8::y9::y10::y11::y12::x::l).toArray t fr)):w.cell? ⟨g,13,none⟩=some x:=cell_of_row w g 13 _ _ _ h
theorem cr14(h:w.heap[g]?=some (.cells (y0::y1::y2::y3::y4::y5::y6::y7::y8::y9::y10::y11::y12::y13::x::l).toArray t fr)):w.cell? ⟨g,14,none⟩=some x:=cell_of_row w g 14 _ _ _ h
theorem cr15(h:w.heap[g]?=some (.cells (y0::y1::y2::y3::y4::y5::y6::y7::y8::y9::y10::y11::y12::y13::y14::x::l).toArray t fr)):w.cell? ⟨g,15,none⟩=some x:=cell_of_row w g 15 _ _ _ h
theorem cr16(h:w.heap[g]?=some (.cells (y0::y1::y2::y3::y4::y5::y6::y7::y8::y9::y10::y11::y12::y13::y14::y15::x::l).toArray t fr)):w.cell? ⟨g,16,none⟩=some x:=cell_of_row w g 16 _ _ _ h
theorem cr17(h:w.heap[g]?=some (.cells (y0::y1::y2::y3::y4::y5::y6::y7::y8::y9::y10::y11::y12::y13::y14::y15::y16::x::l).toArray t fr)):w.cell? ⟨g,17,none⟩=some x:=cell_of_row w g 17 _ _ _ h
theorem cR{cs:Array Value}(j:Nat)(h:w.heap[g]?=some (.cells cs t fr)):w.cell? ⟨g,j,none⟩=cs[j]?:=cell_of_row w g j _ _ _ h
end
section
open Go
theorem Zs(w:World)(o:Obj)(k:Nat):(w.alloc o).heap[k]?=if k=w.heap.size then some o else w.heap[k]?:=by
 show(w.heap.push o)[k]?=_
 rw[Array.getElem?_push]
end

theorem Q3:type_of% @Nat.le_refl:=@Nat.le_refl
theorem Q5:type_of% @Array.getElem?_eq_some_iff:=@Array.getElem?_eq_some_iff
theorem Q6:type_of% @if_neg:=@if_neg
theorem Q7:type_of% @if_pos:=@if_pos
theorem Q9:type_of% @Nat.le_trans:=@Nat.le_trans
theorem Qc:type_of% @Go.RowKit.Below.refl:=@Go.RowKit.Below.refl
theorem Qh:type_of% @Nat.zero_le:=@Nat.zero_le
theorem Qi:type_of% @Go.heap_alloc_new:=@Go.heap_alloc_new
theorem Qj:type_of% @List.length_append:=@List.length_append
theorem Qq:type_of% @List.mem_append:=@List.mem_append
theorem Qw:type_of% @List.mem_singleton:=@List.mem_singleton
theorem Qy:type_of% @Go.World.size_alloc:=@Go.World.size_alloc
theorem QF:type_of% @decide_eq_true:=@decide_eq_true
theorem QI:type_of% @List.mem_cons:=@List.mem_cons
theorem QQ:type_of% @List.take_succ_eq_append_getElem:=@List.take_succ_eq_append_getElem
theorem QZ:type_of% @List.mem_map:=@List.mem_map
theorem Z1:type_of% @Nat.lt_of_lt_of_le:=@Nat.lt_of_lt_of_le
theorem Z4:type_of% @List.length_cons:=@List.length_cons
theorem Z5:type_of% @Go.RowKit.Below.heap_alloc:=@Go.RowKit.Below.heap_alloc
theorem Zb:type_of% @List.flatMap_append:=@List.flatMap_append
theorem Zi:type_of% @List.length_take:=@List.length_take
theorem Zk:type_of% @List.take_of_length_le:=@List.take_of_length_le
theorem Zo:type_of% @decide_eq_false:=@decide_eq_false
theorem Zt:type_of% @List.getElem_mem:=@List.getElem_mem
theorem ZB:type_of% @List.append_nil:=@List.append_nil
theorem ZC:type_of% @List.map_append:=@List.map_append
theorem ZJ:type_of% @Bool.and_eq_true:=@Bool.and_eq_true
theorem ZW:type_of% @List.map_cons:=@List.map_cons
theorem X2:type_of% @List.mem_cons_of_mem:=@List.mem_cons_of_mem
theorem X3:type_of% @List.getElem?_eq_getElem:=@List.getElem?_eq_getElem
theorem X6:type_of% @List.take_length:=@List.take_length
theorem Xf:type_of% @List.flatMap_singleton:=@List.flatMap_singleton
theorem Xg:type_of% @beq_eq_false_iff_ne:=@beq_eq_false_iff_ne
theorem Xh:type_of% @List.length_map:=@List.length_map
theorem Xn:type_of% @Nat.le_of_lt:=@Nat.le_of_lt
theorem Xz:type_of% @congrArg:=@congrArg
theorem XA:type_of% @List.flatMap_cons:=@List.flatMap_cons
theorem XD:type_of% @decide_eq_true_eq:=@decide_eq_true_eq
theorem XF:type_of% @Ne.symm:=@Ne.symm
theorem XT:type_of% @List.mem_cons_self:=@List.mem_cons_self
theorem XU:type_of% @List.take_append_drop:=@List.take_append_drop
theorem XZ:type_of% @List.length_singleton:=@List.length_singleton
theorem Y0:type_of% @of_decide_eq_true:=@of_decide_eq_true
theorem Y7:type_of% @List.append_assoc:=@List.append_assoc
theorem Yh:type_of% @List.pairwise_cons:=@List.pairwise_cons
theorem YD:type_of% @Go.wpAny_done:=@Go.wpAny_done
theorem YU:type_of% @List.filter_append:=@List.filter_append
theorem YV:type_of% @Go.RowKit.Below.heap_setCell:=@Go.RowKit.Below.heap_setCell
theorem YW:type_of% @List.mem_flatMap:=@List.mem_flatMap
theorem J9:type_of% @List.mem_of_getElem?:=@List.mem_of_getElem?
theorem Jb:type_of% @Go.Lib.toList_data:=@Go.Lib.toList_data
theorem Jc:type_of% @Go.Lib.size_eq:=@Go.Lib.size_eq
theorem Jr:type_of% @Option.some.inj:=@Option.some.inj
theorem Js:type_of% @Bool.eq_iff_iff:=@Bool.eq_iff_iff
theorem Jt:type_of% @Go.wp_region_any:=@Go.wp_region_any
theorem JB:type_of% @List.cons_append:=@List.cons_append
theorem JC:type_of% @Nat.min_eq_left:=@Nat.min_eq_left
theorem JD:type_of% @or_false:=@or_false
theorem JZ:type_of% @List.getElem?_append_right:=@List.getElem?_append_right
theorem V2:type_of% @Go.results_cell_row:=@Go.results_cell_row
theorem V3:type_of% @List.not_mem_nil:=@List.not_mem_nil
theorem V4:type_of% @List.all_eq_true:=@List.all_eq_true
theorem V5:type_of% @List.mem_filter:=@List.mem_filter
theorem V7:type_of% @Nat.zero_add:=@Nat.zero_add
theorem V8:type_of% @Classical.em:=@Classical.em
theorem Vl:type_of% @List.length_filter_le:=@List.length_filter_le
theorem Vm:type_of% @Array.getElem?_modify:=@Array.getElem?_modify
theorem VJ:type_of% @List.eq_nil_of_length_eq_zero:=@List.eq_nil_of_length_eq_zero
theorem VK:type_of% @List.getElem?_append_left:=@List.getElem?_append_left
theorem VL:type_of% @List.drop_eq_getElem_cons:=@List.drop_eq_getElem_cons
theorem VM:type_of% @List.length_eq_zero_iff:=@List.length_eq_zero_iff
theorem VN:type_of% @List.nil_append:=@List.nil_append
theorem VO:type_of% @List.sum_cons:=@List.sum_cons
theorem U6:type_of% @Nat.add_sub_cancel_left:=@Nat.add_sub_cancel_left
theorem U8:type_of% @List.mem_of_mem_take:=@List.mem_of_mem_take
theorem U9:type_of% @List.mem_iff_getElem:=@List.mem_iff_getElem
theorem Ua:type_of% @List.any_eq_true:=@List.any_eq_true
theorem Ub:type_of% @List.length_nil:=@List.length_nil
theorem Uc:type_of% @List.mem_range:=@List.mem_range
theorem Ud:type_of% @Int.ofNat_tmod:=@Int.ofNat_tmod
theorem Uf:type_of% @Nat.mul_one:=@Nat.mul_one
theorem Ug:type_of% @Nat.mod_lt:=@Nat.mod_lt
theorem Uh:type_of% @Go.mem_ready:=@Go.mem_ready
theorem UC:type_of% @of_decide_eq_false:=@of_decide_eq_false
theorem UE:type_of% @List.pairwise_map:=@List.pairwise_map
theorem UF:type_of% @List.flatten_cons:=@List.flatten_cons
theorem UH:type_of% @Nat.lt_or_ge:=@Nat.lt_or_ge
theorem UI:type_of% @Nat.add_zero:=@Nat.add_zero
theorem Kb:type_of% @List.getElem?_eq_some_iff:=@List.getElem?_eq_some_iff
theorem Kc:type_of% @List.length_pos_iff:=@List.length_pos_iff
theorem Ke:type_of% @List.size_toArray:=@List.size_toArray
theorem Kf:type_of% @List.map_nil:=@List.map_nil
theorem KZ:type_of% @ByteArray.size_append:=@ByteArray.size_append
theorem G0:type_of% @List.length_reverse:=@List.length_reverse
theorem G4:type_of% @Bool.or_eq_true:=@Bool.or_eq_true
theorem G5:type_of% @Go.ready_mono:=@Go.ready_mono
theorem GI:type_of% @List.pairwise_singleton:=@List.pairwise_singleton
theorem GJ:type_of% @List.pairwise_append:=@List.pairwise_append
theorem GK:type_of% @List.mem_reverse:=@List.mem_reverse
theorem GL:type_of% @List.find?_eq_none:=@List.find?_eq_none
theorem GR:type_of% @List.find?_append:=@List.find?_append
theorem GS:type_of% @List.nodup_cons:=@List.nodup_cons
theorem GT:type_of% @Nat.mul_le_mul:=@Nat.mul_le_mul
theorem GU:type_of% @getElem!_pos:=@getElem!_pos
theorem GV:type_of% @Nat.sub_self:=@Nat.sub_self
theorem FY:type_of% @Option.map_eq_some_iff:=@Option.map_eq_some_iff
theorem FZ:type_of% @Array.replicate_zero:=@Array.replicate_zero
theorem E0:type_of% @Array.replicate_succ:=@Array.replicate_succ
theorem E5:type_of% @List.flatten_append:=@List.flatten_append
theorem E6:type_of% @List.append_toArray:=@List.append_toArray
theorem E7:type_of% @Go.Lib.OthersKept.refl:=@Go.Lib.OthersKept.refl
theorem Ea:type_of% @List.push_toArray:=@List.push_toArray
theorem Eb:type_of% @decide_eq_decide:=@decide_eq_decide
theorem Ec:type_of% @List.filter_cons:=@List.filter_cons
theorem Ed:type_of% @List.find?_cons:=@List.find?_cons
theorem Ef:type_of% @Nat.zero_mul:=@Nat.zero_mul
theorem Eg:type_of% @Nat.le_of_eq:=@Nat.le_of_eq
theorem Ei:type_of% @Int.le_refl:=@Int.le_refl
theorem De:type_of% @List.pairwise_iff_getElem:=@List.pairwise_iff_getElem
theorem Df:type_of% @List.mem_of_find?_eq_some:=@List.mem_of_find?_eq_some
theorem Dh:type_of% @List.filter_eq_nil_iff:=@List.filter_eq_nil_iff
theorem Dj:type_of% @List.foldl_append:=@List.foldl_append
theorem Dk:type_of% @List.reverse_append:=@List.reverse_append
theorem Dm:type_of% @Nat.eq_zero_or_pos:=@Nat.eq_zero_or_pos
theorem Dq:type_of% @Option.some.injEq:=@Option.some.injEq
theorem Dr:type_of% @List.nodup_append:=@List.nodup_append
theorem Ds:type_of% @List.length_drop:=@List.length_drop
theorem Du:type_of% @List.nodup_nil:=@List.nodup_nil
theorem Dv:type_of% @Bool.and_assoc:=@Bool.and_assoc
theorem DH:type_of% @Nat.add_mul:=@Nat.add_mul
theorem CS:type_of% @List.getD_eq_getElem?_getD:=@List.getD_eq_getElem?_getD
theorem CV:type_of% @Option.bind_eq_some_iff:=@Option.bind_eq_some_iff
theorem CY:type_of% @List.length_flatMap:=@List.length_flatMap
theorem B0:type_of% @List.reverse_cons:=@List.reverse_cons
theorem B1:type_of% @List.getElem?_map:=@List.getElem?_map
theorem B2:type_of% @List.all_eq_false:=@List.all_eq_false
theorem B3:type_of% @List.map_toArray:=@List.map_toArray
theorem B4:type_of% @List.ext_getElem:=@List.ext_getElem
theorem B5:type_of% @List.sum_append:=@List.sum_append
theorem B6:type_of% @List.find?_some:=@List.find?_some
theorem O4:type_of% @Classical.byContradiction:=@Classical.byContradiction
theorem O5:type_of% @List.take_append_of_le_length:=@List.take_append_of_le_length
theorem O7:type_of% @List.dropWhile_cons_of_neg:=@List.dropWhile_cons_of_neg
theorem O8:type_of% @List.sum_replicate_nat:=@List.sum_replicate_nat
theorem O9:type_of% @List.singleton_append:=@List.singleton_append
theorem Ob:type_of% @Nat.mul_le_mul_right:=@Nat.mul_le_mul_right
theorem Oc:type_of% @List.reverse_reverse:=@List.reverse_reverse
theorem Od:type_of% @Array.getElem_toList:=@Array.getElem_toList
end Go.Proofs.YtfpafikfjjckeaaGreatDoor
