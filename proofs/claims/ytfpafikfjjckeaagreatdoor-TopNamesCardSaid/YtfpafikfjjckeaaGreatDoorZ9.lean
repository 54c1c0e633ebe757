import Derived.Test.YtfpafikfjjckeaaGreatDoorRows
import Derived.Lib.LaidIn
import Derived.Lib.LaidU8T
import Derived.PinnedBridge
import Derived.Deep.DeepHandedRow
import Derived.Deep.DeepWitnessRowRef
import Derived.SizedLaws
import Derived.Laws.BytesArg
import Derived.Shelf.SlSortCmp.NoneTotal
import Derived.Test.YtfpafikfjjckeaaGreatDoorZ2
set_option maxRecDepth 100000
set_option maxHeartbeats 200000000
namespace Go.Proofs.YtfpafikfjjckeaaGreatDoor
section
open Go.ChangeShapes Go.WideShapes Go.ChangeAt Go.RowKit Go.Shelf
theorem own:ownKnob Tryz.prog.godebug=none:=by kernel_rfl
def DM : List (String × DataW Unit) := [("math/bits.deBruijn32tab", Rows.laid_math_bits_deBruijn32tab), ("math/bits.deBruijn64tab", Rows.laid_math_bits_deBruijn64tab), ("internal/strconv.uint64pow10", Rows.laid_internal_strconv_uint64pow10), ("unicode/utf8.acceptRanges", Rows.laid_unicode_utf8_acceptRanges), ("unicode/utf8.first", Rows.laid_unicode_utf8_first)]
theorem RH:(Rows.laid_unicode_utf8_acceptRanges:DataW Unit)=Lib.acceptData:=by kernel_rfl
theorem RI:(Rows.laid_unicode_utf8_first:DataW Unit)=Lib.firstData:=Pinned.utf8First_eq
theorem Ov : DM = [("math/bits.deBruijn32tab", Rows.laid_math_bits_deBruijn32tab), ("math/bits.deBruijn64tab", Rows.laid_math_bits_deBruijn64tab), ("internal/strconv.uint64pow10", Rows.laid_internal_strconv_uint64pow10), ("unicode/utf8.acceptRanges", Lib.acceptData), ("unicode/utf8.first", Lib.firstData)] := by unfold DM;rw [RH, RI]
theorem RJ{W:World}(h:laidMetH Tryz.prog DM W):ZD W:=by rw[Ov] at h;exact utf8Tabs_of_readsT (U8Types.of196 Tryz.lays196) ⟨by kernel_rfl,by kernel_rfl,by kernel_rfl,by kernel_rfl,by kernel_rfl,by kernel_rfl,by kernel_rfl⟩ (Lib.laidMet.reads h (.tail _ (.tail _ (.tail _ (.tail _ (.head _)))))) (Lib.laidMet.reads h (.tail _ (.tail _ (.tail _ (.head _)))))
noncomputable def DN(os:Os):World:=
 let D:=World.holding Tryz.prog os ⟨#[],#[],[]⟩
 let j (h:Array Obj) (g:Nat) (cs:Array Value):Array Obj:=h.modify g λ
  |.cells _ t frozen=>.cells cs t frozen
  |o=>o
 let E:=j D.heap 0 (Lib.firstTab.map λz=>Value.int .u8 z).toArray
 let I:=j E 1 ((List.range 16).flatMap λi=>[Value.int .u8 (Lib.accLo i),Value.int .u8 (Lib.accHi i)]).toArray
 let J:=j I 3 #[.int .u64 1,.int .u64 10,.int .u64 100,.int .u64 1000,.int .u64 10000,.int .u64 100000,.int .u64 1000000,.int .u64 10000000,.int .u64 100000000,.int .u64 1000000000,.int .u64 10000000000,.int .u64 100000000000,.int .u64 1000000000000,.int .u64 10000000000000,.int .u64 100000000000000,.int .u64 1000000000000000,.int .u64 10000000000000000,.int .u64 100000000000000000,.int .u64 1000000000000000000,.int .u64 10000000000000000000]
 let O:=j J 4 #[.int .u8 0,.int .u8 1,.int .u8 28,.int .u8 2,.int .u8 29,.int .u8 14,.int .u8 24,.int .u8 3,.int .u8 30,.int .u8 22,.int .u8 20,.int .u8 15,.int .u8 25,.int .u8 17,.int .u8 4,.int .u8 8,.int .u8 31,.int .u8 27,.int .u8 13,.int .u8 23,.int .u8 21,.int .u8 19,.int .u8 16,.int .u8 7,.int .u8 26,.int .u8 12,.int .u8 18,.int .u8 6,.int .u8 11,.int .u8 5,.int .u8 10,.int .u8 9]
 let Q:=j O 5 #[.int .u8 0,.int .u8 1,.int .u8 56,.int .u8 2,.int .u8 57,.int .u8 49,.int .u8 28,.int .u8 3,.int .u8 61,.int .u8 58,.int .u8 42,.int .u8 50,.int .u8 38,.int .u8 29,.int .u8 17,.int .u8 4,.int .u8 62,.int .u8 47,.int .u8 59,.int .u8 36,.int .u8 45,.int .u8 43,.int .u8 51,.int .u8 22,.int .u8 53,.int .u8 39,.int .u8 33,.int .u8 30,.int .u8 24,.int .u8 18,.int .u8 12,.int .u8 5,.int .u8 63,.int .u8 55,.int .u8 48,.int .u8 27,.int .u8 60,.int .u8 41,.int .u8 37,.int .u8 16,.int .u8 46,.int .u8 35,.int .u8 44,.int .u8 21,.int .u8 52,.int .u8 32,.int .u8 23,.int .u8 11,.int .u8 54,.int .u8 26,.int .u8 40,.int .u8 15,.int .u8 34,.int .u8 20,.int .u8 31,.int .u8 10,.int .u8 25,.int .u8 14,.int .u8 19,.int .u8 9,.int .u8 13,.int .u8 8,.int .u8 7,.int .u8 6]
 { D with heap:=Q }
theorem RK (os : Os) (args : Array Value) : laidMet Tryz.prog DM ((DN os).forCall (fun _ _ => 0) ⟨#[], args, []⟩).memory := by rw [Ov];exact (LaidIn.of_run (l := [("math/bits.deBruijn32tab", Rows.laid_math_bits_deBruijn32tab), ("math/bits.deBruijn64tab", Rows.laid_math_bits_deBruijn64tab), ("internal/strconv.uint64pow10", Rows.laid_internal_strconv_uint64pow10), ("unicode/utf8.acceptRanges", Lib.acceptData), ("unicode/utf8.first", Lib.firstData)]) [4, 5, 3, 1, 0] 8 (by kernel_rfl) (by kernel_rfl) (by kernel_rfl) (by kernel_rfl)).met
end
section
open Go Go.RowKit
theorem OM{P:Program}{w:World}(base:Nat)(t I e:TypeId)(i:TypeInfo)(size:Nat)(j:P.underlying t=some (.slice e))(h:P.info? e=some i)(v:Value)(n:Nat)(xs:List Value)(E:w.ownsRow base e size v n xs)(A:Option Addr)(c:Nat):(Builtin.append_ #[t,t] I #[v,.slice A 0 c]).run P w=.ok v w:=by
 rcases E.2 with⟨rfl,rfl⟩|⟨g,cap,J,rfl,_,_,D,_⟩;·cases A<;>simp[Builtin.append_,run_underlying j,sizeOf,typeInfo,h,Builtin.lenOf,Builtin.firstCells,loadCells,loadCellsFrom]
 cases A<;>simp[Builtin.append_,run_underlying j,sizeOf,typeInfo,h,Builtin.lenOf,Builtin.firstCells,D,storeCells,loadCells,loadCellsFrom]
theorem Se{P:Program}{w:World}{a0:Array Oper}{rest:List Oper}{o:Oper}{a:Act}{Q:Exit->Act->World->Prop}(J:o.guard=none)(s x:Operand)(t:TypeId)(W:o.op=.call { callee:=.builtin .append,args:=#[s,x],argTypes:=#[t,t] })(base:Nat)(e:TypeId)(i:TypeInfo)(z:Value)(size E:Nat)(Y:P.underlying t=some (.slice e))(O:P.info? e=some i)(hz:i.zero=some z)(a6:i.size=size)(a3:i.bytes=E)(a9:z.cells.size=size)(a8:0<size)(v:Value)(n:Nat)(xs:List Value)(X:a.eval s=v)(I:w.ownsRow base e size v n xs)(vb:Value)(B m:Nat)(j:List Value)(Z:a.eval x=vb)(a7:Rd w B size vb m j)(h1:∀u∈j,u.oneCell'=true)(a1:n+m<=maxLen)(a4:(n+m)*E<=140737488355328)(a2:base<=w)(h:∀D w',w'.ownsRow base e size D (n+m) (xs++j)->w.grownBy w' v.ownBlock->wpList P a0 Q rest (a.put o.dst D) w'):wpList P a0 Q (o::rest) a w:=by
 obtain⟨U,A,c,rfl,_,_,hc⟩:=a7;rcases Dm m with rfl|hm;·have hn:=VJ (by simpa using U);subst hn;have hr:=OM (w:=w) base t o.type e i size Y O v n xs I A c;refine wpList_plain J λ_ hK=>?_;unfold Oper.wp execOp;simp only[W,resolve,invoke,builtin,DE,DD,Dp,B3,ZW,Kf,X,Z,hr];exact hK _ _ (h v w (by simpa using I) ⟨rfl,rfl,rfl,Q3 _,λ_ _ _=>rfl⟩)
 obtain⟨b,o',rfl,_,a5⟩:=hc hm;exact wpList_append_own w J s x t W base e i z size E Y O hz a6 a3 a9 a8 v n xs X I ⟨b,o',none⟩ m c j Z U (λaa u hu=>by rw[O6];exact a5 aa u hu) h1 a1 a4 a2 (λD w' h2 h3 _=>h D w' h2 h3)
theorem Dc:type_of% @Tryz.underlying85:=@Tryz.underlying85
theorem CR:type_of% @Tryz.underlying5:=@Tryz.underlying5
theorem CW:type_of% @run_convert_bytes_arg:=@run_convert_bytes_arg
def Gd:Nat->Nat|0=>10|k+1=>10*Gd k
theorem Sf{m z:Nat}(h:m<Gd (17-z))(D:9<m)(E:z<=17):m / 10<Gd (17-(z+1))/\z+1<=17:=by
 obtain⟨k,j⟩:=ex (17-z)
 rw[j] at h
 cases k with
 |zero=>unfold Gd at h;omega
 |succ k=>unfold Gd at h;rw[show 17-(z+1)=k by omega];omega
def Sg(w:World)(n s:Value)(wr:World):Prop:=∃(m:Nat)(t:ByteArray),n=.int .i64 (m:Int)/\s=.string t/\m<Gd (17-t.size)/\m<=1000000000000000000/\t.size<=17/\Below w w wr
theorem ON(W:World)(o:Obj)(x:Value)(xs:Array Value)(t:TypeId):((W.alloc o).alloc (.cells (#[x]++xs) t)).drew.cell? (W.heap.size+1,0)=some x:=by refine(cell_of_row _ _ 0 (#[x]++xs) t (0,0) (by have h:=Qi (W.alloc o) (.cells (#[x]++xs) t);rw[Qy] at h;exact h)).trans ?_;rw[Array.getElem?_append_left (by simp)];rfl
theorem Sh(n:Nat)(hn:n<Gd 17)(a0:n<=1000000000000000000)(w:World):Calls Tryz.prog 284 #[.int .i64 (n:Int)] w λe w'=>(∃s:ByteArray,e=.returned s/\s.size<=18)/\Below w w w':=by
 have hi:¬(n:Int)<0:=by omega
 have HN:=Ki hn;clear hn;go_enter Tryz.func284,Tryz.ntmps284;go_wp2;go_loopw [0,3] (λn s wr=>Sg w n s wr) (λn _ _=>(intOf n).toNat);case atStart=>exact⟨n,⟨#[]⟩,rfl,rfl,HN.o,a0,Qh _,Qc _ w⟩
 case round=>
  obtain⟨m,t,rfl,rfl,hm,a1,hs,hb⟩:=hrel;by_cases h9:(m:Int)>9
  ·have Z:=Ki (Sf hm (by omega) hs);have J:=Ki hb;clear hm hb;go_upto_region 7 with fail;obtain⟨O,U⟩:∃c,(Question.appendCap 1 0 5).cut (wr.tape wr.drawn (Question.appendCap 1 0 5))=c:=⟨_,rfl⟩;rw[U];obtain⟨j,h⟩:∃W,((wr.alloc (Obj.cells #[Value.int IntKind.u8 (48+(m:Int) % 10)] 5)).alloc (Obj.cells (#[Value.int IntKind.u8 (48+(m:Int) % 10)]++Builtin.zeroCells #[Value.int IntKind.u8 0] (O-1)) 5)).drew=W:=⟨_,rfl⟩;have X:=Kj (Below w w j) (by rw[<-h];exact J.o.trans (((((Q0.refl wr).alloc _).alloc _).drewN 1).below.mono J.o.size));have Q:j.cell? (wr.heap.size+1,0+0)=some (.int .u8 (48+(m:Int) % 10)):=(by rw[<-h];exact ON wr _ _ _ 5);rw[h];obtain⟨I,D⟩:∃s,strOfNums [48+(m:Int) % 10]=s:=⟨_,rfl⟩;have E:=Kj (I.size=1) (by rw[<-D];rfl)
   have Y:=CW (P:=Tryz.prog) j 85 5 Dc CR (wr.heap.size+1) 0 1 O [48+(m:Int) % 10] rfl (λi hi=>by
    obtain rfl:i=0:=by omega
    exact Q) 9 Tryz.underlying9
   rw[D] at Y;clear h D Q U;have hl:¬9223372036854775807<I.size+t.size:=(by have:=E.o;omega);have hw:wrap64 ((m:Int) / 10)=((m / 10:Nat):Int):=(by rw[IntWalk.wrap64_in ((m:Int) / 10) (by omega)];omega);go_wp2;go_roundw;case rel=>exact⟨m / 10,I++t,rfl,rfl,by rw[KZ,E.o,Nat.add_comm];exact Z.o.1,by omega,by rw[KZ,E.o];have:=Z.o.2;omega,X.o⟩
   case measure=>simp[intOf];omega
  have J:=Ki hb;clear hm hb;have a2:(m:Int) % 10=(m:Int):=(by omega);go_upto_region 11 with fail;obtain⟨O,U⟩:∃c,(Question.appendCap 1 0 5).cut (wr.tape wr.drawn (Question.appendCap 1 0 5))=c:=⟨_,rfl⟩;rw[U];obtain⟨j,h⟩:∃W,((wr.alloc (Obj.cells #[Value.int IntKind.u8 (48+(m:Int))] 5)).alloc (Obj.cells (#[Value.int IntKind.u8 (48+(m:Int))]++Builtin.zeroCells #[Value.int IntKind.u8 0] (O-1)) 5)).drew=W:=⟨_,rfl⟩;have X:=Kj (Below w w j) (by rw[<-h];exact J.o.trans (((((Q0.refl wr).alloc _).alloc _).drewN 1).below.mono J.o.size));have Q:j.cell? (wr.heap.size+1,0+0)=some (.int .u8 (48+(m:Int))):=(by rw[<-h];exact ON wr _ _ _ 5);rw[h];obtain⟨I,D⟩:∃s,strOfNums [48+(m:Int)]=s:=⟨_,rfl⟩;have E:=Kj (I.size=1) (by rw[<-D];rfl)
  have Y:=CW (P:=Tryz.prog) j 85 5 Dc CR (wr.heap.size+1) 0 1 O [48+(m:Int)] rfl (λi hi=>by
   obtain rfl:i=0:=by omega
   exact Q) 9 Tryz.underlying9
  rw[D] at Y;clear h D Q U;have hl:¬9223372036854775807<I.size+t.size:=(by have:=E.o;omega);go_wp2;go_ret;exact⟨⟨_,rfl,by rw[KZ,E.o];omega⟩,X.o⟩
theorem Az(z:Int)(h:0<=z)(j:z<=1099511627776)(w:World):Calls Tryz.prog 284 #[z] w λe w'=>(∃s:ByteArray,e=.returned s/\s.size<=18)/\Below w w w':=by obtain⟨n,rfl⟩:∃n:Nat,z=n:=⟨z.toNat,by omega⟩;exact Sh n (by show n<1000000000000000000;omega) (by omega) w
theorem TD(x:Id)(w:World):Calls Tryz.prog 272 #[Qa x] w λe w'=>(∃s:ByteArray,e=.returned s/\s.size<=60)/\Below w w w':=by
 have U:=Ki (λW=>Ay x W)
 have X:=Ki (show ZS x=true->(0<=x.s.T/\x.s.T<=1099511627776)/\(0<=x.s.R/\x.s.R<=1099511627776)/\0<=x.I/\x.I<=1099511627776 from λh=>by
  unfold ZS right at h;simp only[ZJ,XD] at h
  omega)
 obtain⟨y,hy⟩:=ex (ZS x);rw[hy] at U X;clear hy;unfold Qa at *;obtain⟨t,ht⟩:=ex (x.s.T);obtain⟨r,hr⟩:∃t,x.s.R=t:=⟨_,rfl⟩;obtain⟨i,hi⟩:∃t,x.I=t:=⟨_,rfl⟩;rw[ht,hr,hi] at U X |-;clear ht hr hi;cases y;·go_enter Tryz.func272,Tryz.ntmps272;go_wp2_with fail;refine(U.o _).mono ?_;rintro e w1 ⟨rfl,O⟩;have HB:=Ki (((Q0.refl w).alloc _).trans O).below;clear O;go_wp2;go_ret;exact⟨⟨_,rfl,by decide⟩,HB.o⟩
 obtain⟨⟨a1,a2⟩,⟨b1,b2⟩,c1,c2⟩:=X.o rfl;have a3:=Ki (λW=>Az t a1 a2 W);have a4:=Ki (λW=>Az r b1 b2 W);have a5:=Ki (λW=>Az i c1 c2 W);clear a1 a2 b1 b2 c1 c2 X;go_enter Tryz.func272,Tryz.ntmps272;go_upto_region 1 with fail;obtain⟨W1,Z⟩:∃W,w.alloc (.cells #[t,r,i] 60)=W:=⟨_,rfl⟩;have a6:=bl Z;have J:=bn Z;rw[Z];obtain⟨j,a7⟩:∃b,w.heap.size=b:=⟨_,rfl⟩;have a0:=Ki a6;rw[a7] at J |-;have l3:=(Q5.1 J).1;have d0:=cr0 J;have d1:=cr1 J;have d2:=cr2 J;clear Z a6 a7;go_wp2_with fail;refine(U.o W1).mono ?_;rintro e Y ⟨rfl,O⟩;have h2:=(O.below.block j l3).trans J;have a8:=Ki (a0.o.trans (O.below.mono a0.o.size));have l2:j<Y:=(Q5.1 h2).1;clear O d0 d1 d2 J l3;have a9:=Ki (λD (h:D.heap[j]?=some (.cells #[t,r,i] 60 (0,0)))=>(show D.cell? ⟨j,0,none⟩=some (.int .i64 t)/\D.cell? ⟨j,1,none⟩=some (.int .i64 r)/\D.cell? ⟨j,2,none⟩=some (.int .i64 i) from⟨cell_of_row D _ 0 _ _ _ h,cell_of_row D _ 1 _ _ _ h,cell_of_row D _ 2 _ _ _ h⟩));have Q:Y.drew.heap[j]?=some (.cells #[t,r,i] 60 (0,0)):=h2;have I:j<Y.drew.heap.size:=l2;have E:=Kj (Below w w Y.drew) a8.o.drew;clear h2 l2;go_upto_region 3 with fail
 go_region_held3 (λD=>D.cell? (j,0)=t/\D.cell? (j,1)=r/\D.cell? (j,2)=i) (first|exact a9.o _ (by assumption)|go_keep)
  (first
   |(go_at_call 284;with_reducible refine(a3.o _).mono ?_;rintro e w1 ⟨⟨s1,rfl,z1⟩,hb⟩;clear a3;have q1:¬9223372036854775807<s1.size+1:=(by omega);replace Q:=(hb.block j I).trans Q;replace I:=Z1 I hb.size;replace E:=Ki (E.o.trans (hb.mono E.o.size));clear hb)
   |(go_at_call 284;with_reducible refine(a4.o _).mono ?_;rintro e w2 ⟨⟨s2,rfl,z2⟩,hb⟩;clear a4;have q2:¬9223372036854775807<s1.size+1+s2.size:=(by omega);have q3:¬9223372036854775807<s1.size+1+s2.size+1:=(by omega);replace Q:=(hb.block j I).trans Q;replace I:=Z1 I hb.size;replace E:=Ki (E.o.trans (hb.mono E.o.size));clear hb)
   |(go_at_call 284;with_reducible refine(a5.o _).mono ?_;rintro e w3 ⟨⟨s3,rfl,z3⟩,hb⟩;clear a5;have q4:¬9223372036854775807<s1.size+1+s2.size+1+s3.size:=(by omega);replace Q:=(hb.block j I).trans Q;replace I:=Z1 I hb.size;replace E:=Ki (E.o.trans (hb.mono E.o.size));clear hb))
 all_goals go_wp2;go_ret;exact⟨⟨_,rfl,by simp only[KZ];rw[show(⟨#[46]⟩:ByteArray).size=1 from rfl];omega⟩,E.o⟩
end
section
open Go.RowKit
theorem G3:type_of% @Lib.cell_of_heap:=@Lib.cell_of_heap
theorem GH:type_of% @Tryz.underlying9:=@Tryz.underlying9
theorem Dt:type_of% @Oper.upon_value:=@Oper.upon_value
theorem CU:type_of% @Tryz.underlying84:=@Tryz.underlying84
theorem sizeBuilder:(Tryz.prog.info? 87).map (·.size)=some 2:=by kernel_rfl
theorem infoByte:(Tryz.prog.info? 5).map (λi=>(i.zero,i.size,i.bytes))=some (some (.int .u8 0),1,1):=by kernel_rfl
theorem liesBuilder:liesAt Tryz.prog Tryz.prog.depth 87 (2 / Tryz.prog.cellsOf 87) 0 87 1=true:=by kernel_rfl
theorem PE(b:Nat)(w:World)(D:w.cell? (b,0)=some (.pointer (b,0))):Calls Tryz.prog 61 #[.pointer (b,0)] w λe w'=>e=.returned (.tuple #[])/\w'=w:=by obtain⟨j,h,_⟩:=FY.1 sizeBuilder;go_enter Tryz.func61,Tryz.ntmps61;go_wp2;rw[Lib.run_neq_ptr_same w _ CU h];go_wp2;go_end0;exact⟨rfl,rfl⟩
theorem Tk(b:Nat)(w:World)(I:w.cell? (b,0)=some (.pointer none))(D:w.shape? b=some (87,2))(J:w.frozen? (b,0)=false):Calls Tryz.prog 61 #[.pointer (b,0)] w λe w'=>e=.returned (.tuple #[])/\w'=w.setCell (b,0) (.pointer (b,0)):=by obtain⟨j,h,E⟩:=FY.1 sizeBuilder;go_enter Tryz.func61,Tryz.ntmps61;go_wp2;rw[Lib.run_to_unsafe w ⟨b,0,none⟩ CU Tryz.underlying219 h (by rw[E];decide) D (Nat.zero_lt_succ 1)];simp only[Result.andThen];rw[Dt];go_wp2;rw[run_callFunc_extern Tryz.func110 (by kernel_rfl) (by kernel_rfl) (by kernel_rfl) (e:=Extern.AbiNoEscape.same) (by kernel_rfl)];rw[Lib.run_noEscape];simp only[Result.andThen];rw[Dt];go_wp2;rw[Lib.run_from_unsafe w ⟨b,0,none⟩ Tryz.underlying219 CU h D liesBuilder];simp only[Result.andThen];rw[Dt];go_wp2;go_end0;exact⟨rfl,rfl⟩
theorem Tl(B b:Nat)(j:List Value)(w:World)(h:Lib.IsBuilderF 87 5 B b j w):Calls Tryz.prog 61 #[.pointer (b,0)] w λe w'=>e=.returned (.tuple #[])/\(Lib.BuilderAtF 87 5 B b (.pointer (b,0)) j w'/\Below B w w'/\Lib.OthersKept 5 (some b) w w'):=by
 rcases h with h|h;·refine(Tk b w h.cell0 h.shape h.frozen0).mono ?_;rintro e w' ⟨rfl,rfl⟩;exact⟨rfl,h.used _,(Qc B w).setCell (p:=(b,0)) h.1 _,(E7 _ _ w).setCell (b,0) rfl _⟩
 refine(PE b w h.cell0).mono ?_;rintro e w' ⟨rfl,rfl⟩;exact⟨rfl,h,Qc B _,E7 _ _ _⟩
theorem Tm(B b:Nat)(j:List Value)(s:ByteArray)(w:World)(h:Lib.IsBuilderF 87 5 B b j w)(a8:j.length+s.size<=140737488355328)(a7:B<=w):Calls Tryz.prog 30 #[.pointer (b,0),.string s] w λe w'=>e=.returned (.tuple #[s.size,.nilIface])/\(Lib.BuilderAtF 87 5 B b (.pointer (b,0)) (j++Lib.strCells s) w'/\Below B w w'/\Lib.OthersKept 5 (some b) w w'):=by
 obtain⟨i0,hi,a3,a4,a5⟩:=info_parts infoByte;go_enter Tryz.func30,Tryz.ntmps30;go_wp2_with (go_at_call 61;refine(Tl B b j _ h).mono ?_);rintro e E ⟨rfl,h1,J,a0⟩;obtain⟨X,v,D,Q,a2⟩:=h1;have c0:E.cell? (b,0)=some (.pointer (b,0)):=by rw[G3 D];rfl
 have c1:E.cell? (b,1)=some v:=by rw[G3 D];rfl
 go_wp2_with (at_builtin;refine Lib.wpList_append_own_stringF _ rfl _ _ 85 9 rfl B 5 i0 Tryz.underlying85 GH hi a3 a4 a5 _ _ _ rfl Q s rfl ?c3 ?c4 ?c5 ?_);case c3=>unfold maxLen;omega
 case c4=>omega
 case c5=>have:=J.size;omega
 intro v' U Y O _
 have a1:b<E:=by
  rcases UH b E.heap.size with I|I;·exact I
  simp[Array.getElem?_eq_none I] at D
 have hb2:U.heap[b]?=some (.cells #[.pointer (b,0),v] 87 (0,0)):=by rw[O.block b a1 (λe=>a2 e.symm)];exact D
 have d0:U.cell? (b,0)=some (.pointer (b,0)):=by rw[G3 hb2];rfl
 have d1:U.cell? (b,1)=some v:=by rw[G3 hb2];rfl
 have f1:=Lib.frozen_of_heap hb2 1
 obtain⟨W,Z,cap,rfl⟩:∃W Z cap,v'=.slice W Z cap:=by
  rcases Y.2 with⟨hv,_⟩|⟨g,cap,a6,fz,hv,_⟩;·exact⟨_,_,_,hv⟩
  exact⟨_,_,_,hv⟩
 go_wp2;go_ret2;refine⟨rfl,?_,?_,(a0.grown O (Lib.ownsRowF_kind Q)).setCell (b,1) rfl _⟩;·exact Lib.BuilderAtF.put (T:=87) (e:=5) X hb2 (bs':=j++Lib.strCells s) (by simpa [Lib.strCells_length] using Y) (by decide)
 exact(J.grown O (by have:=J.size;omega) (λk hk=>(Q.lt k hk).1)).setCell (p:=(b,1)) X _
end
section
open Go Go.RowKit Go.Maps
theorem AB(x:Int)(h0:0<=x)(h1:x<128)(w:World):Calls Tryz.prog 60 #[.slice none 0 0,.int .u64 x] w λe w'=>(∃g c,e=.returned (.slice (some ⟨g,0,none⟩) 1 c)/\w'.cell? ⟨g,0,none⟩=some (.int .u8 x))/\Below w.heap.size w w':=by
 obtain⟨X,Q,Z,z1,z2⟩:=Zc infoByte;have hw:IntKind.u8.wrap x=x:=by unfold IntKind.wrap;simp[IntKind.signed,IntKind.bits];omega
 have hx:¬x>=128:=by omega
 have J:=Kj (w.ownsRow w 5 1 (.slice none 0 0) 0 []) ⟨rfl,.inl ⟨rfl,rfl⟩⟩;go_enter Tryz.func60,Tryz.ntmps60;go_wp2;go_loopw [0,1] (λa b wr=>a=.slice none 0 0/\b=.int .u64 x/\wr=w) (λ_ _ _=>0);case atStart=>exact⟨rfl,rfl,rfl⟩
 case round=>obtain⟨rfl,rfl,rfl⟩:=hrel;go_wp2_with (at_builtin;refine Yf _ rfl _ _ 85 rfl wr 5 X _ 1 1 Dc Q Z z1 z2 rfl (by decide) _ 0 [] rfl (J.o.alloc _) ⟨wr.heap.size,0,none⟩ 1 1 [.int .u8 x] rfl rfl (Zd wr [.int .u8 x] 5) (by intro u W;rw[Qw.1 W];rfl) (by unfold maxLen;omega) (by omega) (by simp) ?_);intro Y O D h _;have E:=Ki (((Qc wr wr).alloc (Q3 _) (.cells #[.int .u8 x] 5)).grown h (by simp) (λa0 U=>by cases U));obtain⟨g,cap,rfl,_,_,_,j⟩:=Ui (enc:=λy:Int=>[Value.int .u8 y]) (show O.ownsRow wr 5 1 Y (([]:List Int).length+1) (([]:List Int).flatMap (λy:Int=>[Value.int .u8 y])++(λy:Int=>[Value.int .u8 y]) x) from D);have I:=Ki (X8 j 0 (.int .u8 x) rfl).1;clear D h j;go_wp2;go_ret;exact⟨⟨_,_,rfl,I.o⟩,E.o⟩
theorem TE(x:Int)(E:0<=x)(I:x<128)(w:World):Calls Tryz.prog 59 #[x] w λe w'=>e=.returned (.tuple #[.string (strOfNums [x]),(0:Int)])/\Below w.heap.size w w':=by
 have D:=Ki (AB x E I w);have W:¬x<0:=by omega
 have U:IntKind.u64.wrap x=x:=by unfold IntKind.wrap;simp[IntKind.signed,IntKind.bits];omega
 go_enter Tryz.func59,Tryz.ntmps59;go_wp2_with fail;refine D.o.mono ?_;rintro e J ⟨⟨g,c,rfl,h⟩,hb⟩;have j:=Ki hb
 have O:=CW (P:=Tryz.prog) J 85 5 Dc CR g 0 1 c [x] rfl (λi Q=>by
  obtain rfl:i=0:=by omega
  exact h) 9 GH
 clear hb h;go_wp2;go_ret2;exact⟨rfl,j.o⟩
end
section
open Go Go.RowKit Go.Maps
section
variable {α κ:Type}
open Classical in
noncomputable def Z7(V:α->Value)(v:Value):Option (DataW α×List MemPlace):=if h:∃a,v=V a then some (.held h.choose,[]) else none
theorem Vt{V:α->Value}(j:∀{a b},V a=V b->a=b)(a:α):Z7 V (V a)=some (.held a,[]):=by unfold Z7;have h:∃b,V a=V b:=⟨a,rfl⟩;rw[dif_pos h,<-j h.choose_spec]
theorem Kt{V:α->Value}{v:Value}{z:DataW α×List MemPlace}(h:Z7 V v=some z):∃a,v=V a/\z=(.held a,[]):=by
 unfold Z7 at h;split at h;·rename_i j;cases h;exact⟨_,j.choose_spec,rfl⟩
 cases h
def Xu(K:κ->Lit)(f:κ->Option α)(D:DataW α):Prop:=∀s z,D.atKey (K s) z=match f s with|some a=>.held a|none=>z
theorem Xu.start(K:κ->Lit):Xu K (λ_=>(none:Option α)) (.map []):=λs z=>by simp[DataW.atKey]
theorem Xu.has{K:κ->Lit}{f:κ->Option α}{D:DataW α}(h:Xu K f D)(s:κ):has D (K s)=(f s).isSome:=by
 cases e:f s with
 |some a=>exact has_true_of_atKey (y:=.held a) (λz=>by rw[h s z,e])
 |none=>exact has_false_of_atKey (λz=>by rw[h s z,e])
theorem Xu.put[DecidableEq κ]{k:TypeId}{W:κ->Value}{K:κ->Lit}(j:YN k W K){f:κ->Option α}{D:DataW α}(h:Xu K f D)(I:IsMap D)(x:κ)(a:α):Xu K (λs=>if s=x then some a else f s) (D.put (K x) (.held a)):=by
 intro s z;by_cases e:s=x;·subst e;rw[atKey_put_same I (j.keyed.key (j.val s))];simp
 rw[atKey_put_other (λE=>e (j.inj E)),h s z];simp[e]
theorem Xu.congr{K:κ->Lit}{f g:κ->Option α}{D:DataW α}(h:Xu K f D)(e:∀s,f s=g s):Xu K g D:=λs z=>by rw[h s z,e s]
theorem F9{k t e:TypeId}{W:κ->Value}{K:κ->Lit}(O:YN k W K){V:α->Value}(X:∀{a b},V a=V b->a=b){w:World}{b n:Nat}{D:DataW α}(h:w.ownsMap Tryz.prog k (Z7 V) b n D)(Y:Tryz.prog.underlying t=some (.map k e))(E:α)(Z:(zeroValue e).run Tryz.prog w=.ok (V E) w){f:κ->Option α}(J:Xu K f D)(s:κ):(Instr.lookup t (.map (some b)) (W s) true).run Tryz.prog w=.ok (.tuple #[V ((f s).getD E),.bool (f s).isSome]) w:=by
 obtain⟨v,ps,I,Q⟩:=h.look_ok O.keyed Y Z (Vt X E) (O.val s);obtain⟨a,rfl,U⟩:=Kt Q;rw[J.has] at I;have j:=Xz Prod.fst U;rw[J s] at j
 have:a=(f s).getD E:=by
  cases e:f s with
  |some y=>rw[e] at j;cases j;rfl
  |none=>rw[e] at j;cases j;rfl
 rw[this] at I;exact I
end
end
section
open Go Go.RowKit Go.Maps Go.ChangeMaps
theorem GP:type_of% @run_underlying:=@run_underlying
theorem Dg:type_of% @MapKept.run_getObj_map:=@MapKept.run_getObj_map
theorem Dl:type_of% @heap_setBlock_same:=@heap_setBlock_same
theorem Et:WideMaps.KeyLaw Tryz.prog 27:=Ee Ge (m:=4) (by omega) OO OQ (by rw[E4])
theorem Gf:WideMaps.KeyLaw Tryz.prog 60:=Ee Ge (m:=4) (by omega) OP OR (by rw[UB])
theorem Fa{H:Type}{P:Program}{w:World}{t k e:TypeId}{R:Value->Option (DataW H×List MemPlace)}{b n:Nat}{a4:DataW H}(a8:w.ownsMap P k R b n a4)(K:WideMaps.KeyLaw P k)(O:P.underlying t=some (.map k e)){z:Value}(hz:∀u:World,(zeroValue e).run P u=.ok z u)(hn:n<maxLen){key val:Value}{kl:Lit}{d:DataW H}{ps:List MemPlace}(h:keyOf P k key=some kl)(hv:R val=some (d,ps)):∃J st w1 w2,(Instr.lookup t (.map (some b)) key false).run P w=.ok J w/\(Instr.mapEntry t (.map (some b)) key).run P w=.ok (.tuple #[J,goInt st]) w1/\(Instr.lookup t (.map (some b)) key false).run P w1=.ok J w1/\(Instr.entryStore t (.map (some b)) (goInt st) val).run P w1=.ok () w2/\w2.ownsMap P k R b (n+1) (a4.put kl d)/\w.grownBy w2 (some b):=by
 obtain⟨w',hu,ho,hg⟩:=a8.update (Eh K) O hn h hv;obtain⟨E,I,hb,F,hs,hD⟩:=a8;obtain⟨J,st,D,j,W,_,h2⟩:=WideElems.entry_then_store K O hz hb F h;have a9:(setBlock w b (.map D j)).heap[b]?=some (.map D j):=Dl hb _;obtain⟨a7,a6,h3,h4⟩:=h2 (setBlock w b (.map D j)) val a9;have e1:w'=setBlock w b (.map a7 a6):=by rw[hu] at h4;cases h4;rfl
 have e2:setBlock (setBlock w b (.map D j)) b (.map a7 a6)=w':=by rw[e1];simp[setBlock]
 rw[e2] at h3
 have a5:(Instr.lookup t (.map (some b)) key false).run P w=.ok J w/\(Instr.lookup t (.map (some b)) key false).run P (setBlock w b (.map D j))=.ok J (setBlock w b (.map D j)):=by
  rcases K.find w h E.toList F.keys with⟨X,Q⟩|⟨a3,e0,X,Q,Y⟩
  ·have hm:(Instr.mapEntry t (.map (some b)) key).run P w=.ok (.tuple #[z,goInt I]) (setBlock w b (.map (E.push ⟨key,z,I⟩) (I+1))):=(by simp[Instr.mapEntry,GP O,Dg hb,K.check w false h,X,hz,MapKept.run_setObj_map _ hb,Result.andThen,setBlock]);rw[hm] at W;simp only[Result.ok.injEq,Value.tuple.injEq] at W;obtain⟨a2,hw⟩:=W;have a1:z=J:=(by have h9:=Xz Array.toList a2;exact(List.cons.inj h9).1);have hb2:(setBlock w b (.map D j)).heap[b]?=some (.map (E.push ⟨key,z,I⟩) (I+1)):=(by rw[<-hw];exact Dl hb _);subst a1;refine⟨by simp[Instr.lookup,GP O,Dg hb,K.check w _ h,X,hz,Result.andThen],?_⟩
   rcases K.find (setBlock w b (.map D j)) h (E.push ⟨key,z,I⟩).toList (λx hx=>by
    rw[Array.toList_push,Qq,Qw] at hx;rcases hx with hx|rfl;·exact F.keys x hx
    exact⟨_,h⟩) with⟨_,U⟩|⟨a3,e0,Z,U,g3⟩
   ·exact absurd rfl (U ⟨key,z,I⟩ (by simp))
   have a0:=J9 U;rw[Array.toList_push,Qq,Qw] at a0;rcases a0 with a0|rfl;·exact absurd g3 (Q e0 a0)
   simp only[Array.toList_push] at Z;simp[Instr.lookup,GP O,Dg hb2,K.check (setBlock w b (.map D j)) _ h,Z,Result.andThen]
  have hj:E[a3]?=some e0:=(by simpa using Q);have aa:E.modify a3 (λe=>{ e with key:=key })=E:=(by apply Array.ext';rw[Array.toList_modify,modify_eq_set _ _ _ _ Q];have:({ e0 with key:=key }:MapEntry)=e0:=(by rw[<-Y]);rw[this];exact WideElems.set_self _ _ _ Q);have hm:(Instr.mapEntry t (.map (some b)) key).run P w=.ok (.tuple #[e0.val,goInt e0.born]) (setBlock w b (.map E I)):=(by simp[Instr.mapEntry,GP O,Dg hb,K.check w false h,X,hj,Y,K.stays w h,aa,MapKept.run_setObj_map _ hb,Result.andThen,setBlock]);rw[hm] at W;simp only[Result.ok.injEq,Value.tuple.injEq] at W;obtain⟨a2,hw⟩:=W;have a1:e0.val=J:=(by have h9:=Xz Array.toList a2;exact(List.cons.inj h9).1);have hb2:(setBlock w b (.map D j)).heap[b]?=some (.map E I):=(by rw[<-hw];exact Dl hb _);refine⟨by simp[Instr.lookup,GP O,Dg hb,K.check w _ h,X,Result.andThen,a1],?_⟩;rcases K.find (setBlock w b (.map D j)) h E.toList F.keys with⟨_,U⟩|⟨j',e',Z,U,g3⟩;·exact absurd Y (U e0 (J9 Q))
  have he:=Go.entry_eq_of_key ((Go.MapKept.stamped_iff E I).1 F.stamped).2.2 (J9 U) (J9 Q) (g3.trans Y.symm);subst he;simp[Instr.lookup,GP O,Dg hb2,K.check (setBlock w b (.map D j)) _ h,Z,Result.andThen,a1]
 exact⟨J,st,_,w',a5.1,W,a5.2,h3,ho,hg⟩
end
section
section
variable {α:Type} (lt:α->α->Prop)
def Jg:List α->List α->Prop|[],[]=>False|[],_::_=>True|_::_,[]=>False|a::p,b::q=>lt b a\/a=b/\Jg p q
def Kv:List α->List α->Prop|a::p,b::q=>lt b a\/a=b/\Kv p q|_,_=>False
variable {lt}
theorem Eu(O:Je lt):∀p,¬Jg lt p p|[]=>λh=>h|a::p=>λh=>h.elim (O.irrefl a) (λh=>Eu O p h.2)
theorem OY(O:Je lt):∀p q r,Jg lt p q->Jg lt q r->Jg lt p r
 |[],[],_,h,_=>h.elim
 |[],_::_,[],_,k=>k.elim
 |[],_::_,_::_,_,_=>trivial
 |_::_,[],_,h,_=>h.elim
 |_::_,_::_,[],_,k=>k.elim
 |a::p,b::q,c::r,h,k=>by
  rcases h with h|⟨rfl,h⟩<;>rcases k with k|⟨rfl,k⟩;·exact .inl (O.trans _ _ _ k h)
  ·exact .inl h
  ·exact .inl k
  exact .inr ⟨rfl,OY O p q r h k⟩
theorem BH:∀(p:List α)(c:α)(r:List α),Jg lt p (p++c::r)|[],_,_=>trivial|_::p,c,r=>.inr ⟨rfl,BH p c r⟩
theorem DY:∀{p q:List α},Kv lt p q->Jg lt p q|[],_,h=>h.elim|_::_,[],h=>h.elim|_::_,_::_,h=>h.imp id (λh=>⟨h.1,DY h.2⟩)
theorem OZ:∀{p q:List α}(r s:List α),Kv lt p q->Kv lt (p++r) (q++s)|[],_,_,_,h=>h.elim|_::_,[],_,_,h=>h.elim|_::_,_::_,r,s,h=>h.imp id (λh=>⟨h.1,OZ r s h.2⟩)
theorem P0{a b:α}(h:lt b a):∀p:List α,Kv lt (p++[a]) (p++[b])|[]=>.inl h|_::p=>.inr ⟨rfl,P0 h p⟩
theorem P1:∀{p q:List α}(r:List α),Jg lt p q->Jg lt p (q++r)|[],[],_,h=>h.elim|[],_::_,_,_=>trivial|_::_,[],_,h=>h.elim|_::_,_::_,r,h=>h.imp id (λh=>⟨h.1,P1 r h.2⟩)
end
section
variable {α ε:Type} (idf af:ε->α) (z:α) (E:ε->Prop)
inductive Jh:List α->α->Prop
 |root:Jh [] z
 |step (p:List α) (e:ε) (x y:α):Jh p y->E e->af e=y->idf e=x->Jh (p++[x]) x
def VU(n:List α×ε):Prop:=E n.2/\∃q,Jh idf af z E q (af n.2)/\n.1=q++[idf n.2]
structure UP:Prop where
 uniq:∀e f,E e->E f->idf e=idf f->e=f
 nz:∀e,E e->idf e≠z
variable {idf af z E}
theorem Gh{p:List α}{x:α}(h:Jh idf af z E p x):(p=[]/\x=z)\/∃q e,p=q++[x]/\Jh idf af z E q (af e)/\E e/\idf e=x:=by
 cases h with
 |root=>exact .inl ⟨rfl,rfl⟩
 |step p e x y j D I J=>exact .inr ⟨p,e,rfl,I▸j,D,J⟩
theorem SE(N:UP idf z E){p:List α}{x:α}(h:Jh idf af z E p x):∀{q},Jh idf af z E q x->p=q:=by
 induction h with
 |root=>
  intro q k;rcases Gh k with⟨I,_⟩|⟨_,f,_,_,j,D⟩;·exact I.symm
  exact absurd D (N.nz f j)
 |step p e x y I j D J X=>
  intro q k;rcases Gh k with⟨_,O⟩|⟨Y,f,rfl,Q,U,W⟩;·exact absurd (J.trans O) (N.nz e j)
  obtain rfl:=N.uniq e f j U (J.trans W.symm);rw[X (D▸Q)]
theorem Fe{n:List α×ε}(h:VU idf af z E n):Jh idf af z E n.1 (idf n.2):=by obtain⟨j,q,D,I⟩:=h;rw[I];exact .step q n.2 _ _ D j rfl rfl
theorem BI(N:UP idf z E){n m:List α×ε}(h:VU idf af z E n)(k:VU idf af z E m)(e:idf n.2=idf m.2):n=m:=by have j:=N.uniq _ _ h.1 k.1 e;have D:=SE N (Fe h) (e▸Fe k);exact Prod.ext D j
theorem SF{p:List α}{x:α}(h:Jh idf af z E p x):∀{q r:List α}{c:α},p=q++c::r->∃e y,E e/\idf e=c/\af e=y/\Jh idf af z E q y:=by
 induction h with
 |root=>intro q r c h;cases q<;>cases h
 |step p e x y j D I J O=>
  intro q r c h;rcases List.eq_nil_or_concat r with rfl|⟨Q,b,rfl⟩
  ·have h:=h;obtain⟨rfl,h⟩:=List.append_inj' h rfl;obtain rfl:x=c:=by simpa using h
   exact⟨e,y,D,J,I,j⟩
  have h:p++[x]=(q++c::Q)++[b]:=(by rw[h];simp);obtain⟨h,_⟩:=List.append_inj' h rfl;exact O h
structure Ff(lt:α->α->Prop)(idf af:ε->α)(z:α)(E:ε->Prop)(out wait:List (List α×ε)):Prop where
 so:(out++wait).Pairwise (λu v=>Jg lt u.1 v.1)
 sw:wait.Pairwise (λu v=>Kv lt u.1 v.1)
 nodes:∀n∈out++wait,VU idf af z E n
 all:∀n,VU idf af z E n->n∈out\/∃v∈wait,v.1 <+: n.1
def J1(idf:ε->α)(B:α->List ε)(p:List α)(x:α):List (List α×ε):=(B x).reverse.map (λe=>(p++[idf e],e))
def Gi(lt:α->α->Prop)(idf af:ε->α)(E:ε->Prop)(B:α->List ε):Prop:=∀x,(B x).Pairwise (λe f=>lt (idf e) (idf f))/\∀e,e∈B x↔E e/\af e=x
variable {lt:α->α->Prop} {B:α->List ε}
theorem DZ(j:Gi lt idf af E B){p:List α}{x:α}{n:List α×ε}:n∈J1 idf B p x↔E n.2/\af n.2=x/\n.1=p++[idf n.2]:=by
 unfold J1;rw[QZ];constructor;·rintro⟨e,h,rfl⟩;have:=(j x).2 e;rw[GK] at h;exact⟨(this.1 h).1,(this.1 h).2,rfl⟩
 rintro⟨D,I,J⟩;exact⟨n.2,GK.2 (((j x).2 _).2 ⟨D,I⟩),Prod.ext J.symm rfl⟩
theorem BJ(j:Gi lt idf af E B)(p:List α)(x:α):(J1 idf B p x).Pairwise (λu v=>Kv lt u.1 v.1):=by unfold J1;rw[UE,List.pairwise_reverse];refine(j x).1.imp ?_;intro e f h;exact P0 h p
theorem P2(Q:Gi lt idf af E B){p:List α}{x:α}(W:Jh idf af z E p x)(N:UP idf z E){n:List α×ε}(U:VU idf af z E n)(X:p <+: n.1):p=n.1\/∃v∈J1 idf B p x,v.1 <+: n.1:=by
 obtain⟨r,j⟩:=X
 cases r with
 |nil=>exact .inl (by rw[<-j,ZB])
 |cons c r=>
  right;obtain⟨e,y,I,J,O,D⟩:=SF (Fe U) j.symm
  have:y=x:=by
   rcases Gh W with⟨rfl,rfl⟩|⟨q,f,rfl,_,Y,Z⟩
   ·rcases Gh D with⟨_,h⟩|⟨q,_,h,_⟩;·exact h
    exact absurd h (by simp)
   rcases Gh D with⟨h,_⟩|⟨q',_,h,_⟩;·exact absurd h (by simp)
   obtain⟨_,h⟩:=List.append_inj' h rfl;simpa using h.symm
  subst this;refine⟨(p++[c],e),(DZ Q).2 ⟨I,O,by rw[J]⟩,r,?_⟩;rw[<-j];simp
theorem SG(D:Gi lt idf af E B)(N:UP idf z E):Ff lt idf af z E [] (J1 idf B [] z) where
 so:=(BJ D [] z).imp DY
 sw:=BJ D [] z
 nodes:=λn I=>by obtain⟨J,O,j⟩:=(DZ D).1 (by simpa using I);exact⟨J,[],O▸.root,j⟩
 all:=λn I=>.inr (by
  rcases P2 D .root N I (List.nil_prefix) with h|h;·obtain⟨_,q,_,j⟩:=I;rw[<-h] at j;exact absurd j (by simp)
  exact h)
theorem SH(Q:Gi lt idf af E B)(N:UP idf z E){a0 rest:List (List α×ε)}{x:List α×ε}(h:Ff lt idf af z E a0 (x::rest)):Ff lt idf af z E (a0++[x]) (J1 idf B x.1 (idf x.2)++rest):=by
 have U:=h.nodes x (by simp);have X:=Fe U;obtain⟨w1,w2⟩:=Yh.1 h.sw;obtain⟨o1,o2,Y⟩:=GJ.1 h.so;have W:∀v∈J1 idf B x.1 (idf x.2),v.1=x.1++[idf v.2]:=λv hv=>((DZ Q).1 hv).2.2;have sw:(J1 idf B x.1 (idf x.2)++rest).Pairwise (λu v=>Kv lt u.1 v.1):=by refine GJ.2 ⟨BJ Q _ _,w2,λu I v hv=>?_⟩;rw[W u I];have:=OZ [idf u.2] [] (w1 v hv);rwa [ZB] at this
 refine⟨?_,sw,?_,?_⟩
 ·rw[Y7,O9];refine GJ.2 ⟨o1,Yh.2 ⟨λv hv=>?_,sw.imp DY⟩,λu I v hv=>?_⟩
  ·rcases Qq.1 hv with hv|hv;·rw[W v hv];exact BH _ _ _
   exact DY (w1 v hv)
  rcases QI.1 hv with rfl|hv;·exact Y u I v (by simp)
  rcases Qq.1 hv with hv|hv;·rw[W v hv];exact P1 _ (Y u I x (by simp))
  exact Y u I v (X2 _ hv)
 ·intro n j;simp only[Qq,Qw] at j;rcases j with(j|rfl)|j|j;·exact h.nodes n (by simp[j])
  ·exact U
  ·obtain⟨O,J,D⟩:=(DZ Q).1 j;exact⟨O,x.1,J▸X,D⟩
  exact h.nodes n (by simp[j])
 intro n j;rcases h.all n j with O|⟨v,hv,Z⟩;·exact .inl (by simp[O])
 rcases QI.1 hv with rfl|hv
 ·rcases P2 Q X N j Z with O|⟨u,I,hq⟩
  ·left
   have:v=n:=by
    refine BI N U j ?_;have e:=Fe j;rw[<-O] at e;rcases Gh X with⟨J,_⟩|⟨q,_,J,_⟩;·obtain⟨_,q,_,D⟩:=U;exact absurd (J.symm.trans D) (by simp)
    rcases Gh e with⟨D,_⟩|⟨q',_,D,_⟩;·rw[J] at D;exact absurd D (by simp)
    rw[J] at D;obtain⟨_,h4⟩:=List.append_inj' D rfl;simpa using h4
   simp[this]
  exact .inr ⟨u,by simp[I],hq⟩
 exact .inr ⟨v,by simp[hv],Z⟩
def JL(lt:α->α->Prop)(idf af:ε->α)(z:α)(E:ε->Prop)(O:List (List α×ε)):Prop:=O.Pairwise (λu v=>Jg lt u.1 v.1)/\∀n,n∈O↔VU idf af z E n
theorem SI{D:List (List α×ε)}(h:Ff lt idf af z E D []):JL lt idf af z E D:=
 ⟨by simpa using h.so,λn=>⟨λj=>h.nodes n (by simpa using j),λj=>(h.all n j).elim id (λ⟨_,h,_⟩=>by cases h)⟩⟩
theorem C0{O:Type}:∀{l M:List O},l.Nodup->(∀x∈l,x∈M)->l.length<=M.length
 |[],_,_,_=>Qh _
 |a::l,M,h,j=>by
  obtain⟨I,J⟩:=GS.1 h;obtain⟨s,t,rfl⟩:=List.append_of_mem (j a (by simp))
  have:=C0 (M:=s++t) J (λx D=>by
   have hm:=j x (X2 _ D);simp only[Qq,QI] at hm |-;rcases hm with hm|rfl|hm;·exact .inl hm
   ·exact absurd D I
   exact .inr hm)
  simp only[Z4,Qj] at this |-;omega
theorem P3(O:Je lt)(N:UP idf z E){l:List (List α×ε)}(h:l.Pairwise (λu v=>Jg lt u.1 v.1))(D:∀n∈l,VU idf af z E n):(l.map (λn=>idf n.2)).Nodup:=by unfold List.Nodup;rw[UE];refine h.imp_of_mem ?_;intro u v I hv j e;rw[BI N (D u I) (D v hv) e] at j;exact Eu O _ j
theorem P4(O:Je lt)(N:UP idf z E){l:List (List α×ε)}(h:l.Pairwise (λu v=>Jg lt u.1 v.1))(D:∀n∈l,VU idf af z E n){L:List ε}(J:∀e,E e->e∈L):l.length<=L.length:=by
 have j:=P3 O N h D;have I:(l.map (λn=>n.2)).Nodup:=by unfold List.Nodup at j |-;rw[UE] at j |-;exact j.imp (λh e=>h (by rw[e]))
 have:=C0 I (M:=L) (λe Q=>by
  obtain⟨n,U,rfl⟩:=QZ.1 Q
  exact J _ (D n U).1)
 simpa using this
end
end
section
open Go
section
variable {α κ:Type} [DecidableEq κ]
variable {key:α->κ}
end
structure El where
 id:Id
 af:Id
 pc:ByteArray
deriving DecidableEq
structure Rn where
 af:Id
 el:Id
 tx:ByteArray
def QM(e:El):List Value:=[e.id.s.T,e.id.s.R,e.id.I,.string e.pc]
def XL(r:Rn):List Value:=[r.af.s.T,r.af.s.R,r.af.I,r.el.s.T,r.el.s.R,r.el.I,.string r.tx]
theorem BK(x:El):∀u∈QM x,u.oneCell'=true:=by intro u h;simp[QM] at h;rcases h with rfl|rfl|rfl|rfl<;>rfl
theorem P5(x:Rn):∀u∈XL x,u.oneCell'=true:=by intro u h;simp[XL] at h;rcases h with rfl|rfl|rfl|rfl|rfl|rfl|rfl<;>rfl
noncomputable def Yx(l:List UInt8):List (List UInt8):=open Classical in if h:∃ps,Zg ps/\l=ps.flatten then h.choose else []
theorem Ev{ps:List (List UInt8)}(h:Zg ps):Yx ps.flatten=ps:=by have j:∃qs,Zg qs/\ps.flatten=qs.flatten:=⟨ps,h,rfl⟩;unfold Yx;rw[dif_pos j];exact B9 _ _ j.choose_spec.1 h j.choose_spec.2.symm
theorem P6{l:List UInt8}(h:Lib.validD l=false):Yx l=[]:=by unfold Yx;rw[dif_neg];rintro⟨ps,j,rfl⟩;rw[G7 ps j] at h;cases h
theorem C1(l:List UInt8):(Yx l).length<=l.length:=by
 unfold Yx;split;·rename_i h;have j:=UJ _ h.choose_spec.1;rw[<-h.choose_spec.2] at j;exact j
 simp
def XM(x:Id):Id:=⟨x.s,if x.I=9223372036854775807 then -9223372036854775808 else x.I+1,by have:=x.hI;unfold Qu at *;split<;>omega⟩
def Zy(h x:Id):List (List UInt8)->List El|[]=>[]|p::ps=>⟨x,h,Q8 p⟩::Zy x (XM x) ps
theorem Gj:∀(ps:List (List UInt8)) (h x:Id),(Zy h x ps).length=ps.length|[],_,_=>rfl|_::ps,_,x=>by rw[Zy,Z4,Z4,Gj ps]
def Ji(x:Id):Nat->Id|0=>x|k+1=>XM (Ji x k)
def Kw(h x:Id):Nat->Id|0=>h|k+1=>Ji x k
theorem BL(x:Id):∀k,Ji (XM x) k=Ji x (k+1)|0=>rfl|k+1=>by rw[Ji,BL x k];rfl
theorem P7:∀(ps:List (List UInt8)) (p:List UInt8) (h x:Id),Zy h x (ps++[p])=Zy h x ps++[⟨Ji x ps.length,Kw h x ps.length,Q8 p⟩]
 |[],_,_,_=>rfl
 |q::ps,p,h,x=>by
  rw[JB,Zy,Zy,P7 ps p x (XM x),JB,Z4,BL]
  cases ps with
  |nil=>rfl
  |cons j ps=>rw[Z4,Kw,BL];rfl
noncomputable def Qx(l:List Rn):List El:=l.flatMap (λr=>Zy r.af r.el (Yx r.tx.data.toList))
theorem BM(l:List Rn)(r:Rn):Qx (l++[r])=Qx l++Zy r.af r.el (Yx r.tx.data.toList):=by simp[Qx]
def had(F:List El)(x:Id):Nat:=(F.filter (λe=>decide (e.id=x))).length+if x=Qf then 1 else 0
theorem P8(F:List El)(e:El)(x:Id):had (F++[e]) x=had F x+if e.id=x then 1 else 0:=by unfold had;rw[YU,Qj];by_cases h:e.id=x<;>simp[h]<;>omega
theorem P9(F:List El)(x:Id):had F x<=F.length+1:=by unfold had;have:=Vl (λe:El=>decide (e.id=x)) F;split<;>omega
def ZP(F:List El)(e:El):Prop:=XK El.id F e/\e.id≠Qf
theorem Ew(F:List El)(x e:El):ZP (F++[x]) e↔ZP F e\/(e=x/\had F x.id=0):=by
 unfold ZP;rw[DW]
 have key:had F x.id=0↔(∀g∈F,g.id≠x.id)/\x.id≠Qf:=by
  unfold had;constructor
  ·intro h;refine⟨λg E e=>?_,λe=>?_⟩;·have j:(F.filter (λe=>decide (e.id=x.id))).length=0:=(by omega);rw[VM,Dh] at j;exact j g E (by simp[e])
   rw[Q7 e] at h;omega
  rintro⟨j,D⟩;rw[Q6 D,UI,VM,Dh];intro g E;simpa using j g E
 rw[key];constructor
 ·rintro⟨j|⟨rfl,j⟩,D⟩;·exact .inl ⟨j,D⟩
  exact .inr ⟨rfl,j,D⟩
 rintro(⟨j,D⟩|⟨rfl,j,D⟩);·exact⟨.inl j,D⟩
 exact⟨.inr ⟨rfl,j⟩,D⟩
theorem Vv{F:List El}{e:El}(h:ZP F e):e∈F:=UN h.1
theorem Ex(F:List El):UP El.id Qf (ZP F):=⟨λ_ _ h k e=>BA h.1 k.1 e,λ_ h=>h.2⟩
def Kx(F:List El)(B:Id->List El):Prop:=∀x,(B x).Nodup/\∀e,e∈B x↔ZP F e/\e.af=x
theorem SJ:Kx [] (λ_=>[]):=λx=>⟨Du,λe=>⟨λh=>absurd h (by simp),λh=>absurd (Vv h.1) (by simp)⟩⟩
theorem SK{F:List El}{B:Id->List El}(h:Kx F B){x:El}(E:had F x.id≠0):Kx (F++[x]) B:=λy=>⟨(h y).1,λe=>by
 rw[(h y).2 e,Ew];constructor;·rintro⟨j,D⟩;exact⟨.inl j,D⟩
 rintro⟨j|⟨_,j⟩,D⟩;·exact⟨j,D⟩
 exact absurd j E⟩
theorem SL{F:List El}{B:Id->List El}(h:Kx F B){x:El}(E:had F x.id=0):Kx (F++[x]) (λy=>if y=x.af then B y++[x] else B y):=by
 have O:¬ZP F x:=by
  intro J;have hm:=Vv J;unfold had at E;have j:(F.filter (λe=>decide (e.id=x.id))).length=0:=by omega
  rw[VM,Dh] at j;exact j x hm (by simp)
 intro y;by_cases e:y=x.af
 ·subst e;simp only[if_true];refine⟨?_,λe=>?_⟩;·rw[Dr];refine⟨(h x.af).1,by simp,λa I b hb=>?_⟩;rw[Qw] at hb;subst hb;rintro rfl;exact O (((h a.af).2 a).1 I).1
  rw[Qq,(h x.af).2 e,Ew,Qw];constructor
  ·rintro(⟨j,D⟩|rfl);·exact⟨.inl j,D⟩
   exact⟨.inr ⟨rfl,E⟩,rfl⟩
  rintro⟨j|⟨rfl,_⟩,D⟩;·exact .inl ⟨j,D⟩
  exact .inr rfl
 simp only[Q6 e];refine⟨(h y).1,λa=>?_⟩;rw[(h y).2 a,Ew];constructor;·rintro⟨j,D⟩;exact⟨.inl j,D⟩
 rintro⟨j|⟨rfl,_⟩,D⟩;·exact⟨j,D⟩
 exact absurd D.symm e
theorem Pa{F:List El}{B:Id->List El}(h:Kx F B)(x:Id):(B x).length<=F.length:=
 C0 (h x).1 (λe j=>Vv (((h x).2 e).1 j).1)
theorem SM{F:List El}{B S:Id->List El}(h:Kx F B)(E:∀x,(S x).Perm (B x))(D:∀x,(S x).Pairwise (λa b=>¬b.id.cmp a.id<0)):Gi Id.Lt El.id El.af (ZP F) S:=by
 intro x;refine⟨?_,λe=>((E x).mem_iff).trans ((h x).2 e)⟩;have j:=(E x).nodup_iff.2 (h x).1
 have key:∀{l:List El},(∀a b,a∈l->b∈l->a.id=b.id->a=b)->l.Nodup->l.Pairwise (λa b=>¬b.id.cmp a.id<0)->l.Pairwise (λa b=>a.id.Lt b.id):=by
  intro l
  induction l with
  |nil=>intro _ _ _;exact List.Pairwise.nil
  |cons a l U=>
   intro I j D;rw[GS] at j;rw[Yh] at D;refine Yh.2 ⟨λb hb=>?_,U (λc d O Q=>I c d (by simp[O]) (by simp[Q])) j.2 D.2⟩;rcases Zv.total a.id b.id with t|t|t;·exact t
   ·exact absurd (I a b (by simp) (by simp[hb]) t▸hb) j.1
   exact absurd ((XV _ _).2 t) (D.1 b hb)
 exact key (λa b J hb e=>BA (((h x).2 a).1 ((E x).mem_iff.1 J)).1.1 (((h x).2 b).1 ((E x).mem_iff.1 hb)).1.1 e) j (D x)
end
section
open Go Go.RowKit Go.Maps Go.ChangeMaps
theorem CZ:type_of% @Tryz.underlying263:=@Tryz.underlying263
abbrev Hd:=Option (Nat×Nat×Nat)
def QX:Hd->Value|none=>.slice none 0 0|some (g,n,c)=>.slice (some ⟨g,0,none⟩) n c
theorem C2{a b:Hd}(h:QX a=QX b):a=b:=by rcases a with _|⟨g,n,c⟩<;>rcases b with _|⟨j,E,c'⟩<;>simp[QX] at h |-;exact h
def Uk(hd:Id->Hd)(x:Id):Option Hd:=(hd x).map some
structure Xa(w:World)(base bm m:Nat)(D:DataW Hd)(hd:Id->Hd)(B:Id->List El):Prop where
 map:w.ownsMap Tryz.prog 60 (Z7 QX) bm m D
 fm:Xu Ze (Uk hd) D
 rows:∀x,w.ownsRow base 205 4 (QX (hd x)) (B x).length ((B x).flatMap QM)
 apart:∀x y,x≠y->∀g,(QX (hd x)).ownBlock=some g->(QX (hd y)).ownBlock≠some g
section
variable {w w':World} {base bm m:Nat} {D:DataW Hd} {hd:Id->Hd} {B:Id->List El}
theorem Xa.cells(h:Xa w base bm m D hd B){x:Id}{g:Nat}(j:(QX (hd x)).ownBlock=some g):∃E,w.heap[g]?=some (.cells E 205 (0,0)):=by
 rcases (h.rows x).2 with⟨e,_⟩|⟨J,cap,E,e,_,I,_⟩;·rw[e] at j;cases j
 rw[e] at j;cases j;exact⟨E,I⟩
theorem Xa.isMap(h:Xa w base bm m D hd B):∃E j,w.heap[bm]?=some (.map E j):=by obtain⟨E,j,I,_⟩:=h.map;exact⟨E,j,I⟩
theorem Xa.ne(h:Xa w base bm m D hd B){x:Id}{g:Nat}(I:(QX (hd x)).ownBlock=some g):g≠bm:=by rintro rfl;obtain⟨O,E⟩:=h.cells I;obtain⟨Q,J,j⟩:=h.isMap;rw[E] at j;cases j
theorem Xa.touch{F:Nat->Prop}(h:Xa w base bm m D hd B)(t:Qd F w w')(hb:¬F bm)(j:∀x g,(QX (hd x)).ownBlock=some g->¬F g):Xa w' base bm m D hd B:=
 ⟨Xo h.map t hb,h.fm,λx=>Yn (h.rows x) t (j x),h.apart⟩
theorem Xa.below(h:Xa w base bm m D hd B)(hb:Below w w w'):Xa w' base bm m D hd B:=
 h.touch (Below.touch hb (λ_=>False)) (λh=>h) (λ_ _ _ h=>h)
theorem BN(u:World):(zeroValue 202).run Tryz.prog u=.ok (QX none) u:=Tryz.zeroValue202 u
theorem Xa.look(h:Xa w base bm m D hd B)(x:Id):(Instr.lookup 263 (.map (some bm)) (Qa x) false).run Tryz.prog w=.ok (QX (hd x)) w:=by
 obtain⟨v,ps,E,I⟩:=h.map.lookup Xp CZ (BN w) (Vt C2 none) (XJ.val x);obtain⟨a,rfl,J⟩:=Kt I;have j:=Xz Prod.fst J;rw[h.fm x] at j
 have O:a=hd x:=by
  unfold Uk at j
  cases e:hd x with
  |none=>rw[e] at j;cases j;rfl
  |some y=>rw[e] at j;cases j;rfl
 rw[E,O]
theorem Xa.entry(h:Xa w base bm m D hd B)(hm:m<maxLen)(x:Id):∃E Q O,(Instr.mapEntry 263 (.map (some bm)) (Qa x)).run Tryz.prog w=.ok (.tuple #[QX (hd x),goInt E]) Q/\w.grownBy Q (some bm)/\Q.heap[bm]?=some O/\(∃W c,O=.map W c)/\∀(u:World)(a:Hd),u.heap[bm]?=some O->∃u2,(Instr.entryStore 263 (.map (some bm)) (goInt E) (QX a)).run Tryz.prog u=.ok () u2/\u2.ownsMap Tryz.prog 60 (Z7 QX) bm (m+1) (D.put (Ze x) (.held a))/\u.grownBy u2 (some bm):=by
 have a6:=λa=>h.map.update (Eh Gf) CZ hm (XJ.val x) (Vt C2 a);obtain⟨ab,aa,ac,ad,hl,a4,_⟩:=Fa h.map Gf CZ (z:=QX none) (λu=>BN u) hm (XJ.val x) (Vt C2 none);obtain⟨W,a7,hb,F,hs,hD⟩:=h.map;obtain⟨v0,E,a9,a8,Y,_,h2⟩:=WideElems.entry_then_store Gf CZ (z:=QX none) (λu=>BN u) hb F (XJ.val x);have hv:v0=QX (hd x):=by have j:=a4.symm.trans Y;simp only[Result.ok.injEq,Value.tuple.injEq] at j;have h9:=Xz Array.toList j.1;have h8:=(List.cons.inj h9).1;have U:=hl.symm.trans (Xa.look h x);simp only[Result.ok.injEq] at U;rw[<-h8];exact U.1
 subst hv;refine⟨E,_,_,Y,⟨rfl,rfl,rfl,by simp[setBlock],λi _ I=>heap_setBlock_other hb _ (λe=>I (by rw[e]))⟩,Dl hb _,⟨_,_,rfl⟩,λu a J=>?_⟩;obtain⟨a2,a1,h3,Z⟩:=h2 u (QX a) J;obtain⟨w',a5,ho,_⟩:=a6 a;have j:w'=setBlock w bm (.map a2 a1):=by rw[a5] at Z;cases Z;rfl
 refine⟨_,h3,?_,⟨rfl,rfl,rfl,by simp[setBlock],λi _ I=>heap_setBlock_other J _ (λe=>I (by rw[e]))⟩⟩;obtain⟨a3,a0,X,g2⟩:=ho;rw[j,Dl hb _] at X;exact⟨a3,a0,(Dl J _).trans X,g2⟩
theorem Xa.put{u2:World}(h:Xa w base bm m D hd B){x:Id}{a:Hd}{l:List El}(U:u2.ownsMap Tryz.prog 60 (Z7 QX) bm (m+1) (D.put (Ze x) (.held a)))(Q:a≠none)(X:u2.ownsRow base 205 4 (QX a) l.length (l.flatMap QM))(W:∀y,y≠x->u2.ownsRow base 205 4 (QX (hd y)) (B y).length ((B y).flatMap QM))(E:∀y,y≠x->∀g,(QX a).ownBlock=some g->(QX (hd y)).ownBlock≠some g):Xa u2 base bm (m+1) (D.put (Ze x) (.held a)) (λy=>if y=x then a else hd y) (λy=>if y=x then l else B y) where
 map:=U
 fm:=(h.fm.put XJ h.map.isMap x a).congr (λs=>by
  unfold Uk;by_cases e:s=x
  ·simp only[Q7 e]
   cases a with
   |none=>exact absurd rfl Q
   |some y=>rfl
  simp only[Q6 e])
 rows:=λy=>by
  by_cases e:y=x;·simp only[Q7 e];exact X
  simp only[Q6 e];exact W y e
 apart:=λy z I g=>by
  by_cases e:y=x
  ·by_cases j:z=x;·exact absurd (e.trans j.symm) I
   simp only[Q7 e,Q6 j];exact E z j g
  by_cases j:z=x;·simp only[Q6 e,Q7 j];intro J O;exact E y e g O J
  simp only[Q6 e,Q6 j];exact h.apart y z I g
theorem Xa.turn{u:World}(h:Xa w base bm m D hd B){x:Id}{l:List El}(j:w.grownBy u (QX (hd x)).ownBlock)(I:u.ownsRow base 205 4 (QX (hd x)) l.length (l.flatMap QM)):Xa u base bm m D hd (λy=>if y=x then l else B y) where
 map:=h.map.kept j (by
  intro e
  exact h.ne e.symm rfl)
 fm:=h.fm
 rows:=λy=>by
  by_cases e:y=x;·simp only[Q7 e];rw[e];exact I
  simp only[Q6 e];refine(h.rows y).kept j ?_
  cases hv:(QX (hd y)).ownBlock with
  |none=>exact .inl rfl
  |some g=>exact .inr (λE=>h.apart y x e g hv E.symm)
 apart:=h.apart
end
end
section
open Go Go.RowKit
theorem CT:type_of% @Tryz.underlying202:=@Tryz.underlying202
theorem BQ{w:World}{base:Nat}{e:TypeId}{K n m:Nat}{A:Option Addr}{c:Nat}{xs:List Value}(h:w.ownsRow base e K (.slice A n c) n xs)(hm:m<=n):w.ownsRow base e K (.slice A m c) m (xs.take (m*K)):=by
 refine⟨by rw[Zi,h.1];exact JC (Ob _ hm),?_⟩;rcases h.2 with⟨j,rfl⟩|⟨g,cap,D,j,E,I,U,J,O,Q⟩;·cases j;exact .inl ⟨by rw[Nat.le_zero.1 hm],Nat.le_zero.1 hm⟩
 cases j;refine .inr ⟨g,c,D,rfl,E,I,by omega,J,O,?_⟩;rw[<-Q,List.take_take,JC (Ob _ hm)]
theorem SW{P:Program}{w:World}{o:Oper}{a:Act}{K:Act->World->Prop}{a0:Exit->Act->World->Prop}(s x:Operand)(t:TypeId)(U:o.op=.call { callee:=.builtin .append,args:=#[s,x],argTypes:=#[t,t] })(base:Nat)(e:TypeId)(i:TypeInfo)(z:Value)(size I:Nat)(X:P.underlying t=some (.slice e))(Q:P.info? e=some i)(hz:i.zero=some z)(a6:i.size=size)(a4:i.bytes=I)(a8:z.cells.size=size)(a7:0<size)(v:Value)(n:Nat)(xs:List Value)(W:a.eval s=v)(J:w.ownsRow base e size v n xs)(Z:Value)(a1 m:Nat)(E:List Value)(Y:a.eval x=Z)(D:w.ownsRow a1 e size Z m E)(h1:∀u∈E,u.oneCell'=true)(a2:n+m<=maxLen)(a5:(n+m)*I<=140737488355328)(a3:base<=w)(h:∀j w',w'.ownsRow base e size j (n+m) (xs++E)->w.grownBy w' v.ownBlock->(j.ownBlock=v.ownBlock\/j.ownBlock=some w.heap.size)->K (a.put o.dst j) w'):o.wp P a w K a0:=by
 rcases D.2 with⟨rfl,rfl⟩|⟨g,cap,a9,rfl,_,_,_,_,_,_⟩;·have hn:=VJ (by simpa using D.1);subst hn;have O:=run_append_owned_none (w:=w) base t o.type e i size X Q v n xs J;unfold Oper.wp execOp;simp only[U,resolve,invoke,builtin,DE,DD,Dp,B3,ZW,Kf,W,Y,O];exact h v w (by simpa using J) ⟨rfl,rfl,rfl,Q3 _,λ_ _ _=>rfl⟩ (.inl rfl)
 obtain⟨j,w',O,h2,h3,_,h5⟩:=run_append_own_at (P:=P) w base t o.type e i z size I X Q hz a6 a4 a8 a7 v n xs J ⟨g,0,none⟩ m cap E D.1 (D.cells (g:=g) rfl) h1 a2 a5 a3;unfold Oper.wp execOp;simp only[U,resolve,invoke,builtin,DE,DD,Dp,B3,ZW,Kf,W,Y,O];exact h j w' h2 h3 h5
theorem SX{P:Program}(w:World){U:Array Oper}{o:Oper}{a:Act}{K:Act->World->Prop}{Q:Exit->Act->World->Prop}{E:Prop}(a1:o.guard=none)(s x:Operand)(t:TypeId)(ho:o.op=.call { callee:=.builtin .append,args:=#[s,x],argTypes:=#[t,t] })(base:Nat)(e:TypeId)(i:TypeInfo)(z:Value)(size I:Nat)(ht:P.underlying t=some (.slice e))(hi:P.info? e=some i)(hz:i.zero=some z)(a3:i.size=size)(Z:i.bytes=I)(a6:z.cells.size=size)(a5:0<size)(v:Value)(n:Nat)(xs:List Value)(hs:a.eval s=v)(a2:w.ownsRow base e size v n xs)(J:Value)(O m:Nat)(j:List Value)(hx:a.eval x=J)(a4:w.ownsRow O e size J m j)(W:∀u∈j,u.oneCell'=true)(X:n+m<=maxLen)(a0:(n+m)*I<=140737488355328)(Y:base<=w)(h:∀D w',w'.ownsRow base e size D (n+m) (xs++j)->w.grownBy w' v.ownBlock->(D.ownBlock=v.ownBlock\/D.ownBlock=some w.heap.size)->K (a.put o.dst D) w'):if Region.wanted o (yielded U a.tmps)=true then Oper.wp P o a w K Q else E:=by
 have hw:Region.wanted o (yielded U a.tmps)=true:=by simp[Region.wanted,a1]
 rw[Q7 hw];exact SW s x t ho base e i z size I ht hi hz a3 Z a6 a5 v n xs hs a2 J O m j hx a4 W X a0 Y h
theorem Pj(L:List El):∀u∈L.flatMap QM,u.oneCell'=true:=Kn BK L
theorem SY:(Tryz.prog.info? 205).map (λi=>(i.zero,i.size,i.bytes))=some (some (.agg #[(0:Int),(0:Int),(0:Int),.string ⟨#[]⟩]),4,40):=by kernel_rfl
theorem Pk{w:World}{base b:Nat}{e:TypeId}{K:Nat}(hb:base<=b)(h:w.heap[b]?=some (.cells #[] e (0,0))):w.ownsRow base e K (.slice (b,0) 0 0) 0 []:=
 ⟨by simp,.inr ⟨b,0,#[],rfl,hb,h,Q3 _,Qh _,by simp,by simp⟩⟩
theorem SZ(L:List El)(a:Hd)(base:Nat)(w:World)(h:w.ownsRow base 205 4 (QX a) L.length (L.flatMap QM))(hl:L.length<=1000000):Calls Tryz.prog 152 #[QX a] w λe w'=>∃v,e=.returned v/\w'.ownsRow w 205 4 v L.length (L.flatMap QM)/\Below w w w':=by
 obtain⟨i0,W,Z,a0,a1⟩:=info_parts SY;have qe:∀(w:World)(A:Option Addr)(n c:Nat),(binOp .eql 202 (.slice A n c) (.slice none 0 0)).run Tryz.prog w=.ok (.bool A.isNone) w:=λw A n c=>Lib.run_eql_slice_nil w 202 205 A n c 0 0 CT;rcases a with _|⟨g,n,c⟩
 ·have U:L=[]:=by
   rcases h.2 with⟨_,Q⟩|⟨g,cap,O,e,_⟩;·exact VJ Q
   cases e
  subst U;unfold QX;clear h;go_enter Tryz.func152,Tryz.ntmps152;go_wp2;go_ret;exact⟨_,rfl,World.ownsRow_nil _ _ _ _,Qc _ _⟩
 have j:=Ki (h.alloc (.cells #[] 205))
 have Y:n=L.length:=by
  rcases h.2 with⟨e,_⟩|⟨g,cap,O,e,_⟩;·cases e
  cases e;rfl
 subst Y;have I:=Ki (Pk (w:=w.alloc (.cells #[] 205)) (base:=w.heap.size) (K:=4) (Q3 _) (Qi w _));unfold QX at j |-;clear h;go_enter Tryz.func152,Tryz.ntmps152;go_wp2_with (at_builtin;refine Sd rfl _ _ 202 rfl w 205 i0 _ 4 40 CT W Z a0 a1 rfl (by decide) _ 0 [] rfl I.o _ base L.length (L.flatMap QM) rfl j.o (Pj L) (by unfold maxLen;omega) (by omega) (by simp) ?_);intro v' w' E D
 have hb:Below w w w':=((Qc _ w).alloc (Q3 _) _).grown D (by simp) (λk X=>by
  have:k=w.heap.size:=(by simpa [Value.ownBlock] using X.symm)
  omega)
 have J:=Ki (show w'.ownsRow w 205 4 v' L.length (L.flatMap QM) by simpa using E);clear E D;go_wp2;go_ret;exact⟨_,rfl,J.o,hb⟩
end
section
open Go Go.RowKit Go.Maps
theorem Yg:type_of% @World.ownsMap_made:=@World.ownsMap_made
theorem Ue:type_of% @run_makeMap:=@run_makeMap
theorem Oa:type_of% @wpList_mapUpdate_own:=@wpList_mapUpdate_own
abbrev HH:=Unit
def BO(P:QP->Prop)(w:World)(b n:Nat)(D:DataW HH):Prop:=w.ownsMap Tryz.prog 171 (unitElem (H:=HH)) b n D/\∀d,has D (VR d)=true↔P d
def SS(h:List QP)(w:World)(i:Value)(wr:World):Prop:=
 ∃k:Nat,k<=h.length/\i=k/\∃D,BO (λd=>d∈h.take k) wr w k D/\Below w w wr
def ST(h gone:List QP)(w:World)(i:Value)(wr:World):Prop:=
 ∃k:Nat,k<=gone.length/\i=k/\∃D,BO (λd=>d∈h/\d∉gone.take k) wr w h.length D/\Below w w wr
theorem SU(I gone:List QP)(A A':Option Addr)(n c n' c' B:Nat)(w:World)(hR:Rd w B 5 (.slice A n c) n (I.flatMap QR))(a2:Rd w B 5 (.slice A' n' c') n' (gone.flatMap QR))(hB:B<=w)(hn:n<=100000):Calls Tryz.prog 93 #[.slice A n c,.slice A' n' c'] w λe w'=>e=.returned (.map (some w.heap.size))/\(∃D,BO (λd=>d∈I/\d∉gone) w' w I.length D)/\Below w w w':=by
 obtain⟨_,ae,ab⟩:=hR.len;obtain⟨_,af,ac⟩:=a2.len;unfold maxLen at ab ac;obtain rfl:=QL QR 5 (λ_=>rfl) (by decide) hR.1;obtain rfl:=QL QR 5 (λ_=>rfl) (by decide) a2.1;have HR:=Ki hR;have a9:=Ki a2;clear hR a2;have ad:=@Ue Tryz.prog;go_enter Tryz.func93,Tryz.ntmps93;go_wp2;go_loopw [13] (λi wr=>SS I w i wr) (λi _=>I.length-(intOf i).toNat);case atStart=>refine⟨0,Qh _,rfl,.map [],⟨Yg w _ _ _,λd=>by simp[has]⟩,(Qc _ w).alloc (Q3 _) _⟩
 case round=>
  obtain⟨k,hk,rfl,D,⟨a0,Y⟩,hb⟩:=hrel;have O:=Ki a0;have W:=Ki Y;clear a0 Y;obtain⟨E,rfl⟩:∃E:World,E=wr:=⟨_,rfl⟩;by_cases U:k<I.length
  ·obtain⟨b,o,rfl,aa,Z⟩:=Qr QR 5 (λ_=>rfl) (by decide) HR.o U;have a5:b<w:=(by omega);have J:∀j u,(QR I[k])[j]?=some u->E.cell? (b,o+k*5+j)=some u:=λj u hu=>(hb.cell (p:=(b,o+k*5+j)) a5).trans (Z j u hu);have X:=Ki (λx=>Vx U x);obtain⟨d,hd⟩:∃d,I[k]=d:=⟨_,rfl⟩;rw[hd] at J X;clear hd;have d0:E.cell? (b,o+k*5)=d.n.s.T:=J 0 _ rfl;have d1:E.cell? (b,o+k*5+1)=d.n.s.R:=J 1 _ rfl;have d2:E.cell? (b,o+k*5+2)=d.n.I:=J 2 _ rfl;have d3:E.cell? (b,o+k*5+3)=d.b.T:=J 3 _ rfl;have d4:E.cell? (b,o+k*5+4)=d.b.R:=J 4 _ rfl;clear Z J;go_wp2_with (at_mapUpdate;refine Oa _ rfl _ _ _ 194 rfl 171 119 F7 Tryz.underlying194 unitElem w k D rfl (O.o.alloc _) (by unfold maxLen;omega) (JH d) (.agg #[]) (VR d) rfl rfl (F8 d) (.agg []) [] unitElem_mk ?_;intro w1 a1 a7);have a4:Below w w w1:=(hb.alloc hb.size _).grown a7 (by have:=hb.size;simp;omega) (λj hj=>by cases hj;exact Q3 _);have a3:=Ki a1;clear a1 a7 d0 d1 d2 d3 d4;go_wp2;go_roundw;case rel=>refine⟨k+1,U,by go_num,_,⟨a3.o,λx=>?_⟩,a4⟩;show _↔x∈I.take (k+1);have Q:has D (VR x)=true↔x∈I.take k:=W.o x;rw[Bz.has_put O.o.isMap,X.o x,<-Q];simp[or_comm]
   case measure=>simp[intOf];omega
  have a6:k=I.length:=(by omega);subst a6;go_wp2;go_loopw [23] (λi wr=>ST I gone w i wr) (λi _=>gone.length-(intOf i).toNat)
  case atStart=>
   refine⟨0,Qh _,rfl,D,⟨O.o,λd=>by
    have Q:has D (VR d)=true↔d∈I.take I.length:=W.o d
    rw[Q];simp⟩,hb⟩
  case round=>
   clear O W hb;obtain⟨k,hk,rfl,D,⟨a0,Y⟩,hb⟩:=hrel;have O:=Ki a0;have W:=Ki Y;clear a0 Y;obtain⟨E,rfl⟩:∃E:World,E=wr:=⟨_,rfl⟩;by_cases U:k<gone.length
   ·obtain⟨b,o,rfl,aa,Z⟩:=Qr QR 5 (λ_=>rfl) (by decide) a9.o U;have a5:b<w:=(by omega);have J:∀j u,(QR gone[k])[j]?=some u->E.cell? (b,o+k*5+j)=some u:=λj u hu=>(hb.cell (p:=(b,o+k*5+j)) a5).trans (Z j u hu);have X:=Ki (λx=>Vx U x);obtain⟨d,hd⟩:∃d,gone[k]=d:=⟨_,rfl⟩;rw[hd] at J X;clear hd;have d0:E.cell? (b,o+k*5)=d.n.s.T:=J 0 _ rfl;have d1:E.cell? (b,o+k*5+1)=d.n.s.R:=J 1 _ rfl;have d2:E.cell? (b,o+k*5+2)=d.n.I:=J 2 _ rfl;have d3:E.cell? (b,o+k*5+3)=d.b.T:=J 3 _ rfl;have d4:E.cell? (b,o+k*5+4)=d.b.R:=J 4 _ rfl;clear Z J;go_wp2_with (at_delete;refine wpList_delete_own _ rfl _ _ 194 171 rfl 119 F7 Tryz.underlying194 unitElem w I.length D rfl (O.o.alloc _) (JH d) (VR d) rfl (F8 d) ?_;intro w1 a1 a8);have a4:Below w w w1:=(hb.alloc hb.size _).grown a8.grown (by have:=hb.size;simp;omega) (λj hj=>by cases hj;exact Q3 _);have a3:=Ki a1;clear a1 a8 d0 d1 d2 d3 d4;go_wp2;go_roundw
    case rel=>
     refine⟨k+1,U,by go_num,_,⟨a3.o,λx=>?_⟩,a4⟩;show _↔x∈I/\x∉gone.take (k+1);rw[Bz.has_del];have Q:=W.o x;have h2:=X.o x;simp only[ZJ,Bool.not_eq_true',decide_eq_false_iff_not,Q,h2];constructor;·rintro⟨a,b,c⟩;exact⟨b,λh=>h.elim c a⟩
     rintro⟨a,b⟩;exact⟨λh=>b (.inr h),a,λh=>b (.inl h)⟩
    case measure=>simp[intOf];omega
   have a6:k=gone.length:=(by omega);subst a6;go_wp2;go_ret
   exact⟨rfl,⟨D,O.o,λd=>by
    have Q:=W.o d
    rw[Q];simp⟩,hb⟩
end
section
open Go Go.RowKit Go.Maps
theorem Dd:type_of% @Tryz.underlying200:=@Tryz.underlying200
theorem C3(u:World):(zeroValue 3).run Tryz.prog u=.ok (0:Int) u:=Tryz.zeroValue3 u
theorem BP(a:Int)(h:Qu a):plainElem (H:=HH) Tryz.prog 3 (.int .i64 a)=some (.lit (.int .i64 a),[]):=plainElem_int JY ((Kr a).2 h)
structure GM(F G:List El)(w wr:World)(bm bh m m2:Nat)(D:DataW Hd)(D2:DataW HH)(hd:Id->Hd)(B:Id->List El):Prop where
 le:m<=F.length
 le2:m2<=G.length+1
 rows:Xa wr w bm m D hd B
 gat:Kx F B
 hm:wr.ownsMap Tryz.prog 60 (plainElem (H:=HH) Tryz.prog 3) bh m2 D2
 ct:∀s,D2.atKey (Ze s) (.lit (.int .i64 0))=.lit (.int .i64 (had G s:Nat))
 lo:w<=bm/\w<=bh/\bm≠bh
 bel:Below w w wr
section
variable {F G:List El} {w wr wr':World} {bm bh m m2:Nat} {D:DataW Hd} {D2:DataW HH} {hd:Id->Hd} {B:Id->List El}
theorem GM.keep(h:GM F G w wr bm bh m m2 D D2 hd B){S:Nat->Prop}(t:Qd S wr wr')(U:∀k,S k->w<=k/\∃O J Q,wr.heap[k]?=some (.cells O J Q)/\J≠205):GM F G w wr' bm bh m m2 D D2 hd B where
 le:=h.le
 le2:=h.le2
 rows:=h.rows.touch t (λE=>by
  obtain⟨_,O,J,Q,I,_⟩:=U _ E;obtain⟨W,c,j⟩:=h.rows.isMap;rw[I] at j
  cases j) (λx g Y E=>by
  obtain⟨_,O,J,Q,I,X⟩:=U _ E;obtain⟨Z,j⟩:=h.rows.cells Y;rw[I] at j;cases j
  exact X rfl)
 gat:=h.gat
 hm:=Xo h.hm t (λE=>by
  obtain⟨_,O,J,Q,I,_⟩:=U _ E;obtain⟨W,c,j,_⟩:=h.hm;rw[I] at j
  cases j)
 ct:=h.ct
 lo:=h.lo
 bel:=h.bel.trans (t.below h.bel.size (λx hx E=>by have:=(U x E).1;omega))
theorem GM.grow(h:GM F G w wr bm bh m m2 D D2 hd B)(hb:Below wr wr wr'):GM F G w wr' bm bh m m2 D D2 hd B:=
 h.keep (Below.touch hb (λ_=>False)) (λ_ h=>h.elim)
theorem GM.count(h:GM F G w wr bm bh m m2 D D2 hd B)(x:Id):(Instr.lookup 200 (.map (some bh)) (Qa x) false).run Tryz.prog wr=.ok (.int .i64 (had G x:Nat)) wr:=by
 obtain⟨c,E,I,_⟩:=h.hm.lookup_int Xp Dd JY (C3 wr) (YM x);have j:=h.ct x;rw[I] at j;have:c=(had G x:Nat):=by simpa using j
 rw[E,this]
theorem GM.tick(h:GM F G w wr bm bh m m2 D D2 hd B)(e:El)(hl:G.length<=1000000):∃I j E,(Instr.mapEntry 200 (.map (some bh)) (Qa e.id)).run Tryz.prog wr=.ok (.tuple #[.int .i64 (had G e.id:Nat),goInt I]) j/\(Instr.lookup 200 (.map (some bh)) (Qa e.id) false).run Tryz.prog j=.ok (.int .i64 (had G e.id:Nat)) j/\(Instr.entryStore 200 (.map (some bh)) (goInt I) (.int .i64 ((had G e.id:Nat)+1))).run Tryz.prog j=.ok () E/\wr.grownBy E (some bh)/\∃Y,GM F (G++[e]) w E bm bh m (m2+1) D Y hd B:=by
 have a2:=P9 G e.id;have a3:=h.le2;have hw:Qu (((had G e.id:Nat):Int)+1):=by unfold Qu;omega
 obtain⟨v0,I,j,E,W,e2,e3,e4,hM,J⟩:=Fa (val:=.int .i64 (((had G e.id:Nat):Int)+1)) h.hm Gf Dd (λu=>C3 u) (by unfold maxLen;omega) (YM e.id) (BP _ hw);have hv:v0=.int .i64 (had G e.id:Nat):=by rw[h.count e.id] at W;cases W;rfl
 subst hv;refine⟨I,j,E,e2,e3,e4,J,D2.put (Ze e.id) (.lit (.int .i64 (((had G e.id:Nat):Int)+1))),?_⟩;have a0:∀x g,(QX (hd x)).ownBlock=some g->g≠bh:=by rintro x g U rfl;obtain⟨a1,h1⟩:=h.rows.cells U;obtain⟨es,c,X,_⟩:=h.hm;rw[h1] at X;cases X
 exact {
  le:=h.le
  le2:=by simp;omega
  rows:=h.rows.touch (Qd.grown (F:=λk=>k=bh) (Qd.refl _ _) J (λk O _=>by cases O;rfl)) h.lo.2.2 (λx g U=>a0 x g U)
  gat:=h.gat
  hm:=hM
  ct:=λs=>by
   rw[P8];by_cases Q:e.id=s;·subst Q;rw[Maps.atKey_put_same h.hm.isMap (Xp.key (YM e.id)),Q7 rfl];simp
   rw[Maps.atKey_put_other (λZ=>Q (Es Z).symm),h.ct s,Q6 Q];simp
  lo:=h.lo
  bel:=h.bel.grown J h.bel.size (λk O=>by cases O;exact h.lo.2.1) }
theorem GM.seen{e:El}(h:GM F (F++[e]) w wr bm bh m m2 D D2 hd B)(j:had F e.id≠0):GM (F++[e]) (F++[e]) w wr bm bh m m2 D D2 hd B:=
 { h with le:=by have:=h.le;simp;omega,gat:=SK h.gat j }
theorem GM.new{e:El}(h:GM F (F++[e]) w wr bm bh m m2 D D2 hd B)(J:had F e.id=0){u u2:World}{g cap:Nat}(ht:Qd (λk=>k=bm\/(QX (hd e.af)).ownBlock=some k) wr u)(a7:u.ownsRow w 205 4 (QX (some (g,(B e.af).length+1,cap))) ((B e.af).length+1) ((B e.af).flatMap QM++QM e))(E:(QX (hd e.af)).ownBlock=some g\/wr<=g)(a5:u2.ownsMap Tryz.prog 60 (Z7 QX) bm (m+1) (D.put (Ze e.af) (.held (some (g,(B e.af).length+1,cap)))))(Z:u.grownBy u2 (some bm)):∃D' a1 B',GM (F++[e]) (F++[e]) w u2 bm bh (m+1) m2 D' D2 a1 B':=by
 have a6:∀x k,(QX (hd x)).ownBlock=some k->k≠bh:=by rintro x k J rfl;obtain⟨a0,Q⟩:=h.rows.cells J;obtain⟨es,c,Y,_⟩:=h.hm;rw[Q] at Y;cases Y
 have a2:g≠bm:=by
  rintro rfl;rcases E with E|E;·exact h.rows.ne E rfl
  have:=h.rows.map.lt;omega
 have X:Qd (λk=>k=bm\/(QX (hd e.af)).ownBlock=some k) wr u2:=ht.grown Z (λk I _=>by cases I;exact .inl rfl);have a4:((B e.af)++[e]).length=(B e.af).length+1:=by simp
 refine⟨_,_,_,{ le:=?_,le2:=h.le2,rows:=h.rows.put (x:=e.af) (a:=some (g,(B e.af).length+1,cap)) (l:=B e.af++[e]) a5 (by simp) ?_ ?_ ?_,gat:=?_,hm:=?_,ct:=h.ct,lo:=h.lo,bel:=?_ }⟩;·have:=h.le;simp;omega
 ·rw[a4,Zb,Xf];exact a7.kept Z (.inr (by simp[QX,Value.ownBlock];exact a2))
 ·intro y W;refine Yn (h.rows.rows y) X (λk I=>?_);rintro(rfl|j);·exact h.rows.ne I rfl
  exact h.rows.apart y e.af W k I j
 ·intro y W k I;have a3:k=g:=by simpa [QX,Value.ownBlock] using I.symm
  subst a3;intro j;rcases E with E|E;·exact h.rows.apart y e.af W k j E
  obtain⟨a0,Q⟩:=h.rows.cells j;have:=(Q5.1 Q).1;omega
 ·have:=SL h.gat J;refine λy=>?_;have:=this y;by_cases O:y=e.af;·simp only[Q7 O] at this |-;rw[O] at this |-;exact this
  simp only[Q6 O] at this |-;exact this
 ·refine Xo h.hm X ?_;rintro(j|j);·exact h.lo.2.2 j.symm
  exact a6 _ _ j rfl
 refine h.bel.trans (X.below h.bel.size (λx J U=>?_));rcases U with rfl|U;·have:=h.lo.1;omega
 have:=((h.rows.rows e.af).lt x U).1;omega
end
theorem SV(h:ByteArray)(w:World)(U:h.size<=1000000000)(j:ZD w):Calls Tryz.prog 193 #[.string h] w λe w'=>∃v O,e=.returned (.tuple #[v,O])/\w'.ownsRow w 9 1 v (Yx h.data.toList).length ((Yx h.data.toList).map Xr)/\Below w w w':=by
 have J:=(UK h).symm;have W:=(Jc h).symm;rcases hv:Lib.validD h.data.toList with _|_;·rw[J];refine(RG h.data.toList hv w (by omega) j).mono ?_;rintro e w' ⟨rfl,hb⟩;rw[Yw,P6 hv];exact⟨_,_,rfl,J8 _ _ _ _,hb⟩
 obtain⟨ps,I,E⟩:=B7 hv;rw[J,E];refine(RF ps I w (by rw[<-E];omega) j).mono ?_;rintro e w' ⟨v,rfl,Q,hb⟩;rw[Yw,Ev I];exact⟨_,_,rfl,Q,hb⟩
theorem Pi(x:Id):IntKind.i64.wrap (x.I+1)=(XM x).I:=by
 have:=x.hI;unfold Qu at this;unfold XM;dsimp only;split;·rename_i h;rw[h];rfl
 exact QO _ (by omega)
end
section
open Go Go.RowKit Go.Sort Go.Shelf
theorem G6:type_of% @enters_of:=@enters_of
theorem Fg{E:Type}[Inhabited E](enc:E->List Value)(k:Nat)(j:∀x,(enc x).length=k)(L:List E):flatK enc k L.toArray=(L.flatMap enc).toArray:=by
 refine Go.Sort.ext_get! (by simp[XG enc k j]) λt Q=>?_;have D:t<L.length*k:=by simpa using Q
 have U:0<k:=by
  rcases Dm k with h|h;·subst h;simp at D
  exact h
 have I:t / k<L.length:=Nat.div_lt_of_lt_mul (by rw[Nat.mul_comm];exact D);have hm:=Ug t U;have e:t / k*k+t % k=t:=by rw[Nat.mul_comm];exact Nat.div_add_mod t k
 have O:L=L.take (t / k)++L[t / k]::L.drop (t / k+1):=by rw[<-VL,XU]
 have h:=YJ enc k j (L.take (t / k)) (L.drop (t / k+1)) L[t / k] (t % k) ((enc L[t / k])[t % k]'(by rw[j];exact hm)) (X3 _);rw[<-O,Zi,JC (Xn I),e] at h;rw[get_flatK enc k _ t (by simpa using D)];have J:t<(L.flatMap enc).length:=by rw[XG enc k j];exact D
 rw[X3 J] at h;simp only[Dq] at h;rw[GU (L.flatMap enc).toArray t (by simpa using J),GU L.toArray (t / k) (by simpa using I)];simp only[List.getElem_toArray];rw[h,GU _ _ (by rw[j];exact hm)]
theorem BR{w:World}{g n:Nat}{os:Array Obj}{h:Array Value}{e:TypeId}{j:Nat×Nat}(F:Array Value)(hb:w.heap[g]?=some (.cells h e j)):(grow (putRow id (Sort.ahead w n) g 0 F) os).heap[g]?=some (.cells (putCells id 0 F h) e j):=by have D:=(Q5.1 hb).1;rw[heap_grow_old _ _ (by simpa using D)];simp[putRow,mapBlock,Sort.ahead,Vm,hb,onCells]
theorem Pm{B:Nat}{a w:World}{g n:Nat}{os:Array Obj}(F:Array Value)(h:Go.RowKit.Below B a w)(D:B<=g)(E:g<w):Go.RowKit.Below B a (grow (putRow id (Sort.ahead w n) g 0 F) os):=by
 refine⟨h.os,h.tape,h.output,?_,λk j=>?_⟩;·have:=h.size;simp;omega
 have:=h.size;rw[heap_grow_old _ _ (by simp;omega),<-h.block k j];have:g≠k:=by omega
 simp[putRow,mapBlock,Sort.ahead,Vm,this]
theorem BS(xs D R:List Value)(h:D.length=xs.length):putCells id 0 D.toArray (xs++R).toArray=(D++R).toArray:=by
 apply Array.ext_getElem?;intro j;by_cases E:j<D.length
 ·have:j<(xs++R).length:=by simp;omega
  simp[putCells,E,VK E];rw[X3 this];simp
 simp[putCells,JZ (show D.length<=j by omega),JZ (show xs.length<=j by omega),h];have I:¬j<xs.length:=by omega
 simp[I]
theorem Pn{E:Type}[Inhabited E]{lt:E->E->Bool}{d D:Array E}(hp:PermIn 0 d.size d D)(hs:SortedIn lt 0 d.size D):D.toList.Perm d.toList/\D.toList.Pairwise (λa b=>lt b a=false):=by
 obtain⟨Q,_,I⟩:=hp;refine⟨?_,?_⟩
 ·have J:D.extract 0 d.size=D:=by rw[<-Q];simp
  have O:d.extract 0 d.size=d:=by simp
  rw[J,O] at I;exact I
 rw[De];intro i j U Y X;have W:i<D.size:=by simpa using U
 have Z:j<D.size:=by simpa using Y
 have h:=hs i j (Qh _) X (by omega);rw[GU D i W,GU D j Z] at h;rw[Od,Od];exact h
theorem Ey{Q:Ren}{D:Type}[Inhabited D](L:SlLaysF0.n6 Tryz.prog Q)(k:Nat)(aE:∀w,(isAgg (Q.t 24)).run Tryz.prog w=.ok true w)(zE:∀w,(Go.sizeOf (Q.t 24)).run Tryz.prog w=.ok k w)(enc:D->List Value)(h:∀x,(enc x).length=k)(h1:∀x,∀v∈enc x,v.oneCell'=true)(E:D->D->Int)(hO:SWO (Go.Proofs.ltOf E))(g:Nat)(I:Array Value)(eg:∀args w,(callFunc g args).run Tryz.prog w=.ok (.enter g args) w)(UV:∀x y W,Calls Tryz.prog g (#[.agg (enc x).toArray,.agg (enc y).toArray]++I) W λe W'=>e=.returned (.int .i64 (E x y))/\Q0 W W')(xs:List D)(v:Value)(e:TypeId)(base:Nat)(w:World)(Y:w.ownsRow base e k v xs.length (xs.flatMap enc))(a6:xs.length<4611686018427387904):Calls Tryz.prog (Q.f 6) #[v,.func (.func g) #[] I] w λr w'=>r=.returned (.tuple #[])/\∃O:List D,O.Perm xs/\O.Pairwise (λa b=>¬E b a<0)/\w'.ownsRow base e k v O.length (O.flatMap enc)/\Go.RowKit.Below base w w':=by
 rcases Y.2 with⟨rfl,h0⟩|⟨U,cap,Z,rfl,hb,hg,a4,hm,hs,ht⟩;·have hx:=VJ h0;subst hx;refine(AnyF.slices_SortFunc_none L none 0 _ w).mono ?_;rintro r w' ⟨rfl,rfl⟩;exact⟨rfl,[],List.Perm.refl _,List.Pairwise.nil,Y,Qc _ _⟩
 have a0:=(Q5.1 hg).1;have hH:HoldsK enc k w U 0 xs.toArray:=by unfold HoldsK;rw[Fg enc k h];intro j hj;have a1:j<(xs.flatMap enc).length:=(by simpa using hj);have:=X8 Y j _ (X3 a1);rw[V7,GU _ j (by simpa using a1)];simpa using this
 have a7:xs.toArray.size<4611686018427387904:=by simpa using a6
 have hc:CmpLays Tryz.prog g I enc k E U 0 xs.toArray.size w:=λm os dk _ x y=>UV x y _;have hS:=AnyQ.slices_SortFunc L k aE zE enc h h1 E hO g I U 0 cap xs.toArray w eg hc hH a0 a7;rw[Ke] at hS;refine hS.mono ?_;rintro r w' ⟨rfl,J,n,os,hp,a5,rfl⟩;obtain⟨p1,p2⟩:=Pn (d:=xs.toArray) (by simpa using hp) (by simpa using a5);have X:=p1.length_eq;obtain⟨R,hR⟩:∃R,Z=(xs.flatMap enc++R).toArray:=⟨Z.toList.drop (xs.length*k),by rw[<-ht,XU]⟩;subst hR;have hF:flatK enc k J=(J.toList.flatMap enc).toArray:=by rw[<-Fg enc k h]
 refine⟨rfl,J.toList,p1,?_,?_,?_⟩;·refine p2.imp ?_;intro a b a3;exact UC a3
 ·unfold sortWorldK putRowK;rw[hF,X];have a2:(J.toList.flatMap enc).length=(xs.flatMap enc).length:=(by rw[XG enc k h,XG enc k h,X]);refine DO (R:=R) ?_ hb a4 hm (by rw[BR _ hg,BS _ _ _ a2]) ?_;·rw[XG enc k h,X]
  rw[Qj,a2,<-Qj];simpa using hs
 unfold sortWorldK putRowK;exact Pm _ (Qc _ _) hb a0
theorem T1:SWO (Go.Proofs.ltOf Q4.cmp) where
 irrefl x:=by
  rcases h:Go.Proofs.ltOf Q4.cmp x x with _|_;·rfl
  exact absurd ((Vq x x).1 (Y0 h)) (YE.irrefl x)
 trans x y z h1 h2:=by refine QF ((Vq x z).2 ?_);exact YE.trans _ _ _ ((Vq x y).1 (Y0 h1)) ((Vq y z).1 (Y0 h2))
 ntrans x y z h1 h2:=by
  have D:=λh=>UC h1 ((Vq x y).2 h);have j:=λh=>UC h2 ((Vq y z).2 h);refine Zo (λh=>?_);have h:=(Vq x z).1 h;rcases YE.total x y with t|t|t;·exact D t
  ·subst t;exact j h
  exact j (YE.trans _ _ _ t h)
theorem Ez:SWO (Go.Proofs.ltOf Id.cmp) where
 irrefl x:=by
  rcases h:Go.Proofs.ltOf Id.cmp x x with _|_;·rfl
  exact absurd ((XV x x).1 (Y0 h)) (Zv.irrefl x)
 trans x y z h1 h2:=by refine QF ((XV x z).2 ?_);exact Zv.trans _ _ _ ((XV x y).1 (Y0 h1)) ((XV y z).1 (Y0 h2))
 ntrans x y z h1 h2:=by
  have D:=λh=>UC h1 ((XV x y).2 h);have j:=λh=>UC h2 ((XV y z).2 h);refine Zo (λh=>?_);have h:=(XV x z).1 h;rcases Zv.total x y with t|t|t;·exact D t
  ·subst t;exact j h
  exact j (Zv.trans _ _ _ t h)
theorem EA{E j:Type}{D:j->j->Int}(h:SWO (Go.Proofs.ltOf D))(f:E->j):SWO (Go.Proofs.ltOf λa b=>D (f a) (f b)) where
 irrefl x:=h.irrefl (f x)
 trans x y z:=h.trans (f x) (f y) (f z)
 ntrans x y z:=h.ntrans (f x) (f y) (f z)
theorem BT(x:Q4):∀u∈Qv x,u.oneCell'=true:=by intro u h;simp[Qv] at h;rcases h with rfl|rfl<;>rfl
theorem Po(x:Id):∀u∈Qe x,u.oneCell'=true:=by intro u h;simp[Qe] at h;rcases h with rfl|rfl|rfl<;>rfl
instance : Inhabited Q4:=⟨⟨0,0,by decide,by decide⟩⟩
instance : Inhabited Id:=⟨⟨default,0,by decide⟩⟩
theorem BU(xs:List Id)(v:Value)(base:Nat)(w:World)(j:w.ownsRow base 60 3 v xs.length (xs.flatMap Qe))(D:xs.length<4611686018427387904):Calls Tryz.prog 42 #[v,.func (.func 43) #[] #[]] w λr w'=>r=.returned (.tuple #[])/\∃h:List Id,h.Perm xs/\h.Pairwise (λa b=>¬b.cmp a<0)/\w'.ownsRow base 60 3 v h.length (h.flatMap Qe)/\Go.RowKit.Below base w w':=
 Ey Tryz.laysSlF06_f42 3 Tryz.isAgg60 Tryz.sizeOf60 Qe (λ_=>rfl) Po Id.cmp Ez 43 #[] (G6 Tryz.func43 (by kernel_rfl) rfl) (λx y W=>GX x y W) xs v 60 base w j D
theorem T2{w:World}{g n:Nat}{os:Array Obj}(F:Array Value):w.grownBy (grow (putRow id (Sort.ahead w n) g 0 F) os) (some g):=by
 refine⟨rfl,rfl,rfl,?_,λk j h=>?_⟩;·simp
 rw[heap_grow_old _ _ (by simp;omega)];have:g≠k:=λe=>h (by rw[e]);simp[putRow,mapBlock,Sort.ahead,Vm,this]
theorem Pp{Q:Ren}{D:Type}[Inhabited D](L:SlLaysF0.n6 Tryz.prog Q)(k:Nat)(aE:∀w,(isAgg (Q.t 24)).run Tryz.prog w=.ok true w)(zE:∀w,(Go.sizeOf (Q.t 24)).run Tryz.prog w=.ok k w)(enc:D->List Value)(h:∀x,(enc x).length=k)(h1:∀x,∀v∈enc x,v.oneCell'=true)(E:D->D->Int)(hO:SWO (Go.Proofs.ltOf E))(g:Nat)(I:Array Value)(eg:∀args w,(callFunc g args).run Tryz.prog w=.ok (.enter g args) w)(UV:∀x y W,Calls Tryz.prog g (#[.agg (enc x).toArray,.agg (enc y).toArray]++I) W λe W'=>e=.returned (.int .i64 (E x y))/\Q0 W W')(xs:List D)(v:Value)(e:TypeId)(base:Nat)(w:World)(Y:w.ownsRow base e k v xs.length (xs.flatMap enc))(a6:xs.length<4611686018427387904):Calls Tryz.prog (Q.f 6) #[v,.func (.func g) #[] I] w λr w'=>r=.returned (.tuple #[])/\∃O:List D,O.Perm xs/\O.Pairwise (λa b=>¬E b a<0)/\w'.ownsRow base e k v O.length (O.flatMap enc)/\w.grownBy w' v.ownBlock:=by
 rcases Y.2 with⟨rfl,h0⟩|⟨U,cap,Z,rfl,hb,hg,a4,hm,hs,ht⟩;·have hx:=VJ h0;subst hx;refine(AnyF.slices_SortFunc_none L none 0 _ w).mono ?_;rintro r w' ⟨rfl,rfl⟩;exact⟨rfl,[],List.Perm.refl _,List.Pairwise.nil,Y,⟨rfl,rfl,rfl,Q3 _,λ_ _ _=>rfl⟩⟩
 have a3:=(Q5.1 hg).1;have hH:HoldsK enc k w U 0 xs.toArray:=by unfold HoldsK;rw[Fg enc k h];intro j hj;have a0:j<(xs.flatMap enc).length:=(by simpa using hj);have:=X8 Y j _ (X3 a0);rw[V7,GU _ j (by simpa using a0)];simpa using this
 have a7:xs.toArray.size<4611686018427387904:=by simpa using a6
 have hc:CmpLays Tryz.prog g I enc k E U 0 xs.toArray.size w:=λm os dk _ x y=>UV x y _;have hS:=AnyQ.slices_SortFunc L k aE zE enc h h1 E hO g I U 0 cap xs.toArray w eg hc hH a3 a7;rw[Ke] at hS;refine hS.mono ?_;rintro r w' ⟨rfl,J,n,os,hp,a5,rfl⟩;obtain⟨p1,p2⟩:=Pn (d:=xs.toArray) (by simpa using hp) (by simpa using a5);have X:=p1.length_eq;obtain⟨R,hR⟩:∃R,Z=(xs.flatMap enc++R).toArray:=⟨Z.toList.drop (xs.length*k),by rw[<-ht,XU]⟩;subst hR;have hF:flatK enc k J=(J.toList.flatMap enc).toArray:=by rw[<-Fg enc k h]
 refine⟨rfl,J.toList,p1,?_,?_,?_⟩;·refine p2.imp ?_;intro a b a2;exact UC a2
 ·unfold sortWorldK putRowK;rw[hF,X];have a1:(J.toList.flatMap enc).length=(xs.flatMap enc).length:=(by rw[XG enc k h,XG enc k h,X]);refine DO (R:=R) ?_ hb a4 hm (by rw[BR _ hg,BS _ _ _ a1]) ?_;·rw[XG enc k h,X]
  rw[Qj,a1,<-Qj];simpa using hs
 unfold sortWorldK putRowK;exact T2 _
instance : Inhabited El:=⟨⟨Qf,Qf,⟨#[]⟩⟩⟩
theorem T4(a b:El)(w:World):Calls Tryz.prog 195 #[.agg (QM a).toArray,.agg (QM b).toArray] w λe w'=>e=.returned (.int .i64 (a.id.cmp b.id))/\Q0 w w':=by have H:=Ki (λW=>GX a.id b.id W);unfold Qa at H;unfold QM;go_enter Tryz.func195,Tryz.ntmps195;go_wp2_with fail;refine(H.o _).mono ?_;rintro e j ⟨rfl,h⟩;go_wp2;go_ret;exact⟨rfl,(((Q0.refl w).alloc _).alloc _).trans h⟩
theorem T5(xs:List El)(v:Value)(base:Nat)(w:World)(j:w.ownsRow base 205 4 v xs.length (xs.flatMap QM))(D:xs.length<4611686018427387904):Calls Tryz.prog 194 #[v,.func (.func 195) #[] #[]] w λr w'=>r=.returned (.tuple #[])/\∃h:List El,h.Perm xs/\h.Pairwise (λa b=>¬b.id.cmp a.id<0)/\w'.ownsRow base 205 4 v h.length (h.flatMap QM)/\w.grownBy w' v.ownBlock:=
 Pp Tryz.laysSlF06_f194 4 Tryz.isAgg205 Tryz.sizeOf205 QM (λ_=>rfl) BK (λa b=>a.id.cmp b.id) (EA Ez El.id) 195 #[] (G6 Tryz.func195 (by kernel_rfl) rfl) (λx y W=>T4 x y W) xs v 205 base w j D
end
end Go.Proofs.YtfpafikfjjckeaaGreatDoor
