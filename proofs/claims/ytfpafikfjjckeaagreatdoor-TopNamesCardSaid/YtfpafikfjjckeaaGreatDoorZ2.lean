import Derived.Test.YtfpafikfjjckeaaGreatDoorChecked
import Derived.Shelf.Unicode.WordAny
import Derived.Shelf.SlGeneric
import Derived.Ground.SlgnProg
import Derived.Ground.SlsfProg
import Derived.Shelf.SlSortCmp.WholeK
import Derived.Shelf.SlicesQ.Reverse
import Derived.Shelf.Strings.BuilderK
import Derived.Shelf.Unicode.ValidAny
import Derived.Shelf.Strings.OnBuilder
import Derived.Shelf.Utf8.RuneCount
import Derived.Shelf.Strings.SlTrimAscii
import Derived.Shelf.Small.Strs
import Derived.Shelf.Strconv.Itoa0
import Derived.Shelf.Strconv.Itoa2
import Derived.Shelf.Strconv.Itoa3
import Derived.Deep.WholeRow
import Derived.Test.YtfpafikfjjckeaaGreatDoorZ1
set_option maxRecDepth 100000
set_option maxHeartbeats 200000000
namespace Go.Proofs.YtfpafikfjjckeaaGreatDoor
section
open Go.RowKit Go.Lib
def Yl(m b0 b1 b2 h:Nat):Option Nat:=
 if b0<128 then some 1
 else if 194<=b0/\b0<224 then (if m<2\/b1<128\/192<=b1 then none else some 2)
 else if 224<=b0/\b0<240 then (if m<3\/b1<128\/192<=b1\/b2<128\/192<=b2 then none
  else if (b0-224)*4096+(b1-128)*64+(b2-128)<2048\/(55296<=(b0-224)*4096+(b1-128)*64+(b2-128)/\(b0-224)*4096+(b1-128)*64+(b2-128)<57344) then none else some 3)
 else if 240<=b0/\b0<245 then (if m<4\/b1<128\/192<=b1\/b2<128\/192<=b2\/h<128\/192<=h then none
  else if (b0-240)*262144+(b1-128)*4096+(b2-128)*64+(h-128)<65536\/1114111<(b0-240)*262144+(b1-128)*4096+(b2-128)*64+(h-128) then none else some 4)
 else none
theorem Rr(m b0 b1 b2 h:Nat)(h0:b0<256)(h1:b1<256)(h2:b2<256)(h3:h<256):Yl m b0 b1 b2 h=if (decodeN m b0 b1 b2 h).1=65533/\(decodeN m b0 b1 b2 h).2=1 then none else some (decodeN m b0 b1 b2 h).2:=by
 unfold Yl;by_cases U:b0<128
 ·have e:decodeN m b0 b1 b2 h=(b0,1):=by unfold decodeN;rw[Q7 U]
  rw[Q7 U,e];dsimp only;rw[Q6 (by omega)]
 rw[Q6 U];have Q:decodeN m b0 b1 b2 h=(65533,1)->(none:Option Nat)=if (decodeN m b0 b1 b2 h).1=65533/\(decodeN m b0 b1 b2 h).2=1 then none else some (decodeN m b0 b1 b2 h).2:=by intro e;rw[e,Q7 ⟨rfl,rfl⟩]
 have a0:∀c n,decodeN m b0 b1 b2 h=(c,n)->n≠1->some n=if (decodeN m b0 b1 b2 h).1=65533/\(decodeN m b0 b1 b2 h).2=1 then none else some (decodeN m b0 b1 b2 h).2:=by intro c n e hn;rw[e,Q6 (by intro a1;exact hn a1.2)]
 have W:=decodeN_shape m b0 b1 b2 h;by_cases c1:194<=b0/\b0<224
 ·rw[Q7 c1];by_cases O:m<2\/b1<128\/192<=b1;·rw[Q7 O];refine Q ?_;rcases W with⟨c,e⟩|⟨j,D,E,I,e⟩|⟨j,D,E,J,I,Z,e⟩|⟨j,D,E,J,Y,I,ew,e⟩|e;all_goals first|exact e|(exfalso;omega)
  rw[Q6 O];refine a0 (b0 % 32*64+b1 % 64) 2 ?_ (by omega);unfold decodeN;rw[Q6 U,Q7 (by omega),Q7 (by omega)]
 rw[Q6 c1];by_cases c2:224<=b0/\b0<240
 ·rw[Q7 c2];by_cases O:m<3\/b1<128\/192<=b1\/b2<128\/192<=b2;·rw[Q7 O];refine Q ?_;rcases W with⟨c,e⟩|⟨j,D,E,I,e⟩|⟨j,D,E,J,I,Z,e⟩|⟨j,D,E,J,Y,I,ew,e⟩|e;all_goals first|exact e|(exfalso;omega)
  rw[Q6 O];by_cases X:(b0-224)*4096+(b1-128)*64+(b2-128)<2048\/(55296<=(b0-224)*4096+(b1-128)*64+(b2-128)/\(b0-224)*4096+(b1-128)*64+(b2-128)<57344);·rw[Q7 X];refine Q ?_;rcases W with⟨c,e⟩|⟨j,D,E,I,e⟩|⟨j,D,E,J,I,Z,e⟩|⟨j,D,E,J,Y,I,ew,e⟩|e;all_goals first|exact e|(exfalso;omega)
  rw[Q6 X];refine a0 (b0 % 16*4096+b1 % 64*64+b2 % 64) 3 ?_ (by omega);unfold decodeN;rw[Q6 U,Q6 (by omega),Q7 (by omega),Q7 (by omega)]
 rw[Q6 c2];by_cases c3:240<=b0/\b0<245
 ·rw[Q7 c3];by_cases O:m<4\/b1<128\/192<=b1\/b2<128\/192<=b2\/h<128\/192<=h;·rw[Q7 O];refine Q ?_;rcases W with⟨c,e⟩|⟨j,D,E,I,e⟩|⟨j,D,E,J,I,Z,e⟩|⟨j,D,E,J,Y,I,ew,e⟩|e;all_goals first|exact e|(exfalso;omega)
  rw[Q6 O];by_cases X:(b0-240)*262144+(b1-128)*4096+(b2-128)*64+(h-128)<65536\/1114111<(b0-240)*262144+(b1-128)*4096+(b2-128)*64+(h-128);·rw[Q7 X];refine Q ?_;rcases W with⟨c,e⟩|⟨j,D,E,I,e⟩|⟨j,D,E,J,I,Z,e⟩|⟨j,D,E,J,Y,I,ew,e⟩|e;all_goals first|exact e|(exfalso;omega)
  rw[Q6 X];refine a0 (b0 % 8*262144+b1 % 64*4096+b2 % 64*64+h % 64) 4 ?_ (by omega);unfold decodeN;rw[Q6 U,Q6 (by omega),Q6 (by omega),Q7 (by omega),Q7 (by omega)]
 rw[Q6 c3];refine Q ?_;rcases W with⟨c,e⟩|⟨j,D,E,I,e⟩|⟨j,D,E,J,I,Z,e⟩|⟨j,D,E,J,Y,I,ew,e⟩|e;all_goals first|exact e|(exfalso;omega)
def Y1(r:Option Nat)(e:Ending):Prop:=(r=none/\e=.returned (.tuple #[(0:Int),(0:Int),.bool false]))\/(∃n:Nat,r=some n/\∃c,e=.returned (.tuple #[c,n,.bool true]))
theorem Y1.no{r:Option Nat}(h:r=none):Y1 r (.returned (.tuple #[(0:Int),(0:Int),.bool false])):=.inl ⟨h,rfl⟩
theorem Y1.yes{r:Option Nat}{n:Nat}{c:Int}(h:r=some n):Y1 r (.returned (.tuple #[c,n,.bool true])):=.inr ⟨n,h,c,rfl⟩
def Ba(j h D:Nat)(c i:Value):Prop:=
 (i=.int .i64 1/\c=.int .i64 ((j:Int)-224))\/(i=.int .i64 2/\c=.int .i64 (((j:Int)-224)*64+h-128)/\128<=h/\h<192) \/
 (i=.int .i64 3/\c=.int .i64 ((((j:Int)-224)*64+h-128)*64+D-128)/\128<=h/\h<192/\128<=D/\D<192)
theorem Rs(s:ByteArray)(w:World)(hs:s.size<=9223372036854775807)(D h j:UInt8)(h2:2<s.size)(e0:s[0]'(by omega)=D)(e1:s[1]'(by omega)=h)(e2:s[2]'(by omega)=j)(g0:224<=D.toNat)(g1:D.toNat<240)(X:Nat):Calls Tryz.prog 209 #[.string s] w λe w'=>Y1 (Yl s.size D.toNat h.toNat j.toNat X) e/\w=w':=by
 have k1:=h.toNat_lt;have k2:=j.toNat_lt
 have U:Yl s.size D.toNat h.toNat j.toNat X=(if h.toNat<128\/192<=h.toNat\/j.toNat<128\/192<=j.toNat then none
   else if (D.toNat-224)*4096+(h.toNat-128)*64+(j.toNat-128)<2048\/(55296<=(D.toNat-224)*4096+(h.toNat-128)*64+(j.toNat-128)/\(D.toNat-224)*4096+(h.toNat-128)*64+(j.toNat-128)<57344) then none else some 3):=by
  unfold Yl
  rw[Q6 (by omega),Q6 (by omega),Q7 ⟨g0,g1⟩]
  by_cases c:h.toNat<128\/192<=h.toNat\/j.toNat<128\/192<=j.toNat
  ·rw[Q7 c,Q7 (by omega)]
  ·rw[Q6 c,Q6 (by omega)]
 obtain⟨R,Y⟩:=ex (Yl s.size D.toNat h.toNat j.toNat X);rw[Y] at U |-;clear Y;have E:=Ki U;clear U;have z0:0<s.size:=by omega
 have z1:1<s.size:=by omega
 go_enter Tryz.func209,Tryz.ntmps209;go_wp2;go_loop [7,8] (λc i=>Ba D.toNat h.toNat j.toNat c i) (λ_ i=>4-(RowKit.intOf i).toNat);case atStart=>exact .inl ⟨rfl,rfl⟩
 case round=>
  rcases hrel with⟨rfl,rfl⟩|⟨rfl,rfl,Z,q2⟩|⟨rfl,rfl,Z,q2,q3,q4⟩
  ·by_cases c:h.toNat<128\/192<=h.toNat;·have I:R=none:=(by rw[E.o,Q7 (by omega)]);have J:=Ki I;clear I E;rcases c with c|c;all_goals go_wp2;go_ret3;exact⟨Y1.no J.o,rfl⟩
   have O:128<=h.toNat:=(by omega);have Q:h.toNat<192:=(by omega);clear c;go_wp2;go_round;case rel=>exact⟨_,_,_,_,_,(.inr (.inl ⟨rfl,rfl,O,Q⟩):Ba _ _ _ _ _),rfl,rfl,rfl,rfl,rfl⟩
   case measure=>simp[RowKit.intOf]
  ·by_cases c:j.toNat<128\/192<=j.toNat;·have I:R=none:=(by rw[E.o,Q7 (by omega)]);have J:=Ki I;clear I E;rcases c with c|c;all_goals go_wp2;go_ret3;exact⟨Y1.no J.o,rfl⟩
   have O:128<=j.toNat:=(by omega);have Q:j.toNat<192:=(by omega);clear c;go_wp2;go_round;case rel=>exact⟨_,_,_,_,_,(.inr (.inr ⟨rfl,rfl,Z,q2,O,Q⟩):Ba _ _ _ _ _),rfl,rfl,rfl,rfl,rfl⟩
   case measure=>simp[RowKit.intOf]
  have W:=E.o;rw[Q6 (by omega)] at W;clear E;have E:=Ki W;clear W;go_wp2;all_goals go_ret3
  all_goals first
   |exact⟨Y1.no (by rw[E.o,Q7 (by omega)]),rfl⟩
   |exact⟨Y1.yes (n:=3) (by rw[E.o,Q6 (by omega)]),rfl⟩
def Oh(j h:Nat)(c i:Value):Prop:=
 (i=.int .i64 1/\c=.int .i64 ((j:Int)-192))\/(i=.int .i64 2/\c=.int .i64 (((j:Int)-192)*64+h-128)/\128<=h/\h<192)
theorem Rt(s:ByteArray)(w:World)(hs:s.size<=9223372036854775807)(j h:UInt8)(h2:1<s.size)(e0:s[0]'(by omega)=j)(Z:s[1]'(by omega)=h)(g0:194<=j.toNat)(g1:j.toNat<224)(J O:Nat):Calls Tryz.prog 209 #[.string s] w λe w'=>Y1 (Yl s.size j.toNat h.toNat J O) e/\w=w':=by
 have k1:=h.toNat_lt
 have E:Yl s.size j.toNat h.toNat J O=(if h.toNat<128\/192<=h.toNat then none else some 2):=by
  unfold Yl;rw[Q6 (by omega),Q7 (by omega)];by_cases c:h.toNat<128\/192<=h.toNat;·rw[Q7 c,Q7 (by omega)]
  rw[Q6 c,Q6 (by omega)]
 obtain⟨R,Q⟩:=ex (Yl s.size j.toNat h.toNat J O);rw[Q] at E |-;clear Q;have D:=Ki E;clear E;have z0:0<s.size:=by omega
 go_enter Tryz.func209,Tryz.ntmps209;go_wp2;go_loop [7,8] (λc i=>Oh j.toNat h.toNat c i) (λ_ i=>4-(RowKit.intOf i).toNat);case atStart=>exact .inl ⟨rfl,rfl⟩
 case round=>
  rcases hrel with⟨rfl,rfl⟩|⟨rfl,rfl,q1,q2⟩
  ·by_cases c:h.toNat<128\/192<=h.toNat;·have U:R=none:=(by rw[D.o,Q7 (by omega)]);have W:=Ki U;clear U D;rcases c with c|c;all_goals go_wp2;go_ret3;exact⟨Y1.no W.o,rfl⟩
   have X:128<=h.toNat:=(by omega);have Y:h.toNat<192:=(by omega);clear c;go_wp2;go_round;case rel=>exact⟨_,_,_,_,_,(.inr ⟨rfl,rfl,X,Y⟩:Oh _ _ _ _),rfl,rfl,rfl,rfl,rfl⟩
   case measure=>simp[RowKit.intOf]
  have I:=D.o;rw[Q6 (by omega)] at I;clear D;have D:=Ki I;clear I;go_wp2;all_goals go_ret3
  all_goals exact⟨Y1.yes (n:=2) D.o,rfl⟩
def DI(D h j E:Nat)(c i:Value):Prop:=
 (i=.int .i64 1/\c=.int .i64 ((D:Int)-240))\/(i=.int .i64 2/\c=.int .i64 (((D:Int)-240)*64+h-128)/\128<=h/\h<192) \/
 (i=.int .i64 3/\c=.int .i64 ((((D:Int)-240)*64+h-128)*64+j-128)/\128<=h/\h<192/\128<=j/\j<192) \/
 (i=.int .i64 4/\c=.int .i64 (((((D:Int)-240)*64+h-128)*64+j-128)*64+E-128)/\128<=h/\h<192/\128<=j/\j<192/\128<=E/\E<192)
theorem Ru(s:ByteArray)(w:World)(hs:s.size<=9223372036854775807)(I h j D:UInt8)(h2:3<s.size)(e0:s[0]'(by omega)=I)(e1:s[1]'(by omega)=h)(e2:s[2]'(by omega)=j)(e3:s[3]'(by omega)=D)(g0:240<=I.toNat)(g1:I.toNat<245):Calls Tryz.prog 209 #[.string s] w λe w'=>Y1 (Yl s.size I.toNat h.toNat j.toNat D.toNat) e/\w=w':=by
 have k1:=h.toNat_lt;have k2:=j.toNat_lt;have k3:=D.toNat_lt
 have Y:Yl s.size I.toNat h.toNat j.toNat D.toNat=(if h.toNat<128\/192<=h.toNat\/j.toNat<128\/192<=j.toNat\/D.toNat<128\/192<=D.toNat then none
   else if (I.toNat-240)*262144+(h.toNat-128)*4096+(j.toNat-128)*64+(D.toNat-128)<65536\/1114111<(I.toNat-240)*262144+(h.toNat-128)*4096+(j.toNat-128)*64+(D.toNat-128) then none else some 4):=by
  unfold Yl
  rw[Q6 (by omega),Q6 (by omega),Q6 (by omega),Q7 ⟨g0,g1⟩]
  by_cases c:h.toNat<128\/192<=h.toNat\/j.toNat<128\/192<=j.toNat\/D.toNat<128\/192<=D.toNat
  ·rw[Q7 c,Q7 (by omega)]
  ·rw[Q6 c,Q6 (by omega)]
 obtain⟨R,hR⟩:=ex (Yl s.size I.toNat h.toNat j.toNat D.toNat);rw[hR] at Y |-;clear hR;have E:=Ki Y;clear Y;have z0:0<s.size:=by omega
 have z1:1<s.size:=by omega
 have z2:2<s.size:=by omega
 go_enter Tryz.func209,Tryz.ntmps209;go_wp2;go_loop [7,8] (λc i=>DI I.toNat h.toNat j.toNat D.toNat c i) (λ_ i=>6-(RowKit.intOf i).toNat);case atStart=>exact .inl ⟨rfl,rfl⟩
 case round=>
  rcases hrel with⟨rfl,rfl⟩|⟨rfl,rfl,W,X⟩|⟨rfl,rfl,W,X,q3,q4⟩|⟨rfl,rfl,W,X,q3,q4,q5,q6⟩
  ·by_cases c:h.toNat<128\/192<=h.toNat;·have J:R=none:=(by rw[E.o,Q7 (by omega)]);have O:=Ki J;clear J E;rcases c with c|c;all_goals go_wp2;go_ret3;exact⟨Y1.no O.o,rfl⟩
   have Q:128<=h.toNat:=(by omega);have U:h.toNat<192:=(by omega);clear c;go_wp2;go_round;case rel=>exact⟨_,_,_,_,_,(.inr (.inl ⟨rfl,rfl,Q,U⟩):DI _ _ _ _ _ _),rfl,rfl,rfl,rfl,rfl⟩
   case measure=>simp[RowKit.intOf]
  ·by_cases c:j.toNat<128\/192<=j.toNat;·have J:R=none:=(by rw[E.o,Q7 (by omega)]);have O:=Ki J;clear J E;rcases c with c|c;all_goals go_wp2;go_ret3;exact⟨Y1.no O.o,rfl⟩
   have Q:128<=j.toNat:=(by omega);have U:j.toNat<192:=(by omega);clear c;go_wp2;go_round;case rel=>exact⟨_,_,_,_,_,(.inr (.inr (.inl ⟨rfl,rfl,W,X,Q,U⟩)):DI _ _ _ _ _ _),rfl,rfl,rfl,rfl,rfl⟩
   case measure=>simp[RowKit.intOf]
  ·by_cases c:D.toNat<128\/192<=D.toNat;·have J:R=none:=(by rw[E.o,Q7 (by omega)]);have O:=Ki J;clear J E;rcases c with c|c;all_goals go_wp2;go_ret3;exact⟨Y1.no O.o,rfl⟩
   have Q:128<=D.toNat:=(by omega);have U:D.toNat<192:=(by omega);clear c;go_wp2;go_round;case rel=>exact⟨_,_,_,_,_,(.inr (.inr (.inr ⟨rfl,rfl,W,X,q3,q4,Q,U⟩)):DI _ _ _ _ _ _),rfl,rfl,rfl,rfl,rfl⟩
   case measure=>simp[RowKit.intOf]
  have Z:=E.o;rw[Q6 (by omega)] at Z;clear E;have E:=Ki Z;clear Z;go_wp2;all_goals go_ret3
  all_goals first
   |exact⟨Y1.no (by rw[E.o,Q7 (by omega)]),rfl⟩
   |exact⟨Y1.yes (n:=4) (by rw[E.o,Q6 (by omega)]),rfl⟩
theorem Rv(s:ByteArray)(w:World)(_hs:s.size<=9223372036854775807)(h:UInt8)(O:0<s.size)(e0:s[0]'(by omega)=h)(J:h.toNat<128)(D E I:Nat):Calls Tryz.prog 209 #[.string s] w λe w'=>Y1 (Yl s.size h.toNat D E I) e/\w=w':=by
 have j:Yl s.size h.toNat D E I=some 1:=by unfold Yl;rw[Q7 J]
 rw[j];clear j;go_enter Tryz.func209,Tryz.ntmps209;go_wp2;go_ret3;exact⟨Y1.yes (n:=1) rfl,rfl⟩
theorem Rw(s:ByteArray)(w:World)(Z:s.size<=9223372036854775807)(h:UInt8)(Y:0<s.size)(e0:s[0]'(by omega)=h)(U W X:Nat)(g:(128<=h.toNat/\h.toNat<194)\/245<=h.toNat\/(194<=h.toNat/\h.toNat<224/\s.size<2)\/(224<=h.toNat/\h.toNat<240/\s.size<3)\/(240<=h.toNat/\h.toNat<245/\s.size<4)):Calls Tryz.prog 209 #[.string s] w λe w'=>Y1 (Yl s.size h.toNat U W X) e/\w=w':=by
 have Q:Yl s.size h.toNat U W X=none:=by
  unfold Yl;rw[Q6 (by omega)];by_cases E:194<=h.toNat/\h.toNat<224;·rw[Q7 E,Q7 (by omega)]
  rw[Q6 E];by_cases I:224<=h.toNat/\h.toNat<240;·rw[Q7 I,Q7 (by omega)]
  rw[Q6 I];by_cases J:240<=h.toNat/\h.toNat<245;·rw[Q7 J,Q7 (by omega)]
  rw[Q6 J]
 rw[Q];clear Q;have k0:=h.toNat_lt;rcases g with⟨j,D⟩|j|⟨j,D,O⟩|⟨j,D,O⟩|⟨j,D,O⟩;all_goals go_enter Tryz.func209,Tryz.ntmps209;go_wp2;go_ret3;exact⟨Y1.no rfl,rfl⟩
theorem VP(s:ByteArray)(i:Nat)(h:i<s.size):s[i]'h=s.data.toList.getD i 0:=by rw[getD_get!'];exact(Utf8W.get!_of_lt s i h).symm
theorem Rx(s:ByteArray)(w:World)(h:s.size<=9223372036854775807)(I:0<s.size):Calls Tryz.prog 209 #[.string s] w λe w'=>Y1 (if Vo s.data.toList then none else some (decodeL s.data.toList).2) e/\w=w':=by
 have b:=λi=>(s.data.toList.getD i 0).toNat_lt;have O:(if Vo s.data.toList then none else some (decodeL s.data.toList).2)=Yl s.size (s.data.toList.getD 0 0).toNat (s.data.toList.getD 1 0).toNat (s.data.toList.getD 2 0).toNat (s.data.toList.getD 3 0).toNat:=by rw[Rr _ _ _ _ _ (b 0) (b 1) (b 2) (b 3),size_eq,<-decodeL_N];rfl
 rw[O];have Q:=b 0;by_cases J:(s.data.toList.getD 0 0).toNat<128;·exact Rv s w h _ I (VP s 0 _) J _ _ _
 by_cases j:194<=(s.data.toList.getD 0 0).toNat/\(s.data.toList.getD 0 0).toNat<224/\1<s.size;·exact Rt s w h _ _ j.2.2 (VP s 0 _) (VP s 1 _) j.1 j.2.1 _ _
 by_cases D:224<=(s.data.toList.getD 0 0).toNat/\(s.data.toList.getD 0 0).toNat<240/\2<s.size;·exact Rs s w h _ _ _ D.2.2 (VP s 0 _) (VP s 1 _) (VP s 2 _) D.1 D.2.1 _
 by_cases E:240<=(s.data.toList.getD 0 0).toNat/\(s.data.toList.getD 0 0).toNat<245/\3<s.size;·exact Ru s w h _ _ _ _ E.2.2 (VP s 0 _) (VP s 1 _) (VP s 2 _) (VP s 3 _) E.1 E.2.1
 exact Rw s w h _ I (VP s 0 _) _ _ _ (by omega)
end
section
open Go.RowKit
theorem DL{a b:Bool}(h:a=b):Ending.returned (.bool a)=Ending.returned (.bool b):=by rw[h]
theorem Bb(j:List (List UInt8))(k:Nat)(h:k<j.length):(j.take (k+1)).flatten=(j.take k).flatten++j[k]:=by rw[QQ h,E5];simp
theorem Ok(h:List (List UInt8))(k:Nat):(h.take k).flatten.length<=h.flatten.length:=by
 have:h.flatten=(h.take k).flatten++(h.drop k).flatten:=by rw[<-E5,XU]
 rw[this,Qj];omega
theorem Ol:(Tryz.prog.info? 9).map (λi=>(i.zero,i.size,i.bytes))=some (some (.string ⟨#[]⟩),1,16):=by kernel_rfl
def Om:Value->Nat|.string b=>b.size|_=>0
def Oo(l:List UInt8)(w:World)(e:Ending)(w':World):Prop:=
 (∃ps v,Zg ps/\l=ps.flatten/\e=.returned (.tuple #[v,(0:Int)])/\w'.ownsRow w 9 1 v ps.length (ps.map Xr)/\Below w w w') \/
 (Lib.validD l=false/\e=.returned (.tuple #[.slice none 0 0,(60:Int)])/\Below w w w')
def Bc(l:List UInt8)(w:World)(s v:Value)(wr:World)(m:Nat):Prop:=
 ∃ps rest,Zg ps/\l=ps.flatten++rest/\Lib.validD rest=Lib.validD l/\s=Xr rest/\m=rest.length/\wr.ownsRow w 9 1 v ps.length (ps.map Xr)/\Below w w wr
theorem Bc.stop{l:List UInt8}{w wr:World}{v:Value}{ps:List (List UInt8)}(h:Zg ps)(j:l=ps.flatten++[])(D:wr.ownsRow w 9 1 v ps.length (ps.map Xr))(E:Below w w wr):Oo l w (.returned (.tuple #[v,(0:Int)])) wr:=.inl ⟨ps,v,h,by simpa using j,rfl,D,E⟩
theorem Rz{rest:List UInt8}:(Q8 rest).extract 0 (Lib.decodeL rest).2=Q8 (rest.take (Lib.decodeL rest).2):=by rw[Ej];simp
theorem RA{rest:List UInt8}(n:Nat):(Q8 rest).extract n (Q8 rest).size=Q8 (rest.drop n):=by rw[Ej,Y8,Zk];simp
theorem Oq(ps:List (List UInt8))(p:List UInt8):(ps++[p]).flatten=ps.flatten++p:=by simp
theorem Bd(l:List UInt8)(w:World)(hl:l.length<=1000000000):Calls Tryz.prog 165 #[.string (Q8 l)] w λe w'=>Oo l w e w':=by
 obtain⟨i0,hi,ae,af,ag⟩:=info_parts Ol;go_enter Tryz.func165,Tryz.ntmps165;go_wp2;go_loopw [0,4] (λs v wr=>∃m,Bc l w s v wr m) (λs _ _=>Om s);case atStart=>exact⟨l.length,[],l,Zg.nil,by simp,rfl,rfl,rfl,by simpa using World.ownsRow_nil w _ _ _,Qc _ _⟩
 case round=>
  obtain⟨m,ps,rest,X,Y,hv,rfl,hm,O,j⟩:=hrel;have a4:=Y8 rest;have ak:rest.length<=1000000000:=by rw[Y,Qj] at hl;omega
  have W:=Ki a4;have U:=Ki Y;have HV:=Ki hv;clear a4 Y hv hm;have al:=UJ ps X;have aj:ps.flatten.length<=1000000000:=by have:=U.o;rw[this,Qj] at hl;omega
  unfold Xr;by_cases E:rest=[];·subst E;go_wp2;go_ret2;exact Bc.stop X U.o O j
  have ad:0<(Q8 rest).size:=(by have:=W.o;have:=Kc.2 E;omega);have ab:(Q8 rest).size<=9223372036854775807:=(by have:=W.o;omega);have h:=Rx (Q8 rest) wr ab ad;rw[Yw] at h;by_cases hb:Vo rest
  ·rw[Q7 hb] at h;have I:=Ki h;have a0:Lib.validD l=false:=(by rw[<-HV.o,Lib.validD_step rest E];exact Q7 hb);have HB:=Ki a0;clear h a0 hb;go_wp2_with (go_at_call 209;refine(I.o).mono ?_);rintro e w' ⟨(⟨_,rfl⟩|⟨n,D,_⟩),rfl⟩;·go_wp2;go_ret2;exact .inr ⟨HB.o,rfl,j⟩
   cases D
  rw[Q6 hb] at h;have I:=Ki h;have Z:Lib.validD (rest.drop (Lib.decodeL rest).2)=Lib.validD l:=(by rw[<-HV.o,Lib.validD_step rest E,Q6 (show ¬((Lib.decodeL rest).1=65533/\(Lib.decodeL rest).2=1) from hb)]);have a3:=Of E hb;have hd:=Lib.decodeL_le rest E;have hw:=Lib.decodeL_width rest;have a5:=Rz (rest:=rest);have a6:=RA (rest:=rest) (Lib.decodeL rest).2;have Q:=XU (Lib.decodeL rest).2 rest;have J:(rest.drop (Lib.decodeL rest).2).length+(Lib.decodeL rest).2=rest.length:=(by rw[Ds];omega);obtain⟨q,hq⟩:=ex (rest.take (Lib.decodeL rest).2);obtain⟨r,hr⟩:=ex (rest.drop (Lib.decodeL rest).2);obtain⟨d,a1⟩:=ex ((Lib.decodeL rest).2);rw[hq] at a3 a5 Q;rw[hr] at Z a6 Q J;rw[a1] at hd hw a5 a6 J I;have ai:d<=(Q8 rest).size:=(by have:=W.o;omega);have a8:=Ki Z;have a9:=Ki Q;have a7:=Ki J;have ah:(0:Int)<=d:=(by omega);clear hq hr a1 h hb Z Q J;go_wp2_with (go_at_call 209;refine(I.o).mono ?_);rintro e w' ⟨(⟨D,_⟩|⟨n,D,c,rfl⟩),rfl⟩;·cases D
  obtain rfl:d=n:=Jr D;clear D;go_wp2_with (at_builtin;refine wpList_append_own _ rfl _ _ 258 rfl w 9 i0 (.string ⟨#[]⟩) 1 16 Tryz.underlying258 hi ae af ag rfl (by decide) _ _ _ rfl (O.alloc _) ⟨wr.heap.size,0,none⟩ 1 1 [Xr q] rfl rfl ?c1 ?c2 ?c3 ?c4 ?c5 ?_);case c1=>exact cell_one_new _ _ _
  case c2=>intro u hu;rcases Qw.1 hu with rfl;rfl
  case c3=>simp only[maxLen];omega
  case c4=>omega
  case c5=>have:=j.size;simp;omega
  intro v' w1 ac a2 _;have aa:Below w w w1:=(j.alloc j.size _).grown a2 (by have:=j.size;simp;omega) (λk hk=>(O.lt k hk).1);clear O a2 j;go_wp2;go_roundw;case rel=>exact⟨_,ps++[q],r,X.append (Zg.cons a3 Zg.nil),by rw[U.o,Oq,Y7,a9.o],a8.o,rfl,rfl,by rw[Qj,ZC];exact ac,aa⟩
  case measure=>simp only[Om,Y8];have:=a7.o;omega
end
end Go.Proofs.YtfpafikfjjckeaaGreatDoor
namespace Go.Proofs.Tryz
open Go.Shelf
def laysSlF06_f42_ren:Go.Shelf.Ren:=⟨λ| 6=>42|15=>75|14=>74|28=>132|29=>133|20=>124|21=>125|22=>126|23=>127|24=>128|25=>129|26=>130|27=>131|46=>167|47=>168|48=>169|49=>170|50=>171|57=>210|n=>n,λ| 22=>66|24=>60|25=>111|3=>3|39=>159|0=>0|53=>242|55=>143|4=>4|46=>235|45=>234|50=>239|5=>5|9=>9|66=>284|70=>288|76=>318|77=>319|n=>n,λ| n=>n⟩
theorem laysSlF06_f42:Go.Proofs.SlLaysF0.n6 prog laysSlF06_f42_ren:={
 mixed:=by kernel_rfl
 f6:=⟨f42.name,by decide,func42.trans (congrArg some (by kernel_rfl))⟩
 f14:=⟨f74.name,by decide,func74.trans (congrArg some (by kernel_rfl))⟩
 f15:=func75.trans (congrArg some (by kernel_rfl))
 f20:=⟨f124.name,by decide,func124.trans (congrArg some (by kernel_rfl))⟩
 f21:=⟨f125.name,by decide,func125.trans (congrArg some (by kernel_rfl))⟩
 f22:=⟨f126.name,by decide,func126.trans (congrArg some (by kernel_rfl))⟩
 f23:=⟨f127.name,by decide,func127.trans (congrArg some (by kernel_rfl))⟩
 f24:=⟨f128.name,by decide,func128.trans (congrArg some (by kernel_rfl))⟩
 f25:=⟨f129.name,by decide,func129.trans (congrArg some (by kernel_rfl))⟩
 f26:=⟨f130.name,by decide,func130.trans (congrArg some (by kernel_rfl))⟩
 f27:=⟨f131.name,by decide,func131.trans (congrArg some (by kernel_rfl))⟩
 f28:=func132.trans (congrArg some (by kernel_rfl))
 f29:=func133.trans (congrArg some (by kernel_rfl))
 f46:=⟨f167.name,by decide,func167.trans (congrArg some (by kernel_rfl))⟩
 f47:=func168.trans (congrArg some (by kernel_rfl))
 f48:=func169.trans (congrArg some (by kernel_rfl))
 f49:=⟨f170.name,by decide,func170.trans (congrArg some (by kernel_rfl))⟩
 f50:=⟨f171.name,by decide,func171.trans (congrArg some (by kernel_rfl))⟩
 f57:=⟨f210.name,by decide,func210.trans (congrArg some (by kernel_rfl))⟩
 t0:=underlying0
 a0:=isAgg0
 z0:=sizeOf0
 v0:=zeroValue0
 t3:=underlying3
 a3:=isAgg3
 z3:=sizeOf3
 v3:=zeroValue3
 t4:=underlying4
 a4:=isAgg4
 z4:=sizeOf4
 v4:=zeroValue4
 t5:=underlying5
 a5:=isAgg5
 z5:=sizeOf5
 v5:=zeroValue5
 t9:=underlying9
 a9:=isAgg9
 z9:=sizeOf9
 v9:=zeroValue9
 t22:=underlying66
 a22:=isAgg66
 z22:=sizeOf66
 v22:=zeroValue66
 t25:=underlying111
 a25:=isAgg111
 z25:=sizeOf111
 v25:=zeroValue111
 t39:=underlying159
 a39:=isAgg159
 z39:=sizeOf159
 v39:=zeroValue159
 t45:=underlying234
 a45:=isAgg234
 z45:=sizeOf234
 v45:=zeroValue234
 t46:=underlying235
 a46:=isAgg235
 z46:=sizeOf235
 v46:=zeroValue235
 t50:=underlying239
 a50:=isAgg239
 z50:=sizeOf239
 v50:=zeroValue239
 t53:=underlying242
 a53:=isAgg242
 z53:=sizeOf242
 v53:=zeroValue242
 t55:=underlying143
 a55:=isAgg143
 z55:=sizeOf143
 v55:=zeroValue143
 t66:=underlying284
 a66:=isAgg284
 z66:=sizeOf284
 v66:=zeroValue284
 t70:=underlying288
 a70:=isAgg288
 z70:=sizeOf288
 v70:=zeroValue288
 t76:=underlying318
 a76:=isAgg318
 z76:=sizeOf318
 v76:=zeroValue318
 t77:=underlying319
 a77:=isAgg319
 z77:=sizeOf319
 v77:=zeroValue319 }
def laysSlF06_f136_ren:Go.Shelf.Ren:=⟨λ| 6=>136|15=>75|14=>172|28=>132|29=>133|20=>211|21=>212|22=>213|23=>214|24=>215|25=>216|26=>217|27=>218|46=>250|47=>168|48=>169|49=>251|50=>252|57=>273|n=>n,λ| 22=>165|24=>167|25=>247|3=>3|39=>159|0=>0|53=>242|55=>143|4=>4|46=>235|45=>234|50=>239|5=>5|9=>9|66=>284|70=>288|76=>318|77=>319|n=>n,λ| n=>n⟩
theorem laysSlF06_f136:Go.Proofs.SlLaysF0.n6 prog laysSlF06_f136_ren:={
 mixed:=by kernel_rfl
 f6:=⟨f136.name,by decide,func136.trans (congrArg some (by kernel_rfl))⟩
 f14:=⟨f172.name,by decide,func172.trans (congrArg some (by kernel_rfl))⟩
 f15:=func75.trans (congrArg some (by kernel_rfl))
 f20:=⟨f211.name,by decide,func211.trans (congrArg some (by kernel_rfl))⟩
 f21:=⟨f212.name,by decide,func212.trans (congrArg some (by kernel_rfl))⟩
 f22:=⟨f213.name,by decide,func213.trans (congrArg some (by kernel_rfl))⟩
 f23:=⟨f214.name,by decide,func214.trans (congrArg some (by kernel_rfl))⟩
 f24:=⟨f215.name,by decide,func215.trans (congrArg some (by kernel_rfl))⟩
 f25:=⟨f216.name,by decide,func216.trans (congrArg some (by kernel_rfl))⟩
 f26:=⟨f217.name,by decide,func217.trans (congrArg some (by kernel_rfl))⟩
 f27:=⟨f218.name,by decide,func218.trans (congrArg some (by kernel_rfl))⟩
 f28:=func132.trans (congrArg some (by kernel_rfl))
 f29:=func133.trans (congrArg some (by kernel_rfl))
 f46:=⟨f250.name,by decide,func250.trans (congrArg some (by kernel_rfl))⟩
 f47:=func168.trans (congrArg some (by kernel_rfl))
 f48:=func169.trans (congrArg some (by kernel_rfl))
 f49:=⟨f251.name,by decide,func251.trans (congrArg some (by kernel_rfl))⟩
 f50:=⟨f252.name,by decide,func252.trans (congrArg some (by kernel_rfl))⟩
 f57:=⟨f273.name,by decide,func273.trans (congrArg some (by kernel_rfl))⟩
 t0:=underlying0
 a0:=isAgg0
 z0:=sizeOf0
 v0:=zeroValue0
 t3:=underlying3
 a3:=isAgg3
 z3:=sizeOf3
 v3:=zeroValue3
 t4:=underlying4
 a4:=isAgg4
 z4:=sizeOf4
 v4:=zeroValue4
 t5:=underlying5
 a5:=isAgg5
 z5:=sizeOf5
 v5:=zeroValue5
 t9:=underlying9
 a9:=isAgg9
 z9:=sizeOf9
 v9:=zeroValue9
 t22:=underlying165
 a22:=isAgg165
 z22:=sizeOf165
 v22:=zeroValue165
 t25:=underlying247
 a25:=isAgg247
 z25:=sizeOf247
 v25:=zeroValue247
 t39:=underlying159
 a39:=isAgg159
 z39:=sizeOf159
 v39:=zeroValue159
 t45:=underlying234
 a45:=isAgg234
 z45:=sizeOf234
 v45:=zeroValue234
 t46:=underlying235
 a46:=isAgg235
 z46:=sizeOf235
 v46:=zeroValue235
 t50:=underlying239
 a50:=isAgg239
 z50:=sizeOf239
 v50:=zeroValue239
 t53:=underlying242
 a53:=isAgg242
 z53:=sizeOf242
 v53:=zeroValue242
 t55:=underlying143
 a55:=isAgg143
 z55:=sizeOf143
 v55:=zeroValue143
 t66:=underlying284
 a66:=isAgg284
 z66:=sizeOf284
 v66:=zeroValue284
 t70:=underlying288
 a70:=isAgg288
 z70:=sizeOf288
 v70:=zeroValue288
 t76:=underlying318
 a76:=isAgg318
 z76:=sizeOf318
 v76:=zeroValue318
 t77:=underlying319
 a77:=isAgg319
 z77:=sizeOf319
 v77:=zeroValue319 }
def laysSlF06_f83_ren:Go.Shelf.Ren:=⟨λ| 6=>83|15=>75|14=>140|28=>132|29=>133|20=>174|21=>175|22=>176|23=>177|24=>178|25=>179|26=>180|27=>181|46=>227|47=>168|48=>169|49=>228|50=>229|57=>256|n=>n,λ| 22=>114|24=>124|25=>181|3=>3|39=>159|0=>0|53=>242|55=>143|4=>4|46=>235|45=>234|50=>239|5=>5|9=>9|66=>284|70=>288|76=>318|77=>319|n=>n,λ| n=>n⟩
theorem laysSlF06_f83:Go.Proofs.SlLaysF0.n6 prog laysSlF06_f83_ren:={
 mixed:=by kernel_rfl
 f6:=⟨f83.name,by decide,func83.trans (congrArg some (by kernel_rfl))⟩
 f14:=⟨f140.name,by decide,func140.trans (congrArg some (by kernel_rfl))⟩
 f15:=func75.trans (congrArg some (by kernel_rfl))
 f20:=⟨f174.name,by decide,func174.trans (congrArg some (by kernel_rfl))⟩
 f21:=⟨f175.name,by decide,func175.trans (congrArg some (by kernel_rfl))⟩
 f22:=⟨f176.name,by decide,func176.trans (congrArg some (by kernel_rfl))⟩
 f23:=⟨f177.name,by decide,func177.trans (congrArg some (by kernel_rfl))⟩
 f24:=⟨f178.name,by decide,func178.trans (congrArg some (by kernel_rfl))⟩
 f25:=⟨f179.name,by decide,func179.trans (congrArg some (by kernel_rfl))⟩
 f26:=⟨f180.name,by decide,func180.trans (congrArg some (by kernel_rfl))⟩
 f27:=⟨f181.name,by decide,func181.trans (congrArg some (by kernel_rfl))⟩
 f28:=func132.trans (congrArg some (by kernel_rfl))
 f29:=func133.trans (congrArg some (by kernel_rfl))
 f46:=⟨f227.name,by decide,func227.trans (congrArg some (by kernel_rfl))⟩
 f47:=func168.trans (congrArg some (by kernel_rfl))
 f48:=func169.trans (congrArg some (by kernel_rfl))
 f49:=⟨f228.name,by decide,func228.trans (congrArg some (by kernel_rfl))⟩
 f50:=⟨f229.name,by decide,func229.trans (congrArg some (by kernel_rfl))⟩
 f57:=⟨f256.name,by decide,func256.trans (congrArg some (by kernel_rfl))⟩
 t0:=underlying0
 a0:=isAgg0
 z0:=sizeOf0
 v0:=zeroValue0
 t3:=underlying3
 a3:=isAgg3
 z3:=sizeOf3
 v3:=zeroValue3
 t4:=underlying4
 a4:=isAgg4
 z4:=sizeOf4
 v4:=zeroValue4
 t5:=underlying5
 a5:=isAgg5
 z5:=sizeOf5
 v5:=zeroValue5
 t9:=underlying9
 a9:=isAgg9
 z9:=sizeOf9
 v9:=zeroValue9
 t22:=underlying114
 a22:=isAgg114
 z22:=sizeOf114
 v22:=zeroValue114
 t25:=underlying181
 a25:=isAgg181
 z25:=sizeOf181
 v25:=zeroValue181
 t39:=underlying159
 a39:=isAgg159
 z39:=sizeOf159
 v39:=zeroValue159
 t45:=underlying234
 a45:=isAgg234
 z45:=sizeOf234
 v45:=zeroValue234
 t46:=underlying235
 a46:=isAgg235
 z46:=sizeOf235
 v46:=zeroValue235
 t50:=underlying239
 a50:=isAgg239
 z50:=sizeOf239
 v50:=zeroValue239
 t53:=underlying242
 a53:=isAgg242
 z53:=sizeOf242
 v53:=zeroValue242
 t55:=underlying143
 a55:=isAgg143
 z55:=sizeOf143
 v55:=zeroValue143
 t66:=underlying284
 a66:=isAgg284
 z66:=sizeOf284
 v66:=zeroValue284
 t70:=underlying288
 a70:=isAgg288
 z70:=sizeOf288
 v70:=zeroValue288
 t76:=underlying318
 a76:=isAgg318
 z76:=sizeOf318
 v76:=zeroValue318
 t77:=underlying319
 a77:=isAgg319
 z77:=sizeOf319
 v77:=zeroValue319 }
def laysSlF06_f138_ren:Go.Shelf.Ren:=⟨λ| 6=>138|15=>75|14=>173|28=>132|29=>133|20=>219|21=>220|22=>221|23=>222|24=>223|25=>224|26=>225|27=>226|46=>253|47=>168|48=>169|49=>254|50=>255|57=>274|n=>n,λ| 22=>174|24=>177|25=>249|3=>3|39=>159|0=>0|53=>242|55=>143|4=>4|46=>235|45=>234|50=>239|5=>5|9=>9|66=>284|70=>288|76=>318|77=>319|n=>n,λ| n=>n⟩
theorem laysSlF06_f138:Go.Proofs.SlLaysF0.n6 prog laysSlF06_f138_ren:={
 mixed:=by kernel_rfl
 f6:=⟨f138.name,by decide,func138.trans (congrArg some (by kernel_rfl))⟩
 f14:=⟨f173.name,by decide,func173.trans (congrArg some (by kernel_rfl))⟩
 f15:=func75.trans (congrArg some (by kernel_rfl))
 f20:=⟨f219.name,by decide,func219.trans (congrArg some (by kernel_rfl))⟩
 f21:=⟨f220.name,by decide,func220.trans (congrArg some (by kernel_rfl))⟩
 f22:=⟨f221.name,by decide,func221.trans (congrArg some (by kernel_rfl))⟩
 f23:=⟨f222.name,by decide,func222.trans (congrArg some (by kernel_rfl))⟩
 f24:=⟨f223.name,by decide,func223.trans (congrArg some (by kernel_rfl))⟩
 f25:=⟨f224.name,by decide,func224.trans (congrArg some (by kernel_rfl))⟩
 f26:=⟨f225.name,by decide,func225.trans (congrArg some (by kernel_rfl))⟩
 f27:=⟨f226.name,by decide,func226.trans (congrArg some (by kernel_rfl))⟩
 f28:=func132.trans (congrArg some (by kernel_rfl))
 f29:=func133.trans (congrArg some (by kernel_rfl))
 f46:=⟨f253.name,by decide,func253.trans (congrArg some (by kernel_rfl))⟩
 f47:=func168.trans (congrArg some (by kernel_rfl))
 f48:=func169.trans (congrArg some (by kernel_rfl))
 f49:=⟨f254.name,by decide,func254.trans (congrArg some (by kernel_rfl))⟩
 f50:=⟨f255.name,by decide,func255.trans (congrArg some (by kernel_rfl))⟩
 f57:=⟨f274.name,by decide,func274.trans (congrArg some (by kernel_rfl))⟩
 t0:=underlying0
 a0:=isAgg0
 z0:=sizeOf0
 v0:=zeroValue0
 t3:=underlying3
 a3:=isAgg3
 z3:=sizeOf3
 v3:=zeroValue3
 t4:=underlying4
 a4:=isAgg4
 z4:=sizeOf4
 v4:=zeroValue4
 t5:=underlying5
 a5:=isAgg5
 z5:=sizeOf5
 v5:=zeroValue5
 t9:=underlying9
 a9:=isAgg9
 z9:=sizeOf9
 v9:=zeroValue9
 t22:=underlying174
 a22:=isAgg174
 z22:=sizeOf174
 v22:=zeroValue174
 t25:=underlying249
 a25:=isAgg249
 z25:=sizeOf249
 v25:=zeroValue249
 t39:=underlying159
 a39:=isAgg159
 z39:=sizeOf159
 v39:=zeroValue159
 t45:=underlying234
 a45:=isAgg234
 z45:=sizeOf234
 v45:=zeroValue234
 t46:=underlying235
 a46:=isAgg235
 z46:=sizeOf235
 v46:=zeroValue235
 t50:=underlying239
 a50:=isAgg239
 z50:=sizeOf239
 v50:=zeroValue239
 t53:=underlying242
 a53:=isAgg242
 z53:=sizeOf242
 v53:=zeroValue242
 t55:=underlying143
 a55:=isAgg143
 z55:=sizeOf143
 v55:=zeroValue143
 t66:=underlying284
 a66:=isAgg284
 z66:=sizeOf284
 v66:=zeroValue284
 t70:=underlying288
 a70:=isAgg288
 z70:=sizeOf288
 v70:=zeroValue288
 t76:=underlying318
 a76:=isAgg318
 z76:=sizeOf318
 v76:=zeroValue318
 t77:=underlying319
 a77:=isAgg319
 z77:=sizeOf319
 v77:=zeroValue319 }
def laysSlF06_f90_ren:Go.Shelf.Ren:=⟨λ| 6=>90|15=>75|14=>146|28=>132|29=>133|20=>184|21=>185|22=>186|23=>187|24=>188|25=>189|26=>190|27=>191|46=>232|47=>168|48=>169|49=>233|50=>234|57=>259|n=>n,λ| 22=>62|24=>65|25=>193|3=>3|39=>159|0=>0|53=>242|55=>143|4=>4|46=>235|45=>234|50=>239|5=>5|9=>9|66=>284|70=>288|76=>318|77=>319|n=>n,λ| n=>n⟩
theorem laysSlF06_f90:Go.Proofs.SlLaysF0.n6 prog laysSlF06_f90_ren:={
 mixed:=by kernel_rfl
 f6:=⟨f90.name,by decide,func90.trans (congrArg some (by kernel_rfl))⟩
 f14:=⟨f146.name,by decide,func146.trans (congrArg some (by kernel_rfl))⟩
 f15:=func75.trans (congrArg some (by kernel_rfl))
 f20:=⟨f184.name,by decide,func184.trans (congrArg some (by kernel_rfl))⟩
 f21:=⟨f185.name,by decide,func185.trans (congrArg some (by kernel_rfl))⟩
 f22:=⟨f186.name,by decide,func186.trans (congrArg some (by kernel_rfl))⟩
 f23:=⟨f187.name,by decide,func187.trans (congrArg some (by kernel_rfl))⟩
 f24:=⟨f188.name,by decide,func188.trans (congrArg some (by kernel_rfl))⟩
 f25:=⟨f189.name,by decide,func189.trans (congrArg some (by kernel_rfl))⟩
 f26:=⟨f190.name,by decide,func190.trans (congrArg some (by kernel_rfl))⟩
 f27:=⟨f191.name,by decide,func191.trans (congrArg some (by kernel_rfl))⟩
 f28:=func132.trans (congrArg some (by kernel_rfl))
 f29:=func133.trans (congrArg some (by kernel_rfl))
 f46:=⟨f232.name,by decide,func232.trans (congrArg some (by kernel_rfl))⟩
 f47:=func168.trans (congrArg some (by kernel_rfl))
 f48:=func169.trans (congrArg some (by kernel_rfl))
 f49:=⟨f233.name,by decide,func233.trans (congrArg some (by kernel_rfl))⟩
 f50:=⟨f234.name,by decide,func234.trans (congrArg some (by kernel_rfl))⟩
 f57:=⟨f259.name,by decide,func259.trans (congrArg some (by kernel_rfl))⟩
 t0:=underlying0
 a0:=isAgg0
 z0:=sizeOf0
 v0:=zeroValue0
 t3:=underlying3
 a3:=isAgg3
 z3:=sizeOf3
 v3:=zeroValue3
 t4:=underlying4
 a4:=isAgg4
 z4:=sizeOf4
 v4:=zeroValue4
 t5:=underlying5
 a5:=isAgg5
 z5:=sizeOf5
 v5:=zeroValue5
 t9:=underlying9
 a9:=isAgg9
 z9:=sizeOf9
 v9:=zeroValue9
 t22:=underlying62
 a22:=isAgg62
 z22:=sizeOf62
 v22:=zeroValue62
 t25:=underlying193
 a25:=isAgg193
 z25:=sizeOf193
 v25:=zeroValue193
 t39:=underlying159
 a39:=isAgg159
 z39:=sizeOf159
 v39:=zeroValue159
 t45:=underlying234
 a45:=isAgg234
 z45:=sizeOf234
 v45:=zeroValue234
 t46:=underlying235
 a46:=isAgg235
 z46:=sizeOf235
 v46:=zeroValue235
 t50:=underlying239
 a50:=isAgg239
 z50:=sizeOf239
 v50:=zeroValue239
 t53:=underlying242
 a53:=isAgg242
 z53:=sizeOf242
 v53:=zeroValue242
 t55:=underlying143
 a55:=isAgg143
 z55:=sizeOf143
 v55:=zeroValue143
 t66:=underlying284
 a66:=isAgg284
 z66:=sizeOf284
 v66:=zeroValue284
 t70:=underlying288
 a70:=isAgg288
 z70:=sizeOf288
 v70:=zeroValue288
 t76:=underlying318
 a76:=isAgg318
 z76:=sizeOf318
 v76:=zeroValue318
 t77:=underlying319
 a77:=isAgg319
 z77:=sizeOf319
 v77:=zeroValue319 }
def laysSlF06_f194_ren:Go.Shelf.Ren:=⟨λ| 6=>194|15=>75|14=>235|28=>132|29=>133|20=>260|21=>261|22=>262|23=>263|24=>264|25=>265|26=>266|27=>267|46=>277|47=>168|48=>169|49=>278|50=>279|57=>289|n=>n,λ| 22=>202|24=>205|25=>305|3=>3|39=>159|0=>0|53=>242|55=>143|4=>4|46=>235|45=>234|50=>239|5=>5|9=>9|66=>284|70=>288|76=>318|77=>319|n=>n,λ| n=>n⟩
theorem laysSlF06_f194:Go.Proofs.SlLaysF0.n6 prog laysSlF06_f194_ren:={
 mixed:=by kernel_rfl
 f6:=⟨f194.name,by decide,func194.trans (congrArg some (by kernel_rfl))⟩
 f14:=⟨f235.name,by decide,func235.trans (congrArg some (by kernel_rfl))⟩
 f15:=func75.trans (congrArg some (by kernel_rfl))
 f20:=⟨f260.name,by decide,func260.trans (congrArg some (by kernel_rfl))⟩
 f21:=⟨f261.name,by decide,func261.trans (congrArg some (by kernel_rfl))⟩
 f22:=⟨f262.name,by decide,func262.trans (congrArg some (by kernel_rfl))⟩
 f23:=⟨f263.name,by decide,func263.trans (congrArg some (by kernel_rfl))⟩
 f24:=⟨f264.name,by decide,func264.trans (congrArg some (by kernel_rfl))⟩
 f25:=⟨f265.name,by decide,func265.trans (congrArg some (by kernel_rfl))⟩
 f26:=⟨f266.name,by decide,func266.trans (congrArg some (by kernel_rfl))⟩
 f27:=⟨f267.name,by decide,func267.trans (congrArg some (by kernel_rfl))⟩
 f28:=func132.trans (congrArg some (by kernel_rfl))
 f29:=func133.trans (congrArg some (by kernel_rfl))
 f46:=⟨f277.name,by decide,func277.trans (congrArg some (by kernel_rfl))⟩
 f47:=func168.trans (congrArg some (by kernel_rfl))
 f48:=func169.trans (congrArg some (by kernel_rfl))
 f49:=⟨f278.name,by decide,func278.trans (congrArg some (by kernel_rfl))⟩
 f50:=⟨f279.name,by decide,func279.trans (congrArg some (by kernel_rfl))⟩
 f57:=⟨f289.name,by decide,func289.trans (congrArg some (by kernel_rfl))⟩
 t0:=underlying0
 a0:=isAgg0
 z0:=sizeOf0
 v0:=zeroValue0
 t3:=underlying3
 a3:=isAgg3
 z3:=sizeOf3
 v3:=zeroValue3
 t4:=underlying4
 a4:=isAgg4
 z4:=sizeOf4
 v4:=zeroValue4
 t5:=underlying5
 a5:=isAgg5
 z5:=sizeOf5
 v5:=zeroValue5
 t9:=underlying9
 a9:=isAgg9
 z9:=sizeOf9
 v9:=zeroValue9
 t22:=underlying202
 a22:=isAgg202
 z22:=sizeOf202
 v22:=zeroValue202
 t25:=underlying305
 a25:=isAgg305
 z25:=sizeOf305
 v25:=zeroValue305
 t39:=underlying159
 a39:=isAgg159
 z39:=sizeOf159
 v39:=zeroValue159
 t45:=underlying234
 a45:=isAgg234
 z45:=sizeOf234
 v45:=zeroValue234
 t46:=underlying235
 a46:=isAgg235
 z46:=sizeOf235
 v46:=zeroValue235
 t50:=underlying239
 a50:=isAgg239
 z50:=sizeOf239
 v50:=zeroValue239
 t53:=underlying242
 a53:=isAgg242
 z53:=sizeOf242
 v53:=zeroValue242
 t55:=underlying143
 a55:=isAgg143
 z55:=sizeOf143
 v55:=zeroValue143
 t66:=underlying284
 a66:=isAgg284
 z66:=sizeOf284
 v66:=zeroValue284
 t70:=underlying288
 a70:=isAgg288
 z70:=sizeOf288
 v70:=zeroValue288
 t76:=underlying318
 a76:=isAgg318
 z76:=sizeOf318
 v76:=zeroValue318
 t77:=underlying319
 a77:=isAgg319
 z77:=sizeOf319
 v77:=zeroValue319 }
def laysSlE035_f80_ren:Go.Shelf.Ren:=⟨λ| 35=>80|n=>n,λ| 22=>70|23=>27|3=>3|4=>4|0=>0|n=>n,λ| n=>n⟩
theorem laysSlE035_f80:Go.Proofs.SlLaysE0.n35 prog laysSlE035_f80_ren:={
 mixed:=by kernel_rfl
 f35:=⟨f80.name,by decide,func80.trans (congrArg some (by kernel_rfl))⟩
 t0:=underlying0
 a0:=isAgg0
 z0:=sizeOf0
 v0:=zeroValue0
 t3:=underlying3
 a3:=isAgg3
 z3:=sizeOf3
 v3:=zeroValue3
 t4:=underlying4
 a4:=isAgg4
 z4:=sizeOf4
 v4:=zeroValue4
 t22:=underlying70
 a22:=isAgg70
 z22:=sizeOf70
 v22:=zeroValue70 }
def lays169_ren:Go.Shelf.Ren:=⟨λ| 169=>32|n=>n,λ| 70=>84|9=>9|0=>0|72=>87|37=>85|127=>146|3=>3|5=>5|n=>n,λ| n=>n⟩
theorem lays169:Go.Proofs.Lays.n169 prog lays169_ren:={
 mixed:=by kernel_rfl
 f169:=func32.trans (congrArg some (by kernel_rfl))
 t0:=underlying0
 a0:=isAgg0
 z0:=sizeOf0
 v0:=zeroValue0
 t3:=underlying3
 a3:=isAgg3
 z3:=sizeOf3
 v3:=zeroValue3
 t9:=underlying9
 a9:=isAgg9
 z9:=sizeOf9
 v9:=zeroValue9
 t37:=underlying85
 a37:=isAgg85
 z37:=sizeOf85
 v37:=zeroValue85
 t70:=underlying84
 a70:=isAgg84
 z70:=sizeOf84
 v70:=zeroValue84
 t72:=underlying87
 a72:=isAgg87
 z72:=sizeOf87
 v72:=zeroValue87
 t127:=underlying146
 a127:=isAgg146
 z127:=sizeOf146
 v127:=zeroValue146 }
theorem Builder_Extra_169:Builder.Extra prog lays169_ren:={
 sizeBuilder:=by kernel_rfl
 liesBuilder:=by kernel_rfl
 t5:=underlying5
 a5:=isAgg5
 z5:=sizeOf5
 v5:=zeroValue5
 infoByte:=by kernel_rfl
 cellsByte:=by kernel_rfl
 sizeByte:=by kernel_rfl
 neB5:=by decide }
def lays156_ren:Go.Shelf.Ren:=⟨λ| 156=>183|165=>231|166=>30|169=>32|240=>61|241=>258|276=>110|277=>276|n=>n,λ| 31=>258|9=>9|3=>3|4=>4|0=>0|20=>20|72=>87|76=>94|70=>84|37=>85|75=>93|127=>146|164=>219|5=>5|80=>97|n=>n,λ| n=>n⟩
theorem lays156:Go.Proofs.Lays.n156 prog lays156_ren:={
 mixed:=by kernel_rfl
 f156:=func183.trans (congrArg some (by kernel_rfl))
 f165:=func231.trans (congrArg some (by kernel_rfl))
 f166:=func30.trans (congrArg some (by kernel_rfl))
 f169:=func32.trans (congrArg some (by kernel_rfl))
 f240:=func61.trans (congrArg some (by kernel_rfl))
 f241:=func258.trans (congrArg some (by kernel_rfl))
 f276:=func110.trans (congrArg some (by kernel_rfl))
 f277:=func276.trans (congrArg some (by kernel_rfl))
 t0:=underlying0
 a0:=isAgg0
 z0:=sizeOf0
 v0:=zeroValue0
 t3:=underlying3
 a3:=isAgg3
 z3:=sizeOf3
 v3:=zeroValue3
 t4:=underlying4
 a4:=isAgg4
 z4:=sizeOf4
 v4:=zeroValue4
 t9:=underlying9
 a9:=isAgg9
 z9:=sizeOf9
 v9:=zeroValue9
 t20:=underlying20
 a20:=isAgg20
 z20:=sizeOf20
 v20:=zeroValue20
 t31:=underlying258
 a31:=isAgg258
 z31:=sizeOf258
 v31:=zeroValue258
 t37:=underlying85
 a37:=isAgg85
 z37:=sizeOf85
 v37:=zeroValue85
 t70:=underlying84
 a70:=isAgg84
 z70:=sizeOf84
 v70:=zeroValue84
 t72:=underlying87
 a72:=isAgg87
 z72:=sizeOf87
 v72:=zeroValue87
 t75:=underlying93
 a75:=isAgg93
 z75:=sizeOf93
 v75:=zeroValue93
 t76:=underlying94
 a76:=isAgg94
 z76:=sizeOf94
 v76:=zeroValue94
 t127:=underlying146
 a127:=isAgg146
 z127:=sizeOf146
 v127:=zeroValue146
 t164:=underlying219
 a164:=isAgg219
 z164:=sizeOf219
 v164:=zeroValue219 }
theorem Builder_Extra_156:Builder.Extra prog lays156_ren:={
 sizeBuilder:=by kernel_rfl
 liesBuilder:=by kernel_rfl
 t5:=underlying5
 a5:=isAgg5
 z5:=sizeOf5
 v5:=zeroValue5
 infoByte:=by kernel_rfl
 cellsByte:=by kernel_rfl
 sizeByte:=by kernel_rfl
 neB5:=by decide }
open Go.RowKit in
open Go.RowKit in
theorem strings_Join(bk o c:Nat)(xs:List ByteArray)(sep:ByteArray)(w:World)(hcells:∀(j:Nat) x,xs[j]?=some x->w.cell? ⟨bk,o+j,none⟩=some (.string x))(hbk:bk<w.heap.size)(hN:xs.length<=140737488355328)(hcap:xs.length<=c)(hlen:(Lib.join (xs.map (·.data.toList)) sep.data.toList).length<=140737488355328):Calls prog 183 #[.slice (some ⟨bk,o,none⟩) xs.length c,.string sep] w λe w'=>e=.returned (.string ⟨(Lib.join (xs.map (·.data.toList)) sep.data.toList).toArray⟩)/\Below w.heap.size w w':=Any.strings_Join lays156 Builder_Extra_156 bk o c xs sep w hcells hbk hN hcap hlen
open Go.RowKit in
theorem Builder_String_any_k(B b:Nat)(l:List UInt8)(w:World)(h:Lib.IsBuilderF 87 5 B b (Lib.byteCells l) w)(hBw:B<=w.heap.size):Calls prog 32 #[.pointer (some ⟨b,0,none⟩)] w λe w'=>e=.returned (.string ⟨l.toArray⟩)/\(Lib.IsBuilderF 87 5 B b (Lib.byteCells l) w'/\Below B w w'/\Lib.OthersKept 5 (some b) w w'):=Any.Builder_String_any_k lays169 Builder_Extra_169 B b l w h hBw
def lays171_ren:Go.Shelf.Ren:=⟨λ| 171=>230|243=>257|246=>275|283=>285|284=>286|285=>287|286=>288|129=>133|317=>291|318=>292|319=>293|320=>294|337=>296|338=>297|n=>n,λ| 3=>3|9=>9|2=>2|4=>4|171=>366|0=>0|53=>143|37=>85|5=>5|173=>368|212=>372|51=>242|20=>20|213=>373|46=>159|232=>374|233=>375|n=>n,λ| 17=>3|18=>4|19=>5|n=>n⟩
theorem lays171:Go.Proofs.Lays.n171 prog lays171_ren:={
 mixed:=by kernel_rfl
 f129:=func133.trans (congrArg some (by kernel_rfl))
 f171:=func230.trans (congrArg some (by kernel_rfl))
 f243:=func257.trans (congrArg some (by kernel_rfl))
 f246:=func275.trans (congrArg some (by kernel_rfl))
 f283:=func285.trans (congrArg some (by kernel_rfl))
 f284:=func286.trans (congrArg some (by kernel_rfl))
 f285:=func287.trans (congrArg some (by kernel_rfl))
 f286:=func288.trans (congrArg some (by kernel_rfl))
 f317:=func291.trans (congrArg some (by kernel_rfl))
 f318:=func292.trans (congrArg some (by kernel_rfl))
 f319:=func293.trans (congrArg some (by kernel_rfl))
 f320:=func294.trans (congrArg some (by kernel_rfl))
 f337:=func296.trans (congrArg some (by kernel_rfl))
 f338:=func297.trans (congrArg some (by kernel_rfl))
 t0:=underlying0
 a0:=isAgg0
 z0:=sizeOf0
 v0:=zeroValue0
 t2:=underlying2
 a2:=isAgg2
 z2:=sizeOf2
 v2:=zeroValue2
 t3:=underlying3
 a3:=isAgg3
 z3:=sizeOf3
 v3:=zeroValue3
 t4:=underlying4
 a4:=isAgg4
 z4:=sizeOf4
 v4:=zeroValue4
 t5:=underlying5
 a5:=isAgg5
 z5:=sizeOf5
 v5:=zeroValue5
 t9:=underlying9
 a9:=isAgg9
 z9:=sizeOf9
 v9:=zeroValue9
 t20:=underlying20
 a20:=isAgg20
 z20:=sizeOf20
 v20:=zeroValue20
 t37:=underlying85
 a37:=isAgg85
 z37:=sizeOf85
 v37:=zeroValue85
 t46:=underlying159
 a46:=isAgg159
 z46:=sizeOf159
 v46:=zeroValue159
 t51:=underlying242
 a51:=isAgg242
 z51:=sizeOf242
 v51:=zeroValue242
 t53:=underlying143
 a53:=isAgg143
 z53:=sizeOf143
 v53:=zeroValue143
 t171:=underlying366
 a171:=isAgg366
 z171:=sizeOf366
 v171:=zeroValue366
 t173:=underlying368
 a173:=isAgg368
 z173:=sizeOf368
 v173:=zeroValue368
 t212:=underlying372
 a212:=isAgg372
 z212:=sizeOf372
 v212:=zeroValue372
 t213:=underlying373
 a213:=isAgg373
 z213:=sizeOf373
 t232:=underlying374
 a232:=isAgg374
 z232:=sizeOf374
 v232:=zeroValue374
 t233:=underlying375
 a233:=isAgg375
 z233:=sizeOf375
 v233:=zeroValue375
 g17:=by kernel_rfl
 g18:=by kernel_rfl
 g19:=by kernel_rfl }
open Go.RowKit Go.Sort Go.Lib in
theorem strconv_Itoa_small(i:Nat)(hi:i<100)(w:World):Calls prog 230 #[.int .i64 i] w λe w'=>e=.returned (.string ⟨(Lib.decDigits i).toArray⟩)/\w'=w:=Any.strconv_Itoa_small lays171 i hi w
def lays195_ren:Go.Shelf.Ren:=⟨λ| 195=>155|n=>n,λ| 9=>9|3=>3|0=>0|4=>4|n=>n,λ| n=>n⟩
theorem lays195:Go.Proofs.Lays.n195 prog lays195_ren:={
 mixed:=by kernel_rfl
 f195:=func155.trans (congrArg some (by kernel_rfl))
 t0:=underlying0
 a0:=isAgg0
 z0:=sizeOf0
 v0:=zeroValue0
 t3:=underlying3
 a3:=isAgg3
 z3:=sizeOf3
 v3:=zeroValue3
 t4:=underlying4
 a4:=isAgg4
 z4:=sizeOf4
 v4:=zeroValue4
 t9:=underlying9
 a9:=isAgg9
 z9:=sizeOf9
 v9:=zeroValue9 }
open Go.RowKit in
theorem utf8_RuneCountInString(s:ByteArray)(w:World)(hs:s.size<9223372036854775807):Calls prog 155 #[.string s] w λe w'=>e=.returned (.int .i64 (Lib.runeCount s))/\∃pos,w'=w.iter s pos:=Any.utf8_RuneCountInString lays195 s w hs
def lays160_ren:Go.Shelf.Ren:=⟨λ| 160=>154|232=>197|231=>196|227=>198|234=>200|233=>199|236=>202|235=>201|228=>236|271=>239|151=>238|197=>237|120=>270|152=>269|260=>268|137=>280|119=>281|224=>282|225=>283|217=>290|266=>295|n=>n,λ| 9=>9|4=>4|3=>3|5=>5|117=>309|116=>308|0=>0|124=>312|21=>21|105=>339|46=>159|119=>209|139=>212|138=>211|n=>n,λ| 3=>0|4=>1|n=>n⟩
theorem lays160:Go.Proofs.Lays.n160 prog lays160_ren:={
 mixed:=by kernel_rfl
 f119:=func281.trans (congrArg some (by kernel_rfl))
 f120:=func270.trans (congrArg some (by kernel_rfl))
 f137:=func280.trans (congrArg some (by kernel_rfl))
 f151:=func238.trans (congrArg some (by kernel_rfl))
 f152:=func269.trans (congrArg some (by kernel_rfl))
 f160:=func154.trans (congrArg some (by kernel_rfl))
 f197:=func237.trans (congrArg some (by kernel_rfl))
 f217:=func290.trans (congrArg some (by kernel_rfl))
 f224:=func282.trans (congrArg some (by kernel_rfl))
 f225:=func283.trans (congrArg some (by kernel_rfl))
 f227:=func198.trans (congrArg some (by kernel_rfl))
 f228:=func236.trans (congrArg some (by kernel_rfl))
 f231:=func196.trans (congrArg some (by kernel_rfl))
 f232:=func197.trans (congrArg some (by kernel_rfl))
 f233:=func199.trans (congrArg some (by kernel_rfl))
 f234:=func200.trans (congrArg some (by kernel_rfl))
 f235:=func201.trans (congrArg some (by kernel_rfl))
 f236:=func202.trans (congrArg some (by kernel_rfl))
 f260:=func268.trans (congrArg some (by kernel_rfl))
 f266:=func295.trans (congrArg some (by kernel_rfl))
 f271:=func239.trans (congrArg some (by kernel_rfl))
 t0:=underlying0
 a0:=isAgg0
 z0:=sizeOf0
 v0:=zeroValue0
 t3:=underlying3
 a3:=isAgg3
 z3:=sizeOf3
 v3:=zeroValue3
 t4:=underlying4
 a4:=isAgg4
 z4:=sizeOf4
 v4:=zeroValue4
 t5:=underlying5
 a5:=isAgg5
 z5:=sizeOf5
 v5:=zeroValue5
 t9:=underlying9
 a9:=isAgg9
 z9:=sizeOf9
 v9:=zeroValue9
 t21:=underlying21
 a21:=isAgg21
 z21:=sizeOf21
 v21:=zeroValue21
 t46:=underlying159
 a46:=isAgg159
 z46:=sizeOf159
 v46:=zeroValue159
 t105:=underlying339
 a105:=isAgg339
 z105:=sizeOf339
 v105:=zeroValue339
 t116:=underlying308
 a116:=isAgg308
 z116:=sizeOf308
 t117:=underlying309
 a117:=isAgg309
 z117:=sizeOf309
 v117:=zeroValue309
 t119:=underlying209
 a119:=isAgg209
 z119:=sizeOf209
 t124:=underlying312
 a124:=isAgg312
 z124:=sizeOf312
 v124:=zeroValue312
 t138:=underlying211
 a138:=isAgg211
 z138:=sizeOf211
 v138:=zeroValue211
 t139:=underlying212
 a139:=isAgg212
 z139:=sizeOf212
 v139:=zeroValue212
 g3:=by kernel_rfl
 g4:=by kernel_rfl }
open Go.RowKit in
def lays196_ren:Go.Shelf.Ren:=⟨λ| 196=>53|259=>100|n=>n,λ| 9=>9|4=>4|3=>3|5=>5|12=>12|119=>209|0=>0|46=>159|139=>212|138=>211|53=>143|n=>n,λ| 3=>0|4=>1|n=>n⟩
theorem lays196:Go.Proofs.Lays.n196 prog lays196_ren:={
 mixed:=by kernel_rfl
 f196:=func53.trans (congrArg some (by kernel_rfl))
 f259:=func100.trans (congrArg some (by kernel_rfl))
 t0:=underlying0
 a0:=isAgg0
 z0:=sizeOf0
 v0:=zeroValue0
 t3:=underlying3
 a3:=isAgg3
 z3:=sizeOf3
 v3:=zeroValue3
 t4:=underlying4
 a4:=isAgg4
 z4:=sizeOf4
 v4:=zeroValue4
 t5:=underlying5
 a5:=isAgg5
 z5:=sizeOf5
 v5:=zeroValue5
 t9:=underlying9
 a9:=isAgg9
 z9:=sizeOf9
 v9:=zeroValue9
 t12:=underlying12
 a12:=isAgg12
 z12:=sizeOf12
 v12:=zeroValue12
 t46:=underlying159
 a46:=isAgg159
 z46:=sizeOf159
 v46:=zeroValue159
 t53:=underlying143
 a53:=isAgg143
 z53:=sizeOf143
 v53:=zeroValue143
 t119:=underlying209
 a119:=isAgg209
 z119:=sizeOf209
 t138:=underlying211
 a138:=isAgg211
 z138:=sizeOf211
 v138:=zeroValue211
 t139:=underlying212
 a139:=isAgg212
 z139:=sizeOf212
 v139:=zeroValue212
 g3:=by kernel_rfl
 g4:=by kernel_rfl }
open Go.RowKit in
theorem utf8_ValidString(s:ByteArray)(w:World)(hs:s.size<=9223372036854775807)(hT:Lib.Utf8Tabs (lays196_ren.g 3) (lays196_ren.g 4) w):Calls prog 53 #[.string s] w λe w'=>e=.returned (.bool (Lib.validD s.data.toList))/\Below w.heap.size w w':=Any.utf8_ValidString lays196 s w hs hT
end Go.Proofs.Tryz
namespace Go.Proofs.YtfpafikfjjckeaaGreatDoor
section
open Go Go.Lib
theorem JF(n:Nat)(z:Int)(h:z=n):UInt8.ofNat n=z.toNat.toUInt8:=by subst h;rfl
theorem RB(r:Nat)(h:r<=1114111)(I:¬(55296<=r/\r<=57343)):Utf8.encode (r:Int)=Q8 (encodeRune (r:Int)):=by
 have hv:Utf8.valid (r:Int)=true:=by
  unfold Utf8.valid;by_cases j:r<55296;·simp;omega
  simp;omega
 unfold Utf8.encode;simp only[hv,if_true,Int.toNat_natCast];unfold encodeRune;by_cases j:r<128;·rw[Q7 j,encodeRuneZ_one (by omega) (by omega)];rfl
 rw[Q6 j];by_cases D:r<2048;·rw[Q7 D,encodeRuneZ_two (by omega) (by omega)];simp only[ZW,Kf];rw[JF _ (192+(r:Int) / 64) (by omega),JF _ (128+(r:Int) % 64) (by omega)];rfl
 rw[Q6 D];by_cases E:r<65536;·rw[Q7 E,encodeRuneZ_three (by omega)];simp only[ZW,Kf];rw[JF _ (224+(r:Int) / 4096) (by omega),JF _ (128+(r:Int) / 64 % 64) (by omega),JF _ (128+(r:Int) % 64) (by omega)];rfl
 rw[Q6 E,encodeRuneZ_four (by omega) (by omega)];simp only[ZW,Kf];rw[JF _ (240+(r:Int) / 262144) (by omega),JF _ (128+(r:Int) / 4096 % 64) (by omega),JF _ (128+(r:Int) / 64 % 64) (by omega),JF _ (128+(r:Int) % 64) (by omega)];rfl
theorem RC{p:Bs}(h:JE p):(decodeL p).1<=1114111/\¬(55296<=(decodeL p).1/\(decodeL p).1<=57343)/\(((decodeL p).1<128/\∃b,p=[b]/\b.toNat=(decodeL p).1)\/(128<=(decodeL p).1/\2<=p.length)):=by
 have X:=h.pos;have hv:=h.2.1;have j:=h.2.2;unfold Vo at hv;rw[decodeL_N] at hv j |-;rcases decodeN_shape p.length (p.getD 0 0).toNat (p.getD 1 0).toNat (p.getD 2 0).toNat (p.getD 3 0).toNat with⟨c,e⟩|⟨D,E,I,J,e⟩|⟨D,E,I,O,J,U,e⟩|⟨D,E,I,O,Q,J,W,e⟩|e
 ·rw[e] at j |-;dsimp only at j |-;refine⟨by omega,by omega,.inl ⟨c,?_⟩⟩
  match p,j with
  |[b],_=>exact⟨b,rfl,rfl⟩
 ·rw[e] at j |-;dsimp only at j |-;exact⟨by omega,by omega,.inr ⟨by omega,by omega⟩⟩
 ·rw[e] at j |-;dsimp only at j |-;exact⟨by omega,by omega,.inr ⟨by omega,by omega⟩⟩
 ·rw[e] at j |-;dsimp only at j |-;exact⟨by omega,by omega,.inr ⟨by omega,by omega⟩⟩
 rw[e] at hv;exact absurd ⟨rfl,rfl⟩ hv
theorem RD{p:Bs}(h:JE p):Utf8.encode (((decodeL p).1:Nat):Int)=Q8 p:=by obtain⟨j,D,_⟩:=RC h;rw[RB _ j D,encode_decode p h.1 h.2.1,h.2.2,X6]
end
section
open Go.RowKit
def ZD(w:World):Prop:=Lib.Utf8Tabs (Tryz.lays196_ren.g 3) (Tryz.lays196_ren.g 4) w
theorem ZD.below{w w':World}(h:ZD w)(hb:Below w w w'):ZD w':=Utf8Tabs_below h hb
theorem Ek(l:List UInt8)(w:World)(D:l.length<=1000000000)(j:ZD w):Calls Tryz.prog 53 #[.string (Q8 l)] w λe w'=>e=.returned (.bool (Lib.validD l))/\Below w w w':=by have h:=Tryz.utf8_ValidString (Q8 l) w (by rw[Y8];omega) j;rw[Yw] at h;exact h
theorem Be{ps qs:List (List UInt8)}{p:List UInt8}(h:JE p)(s:ByteArray)(j:s=Q8 ((ps.flatten++p)++qs.flatten)):ps.flatten.length<s.size/\(Utf8.decode s ps.flatten.length).1=(Lib.decodeL p).1/\(Utf8.decode s ps.flatten.length).2=p.length:=by
 have e:Lib.decodeL p=Utf8.decode s ps.flatten.length:=by rw[<-Lib.decodeL_drop,j,Yw,Y7,List.drop_left,h.app]
 rw[<-e];refine⟨?_,rfl,h.2.2⟩;rw[j,Y8,Qj,Qj];have:=h.pos;omega
theorem JG{w:World}{k j:Nat}{s:ByteArray}(h:w.heap[k]?=some (.stringIter s j)):w.iterPos k=j:=by unfold World.iterPos;rw[h]
theorem Or{w w':World}{row:Option Nat}{k j:Nat}{s:ByteArray}(h:w.heap[k]?=some (.stringIter s j))(D:w.grownBy w' row)(E:row≠some k):w'.heap[k]?=some (.stringIter s j):=
 (D.block k (Q5.1 h).1 (XF E)).trans h
theorem Ot{w:World}{k j:Nat}{s:ByteArray}(h:w.heap[k]?=some (.stringIter s j))(o:Obj):(w.alloc o).heap[k]?=some (.stringIter s j):=
 (Z5 w o k (Q5.1 h).1).trans h
theorem Ou(ps:List (List UInt8))(k:Nat)(h:k<ps.length):ps.flatten=((ps.take k).flatten++ps[k])++(ps.drop (k+1)).flatten:=by rw[<-Bb ps k h,<-E5,XU]
def RE(ps:List (List UInt8))(w:World)(K:Nat)(v:Value)(wr:World):Prop:=
 ∃k,k<=ps.length/\wr.heap[K]?=some (.stringIter (Q8 ps.flatten) (ps.take k).flatten.length)/\wr.ownsRow w 9 1 v k ((ps.take k).map Xr)/\Below w w wr/\w<=K
theorem RF(ps:List (List UInt8))(a5:Zg ps)(w:World)(hl:ps.flatten.length<=1000000000)(hT:ZD w):Calls Tryz.prog 193 #[.string (Q8 ps.flatten)] w λe w'=>∃v,e=.returned (.tuple #[v,(0:Int)])/\w'.ownsRow w 9 1 v ps.length (ps.map Xr)/\Below w w w':=by
 obtain⟨i0,hi,aj,ak,al⟩:=info_parts Ol;have X:=Ek ps.flatten w hl hT;rw[G7 ps a5] at X;have CV:=Ki X;clear X;go_enter Tryz.func193,Tryz.ntmps193;go_wp2_with (go_at_call 53;refine(CV.o).mono ?_;rintro e J ⟨rfl,D⟩);go_loopw [4] (λv wr=>RE ps w (J.heap.size+1) v wr) (λ_ wr=>(Q8 ps.flatten).size-wr.iterPos (J.heap.size+1))
 case atStart=>
  refine⟨0,Qh _,?_,?_,?_,?_⟩;·have:=World.iter_heap (J.alloc (Obj.cells #[] 9)) (Q8 ps.flatten) 0;simpa using this
  ·exact(World.ownsRow_made J #[] 0 D.size (Qh _) rfl).alloc _
  ·exact(D.alloc D.size _).alloc (by have:=D.size;simp;omega) _
  have:=D.size;omega
 case round=>
  obtain⟨k,hk,h,I,Z,Y⟩:=hrel;obtain⟨K,a8⟩:=ex (J.heap.size+1);rw[a8] at h Y |-;clear CV D a8;obtain⟨s,E⟩:∃s,Q8 ps.flatten=s:=⟨_,rfl⟩;rw[E] at h |-;by_cases Q:k<ps.length
  ·have W:=a5 _ (Zt Q);obtain⟨n1,n2,n3⟩:=Be W s (ps:=ps.take k) (qs:=ps.drop (k+1)) (by rw[<-E];congr 1;exact Ou ps k Q);have U:=λty=>Lib.run_next_any_at (P:=Tryz.prog) wr K s _ ty h n1;rw[n2,n3] at U;have a9:=RD W;have a0:=Bb ps k Q;have a6:=QQ Q;obtain⟨q,hq⟩:∃q,ps[k]=q:=⟨_,rfl⟩;rw[hq] at U a9 a0 W a6;obtain⟨c,hc⟩:∃c,(Lib.decodeL q).1=c:=⟨_,rfl⟩;rw[hc] at U a9;obtain⟨j,a4⟩:∃j,(ps.take k).flatten.length=j:=⟨_,rfl⟩;rw[a4] at U h n1;have aa:=Lib.iterAt_heap wr K s j (j+q.length) h;have a3:=Oj I h (j+q.length);have O:=DJ Z Y s (j+q.length);have an:=W.pos;have ac:=Ki (show(ps.take (k+1)).flatten.length=j+q.length by rw[a0,Qj,a4]);have af:=Ki a6;have ad:=Ki h;have a7:=Ki aa;have HS:=Ki E;have am:=UJ ps a5;clear n2 n3 hq hc a4 aa a0 a6 E I Z h;go_wp2_with (at_builtin;refine wpList_append_own _ rfl _ _ 258 rfl w 9 i0 (.string ⟨#[]⟩) 1 16 Tryz.underlying258 hi aj ak al rfl (by decide) _ _ _ rfl (a3.alloc _) ⟨(wr.iterAt K s (j+q.length)).heap.size,0,none⟩ 1 1 [Xr q] rfl rfl ?c1 ?c2 ?c3 ?c4 ?c5 ?_);case c1=>exact cell_one_new _ _ _
   case c2=>intro u hu;rcases Qw.1 hu with rfl;rfl
   case c3=>simp only[maxLen];omega
   case c4=>omega
   case c5=>have:=O.size;simp;omega
   intro v' w2 ai a1 _;have ab:=Or (Ot a7.o _) a1 (DK a3 a7.o);have ag:Below w w w2:=(O.alloc O.size _).grown a1 (by have:=O.size;simp;omega) (λk hk=>(a3.lt k hk).1);clear a1;go_wp2;go_roundw;case rel=>exact⟨k+1,by omega,by rw[ac.o,HS.o];exact ab,by rw[af.o,ZC,List.map_take];exact ai,ag,Y⟩
   case measure=>rw[JG ab,JG ad.o];omega
  have a2:ps.take k=ps:=Zk (by omega);have hn:=λty=>Lib.run_next_end_at (P:=Tryz.prog) wr K s _ ty h (by rw[a2,<-E,Y8];omega);rw[a2] at I;have ah:k=ps.length:=(by omega);subst ah;have ae:=Ki I;clear a2 E I;go_wp2;go_ret2;exact⟨_,rfl,ae.o,Z⟩
theorem RG(l:List UInt8)(hv:Lib.validD l=false)(w:World)(I:l.length<=1000000000)(D:ZD w):Calls Tryz.prog 193 #[.string (Q8 l)] w λe w'=>e=.returned (.tuple #[.slice none 0 0,(60:Int)])/\Below w w w':=by have h:=Ek l w I D;rw[hv] at h;have j:=Ki h;clear h hv;go_enter Tryz.func193,Tryz.ntmps193;go_wp2_with (go_at_call 53;refine(j.o).mono ?_;rintro e J ⟨rfl,E⟩);go_ret2;exact⟨rfl,E⟩
theorem L3(s:ByteArray):∀(qs ps:List (List UInt8)) (j:Nat),Zg qs->s=Q8 (ps.flatten++qs.flatten)->qs.length<=j->Lib.runeCountFrom s j ps.flatten.length=qs.length|[],ps,j,_,D,_=>Lib.runeCountFrom_end s j _ (by rw[D,Y8];simp)|q::qs,ps,0,_,_,h=>by simp at h|q::qs,ps,j+1,E,D,h=>by obtain⟨J,Q,O⟩:=Be (ps:=ps) (qs:=qs) E.head s (by rw[D];simp);unfold Lib.runeCountFrom;rw[Q7 J,O];have I:=L3 s qs (ps++[q]) j E.tail (by rw[D];simp) (by simp at h;omega);rw[Oq,Qj] at I;rw[I,Z4];omega
theorem L4(ps:List (List UInt8))(h:Zg ps):Lib.runeCount (Q8 ps.flatten)=ps.length:=by have:=L3 (Q8 ps.flatten) ps [] (Q8 ps.flatten).size h (by simp) (by rw[Y8];exact UJ ps h);unfold Lib.runeCount;simpa using this
theorem Ha(ps:List (List UInt8))(E:Zg ps)(w:World)(Q:ps.flatten.length<=1000000000)(O:ZD w):Calls Tryz.prog 108 #[.string (Q8 ps.flatten)] w λe w'=>e=.returned (.tuple #[ps.length,(0:Int)])/\Below w w w':=by have j:=Ek ps.flatten w Q O;rw[G7 ps E] at j;have J:=Ki j;have h:=λw=>Tryz.utf8_RuneCountInString (Q8 ps.flatten) w (by rw[Y8];omega);rw[L4 ps E] at h;have I:=Ki h;clear j h;go_enter Tryz.func108,Tryz.ntmps108;go_wp2_with (first|(go_at_call 53;refine(J.o).mono ?_;rintro e W ⟨rfl,D⟩)|(go_at_call 155;refine(I.o _).mono ?_;rintro e X ⟨rfl,U,rfl⟩));go_ret2;exact⟨rfl,D.alloc D.size _⟩
theorem Hb(l:List UInt8)(hv:Lib.validD l=false)(w:World)(I:l.length<=1000000000)(D:ZD w):Calls Tryz.prog 108 #[.string (Q8 l)] w λe w'=>e=.returned (.tuple #[(0:Int),(60:Int)])/\Below w w w':=by have h:=Ek l w I D;rw[hv] at h;have j:=Ki h;clear h hv;go_enter Tryz.func108,Tryz.ntmps108;go_wp2_with (go_at_call 53;refine(j.o).mono ?_;rintro e J ⟨rfl,E⟩);go_ret2;exact⟨rfl,E⟩
theorem Hc(ps:List (List UInt8))(j:Zg ps)(w:World)(Q:ps.flatten.length<=1000000000):Calls Tryz.prog 165 #[.string (Q8 ps.flatten)] w λe w'=>∃v,e=.returned (.tuple #[v,(0:Int)])/\w'.ownsRow w 9 1 v ps.length (ps.map Xr)/\Below w w w':=by
 refine(Bd ps.flatten w Q).mono ?_;rintro e w' (⟨qs,v,D,E,I,J,O⟩|⟨h,_⟩);·obtain rfl:=B9 ps qs j D E;exact⟨v,I,J,O⟩
 rw[G7 ps j] at h;cases h
theorem He(l:List UInt8)(hv:Lib.validD l=false)(w:World)(E:l.length<=1000000000):Calls Tryz.prog 165 #[.string (Q8 l)] w λe w'=>e=.returned (.tuple #[.slice none 0 0,(60:Int)])/\Below w w w':=by
 refine(Bd l w E).mono ?_;rintro e w' (⟨qs,v,j,D,I,J,O⟩|⟨h,j,D⟩);·rw[D,G7 qs j] at hv;cases hv
 exact⟨j,D⟩
theorem Hf(ps:List (List UInt8))(I:Zg ps)(w:World)(E:ps.flatten.length<=1000000000):Calls Tryz.prog 246 #[.string (Q8 ps.flatten)] w λe w'=>e=.returned (.tuple #[ps.length,(0:Int)])/\Below w w w':=by have j:=Ki (Hc ps I w E);go_enter Tryz.func246,Tryz.ntmps246;go_wp2_with (go_at_call 165;refine(j.o).mono ?_);rintro e O ⟨v,rfl,h,D⟩;obtain⟨A,c,rfl,_⟩:=(Rd.of_own h).form;have J:=Ki h;clear h;go_wp2;go_ret2;exact⟨rfl,D⟩
theorem Hg(l:List UInt8)(hv:Lib.validD l=false)(w:World)(D:l.length<=1000000000):Calls Tryz.prog 246 #[.string (Q8 l)] w λe w'=>e=.returned (.tuple #[(0:Int),(60:Int)])/\Below w w w':=by have h:=Ki (He l hv w D);clear hv;go_enter Tryz.func246,Tryz.ntmps246;go_wp2_with (go_at_call 165;refine(h.o).mono ?_;rintro e E ⟨rfl,j⟩);go_ret2;exact⟨rfl,j⟩
end
section
open Go Go.RowKit
theorem Zm{P:Program}{j:Array Oper}{Q:Exit->Act->World->Prop}{rest:List Oper}{a:Act}{w:World}{d:Option Tmp}{x y:Operand}{u:TypeId}{s:String}{e:Array Edge}{g:Option (Nat×Bool)}(n:TypeId)(h:wpList P j Q (⟨d,.store n x y,u,s,e,g⟩::rest) a w):wpList P j Q (⟨d,.store n x y,u,s,e,g⟩::rest) a w:=h
theorem Ql{P:Program}{j:Array Oper}{Q:Exit->Act->World->Prop}{rest:List Oper}{a:Act}{w:World}{d:Option Tmp}{x:Operand}{u:TypeId}{s:String}{e:Array Edge}{g:Option (Nat×Bool)}(n:TypeId)(h:wpList P j Q (⟨d,.load n x,u,s,e,g⟩::rest) a w):wpList P j Q (⟨d,.load n x,u,s,e,g⟩::rest) a w:=h
theorem Zn(a:Act)(v:Value):a.put none v=a:=rfl
theorem PZ{P:Program}{o:Oper}{a:Act}{w:World}{K:Act->World->Prop}{Q:Exit->Act->World->Prop}(t:TypeId)(x:Operand)(W:o.op=.load t x)(b ZK:Nat)(cs:List Value)(Y:a.eval x=.pointer (b,ZK))(O:∀j v,cs[j]?=some v->w.cell? (b,ZK+j)=some v)(E:(P.info? t).map (·.size)=some cs.length)(J:(isAgg t).run P w=.ok true w)(h:K (a.put o.dst (.agg cs.toArray)) w):o.wp P a w K Q:=by
 have U:(loadCells ⟨b,ZK,none⟩ cs.length).run P w=.ok cs.toArray w:=run_loadCells_list (P:=P) w ⟨b,ZK,none⟩ cs (λj v hv=>by
  have I:(⟨b,ZK,none⟩:Addr).add j=⟨b,ZK+j,none⟩:=by unfold Addr.add;split<;>simp_all
  rw[I]
  exact O j v hv)
 have Z:(sizeOf t).run P w=.ok cs.length w:=by
  cases D:P.info? t with
  |none=>simp[D] at E
  |some i=>have X:i.size=cs.length:=(by simpa [D] using E);simp[sizeOf,typeInfo,D,X]
 have hv:(loadVar t ⟨b,ZK,none⟩).run P w=.ok (.agg cs.toArray) w:=by simp[loadVar,J,Z,U]
 unfold Oper.wp execOp;simp only[W,Y,Instr.loadAt,Instr.sureAddr,DE,DD,Dp,hv];exact h
theorem QA{P:Program}{D:Array Oper}{rest:List Oper}{o:Oper}{a:Act}{w:World}{Q:Exit->Act->World->Prop}(O:o.guard=none)(t:TypeId)(x:Operand)(W:o.op=.load t x)(b ZK:Nat)(cs:List Value)(X:a.eval x=.pointer (b,ZK))(J:∀j v,cs[j]?=some v->w.cell? (b,ZK+j)=some v)(U:(P.info? t).map (·.size)=some cs.length)(I:(isAgg t).run P w=.ok true w)(h:wpList P D Q rest (a.put o.dst (.agg cs.toArray)) w):wpList P D Q (o::rest) a w:=
 wpList_plain O λ_ E=>PZ t x W b ZK cs X J U I (E _ _ h)
theorem Zz{w:World}{b:Nat}{cs:List Value}{t:TypeId}(h:w.heap[b]?=some (.cells cs.toArray t (0,0))):∀j v,cs[j]?=some v->w.cell? (b,0+j)=some v:=λj v hv=>by rw[V7,cR j h];simpa using hv
end
end Go.Proofs.YtfpafikfjjckeaaGreatDoor
