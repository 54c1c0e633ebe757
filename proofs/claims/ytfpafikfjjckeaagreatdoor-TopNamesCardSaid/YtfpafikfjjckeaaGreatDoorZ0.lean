import Derived.Below
import Derived.Laws.OwnMore
import Derived.Deep.Draws
import Derived.Lib.Strings
import Derived.Lib.OthersKept
import Derived.Shelf.SlSortCmp.QuietGrown
import Derived.StillTail
import Derived.WalkLawsBesides
import Derived.WalkKit
import Derived.WalkSpells
import Derived.ProofKit
import Derived.Deep.QuietTactic
import Derived.BigQuiet
import Derived.RegionTactic
import Derived.Lib.Hide
import Derived.Outline
import Derived.Test.YtfpafikfjjckeaaGreatDoorProg
import Derived.Sort.Grow
import Derived.Laws.Rows
import Derived.StillTailTactics
import Derived.Deep.RegionWith
import Derived.Laws.IdiomCopy
import Derived.Maps.AppendAt
import Derived.Laws.StructEq
import Derived.Lib.SlTrimSet
import Derived.Lib.RuneCount
import Derived.Lib.ValidLaws
import Derived.BigRegion
import Derived.IntWalk
import Derived.DeepKeys4
import Derived.Maps.OwnSet
import Derived.Maps.RangeWalk
import Derived.Maps.Views
import Derived.Laws.AppendOwn
import Derived.Maps.Own
import Derived.Test.YtfpafikfjjckeaaGreatDoorZ
set_option maxRecDepth 100000
set_option maxHeartbeats 200000000
namespace Go.Proofs.YtfpafikfjjckeaaGreatDoor
section
open Go Go.RowKit
def Q8(l:List UInt8):ByteArray:=⟨l.toArray⟩
theorem Yw(l:List UInt8):(Q8 l).data.toList=l:=by simp[Q8]
theorem UK(s:ByteArray):Q8 s.data.toList=s:=Lib.mk_data s
theorem Y8(l:List UInt8):(Q8 l).size=l.length:=by rw[Jc,Yw]
theorem Oi{l m:List UInt8}(h:Q8 l=Q8 m):l=m:=by rw[<-Yw l,h,Yw]
theorem Ej(l:List UInt8)(a b:Nat):(Q8 l).extract a b=Q8 ((l.drop a).take (b-a)):=by rw[Lib.extract_eq,Yw];rfl
theorem G8(l m:List UInt8):Q8 l++Q8 m=Q8 (l++m):=by apply ByteArray.ext;simp[Q8]
def Xr(l:List UInt8):Value:=.string (Q8 l)
def Rd(w:World)(B sz:Nat)(v:Value)(n:Nat)(xs:List Value):Prop:=
 xs.length=n*sz/\∃A c,v=.slice A n c/\n<=c/\c<=maxLen/\(0<n->∃b o,A=some ⟨b,o,none⟩/\b<B/\∀j u,xs[j]?=some u->w.cell? (b,o+j)=some u)
section
variable {w w':World} {B B' sz n:Nat} {v:Value} {xs:List Value}
theorem Rd.form(h:Rd w B sz v n xs):∃A c,v=.slice A n c/\n<=c/\c<=maxLen:=by obtain⟨_,A,c,j,D,E,_⟩:=h;exact⟨A,c,j,D,E⟩
theorem Rd.cells{A:Option Addr}{m c:Nat}(h:Rd w B sz (.slice A m c) n xs)(I:0<n):∃b o,A=some ⟨b,o,none⟩/\b<B/\∀j u,xs[j]?=some u->w.cell? (b,o+j)=some u:=by obtain⟨_,J,c',D,_,_,E⟩:=h;injection D with D O Q;subst D;exact E I
theorem Rd.len{A:Option Addr}{m c:Nat}(h:Rd w B sz (.slice A m c) n xs):m=n/\n<=c/\c<=maxLen:=by obtain⟨_,O,c',j,D,E,_⟩:=h;injection j with Q I J;subst I;subst J;exact⟨rfl,D,E⟩
theorem Rd.keep(h:Rd w B sz v n xs)(U:∀p:Addr,p.block<B->w'.cell? p=w.cell? p):Rd w' B sz v n xs:=by obtain⟨D,A,c,E,I,J,O⟩:=h;refine⟨D,A,c,E,I,J,λW=>?_⟩;obtain⟨b,o,e,hb,Q⟩:=O W;exact⟨b,o,e,hb,λj u X=>(U ⟨b,o+j,none⟩ hb).trans (Q j u X)⟩
theorem Rd.more(h:Rd w B sz v n xs)(U:B<=B'):Rd w B' sz v n xs:=by obtain⟨j,A,c,D,E,I,J⟩:=h;refine⟨j,A,c,D,E,I,λQ=>?_⟩;obtain⟨b,o,e,hb,O⟩:=J Q;exact⟨b,o,e,by omega,O⟩
theorem Rd.below(h:Rd w B sz v n xs)(hb:Below B w w'):Rd w' B sz v n xs:=h.keep λ_ j=>hb.cell j
theorem Rd.below'(h:Rd w B sz v n xs)(hb:Below w w w')(j:B<=w):Rd w' B sz v n xs:=h.keep λp D=>hb.cell (by omega)
theorem Rd.nil(w:World)(B sz:Nat):Rd w B sz (.slice none 0 0) 0 []:=⟨by simp,none,0,rfl,Q3 _,Qh _,λh=>absurd h (by omega)⟩
theorem Rd.of_own{base:Nat}{e:TypeId}(h:w.ownsRow base e sz v n xs):Rd w w sz v n xs:=by
 refine⟨h.1,?_⟩;rcases h.2 with⟨hv,D⟩|⟨g,cap,U,hv,hb,J,O,I,W,X⟩;·exact⟨none,0,by rw[hv,D],by omega,Qh _,λh=>absurd h (by omega)⟩
 refine⟨_,cap,hv,O,I,λD=>⟨g,0,rfl,(Q5.1 J).1,λj u Q=>?_⟩⟩;have:=h.cells (g:=g) (by rw[hv];rfl) j u Q;rw[V7];unfold Addr.add at this;split at this;·rename_i E;subst E;exact this
 simpa using this
theorem Rd.sub{A:Option Addr}{c:Nat}(h:Rd w B sz (.slice A n c) n xs){i k:Nat}(U:i<=k)(W:k<=n)(E:Option Addr)(J:0<k-i->∀b o,A=some ⟨b,o,none⟩->E=some ⟨b,o+i*sz,none⟩){c':Nat}(O:k-i<=c')(hm:c'<=maxLen):Rd w B sz (.slice E (k-i) c') (k-i) ((xs.drop (i*sz)).take ((k-i)*sz)):=by
 have I:=h.1;have Y:k*sz<=n*sz:=Ob _ W;have Z:i*sz<=k*sz:=Ob _ U;refine⟨by rw[Zi,Ds,I,Nat.sub_mul];omega,E,c',rfl,O,hm,λX=>?_⟩;obtain⟨b,o,e,hb,Q⟩:=h.cells (by omega);refine⟨b,o+i*sz,J X b o e,hb,λj u D=>?_⟩;rw[List.getElem?_take] at D;split at D;·rw[List.getElem?_drop] at D;have:=Q _ u D;rw[Nat.add_assoc];exact this
 cases D
end
theorem Ry{B:Nat}{a w:World}(h:Below B a w)(n:Nat):Below B a (w.drewN n):=⟨h.os,h.tape,h.output,h.size,h.block⟩
theorem DJ{B:Nat}{a w:World}(h:Below B a w){k:Nat}(D:B<=k)(s:ByteArray)(j:Nat):Below B a (w.iterAt k s j):=Lib.below_iterAt h D s j
theorem DK{w:World}{base:Nat}{e:TypeId}{sz n:Nat}{v:Value}{xs:List Value}(h:w.ownsRow base e sz v n xs){k:Nat}{s:ByteArray}{I:Nat}(E:w.heap[k]?=some (.stringIter s I)):v.ownBlock≠some k:=by
 rcases h.2 with⟨rfl,_⟩|⟨g,cap,J,rfl,_,D,_⟩;·simp[Value.ownBlock]
 intro j;simp only[Value.ownBlock,Dq] at j;subst j;rw[E] at D;cases D
theorem Oj{w:World}{base:Nat}{e:TypeId}{sz n:Nat}{v:Value}{xs:List Value}(h:w.ownsRow base e sz v n xs){k:Nat}{s:ByteArray}{O:Nat}(J:w.heap[k]?=some (.stringIter s O))(D:Nat):(w.iterAt k s D).ownsRow base e sz v n xs:=
 h.kept (row:=some k) ⟨rfl,rfl,rfl,by rw[Lib.iterAt_size];exact Q3 _,λj _ I=>Lib.iterAt_other w k j s D (λE=>I (by rw[E]))⟩ (.inr (DK h J))
end
section
open Go Go.Sort
section
variable {P:Program} {ops:Array Oper} {md:Region.Mode} {C:World->Prop}
def Em(P:Program)(md:Region.Mode)(ops:Array Oper)(C:World->Prop)(n:Nat)(L:Array Bool->Act->Prop):Nat->Array Bool->Act->Prop
 |0,h,a=>L h a
 |f+1,h,a=>
  Region.ready md ops h≠[]/\∀i∈Region.ready md ops h,i<n/\qOp P ops C i (Em P md ops C n L f (h.setIfInBounds i true)) a
theorem Ow{n g:Nat}{L:Array Bool->Act->Prop}{Q':Exit->Act->World->Prop}(E:∀j a w,C w->L j a->wpAny P md ops Q' g j a w):
  ∀(f:Nat)(j:Array Bool)(a:Act)(w:World),C w->Em P md ops C n L f j a->wpAny P md ops Q' (f+g) j a w
 |0,j,a,w,D,h=>by rw[V7];exact E _ _ _ D h
 |f+1,j,a,w,D,h=>by
  rw[show f+1+g=(f+g)+1 by omega]
  exact⟨λO=>absurd O h.1,λi Q=>wpOp_of_qOp D (λI w' U J=>Ow E f _ I w' U J) (h.2 i Q).2⟩
theorem RL{n i:Nat}{U:Oper}{v:Value}{L:Array Bool->Act->Prop}(hi:ops[i]?=some U)(a6:∀(j:Nat)(o:Oper) cs b,ops[j]?=some o->o.op≠.select cs b)(hs:Region.sinkB md ops n=true)(hc:Region.chainB md ops n=true)(hn:n<ops.size)(a3:i<n)(a8:∀D a,L D a->∀j∈Region.ready md ops D,n<=j):∀(f:Nat)(D:Array Bool)(a:Act),HeadInv md ops n D->(∀j Q,ops[j]?=some Q->j≠i->D.getD j true=false->(∀e∈Q.after,Region.binds md e=true->e.on≠i)->U.apart ops Q=true)->i∈Region.ready md ops D->YieldsIn P ops C U v a->Em P md ops C n L f (D.setIfInBounds i true) (a.put U.dst v)->Em P md ops C n L (f+1) D a:=by
 intro f
 induction f with
 |zero=>
  intro D a a0 _ I Z H;have O:=(Uh.1 I).1;refine⟨λh=>(by rw[h] at I;cases I),λj J=>?_⟩
  have Y:j<n:=by
   rcases UH j n with h|h;·exact h
   exact absurd J (tail_waits hs hc hn a0 _ i rfl a3 O j h)
  refine⟨Y,?_⟩;by_cases E:j=i;·subst E;exact Z.qOp hi H
  have:=a8 _ _ H j (G5 J E);omega
 |succ f ih=>
  intro D a a0 a2 I Z H;have O:=(Uh.1 I).1;refine⟨λh=>(by rw[h] at I;cases I),λj J=>?_⟩
  have Y:j<n:=by
   rcases UH j n with h|h;·exact h
   exact absurd J (tail_waits hs hc hn a0 _ i rfl a3 O j h)
  refine⟨Y,?_⟩;by_cases E:j=i;·subst E;exact Z.qOp hi H
  have X:=(H.2 j (G5 J E)).2;obtain⟨a5,Q,a1,a7⟩:=Uh.1 J;have ad:∀e∈Q.after,Region.binds md e=true->e.on≠i:=λe he hb a9=>by have X:=a7 e he hb;rw[a9,getD_both O] at X;cases X
  have h2:=qOp_put a1 (a2 j Q a1 E a5 ad) (λcs b=>a6 i U cs b hi) (λcs b=>a6 j Q cs b a1) Z X
  have aa:∀k W,ops[k]?=some W->k≠i->(D.setIfInBounds j true).getD k true=false ->
    (∀e∈W.after,Region.binds md e=true->e.on≠i)->U.apart ops W=true:=λk W hk ab O ac=>by
   refine a2 k W hk ab ?_ ac
   by_cases a4:j=k
   ·subst a4;exact a5
   ·rw[getD_set_ne true a4] at O;exact O
  refine qOp_mono (λa' h3=>ih (D.setIfInBounds j true) a' (a0.set J Y) aa (G5 I (XF E)) h3.1 ?_) h2;rw[Array.setIfInBounds_comm _ _ E];exact h3.2
theorem Ox{n g:Nat}{O:Act->Prop}(a0:Region.noSelect ops=true)(hs:Region.sinkB md ops n=true)(U:Region.chainB md ops n=true)(Y:n<ops.size):
  ∀(l:List Oper)(k:Nat)(D:Array Bool)(a:Act),(∀j,j<l.length->l[j]?=ops[k+j]?)->k+l.length=n->HeadInv md ops n D ->
  Region.lexHead md ops g l.length k D=true->wpQuiet P ops C O l a ->
  Em P md ops C n (λa2 Q=>Region.seqB md ops g n a2=true/\O Q) l.length D a
 |[],k,D,a,_,J,_,I,h=>by
  have:k=n:=by simpa using J
  subst this
  exact⟨by simpa [Region.lexHead] using I,h⟩
 |o::l,k,D,a,X,J,a1,I,h=>by
  have E:ops[k]?=some o:=by simpa using (X 0 (by simp)).symm
  simp only[Z4,Region.lexHead,ZJ] at I
  obtain⟨⟨hr,hf⟩,a3⟩:=I
  have W:k<n:=by simp only[Z4] at J;omega
  have Z:k∈Region.ready md ops D:=by simpa using hr
  have a4:qOp P ops C k (wpQuiet P ops C O l) a:=by unfold qOp;simp only[E];exact h
  obtain⟨v,hy,hK⟩:=yieldsIn_of_qOp E a4
  exact RL E (Region.noSelect_spec a0) hs U Y W (λa2 Q hL=>seqB_ready hL.1) l.length D a a1 (Region.free_spec E hf) Z hy
   (Ox a0 hs U Y l (k+1) _ _ (λj hj=>by have:=X (j+1) (by simp;omega);simpa [Nat.add_assoc,Nat.add_comm 1 j] using this) (by simp only[Z4] at J;omega) (a1.set Z W) a3 hK)
end
theorem RM{P:Program}{C:World->Prop}{id:Nat}{Q:Exit->Act->World->Prop}{a:Act}{w:World}{l:List Oper}(n:Nat)(hm:P.follows .mixedOrders=true)(I:Region.lexTailB .any l.toArray n=true)(Y:C (w.drewN 1))(h:wpQuiet P l.toArray C (λE=>∀w',C w'->wpList P l.toArray Q (l.drop n) E w') (l.take n) a):(Code.region id l.toArray true).wp P Q a w:=by
 simp only[Region.lexTailB,ZJ,XD] at I;obtain⟨⟨⟨⟨a2,X⟩,hs⟩,Z⟩,a1⟩:=I;have a6:n<l.length:=by simpa using X
 have D:(l.take n).length=n:=by simp;omega
 have O:(l.drop n).length=l.toArray.size-n:=by simp
 have a4:HeadInv .any l.toArray n (Array.replicate l.toArray.size false):=
  ⟨by simp,λj oj _ W=>(by rw[getD_replicate_false] at W;cases W),λt _ ht=>getD_in (by simpa using ht) (getD_replicate_false _ _)⟩
 have H:=Ox (C:=C) (md:=.any) (g:=l.toArray.size-n) a2 hs Z X (l.take n) 0 _ a (λj U=>by
  have a0:j<n:=by rw[D] at U;exact U
  simp[a0]) (by simpa using D) a4 (by rw[D];exact a1) h
 refine Jt hm ?_
 have:=Ow (Q':=Q) (g:=l.toArray.size-n) (λa5 E w' a3 J=>by
  have:=wpAny_of_seq (md:=.any) (Q':=Q) (l.drop n) n a5 E w' (λj=>by simp[List.getElem?_drop]) (by rw[O];exact J.1) (J.2 w' a3)
  rwa [O] at this) _ _ _ _ Y H
 rw[D,show n+(l.toArray.size-n)=l.toArray.size by omega] at this;exact this
theorem RN{P:Program}{id:Nat}{Q:Exit->Act->World->Prop}{a:Act}{w:World}{l:List Oper}(n:Nat)(hm:P.follows .mixedOrders=true)(D:Region.lexTailB .any l.toArray n=true)(h:wpQuiet P l.toArray (λw'=>∃p:GrownBy,w'=grow (w.drewN p.n) p.os) (λj=>∀w',(∃p:GrownBy,w'=grow (w.drewN p.n) p.os)->wpList P l.toArray Q (l.drop n) j w') (l.take n) a):(Code.region id l.toArray true).wp P Q a w:=
 RM n hm D ⟨⟨1,#[]⟩,by rw[grow_empty]⟩ h
theorem RO{P:Program}{id:Nat}{Q:Exit->Act->World->Prop}{a:Act}{w:World}{l:List Oper}(n:Nat)(hm:P.follows .mixedOrders=true)(D:Region.lexTailB .any l.toArray n=true)(h:∀W:World,W=w.drewN 1->wpStill P l.toArray W (λj=>wpList P l.toArray Q (l.drop n) j W) (l.take n) a):(Code.region id l.toArray true).wp P Q a w:=
 wp_region_still_tail n hm D (h (w.drewN 1) rfl)
theorem QK{P:Program}{id:Nat}{Q:Exit->Act->World->Prop}{a:Act}{w:World}{l:List Oper}(hm:P.follows .mixedOrders=true)(D:Region.lexB .any l.toArray=true)(h:wpQuiet P l.toArray (λw'=>∃p:GrownBy,w'=grow (w.drewN p.n) p.os) (λj=>∀w',(∃p:GrownBy,w'=grow (w.drewN p.n) p.os)->Q .normal j w') l a):(Code.region id l.toArray true).wp P Q a w:=
 wp_region_quiet_grown hm D h
end
section
open Go Go.RowKit
theorem QN:type_of% @wpQuiet_nil:=@wpQuiet_nil
theorem Zl:type_of% @Tryz.isAgg31:=@Tryz.isAgg31
theorem DF:type_of% @rounds_succ:=@rounds_succ
def Qu(x:Int):Prop := -9223372036854775808<=x/\x<=9223372036854775807
instance (x:Int):Decidable (Qu x):=inferInstanceAs (Decidable (_/\_))
structure Q4 where
 T:Int
 R:Int
 hT:Qu T
 hR:Qu R
deriving DecidableEq
structure Id where
 s:Q4
 I:Int
 hI:Qu I
deriving DecidableEq
structure QP where
 n:Id
 b:Q4
deriving DecidableEq
def Qv(x:Q4):List Value:=[x.T,x.R]
def Qe(x:Id):List Value:=[x.s.T,x.s.R,x.I]
def QR(x:QP):List Value:=[x.n.s.T,x.n.s.R,x.n.I,x.b.T,x.b.R]
def QU(x:Q4):Value:=.agg #[x.T,x.R]
def Qa(x:Id):Value:=.agg #[x.s.T,x.s.R,x.I]
def JH(x:QP):Value:=.agg #[x.n.s.T,x.n.s.R,x.n.I,x.b.T,x.b.R]
def Q4.lt(a b:Q4):Bool:=decide (a.T<b.T)||decide (a.T=b.T)&&decide (a.R<b.R)
theorem Qo{a b:Bool}(h:a=b):Ending.returned (.bool a)=Ending.returned (.bool b):=by rw[h]
theorem YX{k:IntKind}{a b:Int}(h:a=b):Ending.returned (.int k a)=Ending.returned (.int k b):=by rw[h]
def Q0(w w':World):Prop:=∃q os,w'=Sort.grow (w.drewN q) os
theorem Q0.refl(w:World):Q0 w w:=⟨0,#[],by rw[Sort.grow_empty];rfl⟩
theorem Q0.alloc{w w':World}(h:Q0 w w')(o:Obj):Q0 w (w'.alloc o):=by obtain⟨q,os,rfl⟩:=h;exact⟨q,os++#[o],by rw[Sort.alloc_eq_grow,Sort.grow_grow]⟩
theorem Q0.drewN{w w':World}(h:Q0 w w')(n:Nat):Q0 w (w'.drewN n):=by obtain⟨q,os,rfl⟩:=h;exact⟨q+n,os,by rw[<-World.drewN_drewN];rfl⟩
theorem Q0.trans{a b c:World}(h:Q0 a b)(k:Q0 b c):Q0 a c:=by obtain⟨q,os,rfl⟩:=h;obtain⟨D,j,rfl⟩:=k;refine⟨q+D,os++j,?_⟩;rw[<-World.drewN_drewN,<-Sort.grow_grow];rfl
theorem Q0.below{a b:World}(h:Q0 a b):Below a a b:=by obtain⟨q,os,rfl⟩:=h;exact⟨rfl,rfl,rfl,by rw[Sort.size_grow];exact Nat.le_add_right _ _,λi j=>Sort.heap_grow_old (a.drewN q) os j⟩
theorem GW{W j:World}(hb:Below W.heap.size W j):(∀b o,b<W.heap.size->j.cell? ⟨b,o,none⟩=W.cell? ⟨b,o,none⟩)/\(∀b o,b<W.heap.size->j.frozen? ⟨b,o,none⟩=W.frozen? ⟨b,o,none⟩):=
 ⟨λb o h=>hb.cell (p:=⟨b,o,none⟩) h,λb o h=>hb.frozen (p:=⟨b,o,none⟩) h⟩
theorem G9(a b:Q4)(w:World):Calls Tryz.prog 120 #[QU a,QU b] w λe w'=>e=.returned (.bool (a.lt b))/\Q0 w w':=by
 obtain⟨D,h,_,_⟩:=a;obtain⟨E,j,_,_⟩:=b;unfold QU Q4.lt;dsimp only;go_enter Tryz.func120,Tryz.ntmps120;go_wp2;all_goals go_ret;refine⟨Qo ?_,((Q0.refl w).alloc _).alloc _⟩
 all_goals first|rfl|(simp[*];done)|(simp;omega)
def Q4.cmp(a b:Q4):Int:=if a.lt b then -1 else if b.lt a then 1 else 0
theorem RP(a b:Q4)(w:World):Calls Tryz.prog 166 #[QU a,QU b] w λe w'=>e=.returned (.int .i64 (a.cmp b))/\Q0 w w':=by
 have j:=Ki (λw=>G9 a b w);have E:=Ki (λw=>G9 b a w);have D:=Kj (a.cmp b=if a.lt b then -1 else if b.lt a then 1 else 0) rfl;generalize a.cmp b=c at *;generalize a.lt b=x at *;generalize b.lt a=y at *;obtain⟨X,U,_,_⟩:=a;obtain⟨Y,W,_,_⟩:=b;unfold QU at *;dsimp only at *;cases x;·cases y;all_goals go_enter Tryz.func166,Tryz.ntmps166;go_wp2_with fail;refine(j.o _).mono ?_;rintro e J ⟨rfl,h⟩;obtain⟨O,Q⟩:=GW h.below;go_wp2_with fail;refine(E.o _).mono ?_;rintro e Z ⟨rfl,I⟩;go_wp2;go_ret;exact⟨YX (by rw[D.o];simp),((((Q0.refl w).alloc _).alloc _).trans h).trans I⟩
 go_enter Tryz.func166,Tryz.ntmps166;go_wp2_with fail;refine(j.o _).mono ?_;rintro e J ⟨rfl,h⟩;go_wp2;go_ret;exact⟨YX (by rw[D.o];simp),(((Q0.refl w).alloc _).alloc _).trans h⟩
theorem Ym{w:World}{g:Nat}{cs:Array Value}{t:TypeId}(h:w.heap[g]?=some (.cells cs t (0,0)))(n:Nat)(os:Array Obj)(i:Nat):(Sort.grow (w.drewN n) os).cell? (g,i)=cs[i]?:=by rw[Sort.cell?_grow _ _ _ ((Q5.1 h).1)];exact cell_of_row w g i cs t (0,0) h
theorem Qk{P:Program}{f:FuncId}{args:Array Value}{w:World}{n:Nat}{os:Array Obj}{v:Value}(h:Calls P f args (Sort.grow (w.drewN n) os) λe w'=>e=.returned v/\Q0 (Sort.grow (w.drewN n) os) w'):Calls P f args (Sort.grow (w.drewN n) os) λe I=>e=.returned v/\∃p:Go.GrownBy,I=Sort.grow (w.drewN p.n) p.os:=
 Calls.grown_of (h.mono λ_ _ ⟨j,q,E,D⟩=>⟨j,q,E,D⟩)
theorem JI{P:Program}{f:FuncId}{args:Array Value}{w:World}{n:Nat}{os:Array Obj}{v:Value}(h:Calls P f args (Sort.grow (w.drewN n) os) λe w'=>e=.returned v/\Sort.grow (w.drewN n) os=w'):Calls P f args (Sort.grow (w.drewN n) os) λe E=>e=.returned v/\∃p:Go.GrownBy,E=Sort.grow (w.drewN p.n) p.os:=
 h.mono λ_ _ ⟨j,D⟩=>⟨j,⟨n,os⟩,D.symm⟩
def Vp(a b:Int):Int:=if a<b then -1 else if b<a then 1 else 0
theorem RQ(a:Int)(w:World):Calls Tryz.prog 134 #[a] w λe w'=>e=.returned (.bool false)/\w=w':=by go_enter Tryz.func134,Tryz.ntmps134;go_wp2;go_ret;exact⟨rfl,rfl⟩
theorem Oy(a b:Int)(w:World):Calls Tryz.prog 77 #[a,b] w λe w'=>e=.returned (.int .i64 (Vp a b))/\w=w':=by
 have D:=Ki (λa w=>RQ a w);have j:=Kj (Vp a b=if a<b then -1 else if b<a then 1 else 0) rfl;generalize Vp a b=c at *;rcases Int.lt_trichotomy a b with h|h|h
 ·have E:decide (a<b)=true:=by simpa using h
  rw[Q7 h] at j;go_enter Tryz.func77,Tryz.ntmps77;go_wp2_with (go_at_call 134;refine(D.o _ _).mono ?_;rintro e w' ⟨rfl,rfl⟩);go_ret;exact⟨YX j.o.symm,rfl⟩
 ·subst h;rw[Q6 (by omega),Q6 (by omega)] at j;go_enter Tryz.func77,Tryz.ntmps77;go_wp2_with (go_at_call 134;refine(D.o _ _).mono ?_;rintro e w' ⟨rfl,rfl⟩);go_ret;exact⟨YX j.o.symm,rfl⟩
 have E:decide (a<b)=false:=by simp;omega
 rw[Q6 (by omega),Q7 h] at j;go_enter Tryz.func77,Tryz.ntmps77;go_wp2_with (go_at_call 134;refine(D.o _ _).mono ?_;rintro e w' ⟨rfl,rfl⟩);go_ret;exact⟨YX j.o.symm,rfl⟩
def UL(a b:Int):Int:=if a=0 then b else a
theorem Oz(a b:Int)(g:Nat)(w:World)(j:w.heap[g]?=some (.cells #[a,b] 3 (0,0))):Calls Tryz.prog 76 #[.slice (g,0) 2 2] w λe w'=>e=.returned (.int .i64 (UL a b))/\w=w':=by
 unfold UL;have E:=cr0 j;have I:=cr1 j;clear j;by_cases h:a=0
 ·rw[Q7 h];subst h;by_cases D:b=0;·subst D;go_enter Tryz.func76,Tryz.ntmps76;go_wp2;refine wp_loop_rounds 3 ?_;rw[DF];go_wp2;rw[DF];go_wp2;rw[DF];go_wp2;go_ret;exact⟨rfl,rfl⟩
  have hb:(b != 0)=true:=(by simpa using D);go_enter Tryz.func76,Tryz.ntmps76;go_wp2;refine wp_loop_rounds 3 ?_;rw[DF];go_wp2;rw[DF];go_wp2;go_ret;exact⟨rfl,rfl⟩
 rw[Q6 h];have J:(a != 0)=true:=by simpa using h
 go_enter Tryz.func76,Tryz.ntmps76;go_wp2;refine wp_loop_rounds 3 ?_;rw[DF];go_wp2;go_ret;exact⟨rfl,rfl⟩
theorem RS{w W:World}{n:Nat}(h:W=w.drewN n):(∀b o,W.cell? ⟨b,o,none⟩=w.cell? ⟨b,o,none⟩)/\(∀b o,W.frozen? ⟨b,o,none⟩=w.frozen? ⟨b,o,none⟩):=by subst h;exact⟨λ_ _=>rfl,λ_ _=>rfl⟩
theorem RT(a b:Q4):UL (Vp a.T b.T) (Vp a.R b.R)=a.cmp b:=by
 unfold UL Vp Q4.cmp Q4.lt;simp only[G4,ZJ,XD]
 repeat' split
 all_goals omega
theorem Eo(a b:Q4)(w:World):Calls Tryz.prog 57 #[QU a,QU b] w λe w'=>e=.returned (.int .i64 (a.cmp b))/\Q0 w w':=by
 have E:=Ki (RT a b);generalize a.cmp b=r at *;obtain⟨X,Q,_,_⟩:=a;obtain⟨Y,U,_,_⟩:=b;have D:=Ki (λa b w=>Oy a b w);unfold QU;dsimp only at E |-;go_enter Tryz.func57,Tryz.ntmps57;go_wp2;refine RO 10 (by kernel_rfl) (by kernel_rfl) ?_;intro W j;obtain⟨J,O⟩:=RS j;have I:Q0 w W:=by rw[j];exact(((Q0.refl w).alloc _).alloc _).drewN 1
 clear j;simp only[List.take_succ_cons,List.take_zero,List.drop_succ_cons,List.drop_zero];repeat still_step
 still_call ((D.o _ _ _).mono λ_ _ h=>⟨h.1,h.2.symm⟩);repeat still_step
 still_call ((D.o _ _ _).mono λ_ _ h=>⟨h.1,h.2.symm⟩);refine wpStill_nil ?_;go_wp2_with fail;refine(Oz _ _ _ _ (Qi W _)).mono ?_;rintro e w' ⟨rfl,rfl⟩;go_wp2;go_ret;exact⟨YX E.o,I.alloc _⟩
def Id.cmp(a b:Id):Int:=UL (a.s.cmp b.s) (Vp a.I b.I)
theorem GX(a b:Id)(w:World):Calls Tryz.prog 43 #[Qa a,Qa b] w λe w'=>e=.returned (.int .i64 (a.cmp b))/\Q0 w w':=by
 have D:=Ki (λw=>Eo a.s b.s w);have HC:=Ki (λa b w=>Oy a b w);have Y:=Kj (a.cmp b=UL (a.s.cmp b.s) (Vp a.I b.I)) rfl;generalize a.cmp b=r at *;generalize a.s.cmp b.s=x at *;obtain⟨⟨U,O,_,_⟩,I,_⟩:=a;obtain⟨⟨X,Q,_,_⟩,J,_⟩:=b;unfold Qa;unfold QU at D;dsimp only at Y D |-;go_enter Tryz.func43,Tryz.ntmps43;go_wp2;obtain⟨E,h⟩:∃W,((w.alloc (.cells #[U,O,I] 60)).alloc (.cells #[X,Q,J] 60))=W:=⟨_,rfl⟩;have hg:Q0 w E:=by rw[<-h];exact((Q0.refl w).alloc _).alloc _
 have j:E.heap[w.heap.size]?=some (.cells #[U,O,I] 60 (0,0)):=by rw[<-h];exact(Z5 _ _ _ (by simp)).trans (Qi w _)
 have hb2:E.heap[w.heap.size+1]?=some (.cells #[X,Q,J] 60 (0,0)):=by rw[<-h];have:=Qi (w.alloc (.cells #[U,O,I] 60)) (.cells #[X,Q,J] 60);simpa using this
 rw[h];have f1:=λn os=>Ym j n os 0;have f2:=λn os=>Ym j n os 1;have f3:=λn os=>Ym j n os 2;have g1:=λn os=>Ym hb2 n os 0;have g2:=λn os=>Ym hb2 n os 1;have g3:=λn os=>Ym hb2 n os 2;clear h j hb2;refine RN 10 (by kernel_rfl) (by kernel_rfl) ?_;simp only[List.take_succ_cons,List.take_zero,List.drop_succ_cons,List.drop_zero];repeat (quiet_step (first|(go_at_call 57;exact Qk (D.o _))|(go_at_call 77;exact JI (HC.o _ _ _))))
 refine QN ?_;rintro W ⟨⟨n,os⟩,Z⟩;have a0:Q0 w W:=by rw[Z];exact hg.trans ⟨n,os,rfl⟩
 clear Z;go_wp2_with fail;refine(Oz _ _ _ _ (Qi W _)).mono ?_;rintro e w' ⟨rfl,rfl⟩;go_wp2;go_ret;exact⟨YX Y.o.symm,a0.alloc _⟩
theorem GY(a b:Id)(w:World):Calls Tryz.prog 123 #[Qa a,Qa b] w λe w'=>e=.returned (.int .i64 (a.cmp b))/\Q0 w w':=by
 have E:=Ki (λw=>RP a.s b.s w);have j:=Kj (a.cmp b=UL (a.s.cmp b.s) (Vp a.I b.I)) rfl;generalize a.cmp b=r at *;generalize a.s.cmp b.s=x at *;obtain⟨⟨t1,Z,_,_⟩,J,_⟩:=a;obtain⟨⟨t2,r2,_,_⟩,O,_⟩:=b;unfold Qa;unfold QU at E;unfold UL Vp at j;dsimp only at j E |-;by_cases I:x=0
 ·subst I;rw[Q7 rfl] at j;rcases Int.lt_trichotomy J O with h|h|h;·have X:decide (J<O)=true:=(by simpa using h);rw[Q7 h] at j;go_enter Tryz.func123,Tryz.ntmps123;go_wp2_with fail;refine(E.o _).mono ?_;rintro e Q ⟨rfl,D⟩;obtain⟨U,W⟩:=GW D.below;go_wp2;go_ret;exact⟨YX j.o.symm,(((Q0.refl w).alloc _).alloc _).trans D⟩
  ·subst h;rw[Q6 (by omega),Q6 (by omega)] at j;go_enter Tryz.func123,Tryz.ntmps123;go_wp2_with fail;refine(E.o _).mono ?_;rintro e Q ⟨rfl,D⟩;obtain⟨U,W⟩:=GW D.below;go_wp2;go_ret;exact⟨YX j.o.symm,(((Q0.refl w).alloc _).alloc _).trans D⟩
  have X:decide (J<O)=false:=(by simp;omega);rw[Q6 (by omega),Q7 h] at j;go_enter Tryz.func123,Tryz.ntmps123;go_wp2_with fail;refine(E.o _).mono ?_;rintro e Q ⟨rfl,D⟩;obtain⟨U,W⟩:=GW D.below;go_wp2;go_ret;exact⟨YX j.o.symm,(((Q0.refl w).alloc _).alloc _).trans D⟩
 rw[Q6 I] at j;have Y:(x != 0)=true:=by simpa using I
 go_enter Tryz.func123,Tryz.ntmps123;go_wp2_with fail;refine(E.o _).mono ?_;rintro e Q ⟨rfl,D⟩;go_wp2;go_ret;exact⟨YX j.o.symm,(((Q0.refl w).alloc _).alloc _).trans D⟩
instance : Coe Id (List Go.Value):=⟨λo=>[.int .i64 o.s.T,.int .i64 o.s.R,.int .i64 o.I]⟩
instance : Coe Id (Array Go.Value):=⟨λo=>#[.int .i64 o.s.T,.int .i64 o.s.R,.int .i64 o.I]⟩
theorem O6:type_of% @Go.WideShapes.add_plain:=@Go.WideShapes.add_plain
theorem OH{g:Nat}{e:TypeId}:∀(j old A R:List Value)(w:World),w.heap[g]?=some (.cells (A++old++R).toArray e (0,0))->j.length=old.length->(w.setCells g A.length j).heap[g]?=some (.cells (A++j++R).toArray e (0,0))
 |[],old,A,R,w,h,D=>by have:old=[]:=VJ D.symm;subst this;exact h
 |v::j,[],A,R,w,h,D=>by simp at D
 |v::j,u::old,A,R,w,h,D=>by
  have E:(w.setCell (g,A.length) v).heap[g]?=some (.cells ((A++[v])++old++R).toArray e (0,0)):=by simp[World.setCell,Vm,h]
  have:=OH j old (A++[v]) R _ E (by simpa using D);rw[World.setCells];simpa using this
theorem OI{g:Nat}:∀(j:List Value)(o:Nat)(w:World)(k:Nat),k≠g->(w.setCells g o j).heap[k]?=w.heap[k]?|[],_,_,_,_=>rfl|v::j,o,w,k,h=>by rw[World.setCells,OI j (o+1) _ k h];exact YV _ _ _ _ h
theorem OJ{g:Nat}:∀(h:List Value)(o:Nat)(w:World),(w.setCells g o h).os=w.os/\(w.setCells g o h).tape=w.tape/\(w.setCells g o h).output=w.output/\(w.setCells g o h).heap.size=w.heap.size|[],_,_=>⟨rfl,rfl,rfl,rfl⟩|v::h,o,w=>by rw[World.setCells];obtain⟨j,D,E,I⟩:=OJ h (o+1) (w.setCell (g,o) v);exact⟨j,D,E,by rw[I];simp[World.setCell]⟩
theorem Jd{B g:Nat}{a w:World}(h:Below B a w)(Q:B<=g)(o:Nat)(j:List Value):Below B a (w.setCells g o j):=by obtain⟨D,E,I,J⟩:=OJ (g:=g) j o w;exact⟨D.trans h.os,E.trans h.tape,I.trans h.output,by rw[J];exact h.size,λk O=>by rw[OI j o w k (by omega)];exact h.block k O⟩
theorem V9{w:World}{base:Nat}{e:TypeId}{K n:Nat}{v:Value}{xs:List Value}(h:w.ownsRow base e K v n xs)(Q:0<n):∃g cap R,v=.slice (g,0) n cap/\base<=g/\g<w/\n<=cap/\cap<=maxLen/\w.heap[g]?=some (.cells (xs++R).toArray e (0,0))/\(xs++R).length=cap*K:=by
 rcases h.2 with⟨_,O⟩|⟨g,cap,E,rfl,hb,j,I,hm,J,D⟩;·omega
 refine⟨g,cap,E.toList.drop (n*K),rfl,hb,(Q5.1 j).1,I,hm,?_,?_⟩;·rw[<-D,XU];exact j
 rw[<-D,XU];simpa using J
theorem DO{w:World}{base:Nat}{e:TypeId}{K n g cap:Nat}{xs R:List Value}(h:xs.length=n*K)(hb:base<=g)(D:n<=cap)(hm:cap<=maxLen)(j:w.heap[g]?=some (.cells (xs++R).toArray e (0,0)))(E:(xs++R).length=cap*K):w.ownsRow base e K (.slice (g,0) n cap) n xs:=
 ⟨h,.inr ⟨g,cap,_,rfl,hb,j,D,hm,by simpa using E,by simp[<-h]⟩⟩
theorem VQ{w:World}{base:Nat}{e:TypeId}{K n g cap:Nat}{A old C:List Value}(h:w.ownsRow base e K (.slice (g,0) n cap) n (A++old++C))(D:List Value)(E:D.length=old.length)(U:0<n):(w.setCells g A.length D).ownsRow base e K (.slice (g,0) n cap) n (A++D++C):=by
 obtain⟨Z,Y,R,j,hb,_,W,hm,O,X⟩:=V9 h U;injection j with j _ I;injection j with j;injection j with j;subst j;subst I;have J:=OH D old A (C++R) w (by simpa using O) E;have Q:(A++D++C).length=(A++old++C).length:=by simp[E]
 refine DO (R:=R) ?_ hb W hm (by simpa using J) ?_;·rw[Q];exact h.1
 rw[<-X];simp[E]
theorem QB{w w':World}{base:Nat}{e:TypeId}{K n:Nat}{v:Value}{xs:List Value}(h:w.ownsRow base e K v n xs)(hb:Below w w w'):w'.ownsRow base e K v n xs:=
 h.kept (row:=none) ⟨hb.os,hb.tape,hb.output,hb.size,λk j _=>hb.block k j⟩ (by
  cases hv:v.ownBlock;·exact .inl rfl
  exact .inr (by simp))
theorem X8{w:World}{base:Nat}{e:TypeId}{K n g cap:Nat}{xs:List Value}(h:w.ownsRow base e K (.slice (g,0) n cap) n xs)(j:Nat)(u:Value)(I:xs[j]?=some u):w.cell? (g,j)=some u/\w.frozen? (g,j)=false:=by
 have O:0<n:=by
  rcases Dm n with E|E;·have:=h.1;rw[E,Ef] at this;have:=VJ this;subst this;simp at I
  exact E
 obtain⟨W,Q,R,D,hb,_,X,hm,J,Y⟩:=V9 h O;injection D with D _ U;injection D with D;injection D with D;subst D;refine⟨?_,by simp[World.frozen?,J]⟩;rw[cell_of_row w g j _ e (0,0) J];have:j<xs.length:=(Kb.1 I).1;simpa [VK this] using I
theorem YY{w:World}{base:Nat}{e:TypeId}{K n g cap:Nat}{xs:List Value}(h:w.ownsRow base e K (.slice (g,0) n cap) n xs)(E:0<n)(i:Nat):w.frozen? (g,i)=false:=by obtain⟨O,I,R,j,_,_,_,_,D,_⟩:=V9 h E;injection j with j _ J;injection j with j;injection j with j;subst j;simp[World.frozen?,D]
theorem Zd(w:World)(xs:List Value)(t:TypeId):∀j u,xs[j]?=some u->(w.alloc (.cells xs.toArray t)).cell? ((⟨w.heap.size,0,none⟩:Addr).add j)=some u:=by intro j u h;rw[O6,V7,cR _ (Qi w _),<-h];simp
theorem Ui{j:Type}{enc:j->List Value}{w:World}{base:Nat}{e:TypeId}{K:Nat}{v:Value}{L:List j}{x:j}(h:w.ownsRow base e K v (L.length+1) (L.flatMap enc++enc x)):∃g cap,v=.slice (g,0) (L.length+1) cap/\base<=g/\L.length+1<=cap/\cap<=maxLen/\w.ownsRow base e K (.slice (g,0) (L.length+1) cap) (L.length+1) ((L++[x]).flatMap enc):=by obtain⟨g,cap,R,rfl,hb,_,D,hm,_,_⟩:=V9 h (Nat.succ_pos _);exact⟨g,cap,rfl,hb,D,hm,by simpa using h⟩
theorem XG{j:Type}(enc:j->List Value)(k:Nat)(h:∀x,(enc x).length=k):∀L:List j,(L.flatMap enc).length=L.length*k|[]=>by simp|a::L=>by rw[XA,Qj,XG enc k h L,h,Z4,DH];omega
theorem YJ{j:Type}(enc:j->List Value)(k:Nat)(h:∀x,(enc x).length=k)(P S:List j)(y:j)(r:Nat)(u:Value)(D:(enc y)[r]?=some u):((P++y::S).flatMap enc)[P.length*k+r]?=some u:=by
 have E:r<k:=by rw[<-h y];exact(Kb.1 D).1
 rw[Zb,JZ (by rw[XG enc k h];omega),XG enc k h,XA,U6,VK (by rw[h];exact E)];exact D
theorem F5{D:Type}{enc:D->List Value}{k:Nat}(j:∀x,(enc x).length=k){w:World}{base:Nat}{e:TypeId}{n g cap:Nat}{P S:List D}{y x:D}(h:w.ownsRow base e k (.slice (g,0) n cap) n ((P++y::x::S).flatMap enc))(I:0<n):((w.setCells g (P.length*k+k) (enc y)).setCells g (P.length*k) (enc x)).ownsRow base e k (.slice (g,0) n cap) n ((P++x::y::S).flatMap enc):=by
 have J:w.ownsRow base e k (.slice (g,0) n cap) n ((P.flatMap enc++enc y)++enc x++S.flatMap enc):=by simpa using h
 have O:=VQ J (enc y) (by rw[j,j]) I;have Q:(w.setCells g (P.flatMap enc++enc y).length (enc y)).ownsRow base e k (.slice (g,0) n cap) n (P.flatMap enc++enc y++(enc y++S.flatMap enc)):=by simpa using O
 have E:=VQ Q (enc x) (by rw[j,j]) I;rw[Qj,XG enc k j,j] at E;simpa using E
theorem JY:type_of% @Tryz.underlying3:=@Tryz.underlying3
def Kg(a b h j:Int):Bool:=a==h&&b==j
def Xs(a b c h j c':Int):Bool:=a==h&&b==j&&c==c'
def Ep(a b c d e h j c' D E:Int):Bool:=a==h&&b==j&&c==c'&&d==D&&e==E
theorem RU:Tryz.prog.underlying 27=some (.struct (Tryz.prog.fieldsOf 27)):=by kernel_rfl
theorem RV:Tryz.prog.underlying 60=some (.struct (Tryz.prog.fieldsOf 60)):=by kernel_rfl
theorem RW:Tryz.prog.underlying 171=some (.struct (Tryz.prog.fieldsOf 171)):=by kernel_rfl
theorem RX:Tryz.prog.stoodInHeld 27=false:=by kernel_rfl
theorem RY:Tryz.prog.stoodInHeld 60=false:=by kernel_rfl
theorem RZ:Tryz.prog.stoodInHeld 171=false:=by kernel_rfl
theorem Kh:Tryz.prog.eqGuardType Tryz.prog.depth 27=false:=by kernel_rfl
theorem ZR:Tryz.prog.eqGuardType Tryz.prog.depth 60=false:=by kernel_rfl
theorem S1:Tryz.prog.eqGuardType Tryz.prog.depth 171=false:=by kernel_rfl
theorem Bf(d:Nat)(a b h j:Int)(w:World):(Op.equalIn (d+2) 27 (.agg #[a,b]) (.agg #[h,j])).run Tryz.prog w=.ok (Kg a b h j) w:=by have u3:=JY;have I:=Tryz.isAgg3;have z3:=Tryz.sizeOf3;rw[run_equalIn_agg w (d+1) 27 _ _ RU RX];simp only[Program.fieldsOf,Tryz.underlying27];go_simp;unfold Kg;by_cases D:a=h<;>by_cases E:b=j<;>simp[D,E]
theorem GZ(a b h j:Int)(w:World):(binOp .eql 27 (.agg #[a,b]) (.agg #[h,j])).run Tryz.prog w=.ok (.bool (Kg a b h j)) w:=by rw[run_eql_struct,show(10000:Nat)=9998+2 from rfl,Bf];rfl
theorem OA(a b h j:Int)(w:World):(binOp .neq 27 (.agg #[a,b]) (.agg #[h,j])).run Tryz.prog w=.ok (.bool (!Kg a b h j)) w:=by rw[run_neq_struct,show(10000:Nat)=9998+2 from rfl,Bf];rfl
theorem OB(d:Nat)(a b c h j c':Int)(w:World):(Op.equalIn (d+3) 60 (.agg #[a,b,c]) (.agg #[h,j,c'])).run Tryz.prog w=.ok (Xs a b c h j c') w:=by have u3:=JY;have O:=Tryz.isAgg3;have z3:=Tryz.sizeOf3;have J:=Tryz.isAgg27;have U:=Tryz.sizeOf27;have Q:=λa b h j=>Bf d a b h j w;rw[run_equalIn_agg w (d+2) 60 _ _ RV RY];simp only[Program.fieldsOf,Tryz.underlying60];go_simp;unfold Xs;by_cases D:a=h<;>by_cases E:b=j<;>by_cases I:c=c'<;>simp[D,E,I]
theorem Xt(a b c h j c':Int)(w:World):(binOp .eql 60 (.agg #[a,b,c]) (.agg #[h,j,c'])).run Tryz.prog w=.ok (.bool (Xs a b c h j c')) w:=by rw[run_eql_struct,show(10000:Nat)=9997+3 from rfl,OB];rfl
theorem F1(a b c h j c':Int)(w:World):(binOp .neq 60 (.agg #[a,b,c]) (.agg #[h,j,c'])).run Tryz.prog w=.ok (.bool (!Xs a b c h j c')) w:=by rw[run_neq_struct,show(10000:Nat)=9997+3 from rfl,OB];rfl
theorem S2(n:Nat)(a b c d e h j c' D E:Int)(w:World):(Op.equalIn (n+4) 171 (.agg #[a,b,c,d,e]) (.agg #[h,j,c',D,E])).run Tryz.prog w=.ok (Ep a b c d e h j c' D E) w:=by have u3:=JY;have Y:=Tryz.isAgg3;have z3:=Tryz.sizeOf3;have W:=Tryz.isAgg27;have Z:=Tryz.sizeOf27;have X:=Tryz.isAgg60;have a0:=Tryz.sizeOf60;rw[run_equalIn_agg w (n+3) 171 _ _ RW RZ];simp only[Program.fieldsOf,Tryz.underlying171];go_simp;unfold Ep;by_cases I:a=h<;>by_cases J:b=j<;>by_cases O:c=c'<;>by_cases Q:d=D<;>by_cases U:e=E<;>simp[I,J,O,Q,U]
theorem S3(a b c d e h j c' D E:Int)(w:World):(binOp .eql 171 (.agg #[a,b,c,d,e]) (.agg #[h,j,c',D,E])).run Tryz.prog w=.ok (.bool (Ep a b c d e h j c' D E)) w:=by rw[run_eql_struct,show(10000:Nat)=9996+4 from rfl,S2];rfl
theorem F3(x y:Q4):Kg x.T x.R y.T y.R=decide (x=y):=by obtain⟨a,b,_,_⟩:=x;obtain⟨h,j,_,_⟩:=y;unfold Kg;rw[Js];simp[Q4.mk.injEq]
theorem F4(x y:Id):Xs x.s.T x.s.R x.I y.s.T y.s.R y.I=decide (x=y):=by obtain⟨⟨a,b,_,_⟩,c,_⟩:=x;obtain⟨⟨h,j,_,_⟩,c',_⟩:=y;unfold Xs;rw[Js];simp[Q4.mk.injEq,Id.mk.injEq]
theorem S4(x y:QP):Ep x.n.s.T x.n.s.R x.n.I x.b.T x.b.R y.n.s.T y.n.s.R y.n.I y.b.T y.b.R=decide (x=y):=by obtain⟨⟨⟨a,b,_,_⟩,c,_⟩,⟨d,e,_,_⟩⟩:=x;obtain⟨⟨⟨h,j,_,_⟩,c',_⟩,⟨D,E,_,_⟩⟩:=y;unfold Ep;rw[Js];simp[Q4.mk.injEq,Id.mk.injEq,QP.mk.injEq,and_assoc]
theorem Bg{j:Type}(enc:j->List Value)(k:Nat)(h:∀x,(enc x).length=k):∀L:List j,(L.flatMap enc).length=L.length*k|[]=>by simp|a::L=>by rw[XA,Qj,Bg enc k h L,h,Z4,DH];omega
theorem OC{I:Type}(enc:I->List Value)(k:Nat)(D:∀x,(enc x).length=k):∀(L:List I)(i:Nat)(h:i<L.length)(j:Nat),j<k->(L.flatMap enc)[i*k+j]?=(enc L[i])[j]?|[],i,h,_,_=>absurd h (by simp)|a::L,0,_,j,E=>by rw[XA,Ef,V7,VK (by rw[D];exact E)];rfl|a::L,i+1,h,j,E=>by rw[XA,JZ (by rw[D,DH];omega),D,show(i+1)*k+j-k=i*k+j by rw[DH];omega];exact OC enc k D L i (by simpa using h) j E
theorem QL{j:Type}(enc:j->List Value)(k:Nat)(E:∀x,(enc x).length=k)(D:0<k){L:List j}{n:Nat}(h:(L.flatMap enc).length=n*k):L.length=n:=by rw[Bg enc k E] at h;exact Nat.eq_of_mul_eq_mul_right D h
theorem Qr{I:Type}(enc:I->List Value)(k:Nat)(D:∀x,(enc x).length=k)(J:0<k){L:List I}{w:World}{B c n:Nat}{A:Option Addr}(h:Rd w B k (.slice A n c) n (L.flatMap enc)){i:Nat}(Q:i<L.length):∃b o,A=some ⟨b,o,none⟩/\b<B/\∀j u,(enc L[i])[j]?=some u->w.cell? (b,o+i*k+j)=some u:=by
 have W:0<n:=by have:=h.1;rw[Bg enc k D] at this;have:=Nat.eq_of_mul_eq_mul_right J this;omega
 obtain⟨b,o,e,hb,O⟩:=h.cells W;refine⟨b,o,e,hb,λj u E=>?_⟩;have U:j<k:=by rw[<-D L[i]];exact(Kb.1 E).1
 rw[Nat.add_assoc];exact O _ u (by rw[OC enc k D L i Q j U];exact E)
theorem Bh{j:Type}{L:List j}{x:j}{k:Nat}(D:k<L.length)(E:x∉L.take k)(I:¬L[k]=x):x∉L.take (k+1):=by
 rw[QQ D,Qq];rintro(h|h);·exact E h
 exact I (Qw.1 h).symm
theorem OD{I:Type}{L M:List I}{k:Nat}(h:k<L.length)(j:k<M.length)(D:L.take k=M.take k)(E:L[k]=M[k]):L.take (k+1)=M.take (k+1):=by rw[QQ h,QQ j,D,E]
def Bi{h:Type}(L:List h)(x:h)(j:World)(i:Value)(wr:World):Prop:=∃k:Nat,k<=L.length/\i=k/\x∉L.take k/\∃q,wr=j.drewN q
def OE{j:Type}(L M:List j)(h:World)(i:Value)(wr:World):Prop:=∃k:Nat,k<=L.length/\i=k/\L.take k=M.take k/\∃q,wr=h.drewN q
theorem OF(L:List Q4)(x:Q4)(A:Option Addr)(n c B:Nat)(w:World)(I:Rd w B 2 (.slice A n c) n (L.flatMap Qv))(hB:B<=w):Calls Tryz.prog 114 #[.slice A n c,QU x] w λe w'=>e=.returned (.bool (decide (x∈L)))/\Q0 w w':=by
 obtain⟨_,a4,a1⟩:=I.len;unfold maxLen at a1;obtain rfl:=QL Qv 2 (λ_=>rfl) (by decide) I.1;have X:=Ki I;clear I;unfold QU;go_enter Tryz.func114,Tryz.ntmps114;go_wp2;obtain⟨E,J⟩:∃a0,w.alloc (.cells #[x.T,x.R] 27)=a0:=⟨_,rfl⟩;have U:Q0 w E:=by rw[<-J];exact(Q0.refl w).alloc _
 have O:=bn J;rw[J];have c0:=cr0 O;have c1:=cR 1 O;have Z:=Ki (X.o.below' U.below hB);clear J O X;go_loopw [5] (λi wr=>Bi L x E i wr) (λi _=>L.length-(intOf i).toNat);case atStart=>exact⟨0,Qh _,rfl,by simp,0,rfl⟩
 case round=>
  obtain⟨k,hk,rfl,h,q,rfl⟩:=hrel;by_cases W:k<L.length
  ·obtain⟨b,o,rfl,a2,Q⟩:=Qr Qv 2 (λ_=>rfl) (by decide) Z.o W;have d0:E.cell? (b,o+k*2)=some (.int .i64 L[k].T):=Q 0 _ rfl;have d1:E.cell? (b,o+k*2+1)=some (.int .i64 L[k].R):=Q 1 _ rfl;clear Q;have hq:=GZ;have a3:=Kh;have Y:=F3 L[k] x;by_cases j:L[k]=x;·rw[QF j] at Y;have D:=Kj (decide (x∈L)=true) (QF (j▸Zt W));clear j h;go_wp2;go_quiet (fail);go_wp2;go_ret;exact⟨Qo D.o.symm,(U.drewN q).drewN nq⟩
   rw[Zo j] at Y;have D:=Ki (Bh W h j);clear j h;go_wp2;go_quiet (fail);go_wp2;go_roundw;case rel=>exact⟨k+1,by omega,by go_num,D.o,q+nq,rfl⟩
   case measure=>simp[intOf];omega
  have D:=Ki (Zo (by rw[Zk (by omega)] at h;exact h));clear h;go_wp2;go_ret;exact⟨Qo D.o.symm,U.drewN q⟩
theorem Bj(L:List Id)(x:Id)(A:Option Addr)(n c B:Nat)(w:World)(J:Rd w B 3 (.slice A n c) n (L.flatMap Qe))(hB:B<=w):Calls Tryz.prog 164 #[.slice A n c,Qa x] w λe w'=>e=.returned (.bool (decide (x∈L)))/\Q0 w w':=by
 obtain⟨_,a5,a2⟩:=J.len;unfold maxLen at a2;obtain rfl:=QL Qe 3 (λ_=>rfl) (by decide) J.1;have Y:=Ki J;clear J;unfold Qa;go_enter Tryz.func164,Tryz.ntmps164;go_wp2;obtain⟨E,O⟩:∃a1,w.alloc (.cells x 60)=a1:=⟨_,rfl⟩;have W:Q0 w E:=by rw[<-O];exact(Q0.refl w).alloc _
 have Q:=bn O;rw[O];have c0:=cr0 Q;have c1:=cr1 Q;have c2:=cr2 Q;have a0:=Ki (Y.o.below' W.below hB);clear O Q Y;go_loopw [5] (λi wr=>Bi L x E i wr) (λi _=>L.length-(intOf i).toNat);case atStart=>exact⟨0,Qh _,rfl,by simp,0,rfl⟩
 case round=>
  obtain⟨k,hk,rfl,h,q,rfl⟩:=hrel;by_cases X:k<L.length
  ·obtain⟨b,o,rfl,a3,U⟩:=Qr Qe 3 (λ_=>rfl) (by decide) a0.o X;have d0:E.cell? (b,o+k*3)=some (.int .i64 L[k].s.T):=U 0 _ rfl;have d1:E.cell? (b,o+k*3+1)=some (.int .i64 L[k].s.R):=U 1 _ rfl;have d2:E.cell? (b,o+k*3+2)=some (.int .i64 L[k].I):=U 2 _ rfl;clear U;have hq:=Xt;have a4:=ZR;have Z:=F4 L[k] x;by_cases j:L[k]=x;·rw[QF j] at Z;have D:=Kj (decide (x∈L)=true) (QF (j▸Zt X));clear j h;go_wp2;go_quiet (fail);go_wp2;go_ret;exact⟨Qo D.o.symm,(W.drewN q).drewN nq⟩
   rw[Zo j] at Z;have D:=Ki (Bh X h j);clear j h;go_wp2;go_quiet (fail);go_wp2;go_roundw;case rel=>exact⟨k+1,by omega,by go_num,D.o,q+nq,rfl⟩
   case measure=>simp[intOf];omega
  have D:=Ki (Zo (by rw[Zk (by omega)] at h;exact h));clear h;go_wp2;go_ret;exact⟨Qo D.o.symm,W.drewN q⟩
theorem OG(L:List QP)(x:QP)(A:Option Addr)(n c B:Nat)(w:World)(O:Rd w B 5 (.slice A n c) n (L.flatMap QR))(hB:B<=w):Calls Tryz.prog 119 #[.slice A n c,JH x] w λe w'=>e=.returned (.bool (decide (x∈L)))/\Q0 w w':=by
 obtain⟨_,a4,a1⟩:=O.len;unfold maxLen at a1;obtain rfl:=QL QR 5 (λ_=>rfl) (by decide) O.1;have X:=Ki O;clear O;unfold JH;go_enter Tryz.func119,Tryz.ntmps119;go_wp2;obtain⟨h,Q⟩:∃a0,w.alloc (.cells #[x.n.s.T,x.n.s.R,x.n.I,x.b.T,x.b.R] 171)=a0:=⟨_,rfl⟩;have U:Q0 w h:=by rw[<-Q];exact(Q0.refl w).alloc _
 have j:=bn Q;rw[Q];have c0:=cr0 j;have c1:=cr1 j;have c2:=cr2 j;have c3:=cR 3 j;have c4:=cR 4 j;have Z:=Ki (X.o.below' U.below hB);clear Q j X;go_loopw [5] (λi wr=>Bi L x h i wr) (λi _=>L.length-(intOf i).toNat);case atStart=>exact⟨0,Qh _,rfl,by simp,0,rfl⟩
 case round=>
  obtain⟨k,hk,rfl,E,q,rfl⟩:=hrel;by_cases W:k<L.length
  ·obtain⟨b,o,rfl,a2,D⟩:=Qr QR 5 (λ_=>rfl) (by decide) Z.o W;have d0:h.cell? (b,o+k*5)=some (.int .i64 L[k].n.s.T):=D 0 _ rfl;have d1:h.cell? (b,o+k*5+1)=some (.int .i64 L[k].n.s.R):=D 1 _ rfl;have d2:h.cell? (b,o+k*5+2)=some (.int .i64 L[k].n.I):=D 2 _ rfl;have d3:h.cell? (b,o+k*5+3)=some (.int .i64 L[k].b.T):=D 3 _ rfl;have d4:h.cell? (b,o+k*5+4)=some (.int .i64 L[k].b.R):=D 4 _ rfl;clear D;have hq:=S3;have a3:=S1;have Y:=S4 L[k] x;by_cases I:L[k]=x;·rw[QF I] at Y;have J:=Kj (decide (x∈L)=true) (QF (I▸Zt W));clear I E;go_wp2;go_quiet (fail);go_wp2;go_ret;exact⟨Qo J.o.symm,(U.drewN q).drewN nq⟩
   rw[Zo I] at Y;have J:=Ki (Bh W E I);clear I E;go_wp2;go_quiet (fail);go_wp2;go_roundw;case rel=>exact⟨k+1,by omega,by go_num,J.o,q+nq,rfl⟩
   case measure=>simp[intOf];omega
  have J:=Ki (Zo (by rw[Zk (by omega)] at E;exact E));clear E;go_wp2;go_ret;exact⟨Qo J.o.symm,U.drewN q⟩
end
section
open Go Go.RowKit
structure Sl where
 A:Option Addr
 n:Nat
 c:Nat
def Sl.v(s:Sl):Value:=.slice s.A s.n s.c
structure Qt where
 k:Int
 node:Id
 up:Id
 name:ByteArray
 dir:Bool
 dv:Sl
 dots:List Q4
 af:Id
 el:Id
 tx:ByteArray
 ev:Sl
 els:List Id
 hk:Qu k
 hnm:name.size<=4611686018427387903
 htx:tx.size<=4611686018427387903
def Qp(o:Qt):List Value:=[o.k,o.node.s.T,o.node.s.R,o.node.I,o.up.s.T,o.up.s.R,o.up.I,.string o.name,.bool o.dir,o.dv.v,o.af.s.T,o.af.s.R,o.af.I,o.el.s.T,o.el.s.R,o.el.I,.string o.tx,o.ev.v]
def Qz(o:Qt):Value:=.agg (Qp o).toArray
structure Q1 where
 s:Q4
 n:Int
 dv:Sl
 deps:List Int
 un:Q4
 ov:Sl
 ops:List Qt
 hn:Qu n
def Qg(g:Q1):List Value:=[g.s.T,g.s.R,g.n,g.dv.v,g.un.T,g.un.R,g.ov.v]
def Z2(g:Q1):Value:=.agg (Qg g).toArray
def QS(x:Int):List Value:=[x]
structure XH(w:World)(B:Nat)(o:Qt):Prop where
 d:Rd w B 2 o.dv.v o.dots.length (o.dots.flatMap Qv)
 e:Rd w B 3 o.ev.v o.els.length (o.els.flatMap Qe)
structure X4(w:World)(B:Nat)(g:Q1):Prop where
 d:Rd w B 1 g.dv.v g.deps.length (g.deps.flatMap QS)
 i:∀x∈g.deps,Qu x
 o:Rd w B 18 g.ov.v g.ops.length (g.ops.flatMap Qp)
 a:∀o∈g.ops,XH w B o
structure Xi(w:World)(B:Nat)(v:Value)(l:List Q1):Prop where
 r:Rd w B 7 v l.length (l.flatMap Qg)
 a:∀g∈l,X4 w B g
section
variable {w w':World} {B B':Nat}
theorem XH.below{o:Qt}(h:XH w B o)(hb:Below B w w'):XH w' B o:=⟨h.d.below hb,h.e.below hb⟩
theorem X4.below{g:Q1}(h:X4 w B g)(hb:Below B w w'):X4 w' B g:=⟨h.d.below hb,h.i,h.o.below hb,λo j=>(h.a o j).below hb⟩
theorem Xi.below{v:Value}{l:List Q1}(h:Xi w B v l)(hb:Below B w w'):Xi w' B v l:=⟨h.r.below hb,λg j=>(h.a g j).below hb⟩
theorem XH.more{o:Qt}(h:XH w B o)(hb:B<=B'):XH w B' o:=⟨h.d.more hb,h.e.more hb⟩
theorem X4.more{g:Q1}(h:X4 w B g)(hb:B<=B'):X4 w B' g:=⟨h.d.more hb,h.i,h.o.more hb,λo j=>(h.a o j).more hb⟩
theorem Xi.more{v:Value}{l:List Q1}(h:Xi w B v l)(hb:B<=B'):Xi w B' v l:=⟨h.r.more hb,λg j=>(h.a g j).more hb⟩
end
instance : Coe Qt (List Go.Value):=⟨λo=>[.int .i64 o.k,.int .i64 o.node.s.T,.int .i64 o.node.s.R,.int .i64 o.node.I,.int .i64 o.up.s.T,.int .i64 o.up.s.R,.int .i64 o.up.I,.string o.name,.bool o.dir,.slice o.dv.A o.dv.n o.dv.c,.int .i64 o.af.s.T,.int .i64 o.af.s.R,.int .i64 o.af.I,.int .i64 o.el.s.T,.int .i64 o.el.s.R,.int .i64 o.el.I,.string o.tx,.slice o.ev.A o.ev.n o.ev.c]⟩
instance : Coe Qt (Array Go.Value):=⟨λo=>#[.int .i64 o.k,.int .i64 o.node.s.T,.int .i64 o.node.s.R,.int .i64 o.node.I,.int .i64 o.up.s.T,.int .i64 o.up.s.R,.int .i64 o.up.I,.string o.name,.bool o.dir,.slice o.dv.A o.dv.n o.dv.c,.int .i64 o.af.s.T,.int .i64 o.af.s.R,.int .i64 o.af.I,.int .i64 o.el.s.T,.int .i64 o.el.s.R,.int .i64 o.el.I,.string o.tx,.slice o.ev.A o.ev.n o.ev.c]⟩
instance : Coe Q1 (List Go.Value):=⟨λo=>[.int .i64 o.s.T,.int .i64 o.s.R,.int .i64 o.n,.slice o.dv.A o.dv.n o.dv.c,.int .i64 o.un.T,.int .i64 o.un.R,.slice o.ov.A o.ov.n o.ov.c]⟩
instance : Coe Q1 (Array Go.Value):=⟨λo=>#[.int .i64 o.s.T,.int .i64 o.s.R,.int .i64 o.n,.slice o.dv.A o.dv.n o.dv.c,.int .i64 o.un.T,.int .i64 o.un.R,.slice o.ov.A o.ov.n o.ov.c]⟩
end
section
structure Je{α:Type}(lt:α->α->Prop):Prop where
 irrefl:∀a,¬lt a a
 trans:∀a b c,lt a b->lt b c->lt a c
 total:∀a b,lt a b\/a=b\/lt b a
section
variable {α:Type} {lt:α->α->Prop}
theorem Je.asymm(O:Je lt){a b:α}(h:lt a b):¬lt b a:=λk=>O.irrefl a (O.trans a b a h k)
theorem Bk(O:Je lt):∀{L M:List α},L.Pairwise lt->M.Pairwise lt->(∀x,x∈L↔x∈M)->L=M
 |[],[],_,_,_=>rfl
 |[],b::M,_,_,h=>by have:=(h b).2 (by simp);simp at this
 |a::L,[],_,_,h=>by have:=(h a).1 (by simp);simp at this
 |a::L,b::M,Q,U,h=>by
  obtain⟨I,J⟩:=Yh.1 Q;obtain⟨b1,b2⟩:=Yh.1 U
  have e:a=b:=by
   have E:=(h a).1 (by simp);have hb:=(h b).2 (by simp);rcases QI.1 E with e|E;·exact e
   rcases QI.1 hb with e|hb;·exact e.symm
   exact absurd (I b hb) (O.asymm (b1 a E))
  subst e;congr 1;refine Bk O J b2 λx=>?_;constructor
  ·intro j;rcases QI.1 ((h x).1 (by simp[j])) with e|D;·subst e;exact absurd (I x j) (O.irrefl x)
   exact D
  intro j;rcases QI.1 ((h x).2 (by simp[j])) with e|D;·subst e;exact absurd (b1 x j) (O.irrefl x)
  exact D
theorem Er(O:Je lt){P S:List α}{x:α}(h:(P++S).Pairwise lt)(Z:x∉P++S)(X:∀y∈S,lt x y)(W:∀z,P.getLast?=some z->¬lt x z):(P++x::S).Pairwise lt:=by
 obtain⟨I,Q,U⟩:=GJ.1 h;refine GJ.2 ⟨I,Yh.2 ⟨X,Q⟩,λa j b hb=>?_⟩;rcases QI.1 hb with rfl|hb
 ·have Y:P≠[]:=by rintro rfl;simp at j
  obtain⟨E,z,rfl⟩:∃E z,P=E++[z]:=⟨_,_,(List.dropLast_concat_getLast Y).symm⟩
  have J:lt z b:=by
   rcases O.total b z with D|D|D;·exact absurd D (W z (by simp))
   ·subst D;exact absurd (by simp) Z
   exact D
  rcases Qq.1 j with j|j;·exact O.trans a z b ((GJ.1 I).2.2 a j z (by simp)) J
  rw[Qw.1 j];exact J
 exact U a j b hb
theorem DP{P S:List α}{x y:α}:y∈P++x::S↔y=x\/y∈P++S:=by
 simp only[Qq,QI];constructor
 ·rintro(h|h|h);·exact .inr (.inl h)
  ·exact .inl h
  exact .inr (.inr h)
 rintro(h|h|h);·exact .inr (.inl h)
 ·exact .inl h
 exact .inr (.inr h)
end
def Q4.Lt(a b:Q4):Prop:=a.T<b.T\/a.T=b.T/\a.R<b.R
def Id.Lt(a b:Id):Prop:=a.s.Lt b.s\/a.s=b.s/\a.I<b.I
theorem Q4.ext'{a b:Q4}(h:a.T=b.T)(j:a.R=b.R):a=b:=by obtain⟨_,_,_,_⟩:=a;obtain⟨_,_,_,_⟩:=b;simp only at h j;subst h;subst j;rfl
theorem Id.ext'{a b:Id}(h:a.s=b.s)(j:a.I=b.I):a=b:=by obtain⟨_,_,_⟩:=a;obtain⟨_,_,_⟩:=b;simp only at h j;subst h;subst j;rfl
theorem YE:Je Q4.Lt where
 irrefl a:=by unfold Q4.Lt;omega
 trans a b c h k:=by unfold Q4.Lt at *;omega
 total a b:=by
  unfold Q4.Lt;by_cases j:a.T=b.T
  ·by_cases D:a.R=b.R;·exact .inr (.inl (Q4.ext' j D))
   omega
  omega
theorem Zv:Je Id.Lt where
 irrefl a:=by
  rintro(h|⟨_,h⟩);·exact YE.irrefl _ h
  omega
 trans a b c h k:=by
  rcases h with h|⟨h,j⟩<;>rcases k with k|⟨k,D⟩;·exact .inl (YE.trans _ _ _ h k)
  ·exact .inl (k▸h)
  ·exact .inl (h▸k)
  exact .inr ⟨h.trans k,by omega⟩
 total a b:=by
  rcases YE.total a.s b.s with h|h|h;·exact .inl (.inl h)
  ·rcases Int.lt_trichotomy a.I b.I with j|j|j;·exact .inl (.inr ⟨h,j⟩)
   ·exact .inr (.inl (Id.ext' h j))
   exact .inr (.inr (.inr ⟨h.symm,j⟩))
  exact .inr (.inr (.inl h))
theorem Kk(a b:Q4):a.lt b=true↔a.Lt b:=by unfold Q4.lt Q4.Lt;simp
theorem Vq(a b:Q4):a.cmp b<0↔a.Lt b:=by
 unfold Q4.cmp;rw[<-Kk];constructor
 ·intro h;by_cases j:a.lt b=true;·exact j
  rw[Q6 j] at h;split at h<;>omega
 intro h;rw[Q7 h];omega
theorem OK(a b:Q4):a.cmp b=0↔a=b:=by
 unfold Q4.cmp;constructor
 ·intro h;by_cases D:a.lt b=true;·rw[Q7 D] at h;omega
  rw[Q6 D] at h;by_cases E:b.lt a=true;·rw[Q7 E] at h;omega
  rw[Kk] at D E;rcases YE.total a b with j|j|j;·exact absurd j D
  ·exact j
  exact absurd j E
 rintro rfl;have:¬a.lt a=true:=by rw[Kk];exact YE.irrefl a
 rw[Q6 this,Q6 this]
theorem S5(a b:Int):Vp a b<0↔a<b:=by
 unfold Vp
 repeat' split
 all_goals omega
theorem XV(a b:Id):a.cmp b<0↔a.Lt b:=by
 unfold Id.cmp UL Id.Lt;by_cases h:a.s.cmp b.s=0
 ·rw[Q7 h,S5];have e:=(OK _ _).1 h;constructor;·intro j;exact .inr ⟨e,j⟩
  rintro(j|⟨_,j⟩);·exact absurd (e▸j:b.s.Lt b.s) (YE.irrefl _)
  exact j
 rw[Q6 h,Vq];constructor;·exact .inl
 rintro(j|⟨j,_⟩);·exact j
 exact absurd ((OK _ _).2 j) h
end
section
open Go Go.RowKit
def F6:List UInt8:=[48,49,50,51,52,53,54,55,56,57,65,66,67,68,69,70,71,72,73,74,75,76,77,78,79,80,81,82,83,84,85,86,87,88,89,90,97,98,99,100,101,102,103,104,105,106,107,108,109,110,111,112,113,114,115,116,117,118,119,120,121,122,46,45,95]
def XI(l:List UInt8):Bool:=decide (l≠[])&&decide (l.length<=32)&&decide (l≠[46])&&decide (l≠[46,46])&&decide (Lib.trimS l F6=[])
theorem S6{l cs:List UInt8}(h:l.dropWhile (cs.contains ·)=[]):∀b∈l,b∈cs:=by
 induction l with
 |nil=>intro b hb;cases hb
 |cons a l D=>
  intro b hb;by_cases j:cs.contains a=true
  ·rw[List.dropWhile_cons_of_pos j] at h;rcases QI.1 hb with rfl|hb;·simpa using j
   exact D h b hb
  rw[O7 j] at h;cases h
theorem S7{l cs:List UInt8}(h:Lib.trimS l cs=[]):∀b∈l,b∈cs:=by
 unfold Lib.trimS Lib.trimLeftS at h;have j:=S6 h;unfold Lib.trimRightS at j;intro b hb;rw[<-GK,<-List.takeWhile_append_dropWhile (p:=(cs.contains ·)) (l:=l.reverse),Qq] at hb;rcases hb with hb|hb;·have:=List.all_takeWhile (p:=(cs.contains ·)) (l:=l.reverse);rw[V4] at this;simpa using this b hb
 exact j b (GK.2 hb)
theorem S8{l:List UInt8}(h:XI l=true):(47:UInt8)∉l/\(126:UInt8)∉l:=by unfold XI at h;simp only[ZJ,XD] at h;have:=S7 h.2;exact⟨λj=>absurd (this _ j) (by decide),λj=>absurd (this _ j) (by decide)⟩
def right(s:Q4):Bool:=decide (1<=s.T)&&decide (s.T<=1099511627776)&&decide (1<=s.R)&&decide (s.R<=16)
def ZS(x:Id):Bool:=right x.s&&decide (0<=x.I)&&decide (x.I<=400000)
def Zq(s:Q4)(k:Int)(x:Id):Bool:=ZS x&&(decide (x.s.cmp s<0)||decide (x.s=s)&&decide (x.I<k))
def ZX(x:Id):Bool:=decide (x.s.T=0/\x.s.R=0/\x.I=0)
def X9(s:Q4)(k:Int)(x:Id):Bool:=ZX x||Zq s k x
def YZ(s:Q4)(k:Int)(x:Id):Bool:=decide (x.s=s)&&decide (x.I=k)
def Ju(s:Q4)(l:List Q4)(j:Nat):Bool:=match l[j]? with|none=>true|some d=>right d&&!decide (0<d.cmp s)&&(j==0||match l[j-1]? with|none=>true|some e=>decide (e.cmp d<0))
def Kl(s:Q4)(l:List Q4):Bool:=(List.range l.length).all (Ju s l)&&decide (l.length<=200)
def J0(s:Q4)(k:Int)(l:List Id)(j:Nat):Bool:=match l[j]? with|none=>true|some d=>Zq s k d&&(j==0||match l[j-1]? with|none=>true|some e=>decide (e.cmp d<0))
def Vr(s:Q4)(k:Int)(l:List Id):Bool:=(List.range l.length).all (J0 s k l)&&decide (1<=l.length)&&decide (l.length<=2000)
def Y2(o:Qt):Bool:=
 (decide (o.k=0\/o.k=1)||ZX o.up&&decide (o.name.size=0))&&(decide (o.k=0)||!o.dir)&&(decide (o.k=3)||ZX o.af&&ZX o.el&&decide (o.tx.size=0)) &&
  (decide (o.k=2)||decide (o.dots.length=0))&&(decide (o.k=4)||decide (o.els.length=0))
def YK(s:ByteArray):Option Nat:=if Lib.validD s.data.toList then some (Lib.runeCount s) else none
def Z8(s:Q4)(k:Nat)(o:Qt):Option Nat:=
 if Y2 o then
  if o.k=0 then (if YZ s k o.node&&X9 s k o.up&&XI o.name.data.toList then some (k+1) else none)
  else if o.k=1 then (if Zq s k o.node&&X9 s k o.up&&XI o.name.data.toList then some k else none)
  else if o.k=2 then (if Zq s k o.node&&Kl s o.dots then some k else none)
  else if o.k=3 then (match YK o.tx with|none=>none|some n=>if Zq s k o.node&&X9 s k o.af&&YZ s k o.el&&decide (1<=n)&&decide (n<=2000) then some (k+n) else none)
  else if o.k=4 then (if Zq s k o.node&&Vr s k o.els then some k else none)
  else none
 else none
def Y9(s:Q4):Nat->List Qt->Option Nat|k,[]=>some k|k,o::t=>match Z8 s k o with|none=>none|some h=>Y9 s h t
def ZO(l:List Int):Nat:=(l.reverse.dropWhile (λx=>decide (x=0))).length
theorem DQ(l:List Int)(k:Nat)(W:k<=l.length)(E:∀j (h:j<l.length),k<=j->l[j]=0)(I:∀h:0<k,l[k-1]'(by omega)≠0):ZO l=k:=by
 have e:l.reverse=(l.drop k).reverse++(l.take k).reverse:=by rw[<-Dk,XU]
 have J:∀x∈(l.drop k).reverse,decide (x=0)=true:=λx D=>by rw[GK,U9] at D;obtain⟨i,Q,rfl⟩:=D;rw[List.getElem_drop];simpa using E (k+i) (by rw[Ds] at Q;omega) (by omega)
 unfold ZO;rw[e,List.dropWhile_append_of_pos J];rcases Dm k with rfl|U;·simp
 have O:l.take k=l.take (k-1)++[l[k-1]'(by omega)]:=by have:=QQ (l:=l) (i:=k-1) (by omega);rwa [show k-1+1=k by omega] at this
 rw[O,Dk,List.reverse_singleton,O9,O7 (by simpa using I U)];simp;omega
def Jf(l:List Int):Bool:=l.all (λn=>decide (0<=n))&&decide (l.length<=16)&&decide (ZO l=l.length)
def Zw(l:List Int)(r:Int):Int:=if r<1 then 0 else match l[(r-1).toNat]? with|none=>0|some n=>n
def Gb(g:Q1):Bool:=right g.s&&decide (1<=g.n)&&decide (g.n<=1099511627776)&&Jf g.deps&&decide (Zw g.deps g.s.R=g.n-1)
def ZG(g:Q1):Bool:=Gb g&&if g.un.T=0/\g.un.R=0 then decide (1<=g.ops.length)&&decide (g.ops.length<=200)&&(Y9 g.s 0 g.ops).isSome else right g.un&&decide (g.un.cmp g.s<0)&&decide (g.ops.length=0)
theorem Gc{s:Q4}{k:Nat}{o:Qt}{t:List Qt}:Y9 s k (o::t)=match Z8 s k o with|none=>none|some h=>Y9 s h t:=rfl
theorem DR(s:Q4):∀(a b:List Qt)(k:Nat),Y9 s k (a++b)=match Y9 s k a with|none=>none|some h=>Y9 s h b
 |[],b,k=>rfl
 |o::a,b,k=>by
  rw[JB,Gc,Gc]
  cases Z8 s k o with
  |none=>rfl
  |some h=>exact DR s a b h
theorem QG:type_of% @cell_grown:=@cell_grown
theorem QO:type_of% @IntWalk.i64_in:=@IntWalk.i64_in
theorem Zc:type_of% @info_parts:=@info_parts
theorem Yf:type_of% @wpList_append_own:=@wpList_append_own
theorem J8:type_of% @World.ownsRow_nil:=@World.ownsRow_nil
theorem V0:type_of% @Tryz.underlying66:=@Tryz.underlying66
def Yb(h gone:List QP)(k:Nat)(y:Id):Prop:=∃d∈h.take k,d∉gone/\d.n=y
def Pb(h gone:List QP)(w:World)(j i:Value)(wr:World):Prop:=
 ∃k:Nat,k<=h.length/\i=k/\∃L:List Id,wr.ownsRow w 60 3 j L.length (L.flatMap Qe)/\L.Pairwise Id.Lt/\(∀y,y∈L↔Yb h gone k y)/\L.length<=k/\Below w w wr
theorem SN(j gone:List QP)(y:Id):¬Yb j gone 0 y:=by rintro⟨d,h,_⟩;simp at h
theorem Vx{j:Type}{L:List j}{k:Nat}(h:k<L.length)(x:j):x∈L.take (k+1)↔x∈L.take k\/x=L[k]:=by rw[QQ h,Qq,Qw]
theorem SO{E gone:List QP}{k:Nat}(h:k<E.length)(J:E[k]∈gone)(y:Id):Yb E gone (k+1) y↔Yb E gone k y:=by
 unfold Yb;constructor
 ·rintro⟨d,j,D,I⟩;rcases (Vx h d).1 j with j|rfl;·exact⟨d,j,D,I⟩
  exact absurd J D
 rintro⟨d,j,D,I⟩;exact⟨d,(Vx h d).2 (.inl j),D,I⟩
theorem SP{j gone:List QP}{k:Nat}(h:k<j.length)(J:j[k]∉gone)(y:Id):Yb j gone (k+1) y↔y=j[k].n\/Yb j gone k y:=by
 unfold Yb;constructor
 ·rintro⟨d,D,I,E⟩;rcases (Vx h d).1 D with D|rfl;·exact .inr ⟨d,D,I,E⟩
  exact .inl E.symm
 rintro(rfl|⟨d,D,I,E⟩);·exact⟨_,(Vx h _).2 (.inr rfl),J,rfl⟩
 exact⟨d,(Vx h d).2 (.inl D),I,E⟩
def Pc(h gone:List QP)(w:World)(e:Ending)(w':World):Prop:=
 ∃(v:Value)(L:List Id),e=.returned v/\w'.ownsRow w 60 3 v L.length (L.flatMap Qe)/\L.Pairwise Id.Lt/\(∀y,y∈L↔Yb h gone h.length y)/\Below w w w'
def SQ(L:List Id)(x:Id)(n:Nat)(w:World)(v:Value)(i:Value)(wr:World):Prop:=
 ∃P S,L=P++S/\i=.int .i64 (P.length:Nat)/\(∀y∈S,x.Lt y)/\wr.ownsRow w 60 3 v n ((P++x::S).flatMap Qe)/\Below w w wr
def Gk(w:World)(g j:Nat)(y x:Id):World:=
 ((((((w.setCell (g,j*3+3) y.s.T).setCell (g,j*3+3+1) y.s.R).setCell (g,j*3+3+2) y.I).setCell (g,j*3) x.s.T).setCell (g,j*3+1) x.s.R).setCell (g,j*3+2) x.I).drew
theorem Pd(w:World)(g j:Nat)(y x:Id):Gk w g j y x=((w.setCells g (j*3+3) (Qe y)).setCells g (j*3) (Qe x)).drew:=rfl
theorem ZY{w:World}{base:Nat}{e:TypeId}{K n:Nat}{v:Value}{xs:List Value}(h:w.ownsRow base e K v n xs):w.drew.ownsRow base e K v n xs:=h
theorem Pe{w:World}{base:Nat}{n g cap j:Nat}{P S:List Id}{y x:Id}(D:P.length=j)(h:w.ownsRow base 60 3 (.slice (g,0) n cap) n ((P++y::x::S).flatMap Qe))(E:0<n):(Gk w g j y x).ownsRow base 60 3 (.slice (g,0) n cap) n ((P++x::y::S).flatMap Qe):=by have:=F5 (enc:=Qe) (k:=3) (λ_=>rfl) h E;rw[D] at this;rw[Pd];exact ZY this
theorem Pf{B:Nat}{a w:World}(h:Below B a w){g:Nat}(D:B<=g)(j:Nat)(y x:Id):Below B a (Gk w g j y x):=by rw[Pd];exact(Jd (Jd h D _ _) D _ _).drew
theorem Pg{h gone:List QP}{k n:Nat}{w wr:World}{v:Value}{L P S:List Id}{d:QP}(Q:k<h.length)(Y:∀y,Yb h gone (k+1) y↔y=d.n\/Yb h gone k y)(I:L.Pairwise Id.Lt)(D:∀y,y∈L↔Yb h gone k y)(Z:L.length<=k)(U:L.length+1=n)(W:d.n∉L)(j:L=P++S)(J:∀y∈S,d.n.Lt y)(E:∀z,P.getLast?=some z->¬d.n.Lt z)(X:wr.ownsRow w 60 3 v n ((P++d.n::S).flatMap Qe))(hb:Below w w wr):Pb h gone w v (.int .i64 ((k:Int)+1)) wr:=by
 have O:(P++d.n::S).length=n:=by rw[<-U,j];simp;omega
 refine⟨k+1,Q,by rfl,P++d.n::S,by rw[O];exact X,?_,λy=>?_,by omega,hb⟩;·exact Er Zv (j▸I) (j▸W) J E
 rw[DP,Y y,<-j,D y]
theorem Ph:(Tryz.prog.info? 60).map (λi=>(i.zero,i.size,i.bytes))=some (some (.agg #[(0:Int),(0:Int),(0:Int)]),3,24):=by kernel_rfl
theorem Vb(x:Id):∀u∈Qe x,u.oneCell'=true:=by intro u h;simp[Qe] at h;rcases h with rfl|rfl|rfl<;>rfl
theorem Ky{D:Type}(P:List D):P=[]\/∃j y,P=j++[y]:=by
 rcases List.eq_nil_or_concat P with h|⟨j,y,h⟩;·exact .inl h
 exact .inr ⟨j,y,by simpa using h⟩
theorem SR(O gone:List QP)(A A':Option Addr)(n c n' c' B:Nat)(w:World)(hR:Rd w B 5 (.slice A n c) n (O.flatMap QR))(aA:Rd w B 5 (.slice A' n' c') n' (gone.flatMap QR))(hB:B<=w)(hn:n<=100000):Calls Tryz.prog 118 #[.slice A n c,.slice A' n' c'] w (Pc O gone w):=by
 obtain⟨_,b7,aL⟩:=hR.len;unfold maxLen at aL;obtain rfl:=QL QR 5 (λ_=>rfl) (by decide) hR.1;have HR:=Ki hR;have aI:=Ki aA;clear hR aA;obtain⟨i0,hi,aT,aU,aV⟩:=Zc Ph;go_enter Tryz.func118,Tryz.ntmps118;go_wp2;go_loopw [5,6] (λaW i wr=>Pb O gone w aW i wr) (λ_ i _=>O.length-(intOf i).toNat);case atStart=>exact⟨0,Qh _,rfl,[],J8 _ _ _ _,List.Pairwise.nil,λy=>by simp[SN],Q3 _,Qc _ _⟩
 case round=>
  obtain⟨k,hk,rfl,L,hO,hS,hM,hL,hb⟩:=hrel;obtain⟨Av,cv,rfl,aY,b3⟩:=(Rd.of_own hO).form;have HO:=Ki hO;have HS:=Ki hS;have HM:=Ki hM;clear hO hS hM;obtain⟨D,rfl⟩:∃D:World,D=wr:=⟨_,rfl⟩;by_cases aa:k<O.length
  ·obtain⟨b,o,rfl,aX,aD⟩:=Qr QR 5 (λ_=>rfl) (by decide) HR.o aa;have aK:b<w:=(by omega);have U:∀j u,(QR O[k])[j]?=some u->D.cell? ⟨b,o+k*5+j,none⟩=some u:=λj u hu=>(hb.cell (p:=⟨b,o+k*5+j,none⟩) aK).trans (aD j u hu);have aw:=Ki (λh=>SO (gone:=gone) aa h);have ad:=Ki (λh=>SP (gone:=gone) aa h);obtain⟨d,hd⟩:∃d,O[k]=d:=⟨_,rfl⟩;rw[hd] at U aw ad;clear hd;have d0:D.cell? ⟨b,o+k*5,none⟩=some (.int .i64 d.n.s.T):=U 0 _ rfl;have d1:D.cell? ⟨b,o+k*5+1,none⟩=some (.int .i64 d.n.s.R):=U 1 _ rfl;have d2:D.cell? ⟨b,o+k*5+2,none⟩=some (.int .i64 d.n.I):=U 2 _ rfl;have d3:D.cell? ⟨b,o+k*5+3,none⟩=some (.int .i64 d.b.T):=U 3 _ rfl;have d4:D.cell? ⟨b,o+k*5+4,none⟩=some (.int .i64 d.b.R):=U 4 _ rfl;have aZ:b<D.heap.size:=(by have:=hb.size;omega);clear aD U;go_wp2_with fail;obtain⟨W1,ag⟩:∃W,D.alloc (.cells #[d.n.s.T,d.n.s.R,d.n.I] 60)=W:=⟨_,rfl⟩;have ap:Q0 D W1:=(by rw[<-ag];exact(Q0.refl D).alloc _);have av:W1.heap[D.heap.size]?=some (.cells #[d.n.s.T,d.n.s.R,d.n.I] 60 (0,0)):=(by rw[<-ag];exact Qi D _);rw[ag];clear ag;have a9:=hb.trans (ap.below.mono hb.size);refine(OG gone d A' n' c' B W1 (aI.o.below' a9 hB) (Q9 hB a9.size)).mono ?_;rintro e W2 ⟨rfl,ai⟩;have a8:=(ai.below.block _ (Q5.1 av).1).trans av;have hb2:=a9.trans (ai.below.mono a9.size);have ae:=Ki (QB (QB HO.o ap.below) ai.below);have x0:=cr0 a8;have x1:=cr1 a8;have x2:=cr2 a8;have aS:=(Q5.1 a8).1;have ay:=Ki a8
   clear av a8 ap ai a9 hb HO;by_cases a6:d∈gone
   ·have HG:=Ki a6;rw[QF a6];clear a6;go_wp2;go_roundw;case rel=>exact⟨k+1,by omega,by go_num,L,ae.o,HS.o,λy=>by rw[aw.o HG.o];exact HM.o y,by omega,hb2⟩
    case measure=>simp[intOf];omega
   have HG:=Ki a6;rw[Zo a6];clear a6;go_wp2_with fail;refine(Bj L d.n _ _ _ W2 W2 (Rd.of_own ae.o) (Q3 _)).mono ?_;rintro e W3 ⟨rfl,aj⟩;have a4:=hb2.trans (aj.below.mono hb2.size);have af:=Ki (QB ae.o aj.below);have ak:=(aj.below.block _ aS).trans ay.o;have y0:=cr0 ak;have y1:=cr1 ak;have y2:=cr2 ak;clear ae hb2 aj ak ay x0 x1 x2;by_cases a7:d.n∈L
   ·have HI:=Ki a7;rw[QF a7];clear a7;go_wp2;go_roundw
    case rel=>exact⟨k+1,by omega,by go_num,L,af.o,HS.o,λy=>by
     rw[ad.o HG.o,HM.o y];constructor;·exact .inr
     rintro(rfl|h);·exact(HM.o _).1 HI.o
     exact h,by omega,a4⟩
    case measure=>simp[intOf];omega
   have HI:=Ki a7;rw[Zo a7];clear a7;go_wp2_with (at_builtin;refine Yf _ rfl _ _ 66 rfl w 60 i0 _ 3 24 V0 hi aT aU aV rfl (by decide) _ _ _ rfl (af.o.alloc _) ⟨W3.heap.size,0,none⟩ 1 1 (Qe d.n) rfl rfl ?qc2 (Vb d.n) ?qc4 ?qc5 ?qc6 ?_);case qc2=>exact Zd W3 (Qe d.n) 60
   case qc4=>unfold maxLen;omega
   case qc5=>omega
   case qc6=>have:=a4.size;simp;omega
   intro v' W4 aG aE _;obtain⟨g,cap,rfl,aN,aO,aP,ar⟩:=Ui aG
   have aC:Below w w W4:=(a4.alloc a4.size _).grown aE (by have:=a4.size;simp;omega) (λj Y=>by
    rcases (af.o).lt j Y with⟨h1,_⟩
    exact h1)
   clear aG;obtain⟨Z,aq⟩:=ex (L.length+1);have b5:L.length<Z:=(by omega);have b6:Z<=k+1:=(by omega);rw[aq] at ar aO |-;have am:=Ki aq;have ax:=Ki ar;unfold maxLen at aP;clear aE ar af a4 aq y0 y1 y2 d0 d1 d2 d3 d4;go_wp2;go_loopw [8] (λi wr=>SQ L d.n Z w (.slice (g,0) Z cap) i wr) (λi _=>(intOf i).toNat);case atStart=>exact⟨L,[],by simp,by have:=am.o;congr 1;omega,by simp,ax.o,aC⟩
   case round=>
    obtain⟨P,S,az,rfl,aB,ao,Q⟩:=hrel;have ab:=Ki az;have an:=Ki aB;have a3:=Ki ao;have a5:=(ao.lt g rfl).2;clear az aB ao aC ax;rcases Ky P with rfl|⟨J,y,rfl⟩;·go_wp2;go_quiet (fail);go_wp2;exact⟨Pg aa (ad.o HG.o) HS.o HM.o hL am.o HI.o ab.o an.o (by simp) (QB a3.o ((Q0.refl wr).drewN nq).below) (Q.trans (((Q0.refl wr).drewN nq).below.mono Q.size)),by simp[intOf];omega⟩
    obtain⟨j,Y⟩:=ex (J.length);have aF:((J++[y]).length:Int)=(j:Int)+1:=(by rw[Qj,Y];rfl);rw[aF];have hM:(J++[y])++d.n::S=J++y::d.n::S:=(by simp);rw[hM] at a3;have b4:j+1<Z:=(by have:=Xz List.length ab.o;simp at this;omega);have cy:∀r u,(Qe y)[r]?=some u->wr.cell? (g,j*3+r)=some u:=λr u hu=>(X8 a3.o _ u (Y▸YJ Qe 3 (λ_=>rfl) J (d.n::S) y r u hu)).1
    have cx:∀r u,(Qe d.n)[r]?=some u->wr.cell? (g,(j+1)*3+r)=some u:=λr u hu=>(X8 a3.o _ u (by
     have:=YJ Qe 3 (λ_=>rfl) (J++[y]) S d.n r u hu;rw[Qj,Y] at this
     simpa using this)).1
    have aQ:(j+1)*3=j*3+3:=(by omega);rw[aQ] at cx;have HJ:=Ki Y;have HC:=Ki (λw=>GY d.n y w);unfold Qa at HC;have a0:∀n os,(Sort.grow (wr.drewN n) os).cell? (g,j*3)=y.s.T:=λn os=>QG a5 (cy 0 _ rfl) n os;have a1:∀n os,(Sort.grow (wr.drewN n) os).cell? (g,j*3+1)=y.s.R:=λn os=>QG a5 (cy 1 _ rfl) n os;have a2:∀n os,(Sort.grow (wr.drewN n) os).cell? (g,j*3+2)=y.I:=λn os=>QG a5 (cy 2 _ rfl) n os;have b0:∀n os,(Sort.grow (wr.drewN n) os).cell? (g,j*3+3)=d.n.s.T:=λn os=>QG a5 (cx 0 _ rfl) n os;have b1:∀n os,(Sort.grow (wr.drewN n) os).cell? (g,j*3+4)=d.n.s.R:=λn os=>QG a5 (cx 1 _ rfl) n os;have b2:∀n os,(Sort.grow (wr.drewN n) os).cell? (g,j*3+5)=d.n.I:=λn os=>QG a5 (cx 2 _ rfl) n os;have i1:(0:Int)<=(j:Int)+1:=(by omega);have i2:(j:Int)+1<(Z:Int):=(by omega);have i3:(0:Int)<=(j:Int):=(by omega);have i4:(j:Int)<(Z:Int):=(by omega);clear Y aF hM cx cy;by_cases hc:d.n.cmp y<0
    ·have al:=Ki hc;generalize d.n.cmp y=cc at HC hc;have hw:IntKind.i64.wrap (j:Int)=j:=QO _ (by omega);go_wp2;refine QK (by kernel_rfl) (by kernel_rfl) ?_;repeat (quiet_step ((go_at_call 123;exact Qk (HC.o _))))
     refine QN ?_;rintro W ⟨⟨nq,I⟩,E⟩;have X:Q0 wr W:=⟨nq,I,E⟩;have ah:=Q.trans (X.below.mono Q.size);have au:=QB a3.o X.below;have A0:=E▸a0 nq I;have A1:=E▸a1 nq I;have A2:=E▸a2 nq I;have B0:=E▸b0 nq I;have B1:=E▸b1 nq I;have B2:=E▸b2 nq I;have aM:=YY au (by omega);have ac:=Ki au;clear E X Q au a0 a1 a2 b0 b1 b2;go_wp2;go_region;have aJ:=Ki (Pe HJ.o ac.o (by omega));have aH:=Ki (Pf ah aN j y d.n);change Exit.inBlock _ _ _ _ (Gk W g j y d.n);generalize Gk W g j y d.n=W5 at *;clear A0 A1 A2 B0 B1 B2 aM ac ah;go_wp2;go_roundw
     case rel=>
      refine⟨J,y::S,?_,?_,?_,?_,?_⟩;·rw[ab.o];simp
      ·rw[HJ.o]
      ·intro z hz;rcases QI.1 hz with rfl|hz;·exact(XV _ _).1 al.o
       exact an.o z hz
      ·exact aJ.o
      exact aH.o
     case measure=>simp[intOf]
    have al:=Ki hc;generalize d.n.cmp y=cc at HC hc;have hw:IntKind.i64.wrap (j:Int)=j:=QO _ (by omega);go_wp2;refine QK (by kernel_rfl) (by kernel_rfl) ?_;repeat (quiet_step ((go_at_call 123;exact Qk (HC.o _))))
    refine QN ?_;rintro W ⟨⟨nq,I⟩,E⟩;have X:Q0 wr W:=⟨nq,I,E⟩;have ah:=Q.trans (X.below.mono Q.size);have ac:=Ki (QB a3.o X.below);clear E X Q a0 a1 a2 b0 b1 b2;go_wp2
    exact⟨Pg (P:=J++[y]) (S:=S) aa (ad.o HG.o) HS.o HM.o hL am.o HI.o ab.o an.o (by
     intro z hz;have:y=z:=(by simpa using hz);subst this;intro h;have h1:=al.o;have h2:=(XV _ _).2 h
     omega) (by simpa using ac.o) ah,by simp[intOf];omega⟩
  have aR:k=O.length:=(by omega);subst aR;go_wp2;go_ret;exact⟨_,L,rfl,HO.o,HS.o,HM.o,hb⟩
end
section
open Go Go.RowKit Go.Maps
theorem UB:type_of% @Tryz.underlying60:=@Tryz.underlying60
theorem E4:type_of% @Tryz.underlying27:=@Tryz.underlying27
theorem Ee:type_of% @deep_law_laid:=@deep_law_laid
theorem Eh:type_of% @Keyed.of_law:=@Keyed.of_law
theorem Di:type_of% @Tryz.underlying171:=@Tryz.underlying171
theorem Ge:laidOutB Tryz.prog=true:=by kernel_rfl
theorem OO:(27:TypeId)<Tryz.prog.types.size:=Y0 (by kernel_rfl)
theorem OP:(60:TypeId)<Tryz.prog.types.size:=Y0 (by kernel_rfl)
theorem Si:(171:TypeId)<Tryz.prog.types.size:=Y0 (by kernel_rfl)
theorem OQ:Tryz.prog.keyTypeAt 4 27=true:=by kernel_rfl
theorem OR:Tryz.prog.keyTypeAt 4 60=true:=by kernel_rfl
theorem Sj:Tryz.prog.keyTypeAt 5 171=true:=by kernel_rfl
theorem Uj:Keyed Tryz.prog 27:=Eh (Ee Ge (m:=4) (by omega) OO OQ (by rw[E4]))
theorem Xp:Keyed Tryz.prog 60:=Eh (Ee Ge (m:=4) (by omega) OP OR (by rw[UB]))
theorem F7:Keyed Tryz.prog 171:=Eh (Ee Ge (m:=5) (by omega) Si Sj (by rw[Di]))
theorem Sm:Tryz.prog.keyType 27=true:=by kernel_rfl
theorem Sn:Tryz.prog.keyType 60=true:=by kernel_rfl
theorem So:Tryz.prog.keyType 171=true:=by kernel_rfl
theorem Ko:Tryz.prog.cellsOf 27=2:=by kernel_rfl
theorem Kp:Tryz.prog.cellsOf 60=3:=by kernel_rfl
theorem DS:Tryz.prog.cellsOf 171=5:=by kernel_rfl
theorem DT:Tryz.prog.cellsOf 3=1:=by kernel_rfl
theorem Kq:∃m,Tryz.prog.types.size=m+6:=⟨_,rfl⟩
theorem Kr(a:Int):((Lit.int .i64 a).wf=true)↔Qu a:=by have h:IntKind.i64.min = -9223372036854775808:=rfl;unfold Qu Lit.wf;simp[h]
theorem Sp(m:Nat){a:Int}(h:Qu a):Tryz.prog.keyLits (m+1) 3 [.int .i64 a]=some [.int .i64 a]:=by unfold Program.keyLits;simp[Tryz.underlying3,(Kr a).2 h]
theorem Bl(m:Nat){a b:Int}(h:Qu a)(hb:Qu b):Tryz.prog.keyLits (m+2) 27 [.int .i64 a,.int .i64 b]=some [.int .i64 a,.int .i64 b]:=by unfold Program.keyLits;simp only[E4];simp[Ko,DT,Program.keyLits,Tryz.underlying3,(Kr a).2 h,(Kr b).2 hb]
theorem Bp(m:Nat){a b c:Int}(D:Qu a)(hb:Qu b)(E:Qu c):Tryz.prog.keyLits (m+3) 60 [.int .i64 a,.int .i64 b,.int .i64 c]=some [.int .i64 a,.int .i64 b,.int .i64 c]:=by have h:=Bl m D hb;have j:=Sp (m+1) E;unfold Program.keyLits;simp only[UB];simp[Kp,Ko,DT,h,j]
theorem Sq(m:Nat){a b c d e:Int}(D:Qu a)(hb:Qu b)(E:Qu c)(I:Qu d)(J:Qu e):Tryz.prog.keyLits (m+4) 171 [.int .i64 a,.int .i64 b,.int .i64 c,.int .i64 d,.int .i64 e]=some [.int .i64 a,.int .i64 b,.int .i64 c,.int .i64 d,.int .i64 e]:=by have h:=Bp m D hb E;have j:=Bl (m+1) I J;unfold Program.keyLits;simp only[Di];simp[DS,Kp,Ko,h,j]
def YL(s:Q4):Lit:=.string (keyBytes [.int .i64 s.T,.int .i64 s.R])
def Ze(x:Id):Lit:=.string (keyBytes [.int .i64 x.s.T,.int .i64 x.s.R,.int .i64 x.I])
def VR(d:QP):Lit:=.string (keyBytes [.int .i64 d.n.s.T,.int .i64 d.n.s.R,.int .i64 d.n.I,.int .i64 d.b.T,.int .i64 d.b.R])
theorem JK(s:Q4):keyOf Tryz.prog 27 (QU s)=some (YL s):=by obtain⟨m,hm⟩:=Kq;unfold keyOf QU;simp only[E4];rw[Q7 (by simp[Sm,Value.formed,Ko]),hm,show m+6+1=m+5+2 from rfl];simp only[Value.cells];rw[Bl _ s.hT s.hR];rfl
theorem YM(x:Id):keyOf Tryz.prog 60 (Qa x)=some (Ze x):=by obtain⟨m,hm⟩:=Kq;unfold keyOf Qa;simp only[UB];rw[Q7 (by simp[Sn,Value.formed,Kp]),hm,show m+6+1=m+4+3 from rfl];simp only[Value.cells];rw[Bp _ x.s.hT x.s.hR x.hI];rfl
theorem F8(d:QP):keyOf Tryz.prog 171 (JH d)=some (VR d):=by obtain⟨m,hm⟩:=Kq;unfold keyOf JH;simp only[Di];rw[Q7 (by simp[So,Value.formed,DS]),hm,show m+6+1=m+3+4 from rfl];simp only[Value.cells];rw[Sq _ d.n.s.hT d.n.s.hR d.n.hI d.b.hT d.b.hR];rfl
theorem Bq{m:Nat}{c:Value}{j:List Lit}(h:Tryz.prog.keyLits (m+1) 3 [c]=some j):∃n,c=.int .i64 n/\Qu n/\j=[.int .i64 n]:=by unfold Program.keyLits at h;cases c<;>simp[Tryz.underlying3] at h;rename_i q n;obtain⟨⟨rfl,D⟩,rfl⟩:=h;exact⟨n,rfl,(Kr n).1 D,rfl⟩
theorem Br{m:Nat}{j D:Value}{O:List Lit}(h:Tryz.prog.keyLits (m+2) 27 [j,D]=some O):∃a b,j=.int .i64 a/\D=.int .i64 b/\Qu a/\Qu b:=by unfold Program.keyLits at h;simp only[E4] at h;simp[Ko,DT,CV] at h;obtain⟨Q,E,_,⟨U,I,_⟩,_⟩:=h;obtain⟨a,rfl,J,_⟩:=Bq E;obtain⟨b,rfl,hb,_⟩:=Bq I;exact⟨a,b,rfl,rfl,J,hb⟩
theorem Bt{m:Nat}{j D E:Value}{U:List Lit}(h:Tryz.prog.keyLits (m+3) 60 [j,D,E]=some U):∃a b c,j=.int .i64 a/\D=.int .i64 b/\E=.int .i64 c/\Qu a/\Qu b/\Qu c:=by unfold Program.keyLits at h;simp only[UB] at h;simp[Kp,Ko,DT,CV] at h;obtain⟨W,I,_,⟨X,J,_⟩,_⟩:=h;obtain⟨a,b,rfl,rfl,O,hb⟩:=Br I;obtain⟨c,rfl,Q,_⟩:=Bq J;exact⟨a,b,c,rfl,rfl,rfl,O,hb,Q⟩
theorem Sr{m:Nat}{j D E I J:Value}{Z:List Lit}(h:Tryz.prog.keyLits (m+4) 171 [j,D,E,I,J]=some Z):∃a b c d e,j=.int .i64 a/\D=.int .i64 b/\E=.int .i64 c/\I=.int .i64 d/\J=.int .i64 e/\Qu a/\Qu b/\Qu c/\Qu d/\Qu e:=by unfold Program.keyLits at h;simp only[Di] at h;simp[DS,Kp,Ko,CV] at h;obtain⟨l0,O,_,⟨l1,Q,_⟩,_⟩:=h;obtain⟨a,b,c,rfl,rfl,rfl,U,hb,W⟩:=Bt O;obtain⟨d,e,rfl,rfl,X,Y⟩:=Br Q;exact⟨a,b,c,d,e,rfl,rfl,rfl,rfl,rfl,U,hb,W,X,Y⟩
theorem Ss{k:TypeId}{j:Array Field}(D:Tryz.prog.underlying k=some (.struct j)){v:Value}(h:v.formed Tryz.prog k=true):∃cs:Array Value,v=.agg cs/\cs.size=Tryz.prog.cellsOf k:=by cases v<;>simp[Value.formed,D] at h;exact⟨_,rfl,h⟩
theorem DU{k:TypeId}{I:Array Field}(E:Tryz.prog.underlying k=some (.struct I)){v:Value}{l:Lit}(h:keyOf Tryz.prog k v=some l):∃cs:Array Value,v=.agg cs/\cs.size=Tryz.prog.cellsOf k/\∃j,Tryz.prog.keyLits (Tryz.prog.types.size+1) k cs.toList=some j:=by
 unfold keyOf at h;simp only[E] at h;split at h;·rename_i D;simp only[ZJ] at D;obtain⟨cs,rfl,O⟩:=Ss E D.2;simp only[FY] at h;obtain⟨j,J,_⟩:=h;exact⟨cs,rfl,O,j,J⟩
 cases h
theorem St{α:Type}{l:List α}(h:l.length=2):∃a b,l=[a,b]:=by
 match l,h with
 |[a,b],_=>exact⟨a,b,rfl⟩
theorem Su{α:Type}{l:List α}(h:l.length=3):∃a b c,l=[a,b,c]:=by
 match l,h with
 |[a,b,c],_=>exact⟨a,b,c,rfl⟩
theorem Sv{α:Type}{l:List α}(h:l.length=5):∃a b c d e,l=[a,b,c,d,e]:=by
 match l,h with
 |[a,b,c,d,e],_=>exact⟨a,b,c,d,e,rfl⟩
theorem Sw{v:Value}{l:Lit}(h:keyOf Tryz.prog 27 v=some l):∃s:Q4,v=QU s/\l=YL s:=by obtain⟨cs,rfl,hs,ls,hl⟩:=DU E4 h;obtain⟨m,hm⟩:=Kq;rw[Ko] at hs;obtain⟨cs⟩:=cs;obtain⟨c0,c1,rfl⟩:=St (hs);skip;rw[hm,show m+6+1=m+5+2 from rfl] at hl;obtain⟨a,b,rfl,rfl,ha,hb⟩:=Br hl;refine⟨⟨a,b,ha,hb⟩,rfl,?_⟩;have:=JK ⟨a,b,ha,hb⟩;exact Jr (h.symm.trans this)
theorem Va{v:Value}{l:Lit}(h:keyOf Tryz.prog 60 v=some l):∃x:Id,v=Qa x/\l=Ze x:=by obtain⟨cs,rfl,hs,ls,hl⟩:=DU UB h;obtain⟨m,hm⟩:=Kq;rw[Kp] at hs;obtain⟨cs⟩:=cs;obtain⟨c0,c1,c2,rfl⟩:=Su (hs);skip;rw[hm,show m+6+1=m+4+3 from rfl] at hl;obtain⟨a,b,c,rfl,rfl,rfl,ha,hb,hc⟩:=Bt hl;refine⟨⟨⟨a,b,ha,hb⟩,c,hc⟩,rfl,?_⟩;have:=YM ⟨⟨a,b,ha,hb⟩,c,hc⟩;exact Jr (h.symm.trans this)
theorem Bv{v:Value}{l:Lit}(h:keyOf Tryz.prog 171 v=some l):∃d:QP,v=JH d/\l=VR d:=by obtain⟨cs,rfl,hs,ls,hl⟩:=DU Di h;obtain⟨m,hm⟩:=Kq;rw[DS] at hs;obtain⟨cs⟩:=cs;obtain⟨c0,c1,c2,c3,c4,rfl⟩:=Sv (hs);skip;rw[hm,show m+6+1=m+3+4 from rfl] at hl;obtain⟨a,b,c,d,e,rfl,rfl,rfl,rfl,rfl,ha,hb,hc,hd,he⟩:=Sr hl;refine⟨⟨⟨⟨a,b,ha,hb⟩,c,hc⟩,⟨d,e,hd,he⟩⟩,rfl,?_⟩;have:=F8 ⟨⟨⟨a,b,ha,hb⟩,c,hc⟩,⟨d,e,hd,he⟩⟩;exact Jr (h.symm.trans this)
theorem OS{a b:Q4}(h:QU a=QU b):a=b:=by obtain⟨j,D,_,_⟩:=a;obtain⟨b1,b2,_,_⟩:=b;simpa [QU] using h
theorem Ks{a b:Id}(h:Qa a=Qa b):a=b:=by obtain⟨⟨j,D,_,_⟩,E,_⟩:=a;obtain⟨⟨b1,b2,_,_⟩,I,_⟩:=b;simpa [Qa,and_assoc] using h
theorem Bw{a b:QP}(h:JH a=JH b):a=b:=by obtain⟨⟨⟨j,D,_,_⟩,E,_⟩,⟨I,J,_,_⟩⟩:=a;obtain⟨⟨⟨b1,b2,_,_⟩,O,_⟩,⟨Q,U,_,_⟩⟩:=b;simpa [JH,and_assoc] using h
theorem By{a b:Q4}(h:YL a=YL b):a=b:=OS (Uj.inj (JK a) (h▸JK b))
theorem Es{a b:Id}(h:Ze a=Ze b):a=b:=Ks (Xp.inj (YM a) (h▸YM b))
theorem Sx{a b:QP}(h:VR a=VR b):a=b:=Bw (F7.inj (F8 a) (h▸F8 b))
structure YN{α:Type}(k:TypeId)(V:α->Value)(L:α->Lit):Prop where
 keyed:Keyed Tryz.prog k
 val:∀a,keyOf Tryz.prog k (V a)=some (L a)
 inv:∀{v l},keyOf Tryz.prog k v=some l->∃a,v=V a/\l=L a
 inj:∀{a b},L a=L b->a=b
 vinj:∀{a b},V a=V b->a=b
theorem Vs:YN 27 QU YL:=⟨Uj,JK,Sw,By,OS⟩
theorem XJ:YN 60 Qa Ze:=⟨Xp,YM,Va,Es,Ks⟩
theorem Bz:YN 171 JH VR:=⟨F7,F8,Bv,Sx,Bw⟩
section
variable {α:Type} {k:TypeId} {V:α->Value} {L:α->Lit} {H:Type}
theorem YN.same_self(K:YN k V L)(a:α):(L a).sameKey (L a)=true:=WideAt.sameKey_self (K.keyed.key (K.val a))
theorem YN.same_ne(K:YN k V L){a b:α}(h:a≠b):(L a).sameKey (L b)=false:=by
 rcases e:(L a).sameKey (L b) with _|_;·rfl
 exact absurd (K.inj (WideAt.sameKey_eq e)) h
theorem YN.has_put[DecidableEq α](K:YN k V L){D:DataW H}(j:IsMap D)(a b:α)(d:DataW H):has (D.put (L a) d) (L b)=(decide (b=a)||has D (L b)):=by
 by_cases h:b=a;·subst h;rw[has_put_same j (K.keyed.key (K.val b))];simp
 rw[has_put_other (λe=>h (K.inj e))];simp[h]
theorem YN.has_del[DecidableEq α](K:YN k V L){D:DataW H}(a b:α):has (D.del (L a)) (L b)=(!decide (b=a)&&has D (L b)):=by
 by_cases h:b=a;·subst h;rw[has_del_same];simp
 rw[has_del_other (λe=>h (K.inj e))];simp[h]
def Yo(L:α->Lit)(j:DataW H)(left:Lit->Bool)(h:List α):Prop:=h.Nodup/\∀x,x∈h↔(has j (L x)=true/\left (L x)=false)
theorem Yo.start(L:α->Lit)(h:DataW H):Yo L h (has h) []:=⟨Du,λx=>by cases has h (L x)<;>simp⟩
theorem Yo.step(K:YN k V L){j:DataW H}{left:Lit->Bool}{E:List α}(h:Yo L j left E){x:α}{y:DataW H}(Q:left (L x)=true)(J:∀X,j.atKey (L x) X=y):Yo L j (λz=>left z&&!z.sameKey (L x)) (E++[x]):=by
 have O:=has_true_of_atKey J;have U:x∉E:=λW=>by have:=((h.2 x).1 W).2;rw[Q] at this;cases this
 refine⟨Dr.2 ⟨h.1,by simp,λa I b hb=>by simp at hb;subst hb;exact λe=>U (e▸I)⟩,λy=>?_⟩;by_cases D:y=x;·subst D;simp[O,K.same_self]
 simp[h.2 y,D,K.same_ne D]
end
end
section
open Go Go.RowKit
theorem Dp:type_of% @Result.andThen_ok:=@Result.andThen_ok
theorem DD:type_of% @Sem.run_pure:=@Sem.run_pure
theorem DE:type_of% @Sem.run_bind:=@Sem.run_bind
theorem Sd{P:Program}{w:World}{a0:Array Oper}{rest:List Oper}{o:Oper}{a:Act}{Q:Exit->Act->World->Prop}(O:o.guard=none)(s x:Operand)(t:TypeId)(W:o.op=.call { callee:=.builtin .append,args:=#[s,x],argTypes:=#[t,t] })(base:Nat)(e:TypeId)(i:TypeInfo)(z:Value)(size I:Nat)(Y:P.underlying t=some (.slice e))(U:P.info? e=some i)(hz:i.zero=some z)(a6:i.size=size)(a4:i.bytes=I)(a8:z.cells.size=size)(a7:0<size)(v:Value)(n:Nat)(xs:List Value)(X:a.eval s=v)(J:w.ownsRow base e size v n xs)(vb:Value)(a1 m:Nat)(D:List Value)(Z:a.eval x=vb)(j:w.ownsRow a1 e size vb m D)(h1:∀u∈D,u.oneCell'=true)(a2:n+m<=maxLen)(a5:(n+m)*I<=140737488355328)(a3:base<=w)(h:∀E w',w'.ownsRow base e size E (n+m) (xs++D)->w.grownBy w' v.ownBlock->wpList P a0 Q rest (a.put o.dst E) w'):wpList P a0 Q (o::rest) a w:=by
 rcases j.2 with⟨rfl,rfl⟩|⟨g,cap,a9,rfl,_,_,_,_,_,_⟩;·have hn:=VJ (by simpa using j.1);subst hn;have hr:=run_append_owned_none (w:=w) base t o.type e i size Y U v n xs J;refine wpList_plain O λ_ hK=>?_;unfold Oper.wp execOp;simp only[W,resolve,invoke,builtin,DE,DD,Dp,B3,ZW,Kf,X,Z,hr];exact hK _ _ (h v w (by simpa using J) ⟨rfl,rfl,rfl,Q3 _,λ_ _ _=>rfl⟩)
 exact wpList_append_own w O s x t W base e i z size I Y U hz a6 a4 a8 a7 v n xs X J ⟨g,0,none⟩ m cap D Z j.1 (j.cells (g:=g) rfl) h1 a2 a5 a3 (λE w' h2 h3 _=>h E w' h2 h3)
theorem Kn{j:Type}{f:j->List Value}(h:∀x,∀u∈f x,u.oneCell'=true)(L:List j):∀u∈L.flatMap f,u.oneCell'=true:=by intro u D;obtain⟨x,_,E⟩:=YW.1 D;exact h x u E
end
section
open Go Go.RowKit
structure Qd(F:Nat->Prop)(w w':World):Prop where
 os:w'.os=w.os
 tape:w'.tape=w.tape
 output:w'.output=w.output
 size:w.heap.size<=w'.heap.size
 block:∀k,k<w.heap.size->¬F k->w'.heap[k]?=w.heap[k]?
section
variable {F G:Nat->Prop} {w w' a b c:World}
theorem Qd.refl(F:Nat->Prop)(w:World):Qd F w w:=⟨rfl,rfl,rfl,Q3 _,λ_ _ _=>rfl⟩
theorem Qd.trans(h:Qd F a b)(k:Qd G b c)(E:∀x,x<a.heap.size->G x->F x):Qd F a c:=
 ⟨k.os.trans h.os,k.tape.trans h.tape,k.output.trans h.output,Q9 h.size k.size,λx j D=>(k.block x (Z1 j h.size) (λg=>D (E x j g))).trans (h.block x j D)⟩
theorem Qd.mono(h:Qd F w w')(E:∀x,x<w.heap.size->F x->G x):Qd G w w':=⟨h.os,h.tape,h.output,h.size,λk j D=>h.block k j (λf=>D (E k j f))⟩
theorem Qd.below{n:Nat}(h:Qd F w w')(E:n<=w.heap.size)(D:∀x,x<n->¬F x):Below n w w':=⟨h.os,h.tape,h.output,h.size,λk j=>h.block k (Z1 j E) (D k j)⟩
theorem Below.touch(h:Below w.heap.size w w')(F:Nat->Prop):Qd F w w':=⟨h.os,h.tape,h.output,h.size,λk j _=>h.block k j⟩
theorem Below.touch'{n:Nat}(h:Below n w w')(D:∀x,x<w.heap.size->n<=x->F x):Qd F w w':=⟨h.os,h.tape,h.output,h.size,λk E I=>h.block k (Nat.lt_of_not_le (λj=>I (D k E j)))⟩
theorem Qd.drew(h:Qd F a w):Qd F a w.drew:=⟨h.os,h.tape,h.output,h.size,h.block⟩
theorem Qd.alloc(h:Qd F a w)(o:Obj):Qd F a (w.alloc o):=
 h.trans (G:=λ_=>False) ⟨rfl,rfl,rfl,by simp,λk j _=>Z5 _ _ _ j⟩ (λ_ _ h=>h.elim)
theorem Qd.setCell(h:Qd F a w){p:Addr}(D:p.block<a.heap.size->F p.block)(u:Value):Qd F a (w.setCell p u):=
 h.trans (G:=λx=>x=p.block) ⟨rfl,rfl,rfl,by simp[World.setCell],λk _ j=>YV _ _ _ _ j⟩ (λ_ E e=>e▸D (e▸E))
theorem Qd.grown{row:Option Nat}(h:Qd F a w)(j:w.grownBy w' row)(I:∀k,row=some k->k<a.heap.size->F k):Qd F a w':=
 h.trans (G:=λx=>row=some x) ⟨j.os,j.tape,j.output,j.size,λk D E=>j.block k D (λe=>E e.symm)⟩ (λx J e=>I x e J)
theorem Qd.cell(h:Qd F w w'){p:Addr}(D:p.block<w.heap.size)(j:¬F p.block):w'.cell? p=w.cell? p:=World.cell?_of_block (h.block p.block D j)
theorem Yn{base:Nat}{e:TypeId}{size n:Nat}{v:Value}{xs:List Value}(h:w.ownsRow base e size v n xs)(t:Qd F w w')(O:∀g,v.ownBlock=some g->¬F g):w'.ownsRow base e size v n xs:=by
 refine⟨h.1,?_⟩;rcases h.2 with E|⟨g,cap,D,rfl,I,j,J⟩;·exact .inl E
 have Q:=(Q5.1 j).1;exact .inr ⟨g,cap,D,rfl,I,(t.block g Q (O g rfl)).trans j,J⟩
theorem Xo{H:Type}{P:Program}{k:TypeId}{R:Value->Option (DataW H×List MemPlace)}{m n:Nat}{D:DataW H}(h:w.ownsMap P k R m n D)(t:Qd F w w')(O:¬F m):w'.ownsMap P k R m n D:=by obtain⟨I,E,j,J⟩:=h;have Q:=(Q5.1 j).1;exact⟨I,E,(t.block m Q O).trans j,J⟩
theorem QY{k:Nat}{o:Obj}(h:w.heap[k]?=some o)(t:Qd F w w')(j:¬F k):w'.heap[k]?=some o:=
 (t.block k (Q5.1 h).1 j).trans h
end
end
section
structure Qm where
 nm:Q4
 un:Q4
deriving DecidableEq
def Ya(l:List Qm)(h:Qm):Prop:=l.find? (λg=>decide (g.nm=h.nm))=some h
theorem Fb{l:List Qm}{h:Qm}(f:Ya l h):h∈l:=Df f
theorem Sy{l:List Qm}{g h:Qm}(f:Ya l g)(k:Ya l h)(e:g.nm=h.nm):g=h:=by unfold Ya at f k;rw[e] at f;exact Jr (f.symm.trans k)
theorem DV(l:List Qm)(x h:Qm):Ya (l++[x]) h↔Ya l h\/h=x/\∀g∈l,g.nm≠x.nm:=by
 unfold Ya
 rw[GR]
 cases e:l.find? (λg=>decide (g.nm=h.nm)) with
 |some y=>
  simp only[Option.some_or,Dq];refine⟨λj=>.inl j,λj=>?_⟩;rcases j with j|⟨rfl,E⟩;·exact j
  have J:=B6 e;exact absurd (by simpa using J) (E y (Df e))
 |none=>
  rw[GL] at e;simp only[Option.none_or,reduceCtorEq,false_or];by_cases D:x.nm=h.nm
  ·simp only[Ed,D,decide_true,Dq];constructor;·rintro rfl;exact⟨rfl,λg I=>by simpa using e g I⟩
   rintro⟨rfl,_⟩;rfl
  simp only[Ed,D,decide_false,List.find?_nil,reduceCtorEq,false_iff];rintro⟨rfl,_⟩;exact D rfl
theorem SA{l:List Qm}{g:Qm}(D:g∈l):∃h,Ya l h/\h.nm=g.nm:=by
 cases e:l.find? (λk=>decide (k.nm=g.nm)) with
 |some y=>
  have j:y.nm=g.nm:=by have:=B6 e;simpa using this
  exact⟨y,by unfold Ya;rw[j];exact e,j⟩
 |none=>rw[GL] at e;exact absurd (QF rfl) (e g D)
theorem Fc{Q:Type}{lt:Q->Q->Prop}(J:∀a,¬lt a a)(U:∀a b c,lt a b->lt b c->lt a c):∀{L M:List Q},L.Pairwise lt->M.Pairwise lt->(∀x,x∈L↔x∈M)->L=M
 |[],[],_,_,_=>rfl
 |[],b::M,_,_,h=>by have:=(h b).2 (by simp);simp at this
 |a::L,[],_,_,h=>by have:=(h a).1 (by simp);simp at this
 |a::L,b::M,E,I,h=>by
  rw[Yh] at E I
  have W:a=b:=by
   rcases QI.1 ((h a).1 (by simp)) with e|j;·exact e
   rcases QI.1 ((h b).2 (by simp)) with e|D;·exact e.symm
   exact absurd (U _ _ _ (E.1 b D) (I.1 a j)) (J a)
  subst W;congr 1;refine Fc J U E.2 I.2 (λx=>?_);have O:=h x;simp only[QI] at O;constructor
  ·intro j;rcases O.1 (.inr j) with rfl|D;·exact absurd (E.1 _ j) (J _)
   exact D
  intro j;rcases O.2 (.inr j) with rfl|D;·exact absurd (I.1 _ j) (J _)
  exact D
def ZL:List Qm->List Qm->List Qm|acc,[]=>acc|acc,h::t=>if acc.any (λg=>decide (g.un=h.nm)) then ZL acc t else ZL (acc++[h]) t
theorem OT(h l:List Qm)(x:Qm):ZL h (l++[x])=if (ZL h l).any (λg=>decide (g.un=x.nm)) then ZL h l else ZL h l++[x]:=by
 induction l generalizing h with
 |nil=>rw[VN];unfold ZL;unfold ZL;cases h.any (λg=>decide (g.un=x.nm))<;>rfl
 |cons a l j=>
  rw[JB,ZL,ZL];split;·exact j h
  exact j (h++[a])
end
end Go.Proofs.YtfpafikfjjckeaaGreatDoor
