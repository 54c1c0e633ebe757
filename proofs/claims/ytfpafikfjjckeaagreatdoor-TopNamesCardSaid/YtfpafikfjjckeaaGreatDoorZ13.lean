import Derived.Test.YtfpafikfjjckeaaGreatDoorZ12
set_option maxRecDepth 100000
set_option maxHeartbeats 200000000
namespace Go.Proofs.YtfpafikfjjckeaaGreatDoor
section
open Go Go.RowKit Go.Maps
theorem UW{P:Program}{D:Func}{p u:Tmp}{j:TypeId}(h:D.results=#[.cell p j,.tmp u])(tmps:Array Value)(w:World)(g:Nat)(t:TypeId)(cs:Array Value)(E:Nat×Nat)(d:TypeDesc)(Q:tmps.getD p undef=.pointer (g,0))(J:w.heap[g]?=some (.cells cs t E))(W:P.underlying j=some d)(I:(match d with|.struct _|.array _ _=>true|_=>false)=true)(O:(P.info? j).map (·.size)=some cs.size):(results D tmps).run P w=.ok (.tuple #[.agg cs,tmps.getD u undef]) w:=by
 have U:tmps[p]?.getD undef=.pointer (g,0):=by simpa using Q
 simp[results,h,U,asAddr,run_loadVar_row w g t j cs E d J W I O,Result.andThen]
def XO(C:List Q1):Int:=C.foldl (λt g=>max t g.s.T) 0
theorem EI(C:List Q1)(g:Q1):XO (C++[g])=max (XO C) g.s.T:=by unfold XO;rw[Dj];rfl
def Ll(C:List Q1)(w:World)(t i:Value)(wr:World):Prop:=∃k:Nat,k<=C.length/\i=k/\t=.int .i64 (XO (C.take k))/\Q0 w wr
structure Fv(l:List Q1)(r:Int)(g:Q1):Prop where
 tt:g.s.T=XO (Qs l)+1
 rr:g.s.R=r
 nn:g.n=Zw (Xj l) r+1
 dd:g.deps=Xj l
 uu:g.un=Qf.s
 oo:g.ops=[]
def HX(l:List Q1)(r:Int)(w:World)(e:Ending)(w':World):Prop:=
 ∃g:Q1,e=.returned (.tuple #[Z2 g,(0:Int)])/\Fv l r g/\X4 w' w' g/\Below w w w'
theorem HY{w w':World}{B D J g o n c:Nat}{xs:List Value}(h:Rd w B J (.slice (g,o) n c) n xs)(hg:w'.heap[g]?=w.heap[g]?)(Y:B<=D):Rd w' D J (.slice (g,o) n c) n xs:=by obtain⟨Q,A,c',E,U,W,X⟩:=h;refine⟨Q,A,c',E,U,W,λhn=>?_⟩;obtain⟨b,o',I,hb,Z⟩:=X hn;injection E with j _ _;rw[I] at j;injection j with j;injection j with O e5;subst O;exact⟨_,_,I,Z1 hb Y,λa0 u hu=>(World.cell?_of_block hg).trans (Z a0 u hu)⟩
theorem HZ(l:List Q1):∀x∈Xj l,Qu x:=λx h=>HQ _ x (U8 h)
theorem Cn:∀C:List Q1,0<=XO C:=by
 have h:∀(C:List Q1)(t:Int),0<=t->0<=C.foldl (λt g=>max t g.s.T) t:=by
  intro C
  induction C with
  |nil=>exact λt j=>j
  |cons g C D=>exact λt j=>D _ (show 0<=max t g.s.T by omega)
 exact λC=>h C 0 (Ei _)
theorem Lm(l:List Q1)(r:Int)(A:Option Addr)(n c B:Nat)(w:World)(E:Xi w B (.slice A n c) l)(hn:n<=100000)(J:B<=w)(hT:ZD w)(ab:∀g∈l,∀o∈g.ops,o.tx.size<=1000000000)(hr:1<=r/\r<=16)(a0:XO (Qs l)+1<=1099511627776)(a1:0<=Zw (Xj l) r/\Zw (Xj l) r+1<=1099511627776):Calls Tryz.prog 6 #[.slice A n c,r] w (HX l r w):=by
 obtain rfl:n=l.length:=(Rd.len E.r).1;have a4:∀W,Below w w W->Xi W B (.slice A l.length c) l:=λW h=>⟨E.r.below' h J,λg j=>⟨(E.a g j).d.below' h J,(E.a g j).i,(E.a g j).o.below' h J,λo Z=>⟨((E.a g j).a o Z).d.below' h J,((E.a g j).a o Z).e.below' h J⟩⟩⟩;have HV:=Ki (λW (h:Below w w W)=>HW l A l.length c B W (a4 W h) hn (Q9 J h.size) (hT.below h) ab);have HC:=Ki (λW (h:Below w w W)=>Li l A l.length c B W (a4 W h) hn (Q9 J h.size) (hT.below h) ab);have aA:=EH l;have a3:=Ki a0;have ag:=Ki a1;clear E a4 hT ab a0 a1;go_enter Tryz.func6,Tryz.ntmps6;go_wp2_with fail;refine(HV.o _ ((Qc _ w).alloc (Q3 _) _)).mono ?_;rintro e1 W1 ⟨rfl,hD,a5⟩;have O:W1.heap[w.heap.size]?=some (.cells #[(0:Int),(0:Int),(0:Int),.slice none 0 0,(0:Int),(0:Int),.slice none 0 0] 31 (0,0)):=(a5.block w (by simp)).trans (Qi w _);have aj:Below w w W1:=((Qc _ w).alloc (Q3 _) _).trans (a5.mono (by simp));obtain⟨I,a6⟩:∃b,(w.alloc (.cells #[(0:Int),(0:Int),(0:Int),.slice none 0 0,(0:Int),(0:Int),.slice none 0 0] 31)).heap.size=b:=⟨_,rfl⟩;have an:=Ki (show I=w.heap.size+1 by rw[<-a6,Qy]);rw[a6] at hD |-;clear a6;obtain⟨D,Y⟩:∃b,w.heap.size=b:=⟨_,rfl⟩;have ae:=Ki Y;have HD:=Ki hD;have H4:=Ki (Y▸O);have a2:=Ki aj;rw[Y];clear Y O aj a5 hD HV;go_wp2_with fail;refine(HC.o _ a2.o).mono ?_;rintro e2 Q ⟨v2,rfl,a9,hb2⟩;obtain⟨Ac,cc,rfl,_,_⟩:=(Rd.of_own a9).form;have HR:=Ki (λW (h:Q0 Q W)=>(Rd.of_own a9).below' h.below (Q3 _))
 have af:=Ki (a2.o.trans (hb2.mono a2.o.size));have aq:=Ki (HD.o.below hb2);have ac:=Ki ((hb2.block D (Q5.1 H4.o).1).trans H4.o);have HS:=Ki hb2.size;clear a9 hb2 HC HD;obtain⟨C,hC⟩:∃C,Qs l=C:=⟨_,rfl⟩;have ap:=Ki hC;rw[hC] at HR aA a3 |-;clear hC;have ah:=Kj (Ll C Q (0:Int) (.int .i64 (0:Nat)) Q) ⟨0,Qh _,rfl,rfl,Q0.refl _⟩;go_wp2;go_loopw [6,23] (λt i wr=>Ll C Q t i wr) (λ_ i _=>C.length-(intOf i).toNat);case atStart=>exact ah.o
 case round=>
  clear ah;obtain⟨k,hk,rfl,rfl,j⟩:=hrel;have HG:=Ki j;by_cases al:k<C.length
  ·obtain⟨bg,og,e1,aE,a7⟩:=Qr Qg 7 (λ_=>rfl) (by decide) (HR.o wr j) al;obtain⟨g,a8⟩:∃g,C[k]=g:=⟨_,rfl⟩;rw[a8] at a7;have ay:=Ki a7;have ax:=Ki (show XO (C.take (k+1))=max (XO (C.take k)) g.s.T by rw[QQ al,a8,EI]);rw[e1];have aF:(0:Int)<=(k:Int):=(by omega);have aB:(k:Int)<(C.length:Int):=(by omega);clear a7 a8 j;go_upto_region 7 with(first|((with_reducible refine Ql 31 ?_);refine QA rfl 31 _ rfl _ _ _ rfl ay.o (by kernel_rfl) (Zl _) ?_)|((with_reducible refine Zm 31 ?_);refine Zp rfl 31 _ _ rfl _ _ rfl rfl _ _ (Qi _ _) (by kernel_rfl) rfl (by kernel_rfl) ?_;rw[Xm,Zn]));obtain⟨W4,U⟩:∃W,wr.alloc (.cells (Qg g).toArray 31)=W:=⟨_,rfl⟩;have O:W4.heap[wr.heap.size]?=some (.cells (Qg g).toArray 31 (0,0)):=(by rw[<-U];exact Qi wr _);have ar:=Ki (show Q0 Q W4 by rw[<-U];exact HG.o.alloc _);rw[U];clear U;obtain⟨b5,ai⟩:∃b,wr.heap.size=b:=⟨_,rfl⟩;rw[ai] at O |-;have c1:W4.cell? (b5,0)=g.s.T:=cR 0 O;clear O ai;generalize XO (C.take k)=t at *;go_wp2;go_roundw;case rel=>exact⟨k+1,by omega,by go_num,by rw[ax.o],ar.o⟩
   case measure=>simp[intOf];omega
  have ak:C.take k=C:=Zk (by omega);rw[ak];have aB:¬((k:Int)<(C.length:Int)):=(by omega);have aa:=aq.o.below' j.below HS.o;have HA:=Ki (PJ (Xj l) r (some ⟨I,0,none⟩) (Xj l).length 16 W1 wr aa (by unfold Qu;omega));have au:=Ki aa;have ad:=Ki ((j.below.block D (Q5.1 ac.o).1).trans ac.o);have ao:=Ki (af.o.trans (j.below.mono af.o.size));have av:=Ki j.below.size;have aD:=Cn C;obtain⟨t,ht⟩:=ex (XO C);obtain⟨a,X⟩:=ex (Zw (Xj l) r);have aw:=Ki ht;have am:=Ki X;have a0:=a3.o;have a1:=ag.o;rw[ht] at a0 aD;rw[X] at a1;rw[X] at HA;rw[ht];clear ht X aa j HG a3 ag ak HR;have aG:¬(max (t+1) (a+1)>1099511627776):=(by omega);have aH:max (t+1) (a+1)<=1099511627776:=(by omega);have aI:IntKind.i64.wrap (t+1)=t+1:=QO _ (by omega);have aJ:IntKind.i64.wrap (a+1)=a+1:=QO _ (by omega);go_wp2_with (first|(go_at_call 17;refine HA.o.mono ?_;rintro e5 W5 ⟨rfl,rfl⟩)|((with_reducible refine Zm 31 ?_);refine Zp rfl 31 _ _ rfl _ _ rfl rfl 31 _ ad.o (by kernel_rfl) rfl (by kernel_rfl) ?_;rw[Zn]));refine XE (UW rfl _ _ D 31 #[.int .i64 (t+1),r,.int .i64 (a+1),.slice (I,0) (Xj l).length 16,(0:Int),(0:Int),.slice none 0 0] (0,0) _ rfl (X7 wr D _ _ 31 _ ad.o) Tryz.underlying31 rfl (by kernel_rfl)) rfl ?_;have az:Below w w (wr.setRow D #[.int .i64 (t+1),r,.int .i64 (a+1),.slice (I,0) (Xj l).length 16,(0:Int),(0:Int),.slice none 0 0]):=Gl ao.o (by rw[ae.o];exact Q3 _)
  refine⟨⟨⟨t+1,r,by unfold Qu;omega,by unfold Qu;omega⟩,a+1,⟨some ⟨I,0,none⟩,(Xj l).length,16⟩,Xj l,Qf.s,⟨none,0,0⟩,[],by unfold Qu;omega⟩,rfl,⟨by rw[ap.o,aw.o],rfl,by rw[am.o],rfl,rfl,rfl⟩,⟨?_,HZ l,Rd.nil _ _ _,λo Z=>by cases Z⟩,az⟩;have aC:I≠D:=(by have:=ae.o;have:=an.o;omega);refine HY au.o ?_ (Q9 HS.o (Q9 av.o (by show wr.heap.size<=(wr.heap.modify D _).size;rw[Array.size_modify];exact Q3 _)));show(wr.heap.modify D _)[I]?=_;rw[Vm,Q6 (λe=>aC e.symm)]
end
section
open Go
section
variable {P:Program} {l:List Oper} {Q:Exit->Act->World->Prop} {S:World->Prop} {n g:Nat}
def Qn(P:Program)(l:List Oper)(Q:Exit->Act->World->Prop)(S:World->Prop)(n g:Nat):Nat->Array Bool->Act->World->Prop
 |0,h,a,w=>(∀j∈Region.ready .any l.toArray h,n<=j)/\wpAny P .any l.toArray Q g h a w
 |f+1,h,a,w=>
  Region.ready .any l.toArray h≠[]/\∀i∈Region.ready .any l.toArray h,i<n/\wpOp P l.toArray Q i (λD w'=>S w'/\Qn P l Q S n g f (h.setIfInBounds i true) D w') a w
theorem Qn.of:∀(f:Nat)(j:Array Bool)(a:Act)(w:World),Qn P l Q S n g f j a w->wpAny P .any l.toArray Q (f+g) j a w|0,j,a,w,h=>by rw[V7];exact h.2|f+1,j,a,w,h=>by rw[show f+1+g=(f+g)+1 by omega];exact⟨λI=>absurd I h.1,λi J=>wpOp_mono (λD w' E=>Qn.of f _ D w' E.2) (h.2 i J).2⟩
def QH(P:Program)(l:List Oper)(Q:Exit->Act->World->Prop)(S:World->Prop)(n g f:Nat)(j:Array Bool)(a:Act)(w:World)(rs:List Nat):Prop:=
 ∀i∈rs,i<n/\wpOp P l.toArray Q i (λh w'=>S w'/\Qn P l Q S n g f (j.setIfInBounds i true) h w') a w
theorem Qn.all{rs:List Nat}{f:Nat}{j:Array Bool}{a:Act}{w:World}(I:Region.ready .any l.toArray j=rs)(D:rs.isEmpty=false)(h:QH P l Q S n g f j a w rs):Qn P l Q S n g (f+1) j a w:=by subst I;exact⟨λE=>(by rw[E] at D;cases D),h⟩
theorem QH.nil{f:Nat}{j:Array Bool}{a:Act}{w:World}:QH P l Q S n g f j a w []:=λ_ h=>by cases h
theorem QH.cons{f i:Nat}{o:Oper}{rs:List Nat}{I:Array Bool}{a:Act}{w:World}(X:l[i]?=some o)(W:decide (i<n)=true)(h:∀D:Act->World->Prop,Shut (∀a w,S w->(S w->Qn P l Q S n g f (I.setIfInBounds i true) a w)->D a w)->if Region.wanted o (yielded l.toArray a.tmps)=true then Oper.wp P o a w D Q else D (a.put o.dst undef) w)(Y:QH P l Q S n g f I a w rs):QH P l Q S n g f I a w (i::rs):=λj E=>by
 rcases QI.1 E with rfl|E;·exact⟨Y0 W,wpOp_step (by simpa using X) (λD O=>h D (λa w J U=>O a w ⟨J,U J⟩))⟩
 exact Y j E
theorem Qn.done{D:Array Bool}{a:Act}{w:World}(E:(Region.ready .any l.toArray D).all (λj=>decide (n<=j))=true)(h:wpAny P .any l.toArray Q g D a w):Qn P l Q S n g 0 D a w:=
 ⟨λj I=>Y0 (V4.1 E j I),h⟩
end
end
section
open Go
section
variable {P:Program} {l:List Oper} {Q:Exit->Act->World->Prop} {S:World->Prop} {n g:Nat}
def Gp(l:List Oper):Nat->Nat->Nat->Bool|0,_,_=>false|f+1,t,i=>Region.waitsFor .any l.toArray t i||(List.range l.length).any λj=>Region.waitsFor .any l.toArray t j&&Gp l f j i
def UX(l:List Oper)(h:Array Bool):Prop:=∀t j,Region.waitsFor .any l.toArray t j=true->h.getD t true=true->h.getD j true=true
def AQ(l:List Oper)(h:Array Bool):Bool:=(List.range l.length).all λt=>(List.range l.length).all λj=>!(Region.waitsFor .any l.toArray t j&&h.getD t true)||h.getD j true
theorem Wa{t j:Nat}(h:Region.waitsFor .any l.toArray t j=true):t<l.length:=by obtain⟨E,D,_⟩:=Region.waitsFor_spec h;have:=(Q5.1 D).1;simpa using this
theorem Ln{D:Array Bool}(U:D.size=l.length)(h:AQ l D=true):UX l D:=by
 intro t j J O;rcases UH j l.length with I|I;·have E:=V4.1 (V4.1 h t (Uc.2 (Wa J))) j (Uc.2 I);rw[J,O] at E;simpa using E
 rw[Array.getD_eq_getD_getElem?,Array.getElem?_eq_none (by omega)];rfl
theorem AR:∀(f:Nat){t i:Nat}{D:Array Bool},UX l D->Gp l f t i=true->D.getD t true=true->D.getD i true=true
 |0,_,_,_,_,h,_=>by cases h
 |f+1,t,i,D,E,h,J=>by
  unfold Gp at h;rw[G4] at h;rcases h with h|h;·exact E t i h J
  obtain⟨j,_,I⟩:=Ua.1 h;rw[ZJ] at I;exact AR f E I.2 (E t j I.1 J)
def EJ(l:List Oper)(n i:Nat):Bool:=Region.noSelect l.toArray&&decide (i<n)&&(List.range (l.length-n)).all λt=>Gp l 3 (n+t) i
theorem EK{t j:Nat}{D:Array Bool}(X:t∈Region.ready .any l.toArray D)(Y:Region.waitsFor .any l.toArray t j=true):D.getD j true=true:=by
 obtain⟨_,ot,W,E⟩:=Uh.1 X
 obtain⟨Z,O,e,I,hb,U⟩:=Region.waitsFor_spec Y
 have:Z=ot:=Jr (O.symm.trans W)
 subst this
 have h:=E e I hb
 rw[U] at h
 cases J:D.getD j true with
 |true=>rfl
 |false=>rw[getD_both J] at h;cases h
theorem Lo{i:Nat}{D:Array Bool}(O:UX l D)(J:EJ l n i=true)(W:D.getD i true=false):∀t,n<=t->t∉Region.ready .any l.toArray D:=by
 intro t X I;simp only[EJ,ZJ] at J;have Y:t<l.length:=by obtain⟨_,Z,U,_⟩:=Uh.1 I;have:=(Q5.1 U).1;simpa using this
 have h:=V4.1 J.2 (t-n) (Uc.2 (by omega));rw[show n+(t-n)=t by omega] at h;unfold Gp at h;rw[G4] at h
 have:D.getD i true=true:=by
  rcases h with h|h;·exact EK I h
  obtain⟨j,_,E⟩:=Ua.1 h;rw[ZJ] at E;exact AR 2 O E.2 (EK I E.1)
 rw[W] at this;cases this
theorem UX.set{j:Nat}{h:Array Bool}(W:UX l h)(X:j∈Region.ready .any l.toArray h):UX l (h.setIfInBounds j true):=by
 have O:∀k,h.getD k true=true->(h.setIfInBounds j true).getD k true=true:=λk I=>by
  by_cases D:j=k
  ·subst D;rw[Array.getD_eq_getD_getElem?,Array.getElem?_setIfInBounds];split;·split<;>rfl
   rw[<-Array.getD_eq_getD_getElem?];exact I
  rw[getD_set_ne true D];exact I
 intro t k U J;by_cases E:j=t;·subst E;exact O k (EK X U)
 rw[getD_set_ne true E] at J;exact O k (W t k U J)
theorem Qn.first2{i:Nat}{U:Oper}{v:Value}(hi:l.toArray[i]?=some U)(hB:EJ l n i=true)(hQ:∀c a w,Q (.panic c) (a.put U.dst v) w->Q (.panic c) a w):∀(f:Nat)(D:Array Bool)(a:Act)(w:World),UX l D->(∀j W,l.toArray[j]?=some W->j≠i->D.getD j true=false->(∀e∈W.after,Region.binds .any e=true->e.on≠i)->U.apart l.toArray W=true)->i∈Region.ready .any l.toArray D->YieldsIf P l.toArray S U v a->S w->Qn P l Q S n g f (D.setIfInBounds i true) (a.put U.dst v) w->Qn P l Q S n g (f+1) D a w:=by
 have a0:=hB
 simp only[EJ,ZJ,XD] at a0
 have ad:=a0.1.2
 have a6:=Region.noSelect_spec a0.1.1
 intro f
 induction f with
 |zero=>
  intro D a w hc _ I hy X H;have O:=(Uh.1 I).1;refine⟨λh=>(by rw[h] at I;cases I),λj J=>?_⟩
  have a1:j<n:=by
   rcases UH j n with h|h;·exact h
   exact absurd J (Lo hc hB O j h)
  refine⟨a1,?_⟩;by_cases E:j=i;·subst E;exact hy.wpOp hi X ⟨X,H⟩
  have:=H.1 j (G5 J E);omega
 |succ f ih=>
  intro D a w hc a3 I hy X H;have O:=(Uh.1 I).1;refine⟨λh=>(by rw[h] at I;cases I),λj J=>?_⟩
  have a1:j<n:=by
   rcases UH j n with h|h;·exact h
   exact absurd J (Lo hc hB O j h)
  refine⟨a1,?_⟩;by_cases E:j=i;·subst E;exact hy.wpOp hi X ⟨X,H⟩
  have Z:=(H.2 j (G5 J E)).2;obtain⟨a5,W,a2,a7⟩:=Uh.1 J;have ac:∀e∈W.after,Region.binds .any e=true->e.on≠i:=λe he hb a8=>by have Z:=a7 e he hb;rw[a8,getD_both O] at Z;cases Z
  have h2:=wpOp_putIf a2 (a3 j W a2 E a5 ac) (λcs b=>a6 i U cs b hi) (λcs b=>a6 j W cs b a2) hQ hy Z
  have a9:∀k Y,l.toArray[k]?=some Y->k≠i->(D.setIfInBounds j true).getD k true=false ->
    (∀e∈Y.after,Region.binds .any e=true->e.on≠i)->U.apart l.toArray Y=true:=λk Y hk aa O ab=>by
   refine a3 k Y hk aa ?_ ab
   by_cases a4:j=k
   ·subst a4;exact a5
   ·rw[getD_set_ne true a4] at O;exact O
  refine wpOp_mono (λa' w' h3=>⟨h3.2.1,ih (D.setIfInBounds j true) a' w' (hc.set J) a9 (G5 I (XF E)) h3.1 h3.2.1 ?_⟩) h2;rw[Array.setIfInBounds_comm _ _ E];exact h3.2.2
theorem Qn.take2{i f:Nat}{D:Oper}{v:Value}{j:Array Bool}{a:Act}{w:World}(X:l[i]?=some D)(I:EJ l n i=true)(Z:j.size=l.length)(U:AQ l j=true)(W:Region.free .any l.toArray j i=true)(Y:(Region.ready .any l.toArray j).contains i=true)(J:∀c a w,Q (.panic c) (a.put D.dst v) w->Q (.panic c) a w)(hy:YieldsIf P l.toArray S D v a)(O:S w)(h:Qn P l Q S n g f (j.setIfInBounds i true) (a.put D.dst v) w):Qn P l Q S n g (f+1) j a w:=by
 have E:l.toArray[i]?=some D:=by simpa using X
 exact Qn.first2 E I J f j a w (Ln Z U) (Region.free_spec E W) (by simpa using Y) hy O h
end
section
variable {P:Program} {md:Region.Mode} {ops:Array Oper} {Q:Exit->Act->World->Prop}
theorem T0(i:Nat){oi:Oper}{v:Value}{fuel:Nat}{listed:Array Bool}{a:Act}{w:World}(h:wpAny P md ops Q fuel (listed.setIfInBounds i true) (a.put oi.dst v) w)(hi:ops[i]?=some oi:=by rfl)(hy:Yields P ops oi v a:=by exact .inl ⟨by rfl,by (intro w';go_simp;(try with_reducible rfl))⟩)(hQ:∀c a w,Q (.panic c) (a.put oi.dst v) w->Q (.panic c) a w:=by exact λ_ _ _ h=>h)(hs:Region.noSelect ops=true:=by kernel_rfl)(hf:Region.free md ops listed i=true:=by kernel_rfl)(hr:(Region.ready md ops listed).contains i=true:=by kernel_rfl):wpAny P md ops Q (fuel+1) listed a w:=wpAny_take hi hs hf hr hQ hy h
end
end
end Go.Proofs.YtfpafikfjjckeaaGreatDoor
