import Derived.RangeFuncBox
import Derived.RangeFuncLeaves
import Derived.RangeFuncNested
import Derived.Shelf.Abstract
import Derived.Test.YtfpafikfjjckeaaGreatDoorZ14
set_option maxRecDepth 100000
set_option maxHeartbeats 200000000
namespace Go.Proofs.YtfpafikfjjckeaaGreatDoor
section
open Go Go.RowKit Go.Shelf
attribute [local go_sem] Oper.semAt_some
def K0(j D:Nat)(W h:World):Prop:=h.heap[j]?=W.heap[j]?/\h.heap[D]?=W.heap[D]?
theorem AT{j D:Nat}{A B C:World}(h:K0 j D A B)(k:K0 j D B C):K0 j D A C:=⟨k.1.trans h.1,k.2.trans h.2⟩
theorem Wi{h j:Nat}{w:World}(E:h<w.heap.size)(I:j<w.heap.size)(W:World)(l:Nat)(o D:Obj)(O:w.heap.size<=l)(_:W.heap[l]?=some o)(_:o.isCells=false)(_:o.isWalk=false):K0 h j W (W.putObj l D):=by
 have:∀k,k<w.heap.size->(W.putObj l D).heap[k]?=W.heap[k]?:=λk J=>by
  have:l≠k:=by omega
  simp[World.putObj,this]
 exact⟨this h E,this j I⟩
def Cq(x:Nat×Qm):Array Value:=#[.int .i64 (x.1:Int),.agg #[x.2.nm.T,x.2.nm.R,x.2.un.T,x.2.un.R]]
theorem Wj(F:Fence)(n:Nat)(j:F.fn 78)(D:F.round=none)(a:Option Addr)(h cap:Nat)(w:World):CallsIn F n Tryz.prog 78 #[.slice a h cap] w λe w'=>e=.returned (.func (.func 135) #[] #[.pointer (w.heap.size,0)])/\w'=w.alloc (.cells #[.slice a h cap] 165):=by refine callsIn_of_wp Tryz.func78 rfl j ?_ D;simp only[Tryz.ntmps78,Ke,Z4,Ub,Nat.reduceAdd,Nat.reduceSub,E0,FZ,Ea,E6,VN,JB];gi_wp2;go_ret;exact⟨rfl,rfl⟩
theorem Wk{H:List Qm}{j:Nat}(h:j<H.length):(H.drop j).reverse=(H.drop (j+1)).reverse++[H[j]]:=by rw[VL h,B0]
theorem Wl(F:Fence)(n:Nat)(a2:F.fn 135)(a6:F.round=none)(hn:1<=n)(l Bs b cap:Nat)(H:List Qm)(R:List Value)(hH:H.length<=100000)(J Y:List (Nat×Qm)->World->Prop)(hY:∀h x W,J h W->h.length<H.length->YieldAt F (n-1) Tryz.prog l (Cq x) W λe D=>(e=.returned (.bool true)/\J (h++[x]) D/\K0 Bs b W D)\/(e=.returned (.bool false)/\Y (h++[x]) D))(W:World)(Q:W.heap[Bs]?=some (.cells #[.slice (b,0) H.length cap] 165 (0,0)))(hb:W.heap[b]?=some (.cells (H.flatMap Zj++R).toArray 167 (0,0)))(h0:J [] W):CallsIn F n Tryz.prog 135 #[.func (.yield l) #[] #[],.pointer (Bs,0)] W λe D=>(∃v,e=.returned v)/\((∃ys:List (Nat×Qm),ys.map Prod.snd=H.reverse/\J ys D)\/(∃h:List (Nat×Qm),True/\Y h D)):=by
 have HB:=Ki hb;have a1:=Ki Q;have a0:=cr0 Q;clear hb Q;refine callsIn_of_wp Tryz.func135 rfl a2 ?_ a6;simp only[Tryz.ntmps135,Ke,Z4,Ub,Nat.reduceAdd,Nat.reduceSub,E0,FZ,Ea,E6,VN,JB];gi_wp2
 gi_loopw [3] (λi wr=>∃(k:Nat)(v:Int) (h:List (Nat×Qm)),i=v/\v=(k:Int)-1/\k<=H.length/\h.length+k=H.length/\h.map Prod.snd=(H.drop k).reverse/\J h wr/\K0 Bs b W wr)
  (λi _=>(intOf i+1).toNat)
 case atStart=>exact⟨H.length,_,[],rfl,by go_num,Q3 _,by simp,by simp,h0,rfl,rfl⟩
 case round=>
  obtain⟨k,v,h,rfl,hv,hk,hl,hp,Z,hK⟩:=hrel;have X:=Ki hp;have I:=Ki hK;clear hp hK a0;rcases k with _|j;·have a9:v<0:=(by omega);clear hv;gi_wp2;go_end0;exact⟨⟨_,rfl⟩,.inl ⟨h,by have:=X.o;simpa using this,Z⟩⟩
  obtain rfl:v=(j:Int):=by omega
  clear hv;have hj:j<H.length:=(by omega);have a0:=cr0 (I.o.1.trans a1.o);have E:∀r u,(Zj H[j])[r]?=some u->wr.cell? ⟨b,j*4+r,none⟩=some u:=λr u hu=>by rw[cR _ (I.o.2.trans HB.o)];have O:=YJ Zj 4 (λ_=>rfl) (H.take j) (H.drop (j+1)) H[j] r u hu;rw[<-VL hj,XU,Zi,JC (by omega)] at O;have h2:=(Kb.1 O).1;simpa [VK h2] using O
  have U:=Ki (Wk hj);obtain⟨x,hx⟩:=ex (H[j]);rw[hx] at E U;have c0:=E 0 _ rfl;have c1:=E 1 _ rfl;have c2:=E 2 _ rfl;have c3:=E 3 _ rfl;clear E hx;simp only[UI] at c0;obtain⟨fn,tmps,a7,a8,hy,hR⟩:=hY h (j,x) wr Z (by omega);dsimp only[Cq] at hy;have i1:(0:Int)<=(j:Int):=(by omega);have i2:(j:Int)<(H.length:Int):=(by omega);gi_wp2;refine hR.mono ?_;rintro e W3 (⟨rfl,a3,a5⟩|⟨rfl,a4⟩)
  ·gi_wp2;go_roundw;case rel=>exact⟨j,_,h++[(j,x)],rfl,by go_num,by omega,by simp;omega,by rw[ZC,X.o,U.o];rfl,a3,AT I.o a5⟩
   case measure=>simp[intOf]
  gi_wp2;refine bodyPost_ret (results_none rfl _ _ _) rfl ?_;exact⟨⟨_,rfl⟩,.inr ⟨_,trivial,a4⟩⟩
theorem Wm(F:Fence)(n:Nat)(D:F.fn 135)(I:F.round=none)(l Bs:Nat)(J:List (Nat×Qm)->World->Prop)(W:World)(O:W.cell? (Bs,0)=some (.slice none 0 0))(j:J [] W):CallsIn F n Tryz.prog 135 #[.func (.yield l) #[] #[],.pointer (Bs,0)] W λe h=>(∃v,e=.returned v)/\J [] h:=by
 refine callsIn_of_wp Tryz.func135 rfl D ?_ I;simp only[Tryz.ntmps135,Ke,Z4,Ub,Nat.reduceAdd,Nat.reduceSub,E0,FZ,Ea,E6,VN,JB];gi_wp2;gi_loopw [3] (λi wr=>∃v:Int,i=v/\v<0/\J [] wr) (λ_ _=>0);case atStart=>exact⟨_,rfl,by decide,j⟩
 case round=>obtain⟨v,rfl,hv,E⟩:=hrel;gi_wp2;go_end0;exact⟨⟨_,rfl⟩,E⟩
def AU(W:World)(h:Value)(b:Nat)(H:List Qm):Prop:=
 (h=.slice none 0 0/\H=[])\/∃cap R,h=.slice (b,0) H.length cap/\W.heap[b]?=some (.cells (H.flatMap Zj++R).toArray 167 (0,0))
theorem Wn{W:World}{base:Nat}{v:Value}{H:List Qm}(h:W.ownsRow base 167 4 v H.length (H.flatMap Zj)){b0 lo:Nat}(I:b0<W.heap.size)(Q:lo<=b0)(O:lo<=base):∃b,b<W.heap.size/\lo<=b/\AU W v b H:=by
 rcases h.2 with⟨rfl,E⟩|⟨g,cap,D,rfl,J,j,_,_,_,U⟩;·exact⟨b0,I,Q,.inl ⟨rfl,VJ E⟩⟩
 refine⟨g,(Q5.1 j).1,Q9 O J,.inr ⟨cap,D.toList.drop (H.length*4),rfl,?_⟩⟩;rw[<-U,XU];simpa using j
theorem Wo(F:Fence)(n:Nat)(j:F.fn 135)(O:F.round=none)(hn:1<=n)(Bs b:Nat)(Q:Value)(H:List Qm)(Z:H.length<=100000)(w:World)(D:w.heap[Bs]?=some (.cells #[Q] 165 (0,0)))(hb:AU w Q b H):SeqStopsK F n Tryz.prog 135 #[.pointer (Bs,0)] Cq (K0 Bs b) (λys=>ys.map Prod.snd=H.reverse) (λ_=>True) H.length w:=λl J U W I _ _ hY h=>by
 have E:=(I.block Bs (Q5.1 D).1).trans D;rcases hb with⟨rfl,rfl⟩|⟨cap,R,rfl,hb⟩;·refine(Wm F n j O l Bs J W (cR 0 E) h).mono ?_;rintro e W' ⟨X,Y⟩;exact⟨X,.inl ⟨[],rfl,Y⟩⟩
 exact Wl F n j O hn l Bs b cap H R Z J U hY W E ((I.block b (Q5.1 hb).1).trans hb) h
end
section
open Go Go.RowKit Go.Sort Go.Shelf
theorem Wp(xs:List Q4)(g c base:Nat)(w:World)(Q:w.ownsRow base 27 2 (.slice (g,0) xs.length c) xs.length (xs.flatMap Qv))(a4:xs.length<4611686018427387904):Calls Tryz.prog 80 #[.slice (some ⟨g,0,none⟩) xs.length c] w λr w'=>r=.returned (.tuple #[])/\w'.ownsRow base 27 2 (.slice (some ⟨g,0,none⟩) xs.length c) xs.reverse.length (xs.reverse.flatMap Qv)/\Go.RowKit.Below base w w'/\∀k,k<w.heap.size->k≠g->w'.heap[k]?=w.heap[k]?:=by
 rcases Q.2 with⟨W,_⟩|⟨gb,cap,D,he,hb,I,a3,hm,hs,ht⟩;·cases W
 injection he with h _ U;injection h with h;injection h with h;subst h;subst U;have a1:=(Q5.1 I).1;have Y:HoldsK Qv 2 w g 0 xs.toArray:=by unfold HoldsK;rw[Fg Qv 2 (λ_=>rfl)];intro j hj;have J:j<(xs.flatMap Qv).length:=(by simpa using hj);have:=X8 Q j _ (X3 J);rw[V7,GU _ j (by simpa using J)];simpa using this
 have E:=AnyQ.slices_Reverse Tryz.laysSlE035_f80 2 Tryz.isAgg27 Tryz.sizeOf27 Qv (λ_=>rfl) BT g 0 c xs.toArray w Y (by simp;omega);rw[Ke] at E;refine E.mono ?_;rintro r w' ⟨rfl,n,rfl⟩;obtain⟨R,Z⟩:∃R,D=(xs.flatMap Qv++R).toArray:=⟨D.toList.drop (xs.length*2),by rw[<-ht,XU]⟩;subst Z;have X:flatK Qv 2 xs.toArray.reverse=(xs.reverse.flatMap Qv).toArray:=by rw[show xs.toArray.reverse=xs.reverse.toArray by simp,Fg Qv 2 (λ_=>rfl)]
 have O:(xs.reverse.flatMap Qv).length=(xs.flatMap Qv).length:=by rw[XG Qv 2 (λ_=>rfl),XG Qv 2 (λ_=>rfl),G0]
 have a2:(putRow id (Sort.ahead w n) g 0 (flatK Qv 2 xs.toArray.reverse)).heap[g]?=some (.cells (putCells id 0 (flatK Qv 2 xs.toArray.reverse) (xs.flatMap Qv++R).toArray) 27 (0,0)):=by have:=BR (n:=n) (os:=#[]) (flatK Qv 2 xs.toArray.reverse) I;rwa [grow_empty] at this
 have a0:Go.RowKit.Below base w (putRow id (Sort.ahead w n) g 0 (flatK Qv 2 xs.toArray.reverse)):=by have:=Pm (n:=n) (os:=#[]) (flatK Qv 2 xs.toArray.reverse) (Qc base w) hb a1;rwa [grow_empty] at this
 refine⟨rfl,?_,?_,?_⟩
 ·unfold putRowK;rw[G0];refine DO (R:=R) ?_ hb a3 hm (by rw[a2,X,BS _ _ _ O]) ?_;·rw[XG Qv 2 (λ_=>rfl),G0]
  rw[Qj,O,<-Qj];simpa using hs
 ·unfold putRowK;exact a0
 intro k _ hk;simp[putRowK,putRow,mapBlock,Sort.ahead,Vm,XF hk]
end
section
def EM(l H:List Qm):Prop:=H.Pairwise (λx y=>x.nm.Lt y.nm)/\∀h,h∈H↔Ya l h
theorem Wq{l H M:List Qm}(h:EM l H)(m:EM l M):H=M:=
 Fc (lt:=λx y:Qm=>x.nm.Lt y.nm) (λa=>YE.irrefl a.nm) (λa b c=>YE.trans a.nm b.nm c.nm) h.1 m.1 (λx=>(h.2 x).trans (m.2 x).symm)
def Gq(H:List Qm):List Q4:=((ZL [] H.reverse).map Qm.nm).reverse
def Jx(l:List Qm)(L:List Q4):Prop:=∃H,EM l H/\L=Gq H
theorem Jx.same{l:List Qm}{L M:List Q4}(h:Jx l L)(m:Jx l M):L=M:=by obtain⟨H,j,rfl⟩:=h;obtain⟨E,D,rfl⟩:=m;rw[Wq j D]
theorem Ls(h l:List Qm):∃m,ZL h l=h++m/\m.Sublist l:=by
 induction l generalizing h with
 |nil=>exact⟨[],by simp[ZL],List.Sublist.refl _⟩
 |cons a l E=>
  rw[ZL];split;·obtain⟨m,j,D⟩:=E h;exact⟨m,j,D.cons a⟩
  obtain⟨m,j,D⟩:=E (h++[a]);exact⟨a::m,by simpa using j,D.cons_cons a⟩
theorem JQ{j:Type}{p:List j->Prop}(D:p [])(E:∀l x,p l->p (l++[x]))(l:List j):p l:=by
 have:∀n (l:List j),l.length=n->p l:=by
  intro n
  induction n with
  |zero=>intro l h;rw[VJ h];exact D
  |succ n I=>
   intro l h;rcases List.eq_nil_or_concat l with rfl|⟨m,x,rfl⟩;·exact D
   rw[List.concat_eq_append] at h |-;exact E m x (I m (by simpa using h))
 exact this _ l rfl
theorem Ws(x:Qm)(j l:List Qm)(h:∀g∈l,x.un≠g.nm):ZL (x::j) l=x::ZL j l:=by
 induction l generalizing j with
 |nil=>rfl
 |cons a l J=>
  have E:=Zo (h a (by simp));have D:=λj=>J j (λg I=>h g (X2 _ I));rw[ZL,ZL,List.any_cons,E,Bool.false_or,D];split;·rfl
  rw[JB,D]
end
section
open Go Go.RowKit Go.Maps Go.Shelf
attribute [local go_sem] Oper.semAt_some
def VW(s:Q4)(G:List Qm):Nat:=(G.filter λg=>decide (g.un=s)).length
theorem Wu(s:Q4)(G:List Qm)(x:Qm):VW s (G++[x])=VW s G+if x.un=s then 1 else 0:=by unfold VW;rw[YU,Qj];by_cases e:x.un=s<;>simp[e]
theorem Wv(s:Q4)(G:List Qm):G.any (λg=>decide (g.un=s))=decide (0<VW s G):=by rw[Js,Ua,decide_eq_true_iff,VW,List.length_pos_iff_exists_mem];simp
theorem Ww(s:Q4)(G:List Qm):VW s G<=G.length:=Vl _ _
def XX(h:List (Nat×Qm)):List Qm:=ZL [] (h.map Prod.snd)
theorem Wx(h:List (Nat×Qm))(x:Nat×Qm):XX (h++[x])=if 0<VW x.2.nm (XX h) then XX h else XX h++[x.2]:=by unfold XX;rw[ZC,List.map_singleton,OT,Wv];simp
theorem Lu(h:List (Nat×Qm)):(XX h).length<=h.length:=by obtain⟨m,j,D⟩:=Ls [] (h.map Prod.snd);unfold XX;rw[j];simpa using D.length_le
def Fw(w:World)(Bo Bm bm b1 b2 M:Nat)(N:Nat)(h:List (Nat×Qm))(W:World):Prop:=
 (∃g c,(g≠b1/\g≠b2)/\Boxed W Bo 70 (.slice (some ⟨g,0,none⟩) (XX h).length c)/\W.ownsRow w 27 2 (.slice (some ⟨g,0,none⟩) (XX h).length c) (XX h).length (((XX h).map Qm.nm).flatMap Qv)) /\
 Boxed W Bm 106 (.map (some bm))/\(∃(m:Nat)(D:DataW HH),m<=h.length/\W.ownsMap Tryz.prog 27 (plainElem Tryz.prog 3) bm m D/\∀s,D.atKey (YL s) (.lit (.int .i64 0))=.lit (.int .i64 (VW s (XX h):Nat))) /\
 Below w w W/\h.length<=N/\M<=W
theorem Wz{w:World}{Bo Bm bm b1 b2 M N B:Nat}(W:Bo<B)(X:Bm<B)(Y:bm<B)(h4:w<=B):OwnFrom B (Fw w Bo Bm bm b1 b2 M N):=by
 rintro a3 a2 W' row ⟨⟨g,c,a1,hv,U⟩,a0,⟨m,D,hm,Z,hT⟩,O,hN,hM⟩ j I;have J:∀k,k<B->¬row=some k:=λk hk e=>by have:=(I k e).1;omega
 refine⟨⟨g,c,a1,hv.kept j (λe=>J Bo W e.symm),U.kept j ?_⟩,a0.kept j (λe=>J Bm X e.symm),⟨m,D,hm,Z.kept j (λe=>J bm Y e.symm),hT⟩,?_,hN,Q9 hM j.size⟩
 ·refine .inr (λe=>?_);obtain⟨_,o,Q,hc⟩:=I g e.symm;rcases U.2 with⟨h,_⟩|⟨g',_,_,he,_,hb,_⟩;·cases h
  injection he with E;injection E with E;injection E with E;subst E;rw[hb] at Q;cases Q;cases hc
 exact O.grown j O.size (λk e=>by have:=(I k e).1;omega)
def WB(l:List Qm)(w:World)(M:Nat)(e:Ending)(w':World):Prop:=
 ∃(v:Value)(L:List Q4),e=.returned v/\w'.ownsRow w 27 2 v L.length (L.flatMap Qv)/\Jx l L/\L.length<=M/\Below w w w'
theorem WC(a bb:List Q4)(A A':Option Addr)(n c n' c' B:Nat)(w:World)(hR:Rd w B 2 (.slice A n c) n (a.flatMap Qv))(aI:Rd w B 2 (.slice A' n' c') n' (bb.flatMap Qv))(O:B<=w.heap.size)(hn:n<=100000):Calls Tryz.prog 44 #[.slice A n c,.slice A' n' c'] w (WB (YF a bb) w a.length):=by
 obtain rfl:=QL Qv 2 (λ_=>rfl) (by decide) hR.1;have aA:=Ki (λW (hb:Below w.heap.size w W)=>HM a bb A A' _ c n' c' B W (hR.below' hb O) (aI.below' hb O) (Q9 O hb.size) hn);clear hR aI;have bg:=@Ue Tryz.prog;obtain⟨i0,hi,bp,bq,br⟩:=Zc AK;refine(callsIn_wide (n:=6)).1 ?_;refine callsIn_of_wp_marks Tryz.func44 rfl trivial ?_ rfl;simp only[Tryz.ntmps44,Ke,Z4,Ub,Nat.reduceAdd,Nat.reduceSub,E0,FZ,Ea,E6,VN,JB];gi_wp2;refine⟨trivial,?_⟩;obtain⟨Y,a4⟩:∃W,(((w.alloc (.cells #[] 27)).alloc (.map #[] 0)).alloc (.cells #[.slice (some ⟨w.heap.size,0,none⟩) 0 0] 70)).alloc (.cells #[.map (some (w.heap.size+1))] 106)=W:=⟨_,rfl⟩;have aL:Q0 w Y:=by rw[<-a4];exact((((Q0.refl w).alloc _).alloc _).alloc _).alloc _
 have bj:Y.heap.size=w.heap.size+4:=by rw[<-a4];simp
 have aC:Y.ownsRow w.heap.size 27 2 (.slice (some ⟨w.heap.size,0,none⟩) 0 0) 0 []:=Jv (Q3 _) (by rw[<-a4];exact(((((Q0.refl (w.alloc (.cells #[] 27))).alloc _).alloc _).alloc _).below.block w.heap.size (by simp)).trans (Qi w _));have ap:Y.ownsMap Tryz.prog 27 (plainElem Tryz.prog 3) (w.heap.size+1) 0 (DataW.map ([]:List (Lit×DataW HH))):=by have:=Yg (H:=HH) (w.alloc (.cells #[] 27)) Tryz.prog 27 (plainElem Tryz.prog 3);rw[Qy] at this;rw[<-a4];exact(this.alloc _).alloc _
 have an:Boxed Y (w.heap.size+1+1) 70 (.slice (some ⟨w.heap.size,0,none⟩) 0 0):=by have:=Boxed.new ((w.alloc (.cells #[] 27)).alloc (.map #[] 0)) 70 (.slice (some ⟨w.heap.size,0,none⟩) 0 0);rw[Qy,Qy] at this;rw[<-a4];exact this.alloc _
 have al:Boxed Y (w.heap.size+1+1+1) 106 (.map (some (w.heap.size+1))):=by have:=Boxed.new (((w.alloc (.cells #[] 27)).alloc (.map #[] 0)).alloc (.cells #[.slice (some ⟨w.heap.size,0,none⟩) 0 0] 70)) 106 (.map (some (w.heap.size+1)));rw[Qy,Qy,Qy] at this;rw[<-a4];exact this
 rw[a4];obtain⟨bm,Q⟩:∃b,w.heap.size+1=b:=⟨_,rfl⟩;obtain⟨Bo,am⟩:∃b,w.heap.size+1+1=b:=⟨_,rfl⟩;obtain⟨Bm,ak⟩:∃b,w.heap.size+1+1+1=b:=⟨_,rfl⟩;rw[Q] at ap;rw[am] at an;rw[ak,Q] at al;rw[ak,am,Q];have D:=Ki (show Y.heap.size=w.heap.size+4/\bm=w.heap.size+1/\Bo=w.heap.size+2/\Bm=w.heap.size+3 by omega);clear a4 bg Q am ak bj;have ae:=aL.below;refine(callsIn_wide.2 (aA.o _ ae)).mono ?_;rintro e w1 ⟨v,H,rfl,hO,hS,hM,hl,hb⟩;obtain⟨A1,c1,rfl,_,_⟩:=(Rd.of_own hO).form;gi_wp2;refine⟨trivial,?_⟩;refine(Wj Fence.wide 5 trivial rfl _ _ _ _).mono ?_;rintro e E ⟨rfl,ay⟩;have ac:=Wn hO (b0:=Bm) (lo:=w.heap.size+3) (by have:=hb.size;have:=D.o;omega) (by have:=D.o;omega) (by have:=D.o;omega);obtain⟨b,b9,bB,ac⟩:=ac;obtain⟨Bs,b3⟩:∃k,w1.heap.size=k:=⟨_,rfl⟩;have a3:Boxed E Bs 165 (.slice A1 H.length c1):=by rw[ay,<-b3];exact Boxed.new w1 165 _
 have a9:Q0 w1 E:=by rw[ay];exact(Q0.refl w1).alloc _
 have a0:=a9.below
 have b5:AU E (.slice A1 H.length c1) b H:=by
  rcases ac with h|⟨cap,R,h,h'⟩;·exact .inl h
  exact .inr ⟨cap,R,h,(a0.block b b9).trans h'⟩
 have ba:b<E.heap.size:=by have:=a0.size;omega
 have bk:Y.heap.size<=E.heap.size:=Q9 hb.size a0.size;have I:Below Y.heap.size Y E:=hb.trans (a0.mono hb.size);have bz:w.heap.size+4<=Bs:=by have:=hb.size;have:=D.o;omega
 have a6:Below w.heap.size w E:=ae.trans (I.mono ae.size);have bh:w.heap.size≠Bs/\w.heap.size≠b:=by have:=D.o;have:=hb.size;omega
 have b7:Fw w Bo Bm bm Bs b E.heap.size H.length [] E:=
  ⟨⟨w.heap.size,0,bh,(I.block Bo (by have:=D.o;omega)).trans an,aC.kept (row:=none) ⟨I.os,I.tape,I.output,I.size,λk hk _=>I.block k hk⟩ (.inr (by simp[Value.ownBlock]))⟩,
   (I.block Bm (by have:=D.o;omega)).trans al,⟨0,_,Q3 _,ap.kept (row:=none) ⟨I.os,I.tape,I.output,I.size,λk hk _=>I.block k hk⟩ (by simp),λs=>by simp[XX,ZL,VW,DataW.atKey]⟩,a6,Qh _,Q3 _⟩
 have aH:=Wz (w:=w) (Bo:=Bo) (Bm:=Bm) (bm:=bm) (b1:=Bs) (b2:=b) (M:=E.heap.size) (N:=H.length) (B:=E.heap.size) (by have:=D.o;omega) (by have:=D.o;omega) (by have:=D.o;omega) a6.size;have HS:=Kj (H.Pairwise (λx y=>x.nm.Lt y.nm)/\∀h,h∈H↔Ya (YF a bb) h) ⟨hS,hM⟩;clear ac a9 a0 I aC ap an al hO hS hM aL ay ae hb aA bk;gi_wp2
 refine wpIn_rangeFunc_ownH rfl (by omega) (gf:=135) (lb:=#[.pointer (some ⟨Bs,0,none⟩)]) rfl trivial (G6 Tryz.func135 (by kernel_rfl) rfl)
  (Wo Fence.wide 5 trivial rfl (by omega) Bs b _ H (by omega) E a3 b5) (λh k=>AT h k) (Wi a3.lt ba) (Qc _ _) (λ_=>rfl)
  (Fw w Bo Bm bm Bs b E.heap.size H.length) (λ_ _ _=>False) aH (λ_ _ _ _ _ hs _ _=>hs) b7
  (λx a' W=>∃U,E.heap.size<=U/\W.heap[U]?=some (.cells #[x.2.nm.T,x.2.nm.R,x.2.un.T,x.2.un.R] 167 (0,0))/\a'={ tmps:=#[.slice A a.length c,.slice A' n' c',undef,undef,.slice none 0 0,.pointer (some ⟨Bo,0,none⟩),.pointer (some ⟨Bm,0,none⟩),undef,.pointer (some ⟨U,0,none⟩),.slice (some ⟨w.heap.size,0,none⟩) 0 0,.map (some bm),.slice A a.length c,.slice A' n' c',.slice A1 H.length c1,.func (.func 135) #[] #[.pointer (some ⟨Bs,0,none⟩)],.int .i64 (x.1:Int),.agg #[x.2.nm.T,x.2.nm.R,x.2.un.T,x.2.un.R],undef,undef,undef,undef,undef,undef,undef,undef,undef,undef,undef,undef,undef,undef,undef,undef,undef,undef,undef,undef],defers:=[] })
  (λx a' _ bt bu row hs hg hr=>by
   obtain⟨U,h1,h2,h3⟩:=hs;refine⟨U,h1,(hg.block U (Q5.1 h2).1 (λe=>?_)).trans h2,h3⟩;obtain⟨_,o,ho,hc⟩:=hr U e.symm
   rw[h2] at ho;cases ho;cases hc)
  ?assign ?body ?done ?stop
 case assign=>rintro l X x W K hI hK;have b6:=hI;obtain⟨_,_,_,_,_,a7⟩:=b6;dsimp only[Cq];gi_wp2;exact hK _ _ ((KeepsOthers.alloc _ _).from _) ⟨Z5 _ _ _ (by have:=a3.lt;omega),Z5 _ _ _ (by omega)⟩ (OwnFrom.alloc aH _ hI) ⟨W.heap.size,a7,Qi W _,rfl⟩
 case body=>
  rintro l X ⟨ag,h⟩ a' W hl ⟨r,hr⟩ ⟨⟨g,c3,aa,hv,J⟩,Q,⟨m,a1,hm,hD,hT⟩,O,hN,a7⟩ ⟨U,bA,hX,rfl⟩ bD;have c0:=cr0 hX;have c1:=cr1 hX;have c2:=cr2 hX;have aX:=cr3 hX;have cv:=hv.cell;have cm:=Q.cell;have HT:=Ki hT;have HD:=Ki hD;obtain⟨cl,aO,a8,_⟩:=hD.lookup_int Uj U7 JY (Db _) (JK h.nm);obtain⟨t,ht⟩:=ex (VW h.nm (XX X));have ar:cl=(t:Int):=by have:=hT h.nm;rw[ht,a8] at this;simpa using this
  subst ar;unfold QU at aO;have bs:=Ki ht;have ad:=Wx X (ag,h);dsimp only at ad;rw[ht] at ad;have aj:=Ki ad;clear hT hD a8 ht ad;by_cases aT:0<t;·have bl:(0:Int)<(t:Int):=(by omega);gi_wp2;have e:=aj.o;rw[Q7 aT] at e;refine⟨KeepsFrom.refl _ _,⟨rfl,rfl⟩,?_⟩;unfold Fw;rw[e];exact⟨⟨g,c3,aa,hv,J⟩,Q,⟨m,a1,by simp;omega,HD.o,HT.o⟩,O,by simp;omega,a7⟩
  obtain rfl:t=0:=by omega
  have bl:(0:Int)<=0:=(by omega);rw[Q6 aT] at aj;have bf:(XX X).length<=100000:=Q9 (Lu X) (by omega);have aZ:w.heap.size<=Bo:=(by have:=D.o;omega);gi_wp2_with (gi_at_builtin;refine wpListIn_append_own_at _ rfl _ _ 70 rfl w.heap.size 27 i0 _ 2 16 G1 hi bp bq br rfl (by decide) _ _ _ rfl (J.alloc _) ⟨W.heap.size,0,none⟩ 1 1 (Qv h.nm) rfl rfl (Zd W (Qv h.nm) 27) (BT h.nm) (by unfold maxLen;omega) (by omega) (by have:=O.size;simp;omega) ?_);intro v' w3 au af _ a8;obtain⟨Z,aB,rfl⟩:=ownsRow_succ au;obtain⟨aw,ax,av,a0,hb2⟩:=hv.appended (by decide) J O.size aZ au af;have bv:=aw.cell;have bw:=aw.frozen;obtain⟨w5,az⟩:∃W,w3.setCell ⟨Bo,0,none⟩ (.slice (some ⟨Z,0,none⟩) ((XX X).length+1) aB)=W:=⟨_,rfl⟩;rw[az] at ax av a0 hb2;have bC:g≠Bo:=λe=>hv.not_row (by decide) J (by rw[e];rfl);have bd:g≠Bm:=λe=>Q.not_row (by decide) J (by rw[e];rfl)
  have be:g≠U:=λe=>by
   rcases J.2 with⟨h,_⟩|⟨Z,_,_,he,_,a2,_⟩;·cases h
   injection he with j;injection j with j;injection j with j;subst j;subst e;rw[hX] at a2;simp at a2
  have K5:∀k,k<W.heap.size->k≠g->k≠Bo->w5.heap[k]?=W.heap[k]?:=λk h1 h2 h3=>by rw[<-az,YV _ _ _ _ h3,af.block k (by simp;omega) (by simp[Value.ownBlock];exact h2),Z5 _ _ _ h1]
  have bF:W.heap.size<=w5.heap.size:=a0.size;have aq:Boxed w5 Bm 106 (.map (some bm)):=(K5 Bm Q.lt bd.symm (by have:=D.o;omega)).trans Q;have aJ:=(K5 U (Q5.1 hX).1 be.symm (by have:=a6.size;have:=D.o;have:=a3.lt;omega)).trans hX;obtain⟨om,ah,ai⟩:=J2 HD.o;have aR:some bm≠(Value.slice (some ⟨g,0,none⟩) (XX X).length c3).ownBlock:=VA J ah ai;have ab:w5.ownsMap Tryz.prog 27 (plainElem Tryz.prog 3) bm m a1:=(by rw[<-az];exact((HD.o.alloc _).kept af aR).kept (grownBy_setCell' w3 Bo _) (by have:=D.o;simp;omega))
  have bc:Z≠Bs/\Z≠b:=by
   rcases a8 with e|e;·have:Z=g:=(by simpa [Value.ownBlock] using e);subst this;exact aa
   have:Z=W.heap.size+1:=(by simpa [Value.ownBlock] using e);have:=a3.lt;omega
  have aE:K0 Bs b W w5:=⟨K5 Bs (by have:=a3.lt;omega) aa.1.symm (by have:=D.o;have:=a3.lt;omega),K5 b (by omega) aa.2.symm (by have:=D.o;omega)⟩;obtain⟨s,hs⟩:∃s,VW h.un (XX X)=s:=⟨_,rfl⟩;have bE:s<=100000:=(by rw[<-hs];exact Q9 (Ww _ _) bf);have bG:IntKind.i64.wrap ((s:Int)+1)=(s:Int)+1:=QO _ (by omega);obtain⟨cl,aP,aK,_⟩:=ab.drew.lookup_int Uj U7 JY (Db _) (JK h.un);have ar:cl=(s:Int):=(by have:=HT.o h.un;rw[hs,aK] at this;simpa using this);subst ar;obtain⟨v0,bH,w6,w7,j,e2,e3,e4,aG,a9⟩:=Fa (val:=.int .i64 ((s:Int)+1)) ab.drew Et U7 (λu=>Db u) (by unfold maxLen;omega) (JK h.un) (plainElem_int JY ((Kr _).2 (by unfold Qu;omega)));have bo:v0=.int .i64 (s:Int):=(by rw[aP] at j;cases j;rfl);subst bo;have aW:=Ki hs;have aV:=Ki aG;have a5:=Ki a9;have HK:=Ki aE;have d2:=cr2 aJ;have d3:=cr3 aJ;have dm:w5.drew.cell? ⟨Bm,0,none⟩=some (.map (some bm)):=aq.cell;unfold QU at j e2 e3;unfold goInt at e2 e4;clear aP aK aG a9 hs aO aE ah ai aR af a8 au aw c0 c1 c2 aX cv cm;have K7:∀k,k<w5.heap.size->k≠bm->w7.heap[k]?=w5.heap[k]?:=λk h1 h2=>a5.o.block k h1 (by simpa using h2)
  have aD:KeepsFrom E.heap.size W w7/\K0 Bs b W w7/\Fw w Bo Bm bm Bs b E.heap.size H.length (X++[(ag,h)]) w7:=by
   obtain⟨q1,q2,q3,q4⟩:=D.o;have q5:=a3.lt;refine⟨((a0.from _).trans ((KeepsOthers.drew w5).from _)).trans (KeepsFrom.of_grownBy a5.o (λag e=>by cases e;have:=a6.size;omega)),AT HK.o ⟨K7 Bs (by omega) (by omega),K7 b (by omega) (by omega)⟩,?_⟩;unfold Fw;rw[aj.o];refine⟨⟨Z,aB,bc,?_,?_⟩,(K7 Bm aq.lt (by omega)).trans aq,⟨m+1,_,by simp;omega,aV.o,λs'=>?_⟩,?_,by simp;omega,?_⟩;·have:=(K7 Bo ax.lt (by omega)).trans ax;simpa [Boxed] using this
   ·obtain⟨om,ah,ai⟩:=J2 ab.drew;have:=(ZY av).kept a5.o (.inr (VA (ZY av) ah ai).symm);simpa using this
   ·rw[Wu];by_cases e:h.un=s';·subst e;rw[Maps.atKey_put_same ab.isMap (Uj.key (JK h.un)),aW.o];simp
    rw[Maps.atKey_put_other (λe'=>e (By e').symm),HT.o s'];simp[e]
   ·exact((O.trans hb2).drew).grown a5.o (by have:=(O.trans hb2).size;simpa using this) (λag e=>by cases e;omega)
   have:=a5.o.size;have:=a7;simp at *;omega
  have aU:=Ki aD;clear aD K7;gi_wp2;gi_region;all_goals exact aU.o
 case done=>
  rintro a1 ys W hD b8 ⟨⟨g,c3,aa,hv,J⟩,Q,_,O,hN,a7⟩ hK;have aS:W.ownsRow w.heap.size 27 2 (.slice (some ⟨g,0,none⟩) ((XX ys).map Qm.nm).length c3) ((XX ys).map Qm.nm).length (((XX ys).map Qm.nm).flatMap Qv):=by simpa using J
  have aF:Gq H=((XX ys).map Qm.nm).reverse:=by unfold Gq XX;rw[b8]
  have aN:(XX ys).length<=H.length:=Q9 (Lu ys) hN;have aQ:((XX ys).map Qm.nm).length=(XX ys).length:=by simp
  rw[<-aQ] at hv aN;obtain⟨G,hG⟩:=ex ((XX ys).map Qm.nm);rw[hG] at hv aN aS aF;have cv:=hv.cell
  have b4:g≠a1:=by
   rintro rfl;rcases J.2 with⟨h,_⟩|⟨Z,_,_,he,_,a2,_⟩;·cases h
   injection he with j;injection j with j;injection j with j;subst j;rw[a2] at hK;cases hK
  have aY:Bo≠g:=by
   rintro rfl;rcases J.2 with⟨h,_⟩|⟨Z,_,_,he,_,a2,_⟩;·cases h
   injection he with j;injection j with j;injection j with j;subst j;have:=hv;unfold Boxed at this;rw[a2] at this;simp at this
  clear J hG aQ;gi_wp2;refine⟨trivial,?_⟩;refine(callsIn_wide.2 (Wp G g c3 w.heap.size W aS (by omega))).mono ?_;rintro e W' ⟨rfl,bi,a2,aM⟩;have bn:Boxed W' Bo 70 (.slice (some ⟨g,0,none⟩) G.length c3):=(aM Bo hv.lt aY).trans hv;have ao:W'.heap[a1]?=some (.deferred (some [])):=(aM a1 (Q5.1 hK).1 b4.symm).trans hK;have bx:=bn.cell;clear cv hv hK;gi_wp2;refine⟨by simp,.inl ⟨_,_,rfl,run_takeDeferred ao,?_⟩⟩;refine⟨_,results_tmp rfl _ _ _,_,G.reverse,rfl,ownsRow_putObj bi _ ao rfl,⟨H,HS.o,aF.symm⟩,by rw[G0];omega,(O.trans a2).trans (belowK_b (w:=w) (Q3 _) W' a1 _ _ (by have:=a6.size;omega) ao rfl rfl)⟩
 case stop=>rintro a1 c X W _ _ h _;exact h.elim
end
section
open Go Go.RowKit Go.Maps
def Yq(v:Value)(l:List Q1):Z3:=⟨31,7,v,l.length,l.flatMap Qg⟩
def QT(v:Value)(l:List Q4):Z3:=⟨27,2,v,l.length,l.flatMap Qv⟩
structure V1(w0:World)(base p m1 m2 bm:Nat)(C:List Q1)(M U:List Q4)(N:List Q4)(gv nv uv:Value)(w:World):Prop where
 box:w.heap[p]?=some (.cells #[gv,.slice none 0 0,.map (some m1),.slice none 0 0,.slice none 0 0,.map (some m2),.slice none 0 0,.slice none 0 0] 117 (0,0))
 fam:Zr w base (λb=>b=p\/b=m1\/b=m2\/b=bm) [Yq gv C,QT nv M,QT uv U]
 on:w.ownsMap Tryz.prog 27 (Z7 XN) m1 0 (.map [])
 dirs:w.ownsMap Tryz.prog 60 (Z7 Value.bool) m2 0 (.map [])
 had:∃m D,CM 27 YL N w bm m D
 ne:p≠m1/\p≠m2/\m1≠m2/\p≠bm/\m1≠bm/\m2≠bm
 base_le:base<=p/\base<=m1/\base<=m2/\base<=bm
 bel:Below base w0 w
 bl:base<=w0
section
variable {w0 w W:World} {base p m1 m2 bm:Nat} {C:List Q1} {M U N:List Q4} {gv nv uv:Value}
theorem V1.lt(h:V1 w0 base p m1 m2 bm C M U N gv nv uv w):p<w:=(Q5.1 h.box).1
theorem V1.sz(h:V1 w0 base p m1 m2 bm C M U N gv nv uv w):base<=w:=Q9 h.bl h.bel.size
theorem V1.touch{F:Nat->Prop}(h:V1 w0 base p m1 m2 bm C M U N gv nv uv w)(t:Qd F w W)(j:∀x,¬F x):V1 w0 base p m1 m2 bm C M U N gv nv uv W:=by obtain⟨m,D,hm⟩:=h.had;exact⟨QY h.box t (j p),h.fam.touch t (λx E=>(j x E).elim),Xo h.on t (j _),Xo h.dirs t (j _),⟨m,D,hm.touch t (j _)⟩,h.ne,h.base_le,h.bel.trans (t.below h.sz (λx _=>j x)),h.bl⟩
theorem V1.below(h:V1 w0 base p m1 m2 bm C M U N gv nv uv w)(hb:Below w w W):V1 w0 base p m1 m2 bm C M U N gv nv uv W:=h.touch (Below.touch hb (λ_=>False)) (λ_ h=>h)
theorem V1.drew(h:V1 w0 base p m1 m2 bm C M U N gv nv uv w):V1 w0 base p m1 m2 bm C M U N gv nv uv w.drew:=h.below (Qc _ w).drew
theorem V1.mlt(h:V1 w0 base p m1 m2 bm C M U N gv nv uv w):∀b,(b=p\/b=m1\/b=m2\/b=bm)->b<w:=by
 obtain⟨m,D,hm⟩:=h.had;obtain⟨J,j,_⟩:=J2 h.on;obtain⟨O,E,_⟩:=J2 h.dirs;obtain⟨Q,I,_⟩:=J2 hm.map;rintro b (rfl|rfl|rfl|rfl);·exact h.lt
 ·exact(Q5.1 j).1
 ·exact(Q5.1 E).1
 exact(Q5.1 I).1
theorem V1.tick(h:V1 w0 base p m1 m2 bm C M U N gv nv uv w){E:List Q4}(j:w.grownBy W (some bm))(hm:∃m D,CM 27 YL E W bm m D):V1 w0 base p m1 m2 bm C M U E gv nv uv W:=by have t:Qd (λb=>b=bm) w W:=⟨j.os,j.tape,j.output,j.size,λk J O=>j.block k J (λe=>O (by cases e;rfl))⟩;exact⟨QY h.box t h.ne.2.2.2.1,h.fam.touch t (λ_ I=>.inr (.inr (.inr I))),Xo h.on t h.ne.2.2.2.2.1,Xo h.dirs t h.ne.2.2.2.2.2,hm,h.ne,h.base_le,h.bel.trans (t.below h.sz (λx I e=>by have:=h.base_le.2.2.2;omega)),h.bl⟩
theorem V1.row(h:V1 w0 base p m1 m2 bm C M U N gv nv uv w){r:Z3}(D:r∈[Yq gv C,QT nv M,QT uv U])(j:w.grownBy W r.v.ownBlock):Qd (λb=>r.v.ownBlock=some b) w W/\(∀b,(b=p\/b=m1\/b=m2\/b=bm)->¬r.v.ownBlock=some b)/\Below base w0 W:=
 ⟨⟨j.os,j.tape,j.output,j.size,λk E I=>j.block k E (λe=>I e.symm)⟩,λb hb e=>h.fam.free r D b e hb,UU h.bel h.bl (h.fam.own r D) j⟩
theorem V1.push_gr(h:V1 w0 base p m1 m2 bm C M U N gv nv uv w)(x:Q1){g cap:Nat}(X:W.ownsRow base 31 7 (.slice (g,0) (C.length+1) cap) (C.length+1) (C.flatMap Qg++Qg x))(I:w.grownBy W gv.ownBlock)(Q:gv.ownBlock=some g\/g=w.heap.size):V1 w0 base p m1 m2 bm (C++[x]) M U N (.slice (some ⟨g,0,none⟩) (C.length+1) cap) nv uv (W.setCell ⟨p,0,none⟩ (.slice (some ⟨g,0,none⟩) (C.length+1) cap)):=by
 obtain⟨t,j,hb⟩:=h.row (r:=Yq gv C) (by simp) I;obtain⟨m,D,hm⟩:=h.had;have E:Qd (λb=>b=p) W (W.setCell ⟨p,0,none⟩ (.slice (some ⟨g,0,none⟩) (C.length+1) cap)):=Qd.setCell (F:=λb=>b=p) (p:=⟨p,0,none⟩) (Qd.refl _ W) (λ_=>rfl) _;have J:Yq (.slice (g,0) (C.length+1) cap) (C++[x])=⟨31,7,.slice (g,0) (C.length+1) cap,C.length+1,C.flatMap Qg++Qg x⟩:=by unfold Yq;simp
 have O:=h.fam.put (i:=0) (r:=Yq gv C) rfl X I Q (Q3 _) h.mlt;refine⟨Zf (QY h.box t (j p (.inl rfl))),?_,Xo (Xo h.on t (j _ (.inr (.inl rfl)))) E (λe=>h.ne.1 e.symm),Xo (Xo h.dirs t (j _ (.inr (.inr (.inl rfl))))) E (λe=>h.ne.2.1 e.symm),⟨m,D,(hm.touch t (j _ (.inr (.inr (.inr rfl))))).touch E (λe=>h.ne.2.2.2.1 e.symm)⟩,h.ne,h.base_le,Xd hb h.base_le.1,h.bl⟩;rw[J];exact O.touch E (λ_ Y=>.inl Y)
theorem V1.push_nm(h:V1 w0 base p m1 m2 bm C M U N gv nv uv w)(x:Q4){g cap:Nat}(X:W.ownsRow base 27 2 (.slice (g,0) (M.length+1) cap) (M.length+1) (M.flatMap Qv++Qv x))(E:w.grownBy W nv.ownBlock){H:Nat}(Q:nv.ownBlock=some g\/g=H)(J:w<=H):V1 w0 base p m1 m2 bm C (M++[x]) U N gv (.slice (g,0) (M.length+1) cap) uv W:=by
 obtain⟨t,j,hb⟩:=h.row (r:=QT nv M) (by simp) E;obtain⟨m,D,hm⟩:=h.had;have I:QT (.slice (g,0) (M.length+1) cap) (M++[x])=⟨27,2,.slice (g,0) (M.length+1) cap,M.length+1,M.flatMap Qv++Qv x⟩:=by unfold QT;simp
 have O:=h.fam.put (i:=1) (r:=QT nv M) rfl X E Q J h.mlt;refine⟨QY h.box t (j p (.inl rfl)),?_,Xo h.on t (j _ (.inr (.inl rfl))),Xo h.dirs t (j _ (.inr (.inr (.inl rfl)))),⟨m,D,hm.touch t (j _ (.inr (.inr (.inr rfl))))⟩,h.ne,h.base_le,hb,h.bl⟩;rw[I];exact O
theorem V1.push_ud(h:V1 w0 base p m1 m2 bm C M U N gv nv uv w)(x:Q4){g cap:Nat}(X:W.ownsRow base 27 2 (.slice (g,0) (U.length+1) cap) (U.length+1) (U.flatMap Qv++Qv x))(E:w.grownBy W uv.ownBlock){H:Nat}(Q:uv.ownBlock=some g\/g=H)(J:w<=H):V1 w0 base p m1 m2 bm C M (U++[x]) N gv nv (.slice (g,0) (U.length+1) cap) W:=by
 obtain⟨t,j,hb⟩:=h.row (r:=QT uv U) (by simp) E;obtain⟨m,D,hm⟩:=h.had;have I:QT (.slice (g,0) (U.length+1) cap) (U++[x])=⟨27,2,.slice (g,0) (U.length+1) cap,U.length+1,U.flatMap Qv++Qv x⟩:=by unfold QT;simp
 have O:=h.fam.put (i:=2) (r:=QT uv U) rfl X E Q J h.mlt;refine⟨QY h.box t (j p (.inl rfl)),?_,Xo h.on t (j _ (.inr (.inl rfl))),Xo h.dirs t (j _ (.inr (.inr (.inl rfl)))),⟨m,D,hm.touch t (j _ (.inr (.inr (.inr rfl))))⟩,h.ne,h.base_le,hb,h.bl⟩;rw[I];exact O
end
def Y4(g:Q1):Qm:=⟨g.s,g.un⟩
def VC(L:List Q4)(s:Q4):Option Unit:=if s∈L then some () else none
def S0:VS:=⟨[],[],[],[],λ_=>none⟩
def Yr(L:List Q4)(C:List Q1)(S:VS):VS:=C.foldl (λS g=>X0 g.s (decide (g.s∈L)) 0 g.ops S) S
theorem Gr(L:List Q4)(C:List Q1)(g:Q1)(S:VS):Yr L (C++[g]) S=X0 g.s (decide (g.s∈L)) 0 g.ops (Yr L C S):=by unfold Yr;rw[Dj];rfl
def QW(C:List Q1):Nat:=(C.map (λg=>g.ops.length)).sum
theorem Gs(C:List Q1)(g:Q1):QW (C++[g])=QW C+g.ops.length:=by simp[QW]
theorem Fx{C D:List Q1}(h:C.Sublist D):QW C<=QW D:=by
 induction h with
 |slnil=>exact Q3 _
 |cons a _ j=>unfold QW at *;rw[ZW,VO];omega
 |cons_cons a _ j=>unfold QW at *;rw[ZW,VO,ZW,VO];omega
theorem Lv(s:Q4)(j:Bool):∀(l:List Qt)(k:Nat)(S:VS)(a d:Nat),Sz S a d->(∀o∈l,o.dots.length<=1000)->Sz (X0 s j k l S) (a+l.length) (d+1000*l.length)|[],_,_,_,_,h,_=>h|o::l,k,S,a,d,h,D=>by have E:=h.step s j k o;have O:=D o (XT ..);have I:=Lv s j l (k+1) _ _ _ E (λx J=>D x (X2 _ J));rw[X0,Z4];obtain⟨Q,X,Y,Z⟩:=I;exact⟨by omega,by omega,by omega,by omega⟩
theorem AV(L:List Q4):∀(C:List Q1),(∀g∈C,∀o∈g.ops,o.dots.length<=1000)->Sz (Yr L C S0) (QW C) (1000*QW C):=by
 intro C
 induction C using JQ with
 |D=>intro _;exact⟨Q3 _,Q3 _,Q3 _,Q3 _⟩
 |E C g E=>intro h;have j:=Lv g.s (decide (g.s∈L)) g.ops 0 _ _ _ (E λx D=>h x (Qq.2 (.inl D))) (h g (Qq.2 (.inr (Qw.2 rfl))));rw[Gr,Gs];obtain⟨I,J,O,Q⟩:=j;exact⟨by omega,by omega,by omega,by omega⟩
end
section
open Go Go.RowKit Go.Sort Go.Shelf
theorem GO:type_of% @Tryz.isAgg124:=@Tryz.isAgg124
def EN(a b:Q2):Int:=a.nd.cmp b.nd
def EO(a b:QJ):Int:=a.at_.cmp b.at_
def AW(t:QJ):Value:=.agg #[t.at_.s.T,t.at_.s.R,t.at_.I,t.p.nd.s.T,t.p.nd.s.R,t.p.nd.I,t.p.pa.s.T,t.p.pa.s.R,t.p.pa.I,.string t.p.nm,.bool t.p.dir]
theorem WD(a b:Q2)(w:World):Calls Tryz.prog 84 #[ZA a,ZA b] w λe w'=>e=.returned (.int .i64 (EN a b))/\Q0 w w':=by have h:=Ki (λW=>GX a.nd b.nd W);unfold Qa at h;unfold ZA EN;go_enter Tryz.func84,Tryz.ntmps84;go_wp2_with fail;refine(h.o _).mono ?_;rintro e E ⟨rfl,j⟩;have D:=Ki ((((Q0.refl w).alloc _).alloc _).trans j);clear j;go_wp2;go_ret;exact⟨rfl,D.o⟩
theorem WE(a b:QJ)(w:World):Calls Tryz.prog 139 #[AW a,AW b] w λe w'=>e=.returned (.int .i64 (EO a b))/\Q0 w w':=by have h:=Ki (λW=>GX a.at_ b.at_ W);unfold Qa at h;unfold AW EO;go_enter Tryz.func139,Tryz.ntmps139;go_wp2_with fail;refine(h.o _).mono ?_;rintro e E ⟨rfl,j⟩;have D:=Ki ((((Q0.refl w).alloc _).alloc _).trans j);clear j;go_wp2;go_ret;exact⟨rfl,D.o⟩
instance : Inhabited Id:=⟨Qf⟩
instance : Inhabited Q2:=⟨Jw⟩
instance : Inhabited QJ:=⟨⟨Qf,Jw⟩⟩
theorem WF(xs:List QJ)(v:Value)(base:Nat)(w:World)(j:w.ownsRow base 177 11 v xs.length (xs.flatMap ZQ))(D:xs.length<4611686018427387904):Calls Tryz.prog 138 #[v,.func (.func 139) #[] #[]] w λr w'=>r=.returned (.tuple #[])/\∃h:List QJ,h.Perm xs/\h.Pairwise (λa b=>¬EO b a<0)/\w'.ownsRow base 177 11 v h.length (h.flatMap ZQ)/\Go.RowKit.Below base w w':=
 Ey Tryz.laysSlF06_f138 11 Tryz.isAgg177 Tryz.sizeOf177 ZQ (λ_=>rfl) AL EO (EA Ez QJ.at_) 139 #[] (G6 Tryz.func139 (by kernel_rfl) rfl) (λx y W=>WE x y W) xs v 177 base w j D
theorem WG(xs:List Q2)(v:Value)(base:Nat)(w:World)(j:w.ownsRow base 124 8 v xs.length (xs.flatMap Qb))(D:xs.length<4611686018427387904):Calls Tryz.prog 83 #[v,.func (.func 84) #[] #[]] w λr w'=>r=.returned (.tuple #[])/\∃h:List Q2,h.Perm xs/\h.Pairwise (λa b=>¬EN b a<0)/\w'.ownsRow base 124 8 v h.length (h.flatMap Qb)/\Go.RowKit.Below base w w':=
 Ey Tryz.laysSlF06_f83 8 GO Tryz.sizeOf124 Qb (λ_=>rfl) KB EN (EA Ez Q2.nd) 84 #[] (G6 Tryz.func84 (by kernel_rfl) rfl) (λx y W=>WD x y W) xs v 124 base w j D
end
section
open Go Go.RowKit Go.Maps Go.Shelf
def Y5(a:List Id)(b:List Q2):List QJ:=List.zipWith QJ.mk a b
theorem Cr(a:List Id)(b:List Q2):(Y5 a b).length=min a.length b.length:=by simp[Y5]
def Ur(s:Id)(l:List Id):Nat:=(l.filter λx=>decide (x=s)).length
theorem WH{a:List Id}{k:Nat}(h:k<a.length)(s:Id):Ur s (a.take (k+1))=Ur s (a.take k)+if a[k]=s then 1 else 0:=by unfold Ur;rw[QQ h,YU,Qj];by_cases e:a[k]=s<;>simp[e]
theorem WI{a:List Id}{b:List Q2}{k:Nat}(h:k<=min a.length b.length):((Y5 a b).take k).map QJ.at_=a.take k:=by
 apply B4;·simp[Y5];omega
 intro i j D;simp[Y5]
theorem WJ{a:List Id}{b:List Q2}{k:Nat}(j:k<a.length)(D:k<b.length):(Y5 a b).take (k+1)=(Y5 a b).take k++[⟨a[k],b[k]⟩]:=by
 have h:k<(Y5 a b).length:=by rw[Cr];omega
 rw[QQ h];simp[Y5]
theorem WK{a:List Id}{b:List Q2}{k:Nat}(h:k<=min a.length b.length)(s:Id):Ur s (a.take k)=0↔∀g∈(Y5 a b).take k,g.at_≠s:=by
 unfold Ur;rw[<-WI h,VM,Dh];constructor;·intro j g D e;exact j g.at_ (QZ.2 ⟨g,D,rfl⟩) (by simp[e])
 intro j x E;obtain⟨g,D,rfl⟩:=QZ.1 E;simpa using j g D
def WL(a:List Id)(b:List Q2)(w:World)(bm:Nat)(j i:Value)(wr:World):Prop:=
 ∃k:Nat,k<=min a.length b.length/\i=.int .i64 k/\∃(D:DataW HH)(L:List QJ),wr.ownsMap Tryz.prog 60 (plainElem Tryz.prog 3) bm k D/\(∀s,D.atKey (Ze s) (.lit (.int .i64 0))=.lit (.int .i64 (Ur s (a.take k):Nat))) /\
  wr.ownsRow w 177 11 j L.length (L.flatMap ZQ)/\L.Nodup/\(∀h,h∈L↔XK QJ.at_ ((Y5 a b).take k) h)/\L.length<=k/\Below w w wr
def WM(a:List Id)(b:List Q2)(w:World)(e:Ending)(w':World):Prop:=
 ∃(v:Value)(H:List QJ),e=.returned v/\w'.ownsRow w 177 11 v H.length (H.flatMap ZQ)/\H.Pairwise (λx y=>x.at_.Lt y.at_)/\(∀h,h∈H↔XK QJ.at_ (Y5 a b) h)/\H.length<=a.length/\Below w w w'
theorem Lw:∀{L:List QJ},(∀g h,g∈L->h∈L->g.at_=h.at_->g=h)->L.Pairwise (λp q=>¬q.at_.Lt p.at_)->L.Nodup->L.Pairwise (λp q=>p.at_.Lt q.at_)
 |[],_,_,_=>List.Pairwise.nil
 |a::L,D,h,j=>by
  rw[Yh] at h;rw[GS] at j;refine Yh.2 ⟨λb hb=>?_,Lw (λg h E I=>D g h (by simp[E]) (by simp[I])) h.2 j.2⟩;rcases Zv.total a.at_ b.at_ with t|t|t;·exact t
  ·exact absurd (D a b (by simp) (by simp[hb]) t▸hb) j.1
  exact absurd t (h.1 b hb)
theorem WN:(Tryz.prog.info? 177).map (λi=>(i.zero,i.size,i.bytes))=some (some (.agg #[(0:Int),(0:Int),(0:Int),(0:Int),(0:Int),(0:Int),(0:Int),(0:Int),(0:Int),.string ⟨#[]⟩,.bool false]),11,96):=by kernel_rfl
theorem WO(a:List Id)(b:List Q2)(A A':Option Addr)(n c n' c' B:Nat)(w:World)(hR:Rd w B 3 (.slice A n c) n (a.flatMap Qe))(aa:Rd w B 8 (.slice A' n' c') n' (b.flatMap Qb))(hB:B<=w)(hn:n<=100000):Calls Tryz.prog 81 #[.slice A n c,.slice A' n' c'] w (WM a b w):=by
 obtain rfl:=QL Qe 3 (λ_=>rfl) (by decide) hR.1;obtain rfl:=QL Qb 8 (λ_=>rfl) (by decide) aa.1;have HR:=Ki hR;have aC:=Ki aa;clear hR aa;obtain⟨i0,hi,aN,aO,aP⟩:=Zc WN;have aL:=@Ue Tryz.prog;go_enter Tryz.func81,Tryz.ntmps81;go_wp2;obtain⟨w1,a3⟩:∃aD,(w.alloc (.cells #[] 177)).alloc (.map #[] 0)=aD:=⟨_,rfl⟩;have aj:Below w w w1:=by rw[<-a3];exact(((Q0.refl w).alloc _).alloc _).below
 have am:w1.heap[w.heap.size]?=some (.cells #[] 177 (0,0)):=by rw[<-a3];exact(Z5 _ _ _ (by simp)).trans (Qi w _)
 have U:w1.ownsMap Tryz.prog 60 (plainElem Tryz.prog 3) (w.heap.size+1) 0 (DataW.map ([]:List (Lit×DataW HH))):=by rw[<-a3];have:=Yg (H:=HH) (w.alloc (.cells #[] 177)) Tryz.prog 60 (plainElem Tryz.prog 3);rw[Qy] at this;exact this
 have ai:=Ki (Jv (base:=w.heap.size) (K:=11) (Q3 _) am);have a7:=Ki U;rw[a3];obtain⟨bm,al⟩:∃b,w.heap.size+1=b:=⟨_,rfl⟩;have aX:w<bm:=by omega
 rw[al] at a7 |-;have aq:(min (a.length:Int) (b.length:Int))=((min a.length b.length:Nat):Int):=by omega
 obtain⟨N,hN⟩:=ex (min a.length b.length);rw[aq,hN];have aV:N<=a.length:=by omega
 have aW:N<=b.length:=by omega
 have HN:=Ki hN;clear a3 am U al aq hN aL;go_loopw [5,15] (λaQ i wr=>WL a b w bm aQ i wr) (λ_ i _=>N-(intOf i).toNat);case atStart=>refine⟨0,Qh _,rfl,.map [],[],a7.o,λs=>by simp[Ur,DataW.atKey],ai.o,Du,λh=>by simp[XK],Q3 _,aj⟩
 case round=>
  clear ai a7 aj;obtain⟨k,hk,rfl,ay,L,hM,hT,hO,ar,hF,hL,hb⟩:=hrel;have a8:=Ki ar;clear ar;rw[HN.o] at hk;obtain⟨Av,cv,rfl,aU,aH⟩:=(Rd.of_own hO).form;have HO:=Ki hO;have HF:=Ki hF;have HT:=Ki hT;have Z:=Ki hM;clear hO hF hT hM aH;obtain⟨wo,rfl⟩:∃wo:World,wo=wr:=⟨_,rfl⟩;have b3:=hb.size;by_cases aY:k<N
  ·obtain⟨I,Q,rfl,aS,a1⟩:=Qr Qe 3 (λ_=>rfl) (by decide) HR.o (show k<a.length by omega);obtain⟨j,D,rfl,aT,O⟩:=Qr Qb 8 (λ_=>rfl) (by decide) aC.o (show k<b.length by omega);obtain⟨x,hx⟩:=ex (a[k]'(by omega));obtain⟨y,hy⟩:=ex (b[k]'(by omega));rw[hx] at a1;rw[hy] at O;have HX:=Ki hx;have HY:=Ki hy
   have hS:=Ki (λE (J:Below w w E)=>(show E.cell? (I,Q+k*3)=x.s.T/\E.cell? (I,Q+k*3+1)=x.s.R/\E.cell? (I,Q+k*3+2)=x.I/\E.cell? (j,D+k*8)=y.nd.s.T/\E.cell? (j,D+k*8+1)=y.nd.s.R/\E.cell? (j,D+k*8+2)=y.nd.I/\E.cell? (j,D+k*8+3)=y.pa.s.T/\E.cell? (j,D+k*8+4)=y.pa.s.R/\E.cell? (j,D+k*8+5)=y.pa.I/\E.cell? (j,D+k*8+6)=y.nm/\E.cell? (j,D+k*8+7)=some (.bool y.dir) from
    ⟨(J.cell (p:=(I,Q+k*3)) (show I<w by omega)).trans (a1 0 _ rfl),(J.cell (p:=(I,Q+k*3+1)) (show I<w by omega)).trans (a1 1 _ rfl),(J.cell (p:=(I,Q+k*3+2)) (show I<w by omega)).trans (a1 2 _ rfl),(J.cell (p:=(j,D+k*8)) (show j<w by omega)).trans (O 0 _ rfl),(J.cell (p:=(j,D+k*8+1)) (show j<w by omega)).trans (O 1 _ rfl),(J.cell (p:=(j,D+k*8+2)) (show j<w by omega)).trans (O 2 _ rfl),(J.cell (p:=(j,D+k*8+3)) (show j<w by omega)).trans (O 3 _ rfl),(J.cell (p:=(j,D+k*8+4)) (show j<w by omega)).trans (O 4 _ rfl),(J.cell (p:=(j,D+k*8+5)) (show j<w by omega)).trans (O 5 _ rfl),(J.cell (p:=(j,D+k*8+6)) (show j<w by omega)).trans (O 6 _ rfl),(J.cell (p:=(j,D+k*8+7)) (show j<w by omega)).trans (O 7 _ rfl)⟩))
   clear a1 O hx hy;obtain⟨t,ht⟩:=ex (Ur x (a.take k));have a0:=Ki ht;have aZ:t<=k:=(by rw[<-ht];unfold Ur;exact Q9 (Vl _ _) (by simp;omega));have i1:(0:Int)<=(k:Int):=(by omega);have i2:(k:Int)<(a.length:Int):=(by omega);have i3:(k:Int)<(b.length:Int):=(by omega);have hw:IntKind.i64.wrap ((t:Int)+1)=(t:Int)+1:=QO _ (by omega);clear ht;have ad:=hb.drew;obtain⟨c0,c1,c2,_⟩:=hS.o wo.drew ad;obtain⟨cl,ap,a6,_⟩:=Z.o.drew.lookup_int Xp Tryz.underlying200 JY (Tryz.zeroValue3 _) (YM x);have aF:cl=(t:Int):=(by have:=HT.o x;rw[a0.o,a6] at this;simpa using this);subst aF;obtain⟨v0,b4,w1,w2,e1,e2,e3,e4,ah,ao⟩:=Fa (val:=.int .i64 ((t:Int)+1)) Z.o.drew Gf Tryz.underlying200 (λu=>Tryz.zeroValue3 u) (by unfold maxLen;omega) (YM x) (plainElem_int JY ((Kr _).2 (by unfold Qu;omega)));have aM:v0=.int .i64 (t:Int):=(by rw[ap] at e1;cases e1;rfl);subst aM;have a4:=Ki ah;have ag:=Ki ao;unfold Qa at e1 e2 e3;clear ap a6 ah ao;unfold goInt at e2 e4;go_wp2;go_region;have hb2:Below w w w2:=ad.grown ag.o ad.size (λax hj=>by cases hj;omega);obtain⟨g0,g1,g2,g3,g4,g5,g6,g7,g8,g9,aR⟩:=hS.o w2 hb2;obtain⟨aE,aK,ab,_⟩:=a4.o.lookup_int Xp Tryz.underlying200 JY (Tryz.zeroValue3 _) (YM x);have aG:aE=(t:Int)+1:=(by rw[Maps.atKey_put_same Z.o.isMap (Xp.key (YM x))] at ab;simpa using ab.symm);subst aG;unfold Qa at aK;clear ab e1 e2 e3 e4 c0 c1 c2;obtain⟨om,U,a2⟩:=J2 Z.o.drew;have a5:=Ki ((ZY HO.o).kept ag.o (.inr (VA (ZY HO.o) U a2).symm))
   have af:=Ki (λ(s:Id)=>(show(ay.put (Ze x) (.lit (.int .i64 ((t:Int)+1)))).atKey (Ze s) (.lit (.int .i64 0))=.lit (.int .i64 (Ur s (a.take (k+1)):Nat)) from by
    rw[WH (show k<a.length by omega),HX.o];by_cases Y:x=s;·subst Y;rw[Maps.atKey_put_same Z.o.isMap (Xp.key (YM x)),a0.o];simp
    rw[Maps.atKey_put_other (λe=>Y (Es e).symm),HT.o s]
    simp[Y]))
   have HZ:=Ki (WJ (a:=a) (b:=b) (k:=k) (by omega) (by omega));have a9:=Ki (WK (a:=a) (b:=b) (k:=k) (by have:=HN.o;omega) x);clear U a2;by_cases aw:t=0
   ·subst aw;have X:=hb2.drew;obtain⟨om,U,a2⟩:=J2 a4.o;have au:=VA a5.o U a2;clear U a2;go_wp2
    go_region_held3 (λw'=>w'.cell? (I,Q+k*3)=x.s.T/\w'.cell? (I,Q+k*3+1)=x.s.R/\w'.cell? (I,Q+k*3+2)=x.I/\w'.cell? (j,D+k*8)=y.nd.s.T/\w'.cell? (j,D+k*8+1)=y.nd.s.R/\w'.cell? (j,D+k*8+2)=y.nd.I/\w'.cell? (j,D+k*8+3)=y.pa.s.T/\w'.cell? (j,D+k*8+4)=y.pa.s.R/\w'.cell? (j,D+k*8+5)=y.pa.I/\w'.cell? (j,D+k*8+6)=y.nm/\w'.cell? (j,D+k*8+7)=some (.bool y.dir))
     (first|exact hS.o _ (by assumption)|exact hS.o _ (X.alloc X.size _)|go_keep)
     ((refine step_append_lies _ (by rfl) _ _ _ (by rfl) w 177 i0 _ 11 96 Tryz.underlying174 hi aN aO aP rfl (by omega) _ L.length _ (by rfl) ((ZY a5.o).alloc _) ⟨w2.heap.size,0,none⟩ 1 1 (ZQ ⟨x,y⟩) (by rfl) (by rfl) (Zd w2.drew (ZQ ⟨x,y⟩) 177) (AL _) (by omega) (by unfold maxLen;omega) (by omega) (by have:=X.size;simp at this |-;omega) _ (by rfl) ?_;intro g cap W4 av ae a6 aI;have ac:Below w w W4:=(X.alloc X.size _).grown ae (by have:=X.size;simp at this |-;omega) (λax hj=>(a5.o.lt ax hj).1)))
    have aB:=Kj (W4.ownsRow w 177 11 (.slice (g,0) (L.length+1) cap) (L++[(⟨x,y⟩:QJ)]).length ((L++[(⟨x,y⟩:QJ)]).flatMap ZQ)) (by simpa using av);have az:=Ki ((a4.o.drew.alloc (.cells (ZQ ⟨x,y⟩).toArray 177)).kept ae au);clear av ae a6 aI X;go_wp2
    refine⟨⟨k+1,by rw[HN.o];omega,by go_num,_,L++[⟨x,y⟩],az.o,af.o,aB.o,Dr.2 ⟨a8.o,by simp,λg hg g' an e=>by
     rw[Qw] at an;subst an;subst e
     exact(a9.o).1 a0.o _ (UN ((HF.o _).1 hg)) rfl⟩,λh=>?_,by simp;omega,ac⟩,by simp[intOf];omega⟩
    rw[HZ.o,DW,Qq,Qw,HF.o h,HX.o,HY.o];constructor
    ·rintro(W|rfl);·exact .inl W
     exact .inr ⟨rfl,(a9.o).1 a0.o⟩
    rintro(W|⟨rfl,_⟩);·exact .inl W
    exact .inr rfl
   have au:((t:Int)+1==1)=false:=(by simp;omega);go_wp2;refine⟨⟨k+1,by rw[HN.o];omega,by go_num,_,L,a4.o,af.o,a5.o,a8.o,λh=>?_,by omega,hb2⟩,by simp[intOf];omega⟩;rw[HZ.o,DW,HF.o h,HX.o,HY.o];refine⟨.inl,λW=>W.elim id λh2=>absurd (a0.o.symm.trans ((a9.o).2 h2.2)) aw⟩
  have aJ:k=N:=(by omega);subst aJ;go_wp2_with fail;refine(WF L _ w wo HO.o (by omega)).mono ?_;rintro e w' ⟨rfl,ys,hp,Y,ho,ak⟩;have HP:=Ki hp;have HS:=Ki Y;have aA:=Ki ho;have ac:=hb.trans ak;clear hp Y ho ak hb HO;go_wp2;go_ret;have hz:(Y5 a b).take k=Y5 a b:=Zk (by rw[Cr,HN.o];exact Q3 _);have hm:∀h,h∈ys↔XK QJ.at_ (Y5 a b) h:=λh=>by rw[HP.o.mem_iff,HF.o h,hz]
  refine⟨_,ys,rfl,aA.o,?_,hm,by rw[HP.o.length_eq];omega,ac⟩;refine Lw (λg h hg hh=>BA ((hm g).1 hg) ((hm h).1 hh)) (HS.o.imp λ{p q} W h2=>?_) (HP.o.nodup_iff.2 a8.o);have:=(XV q.at_ p.at_).2 h2;unfold EO at W;omega
theorem FX:type_of% @Tryz.underlying114:=@Tryz.underlying114
theorem AX{T:List QJ}{k:Nat}(h:k<T.length):Xv (T.take (k+1))=Y3 (Xv (T.take k)) T[k].p:=by rw[QQ h,OU]
theorem WP{L:List Q2}(h:ZT L)(p:Q2):(Y3 L p).length<=L.length+1:=by
 unfold Y3;split;·omega
 rw[BF h];split<;>omega
theorem EP(T:List QJ):∀k,k<=T.length->(Xv (T.take k)).length<=k|0,_=>by simp[Xv]|k+1,h=>by have j:=EP T k (by omega);rw[AX (by omega)];have:=WP (BG (T.take k)) (T[k]'(by omega)).p;omega
theorem WQ{L P j:List Q2}(E:ZT L)(I:∀p∈P,p∈L)(X:(P.map Q2.nd).Nodup)(U:∀p∈L,p.nd∈P.map Q2.nd)(J:j.Perm P)(hs:j.Pairwise (λa b=>¬EN b a<0)):j=L:=by
 have W:∀p,p∈P↔p∈L:=λp=>⟨I p,λh=>by
  obtain⟨q,O,e⟩:=QZ.1 (U p h);rw[<-E.unlike.eq (I q O) h e]
  exact O⟩
 have Y:=(J.map Q2.nd).nodup_iff.2 X;have Z:ZT j:=by unfold ZT;have D:(j.map Q2.nd).Pairwise (λa b=>¬b.Lt a):=UE.2 (hs.imp λ{a b} D Q=>D ((XV _ _).2 Q));exact UE.1 (Zv.strict D Y)
 exact Fc (lt:=λx y:Q2=>x.nd.Lt y.nd) (λa=>Zv.irrefl a.nd) (λa b c=>Zv.trans a.nd b.nd c.nd) Z E (λx=>(J.mem_iff).trans (W x))
theorem Cs(a:Id):Xs a.s.T a.s.R a.I 0 0 0=decide (a=Qf):=UT a Qf
theorem WR{L:List Q2}(n:Nat)(x h:Id):US (QD L) n x h=Zx L n x h:=(Ld L n x h).symm
theorem WS{L:List Q2}{p:Q2}{D:DataW Q2}{W:World}{bm m:Nat}(j:ZT L)(h:Fr (QD L) W bm m D)(E:Maps.size D=L.length)(I:¬(p.nd=Qf\/Zx L (L.length+1) p.pa p.nd=true)):Xu Ze (QD (Y3 L p)) (D.put (Ze p.nd) (.held (UO (QD L p.nd) p)))/\Maps.size (D.put (Ze p.nd) (.held (UO (QD L p.nd) p)))=(Y3 L p).length:=by
 have J:Y3 L p=XW p L:=by unfold Y3;rw[Q6 I]
 rw[J];refine⟨(h.2.put XJ h.1.isMap p.nd (UO (QD L p.nd) p)).congr (λs=>(BE j s).symm),?_⟩;rw[Maps.size_put (h.1.tidy Xp),h.2.has,E,BF j];cases QD L p.nd<;>simp
def AY(a:List Id)(b:List Q2)(w:World)(e:Ending)(w':World):Prop:=
 ∃(v:Value)(T:List QJ),e=.returned v/\Fd (Y5 a b) T/\T.length<=a.length/\w'.ownsRow w 124 8 v (Xv T).length ((Xv T).flatMap Qb)/\Below w w w'
def AZ(H:List QJ)(v:Value)(bm b1:Nat)(w:World)(i:Value)(wr:World):Prop:=
 ∃k:Nat,k<=H.length/\i=k/\∃(m:Nat)(D:DataW Q2),m<=k/\Fr (QD (Xv (H.take k))) wr bm m D/\Maps.size D=(Xv (H.take k)).length/\wr.ownsRow b1 177 11 v H.length (H.flatMap ZQ)/\Below w w wr/\w.heap.size<wr.heap.size
def WT(L:List Q2)(D:DataW Q2)(bm r m:Nat)(w:World)(h:Value)(wr:World):Prop:=
 ∃(left:Lit->Bool)(cnt:Nat)(P:List Q2),wr.ranges Tryz.prog 60 (Z7 ZA) bm r m D left cnt/\P.length+cnt<=m/\Yo Ze D left (P.map Q2.nd)/\(∀p∈P,p∈L)/\wr.ownsRow w 124 8 h P.length (P.flatMap Qb)/\Below w w wr
theorem WU{f:Id->Option Q2}{D:DataW Q2}(j:Xu Ze f D){x:Id}{p:Q2}(E:∀I,D.atKey (Ze x) I=.held p):f x=some p:=by
 have h:=j x (.map [])
 rw[E] at h
 cases e:f x with
 |none=>rw[e] at h;cases h
 |some q=>rw[e] at h;cases h;rfl
theorem Lx:(Tryz.prog.info? 124).map (λi=>(i.zero,i.size,i.bytes))=some (some (.agg #[(0:Int),(0:Int),(0:Int),(0:Int),(0:Int),(0:Int),.string ⟨#[]⟩,.bool false]),8,72):=by kernel_rfl
theorem WV(a:List Id)(b:List Q2)(A A':Option Addr)(n c n' c' B:Nat)(w:World)(hR:Rd w B 3 (.slice A n c) n (a.flatMap Qe))(aU:Rd w B 8 (.slice A' n' c') n' (b.flatMap Qb))(hB:B<=w)(hn:n<=90000):Calls Tryz.prog 46 #[.slice A n c,.slice A' n' c'] w (AY a b w):=by
 obtain rfl:=QL Qe 3 (λ_=>rfl) (by decide) hR.1;have aJ:=Ki (λW (hb:Below w w W)=>WO a b A A' _ c n' c' B W (hR.below' hb hB) (aU.below' hb hB) (Q9 hB hb.size) (by omega));clear hR aU;obtain⟨i0,hi,br,bs,bt⟩:=Zc Lx;have bL:=@Ue Tryz.prog;go_enter Tryz.func46,Tryz.ntmps46;go_wp2_with fail;obtain⟨w1,ab⟩:∃W,w.alloc (.map #[] 0)=W:=⟨_,rfl⟩;have ai:Below w w w1:=by rw[<-ab];exact((Q0.refl w).alloc _).below
 have aC:w1.ownsMap Tryz.prog 60 (Z7 ZA) w 0 (DataW.map ([]:List (Lit×DataW Q2))):=by rw[<-ab];exact Yg (H:=Q2) w Tryz.prog 60 (Z7 ZA)
 have bO:w1.heap.size=w.heap.size+1:=by rw[<-ab,Qy]
 rw[ab];obtain⟨bm,b4⟩:∃b,w.heap.size=b:=⟨_,rfl⟩;rw[b4] at aC |-;have am:=Ki (show bm=w.heap.size/\w1.heap.size=w.heap.size+1 by omega);clear ab bL bO b4;refine(aJ.o _ ai).mono ?_;rintro e w2 ⟨v,H,rfl,J,hS,hM,hl,hb⟩;obtain⟨A1,aq,rfl,_,_⟩:=(Rd.of_own J).form;have bF:=Kj (Fd (Y5 a b) H) ⟨hS,hM⟩;have HL:=Ki hl;have hb2:Below w.heap.size w w2:=ai.trans (hb.mono ai.size)
 have be:w2.ownsMap Tryz.prog 60 (Z7 ZA) bm 0 (DataW.map ([]:List (Lit×DataW Q2))):=
  aC.kept (row:=none) ⟨hb.os,hb.tape,hb.output,hb.size,λk hk _=>hb.block k hk⟩ (by simp)
 have al:w.heap.size<w2.heap.size:=by have:=hb.size;have:=am.o;omega
 obtain⟨b1,b3⟩:∃b,w1.heap.size=b:=⟨_,rfl⟩;rw[b3] at J;have aH:=Ki (show b1=bm+1/\bm=w.heap.size by have:=am.o;omega);clear hS hM hl hb ai aC aJ b3 am;go_wp2;go_loopw [19] (λi wr=>AZ H (.slice A1 H.length aq) bm b1 w i wr) (λi _=>H.length-(intOf i).toNat);case atStart=>exact⟨0,Qh _,rfl,0,_,Q3 _,⟨be,(Xu.start Ze).congr (λs=>by simp[Xv,QD])⟩,rfl,J,hb2,al⟩
 case round=>
  clear be J hb2 al;obtain⟨k,hk,rfl,m,D,ce,hM,aV,J,hb,bP⟩:=hrel;have O:=Ki hM;have Q:=Ki J;have a6:=Ki aV;clear hM J aV;obtain⟨j,rfl⟩:∃j:World,j=wr:=⟨_,rfl⟩;obtain⟨L,a0⟩:=ex (Xv (H.take k));have ag:ZT L:=by rw[<-a0];exact BG _
  have bX:L.length<=k:=by rw[<-a0];exact EP H k hk
  rw[a0] at O a6;by_cases a8:k<H.length
  ·obtain⟨bb,o,rfl,bU,E⟩:=Qr ZQ 11 (λ_=>rfl) (by decide) (Rd.of_own Q.o) a8;have aa:=AX a8;obtain⟨t,ht⟩:=ex (H[k]);rw[ht] at E aa;rw[a0] at aa;obtain⟨at_,p⟩:=t;dsimp only at aa;have af:=Ki aa;have ae:=Ki ag;have c0:=E 0 _ rfl;have c1:=E 1 _ rfl;have c2:=E 2 _ rfl;have c3:=E 3 _ rfl;have c4:=E 4 _ rfl;have c5:=E 5 _ rfl;have c6:=E 6 _ rfl;have c7:=E 7 _ rfl;have c8:=E 8 _ rfl;have c9:=E 9 _ rfl;have bT:=E 10 _ rfl;simp only[UI] at c0;clear E ht aa a0 ag;have i1:(0:Int)<=(k:Int):=(by omega);have i2:(k:Int)<(H.length:Int):=(by omega);have hq:=Xt;have cc:=ZR;have hE:=Cs p.nd;have bG:H.length<=90000:=(by have:=HL.o;omega);have i3:(L.length:Int)<=90000:=(by have:=HL.o;omega);have aB:∀o1 o2,(Builtin.len_ #[173] 3 #[.map (some bm)]).run Tryz.prog ((j.alloc o1).alloc o2)=.ok (.int .i64 (L.length:Int)) ((j.alloc o1).alloc o2):=λo1 o2=>by have:=((O.o.1.alloc o1).alloc o2).len E9 3;rwa [a6.o] at this
   have cg:IntKind.i64.wrap ((L.length:Int)+1)=(L.length:Int)+1:=QO _ (by omega)
   have aQ:=Ki (λ(W:World)(hW:Below j j W)(hp:Y3 L p=L)=>(show AZ H (.slice (bb,o) H.length aq) bm b1 w (.int .i64 ((k:Int)+1)) W from
    ⟨k+1,by omega,by simp,m,D,by omega,by rw[af.o,hp];exact O.o.below hW,by rw[af.o,hp];exact a6.o,QB Q.o hW,hb.trans (hW.mono hb.size),by have:=hW.size;omega⟩))
   by_cases hz:p.nd=Qf;·rw[QF hz] at hE;have HZ:=Ki hz;clear hz;go_wp2;refine⟨?_,by simp[intOf];omega⟩;exact aQ.o _ ((((Q0.refl j).alloc _).alloc _).below) (by unfold Y3;rw[Q7 (.inl HZ.o)])
   rw[Zo hz] at hE;have HZ:=Ki hz;clear hz
   have HW:=Ki (λ(W:World)(hW:Below j j W)=>(show Calls Tryz.prog 82 #[.map (some bm),Qa p.pa,Qa p.nd,.int .i64 ((L.length:Int)+1)] W (λe w'=>e=.returned (.bool (Zx L (L.length+1) p.pa p.nd))/\Below W W w') from by
    have:=HB (QD L) p.pa p.nd (L.length+1) bm m D W (O.o.below hW) (by omega);rw[WR] at this
    simpa using this))
   unfold Qa at HW;obtain⟨R,au⟩:=ex (Zx L (L.length+1) p.pa p.nd);rw[au] at HW;have aP:=Ki au;clear au;go_wp2_with fail;obtain⟨w3,ac⟩:∃W,(j.alloc (.cells (ZQ ⟨at_,p⟩).toArray 177)).alloc (.cells (Qb p).toArray 124)=W:=⟨_,rfl⟩;have b7:Q0 j w3:=(by rw[<-ac];exact((Q0.refl j).alloc _).alloc _);have aE:w3.heap[j.heap.size+1]?=some (.cells (Qb p).toArray 124 (0,0)):=(by rw[<-ac];have:=Qi (j.alloc (.cells (ZQ ⟨at_,p⟩).toArray 177)) (.cells (Qb p).toArray 124);rwa [Qy] at this);unfold Qb ZQ at ac;rw[ac];have ak:=b7.below;have bp:=(Q5.1 aE).1;clear ac b7 aB;refine(HW.o w3 ak).mono ?_;rintro e w4 ⟨rfl,a7⟩;have ba:=ak.trans (a7.mono ak.size);have I:=(a7.block _ bp).trans aE;obtain⟨b8,aw⟩:∃k,j.heap.size+1=k:=⟨_,rfl⟩;rw[aw] at I |-;have aI:=Ki aw;have cf:=(Q5.1 I).1;have a3:=Ki ba;clear aE a7 ak bp ba aw
   cases R with
   |true=>clear I;go_wp2;refine⟨?_,by simp[intOf];omega⟩;exact aQ.o _ a3.o (by unfold Y3;rw[Q7 (.inr aP.o)])
   |false=>
    have bA:=Ki (show ¬(p.nd=Qf\/Zx L (L.length+1) p.pa p.nd=true) from λh=>by
     rcases h with h|h;·exact HZ.o h
     rw[aP.o] at h;cases h)
    have a4:=Ki (O.o.below a3.o)
    have Z:=Ki (WS (p:=p) ae.o O.o a6.o bA.o)
    have U:=F9 XJ JO a4.o.1 E9 Jw (UD _) a4.o.2 p.nd
    have d0:=cr0 I
    have d1:=cr1 I
    have d2:=cr2 I
    have d3:=cr3 I
    have d4:=cr4 I
    have d5:=cr5 I
    have d6:=cr6 I
    have d7:=cr7 I
    have z0:∀i,w4.frozen? ⟨b8,i,none⟩=false:=λi=>by simp[World.frozen?,I]
    have b5:bm≠b8:=by have:=aI.o;have:=aH.o;omega
    have bf:m<maxLen:=by unfold maxLen;omega
    have a2:=Ki (λ(ap W:World)(hX:Below j.heap.size j ap) (bH:ap.ownsMap Tryz.prog 60 (Z7 ZA) bm m D) (ho:W.ownsMap Tryz.prog 60 (Z7 ZA) bm (m+1) (D.put (Ze p.nd) (.held (UO (QD L p.nd) p)))) (hg:ap.grownBy W (some bm))=>(show AZ H (.slice (some ⟨bb,o,none⟩) H.length aq) bm b1 w (.int .i64 ((k:Int)+1)) W from by
     obtain⟨o1,bQ,bR⟩:=J2 bH;have aX:=QB Q.o hX;have aW:=hb.trans (hX.mono hb.size);refine⟨k+1,by omega,by simp,m+1,_,by omega,⟨ho,by rw[af.o];exact Z.o.1⟩,by rw[af.o];exact Z.o.2,aX.kept hg (.inr (VA aX bQ bR).symm),aW.grown hg aW.size (λad Y=>by cases Y;have:=aH.o;omega),?_⟩;have:=hg.size;have:=hX.size
     omega))
    unfold Qa at U
    clear I
    cases hf:QD L p.nd with
    |none=>
     rw[hf] at U Z a2;simp only[Option.isSome_none,Option.getD_none] at U;simp only[UO] at Z a2;unfold ZA at U;clear hf;go_wp2_with (at_mapUpdate;refine Oa _ rfl _ _ _ 173 rfl 60 124 Xp E9 (Z7 ZA) bm m D rfl (a4.o.1.alloc _) bf (Qa p.nd) (ZA p) (Ze p.nd) rfl rfl (YM p.nd) (.held p) [] (Vt JO p) ?_;intro w5 a1 X);have HX:=Ki (a2.o _ w5 (a3.o.alloc a3.o.size _) (a4.o.1.alloc _) a1 X);clear a1 X d0 d1 d2 d3 d4 d5 d6 d7;go_wp2;go_roundw;case rel=>exact HX.o
     case measure=>simp[intOf];omega
    |some q=>
     rw[hf] at U Z a2;simp only[Option.isSome_some,Option.getD_some] at U;simp only[UO] at Z a2;unfold ZA at U;clear hf;go_wp2_with (at_mapUpdate;refine Oa _ rfl _ _ _ 173 rfl 60 124 Xp E9 (Z7 ZA) bm m D rfl ((a4.o.1.setCell (a:=⟨b8,7,none⟩) b5 _).alloc _) bf (Qa p.nd) (ZA { p with dir:=q.dir }) (Ze p.nd) rfl rfl (YM p.nd) (.held { p with dir:=q.dir }) [] (Vt JO _) ?_;intro w5 a1 X);have HX:=Ki (a2.o _ w5 ((a3.o.setCell (p:=(b8,7)) (by have:=aI.o;simp;omega) _).alloc (by have:=a3.o.size;simpa [World.setCell] using this) _) ((a4.o.1.setCell (a:=⟨b8,7,none⟩) b5 _).alloc _) a1 X);clear a1 X d0 d1 d2 d3 d4 d5 d6 d7;go_wp2;go_roundw;case rel=>exact HX.o
     case measure=>simp[intOf];omega
  obtain rfl:k=H.length:=by omega
  rw[X6] at a0;have bx:=Ki a0;have ae:=Ki ag;have aB:(Builtin.len_ #[173] 3 #[.map (some bm)]).run Tryz.prog j=.ok (.int .i64 (L.length:Int)) j:=(by have:=O.o.1.len E9 3;rwa [a6.o] at this);have bG:H.length<=90000:=(by have:=HL.o;omega);have bV:L.length<=90000:=(by omega);have b6:=hb.size;clear a0 ag a8 hk Q;go_wp2_with (at_make;refine wpList_make_own _ rfl _ _ 114 rfl w 124 i0 _ 8 FX hi br bs .i64 .i64 _ L.length rfl rfl rfl (by rw[bt];omega) (by unfold maxLen;omega) b6 ?_;intro w5 a1 X);have aK:=Ki (O.o.1.kept X (by simp));have aj:=hb.grown X hb.size (λad Y=>by cases Y);have an:=Ki a1;obtain⟨g5,b9⟩:∃k,j.heap.size=k:=⟨_,rfl⟩;rw[b9] at an |-;have hF:=O.o.2;have HF:=Ki hF;have a5:=aK.o;clear a1 X hb aB O hF b9 bP b6;obtain⟨W3,bo,aF,ay,bN⟩:=a5.range Xp E9;go_wp2;rw[bo];have aZ:=aj.grown ay aj.size (λad Y=>by cases Y);have aS:=Ki (an.o.kept ay (.inr (by simp[Value.ownBlock])));obtain⟨r,hr⟩:=ex (w5.heap.size);have bM:w<=r:=(by have:=aj.size;omega);have bE:=Ki a5.size_le;rw[hr] at aF |-;clear ay bN aj an a5 hr aK bo;go_wp2;go_loopw [11] (λbS wr=>WT L D bm r m w bS wr) (λ_ wr=>wr.rangeLeft bm r);case atStart=>refine⟨_,_,[],aF,?_,Yo.start _ D,by simp,aS.o,aZ⟩;simpa using bE.o
  case round=>
   clear aF aS aZ;obtain⟨left,cnt,P,a9,bZ,hC,aT,J,hb⟩:=hrel;obtain⟨Av,cv,rfl,bW,bI⟩:=(Rd.of_own J).form;have Q:=Ki J;have HC:=Ki hC;have aM:=Ki aT;have aN:=Ki a9;obtain⟨j,rfl⟩:∃j:World,j=wr:=⟨_,rfl⟩;clear J hC aT;go_wp2_with (at_next;refine wpList_next_ranges _ rfl _ rfl 60 Xp (Z7 ZA) Qa ZA (λkey kl hk=>by obtain⟨a,h,_⟩:=Va hk;exact⟨a,h⟩) (λv y hv=>by obtain⟨a,h,_⟩:=Kt hv;exact⟨a,h⟩) bm r m _ _ _ rfl a9 ?_ ?_);·intro bY bd;have bw:=Ki bd;clear a9 aN bI bd;go_wp2_with fail;refine(WG P _ w j Q.o (by omega)).mono ?_;rintro e w' ⟨rfl,ys,aD,aG,bj,aY⟩;have bB:=Ki bj;have HS:=Ki aG;have Z:=Ki aD;have bu:=Ki (hb.trans aY);have HE:=Ki (WQ ae.o aM.o HC.o.1 (λp hp=>(HC.o.2 p.nd).2 ⟨by rw[HF.o.has,(ae.o.find p).2 hp];rfl,bw.o _⟩) aD aG);clear bj aG aD hb aY Q;go_wp2;go_ret;exact⟨_,H,rfl,bF.o,HL.o,by rw[bx.o,<-HE.o];simpa [Z.o.length_eq] using bB.o,bu.o⟩
   intro x p kl y yp w2 aR bc U hv av bl a8 az al bK;obtain⟨x',e1,rfl⟩:=Va bc;obtain rfl:=Ks e1;rw[Vt JO] at hv;cases hv;have ax:=WU HF.o av;have bq:=DX ax;have bC:=Ki (BC ax);obtain⟨oi,bh,bi⟩:=a9.iter_walk;have hb2:Below w w w2:=hb.grown az hb.size (λad Y=>by cases Y;exact bM);have ah:=Ki (Q.o.kept az (.inr (VA Q.o bh bi).symm))
   have bv:=Ki (show Yo Ze D (λz=>left z&&!z.sameKey (Ze x)) ((P++[p]).map Q2.nd) from by
    rw[ZC,List.map_singleton,bq]
    exact HC.o.step XJ U av)
   have ao:=Ki bl;have bz:=Ki a8;have bJ:(P++[p]).length+aR<=m:=(by simp;omega);clear bc U av bl a9 az al e1 bh bi Q HC hb ax bq;unfold Qa ZA at bK;unfold Qa ZA;go_wp2_with (at_builtin;refine Yf _ rfl _ _ 114 rfl w 124 i0 _ 8 72 FX hi br bs bt rfl (by decide) _ _ _ rfl ((ah.o.alloc _).alloc _) ⟨w2.heap.size+1,0,none⟩ 1 1 (Qb p) rfl rfl ?qc2 (KB p) ?qc4 ?qc5 ?qc6 ?_);case qc2=>have:=Zd (w2.alloc (.cells (Qb p).toArray 124)) (Qb p) 124;rw[Qy] at this;exact this
   case qc4=>unfold maxLen;omega
   case qc5=>omega
   case qc6=>have:=hb2.size;simp;omega
   intro v' W4 a5 aA _;obtain⟨g,cap,rfl,ca,cb,cd,bg⟩:=Ui a5;have ar:(some bm≠(Value.slice Av P.length cv).ownBlock/\some r≠(Value.slice Av P.length cv).ownBlock):=(by obtain⟨o1,h1,h2⟩:=J2 ao.o.owns;obtain⟨o2,h3,h4⟩:=ao.o.iter_walk;exact⟨VA ah.o h1 h2,VA ah.o h3 h4⟩);have bn:=((ao.o.alloc (.cells (Qb p).toArray 124)).alloc (.cells (Qb p).toArray 124)).kept aA ar.1 ar.2
   have a7:Below w w W4:=((hb2.alloc hb2.size _).alloc (by have:=hb2.size;simp;omega) _).grown aA (by have:=hb2.size;simp;omega) (λad Y=>by
    rcases (ah.o).lt ad Y with⟨h1,_⟩
    exact h1)
   have aO:=Ki bn;have aL:=Ki bg
   have bD:=Ki (show ∀q∈P++[p],q∈L from λq hq=>by
    rcases Qq.1 hq with h|h;·exact aM.o q h
    rw[Qw] at h;subst h;exact bC.o)
   have bk:P.length+1=(P++[p]).length:=(by simp);rw[bk] at aL |-;clear aA a5 bg bn ar bk;go_wp2;go_roundw;case rel=>exact⟨_,aR,_,aO.o,bJ,bv.o,bD.o,aL.o,a7⟩
   case measure=>rw[aO.o.left_eq,aN.o.left_eq];exact bz.o
end
section
open Go Go.RowKit Go.Maps
theorem UA:type_of% @Tryz.underlying185:=@Tryz.underlying185
theorem Kd:type_of% @Tryz.underlying172:=@Tryz.underlying172
def Fy(s:ByteArray):Value:=.string s
theorem Ly{a b:ByteArray}(h:Fy a=Fy b):a=b:=by cases h;rfl
theorem Lz{I α:Type}{k t e:TypeId}{W:I->Value}{K:I->Lit}(O:YN k W K){V:α->Value}(Y:∀{a b},V a=V b->a=b){w:World}{b n:Nat}{D:DataW α}(h:w.ownsMap Tryz.prog k (Z7 V) b n D)(Z:Tryz.prog.underlying t=some (.map k e))(E:α)(hz:(zeroValue e).run Tryz.prog w=.ok (V E) w){f:I->Option α}(X:Xu K f D)(s:I):(Instr.lookup t (.map (some b)) (W s) false).run Tryz.prog w=.ok (V ((f s).getD E)) w:=by
 obtain⟨v,ps,J,Q⟩:=h.lookup O.keyed Z hz (Vt Y E) (O.val s);obtain⟨a,rfl,U⟩:=Kt Q;have j:=Xz Prod.fst U;rw[X s] at j
 have:a=(f s).getD E:=by
  cases e:f s with
  |some y=>rw[e] at j;cases j;rfl
  |none=>rw[e] at j;cases j;rfl
 rw[this] at J;exact J
def IM{α:Type}(V:α->Value)(w:World)(b n:Nat)(f:Id->Option α):Prop:=∃D,w.ownsMap Tryz.prog 60 (Z7 V) b n D/\Xu Ze f D
section
variable {α:Type} {V:α->Value} {w W:World} {b n:Nat} {f:Id->Option α}
theorem IM.touch{F:Nat->Prop}(h:IM V w b n f)(t:Qd F w W)(I:¬F b):IM V W b n f:=by obtain⟨D,j,E⟩:=h;exact⟨D,Xo j t I,E⟩
theorem IM.lt(h:IM V w b n f):b<w:=by obtain⟨D,j,_⟩:=h;exact j.lt
theorem IM.put(h:IM V w b n f)(O:∀{a b},V a=V b->a=b){t e:TypeId}(X:Tryz.prog.underlying t=some (.map 60 e))(E:n<maxLen)(x:Id)(a:α):∃w',(Instr.mapUpdate t (.map (some b)) (Qa x) (V a)).run Tryz.prog w=.ok () w'/\IM V w' b (n+1) (λy=>if y=x then some a else f y)/\Qd (λk=>k=b) w w':=by obtain⟨D,I,J⟩:=h;obtain⟨w',U,Y,j⟩:=I.update Xp X E (YM x) (Vt (V:=V) O a);exact⟨w',U,⟨_,Y,J.put XJ I.isMap x a⟩,⟨j.os,j.tape,j.output,j.size,λk Q E=>j.block k Q (λe=>E (by cases e;rfl))⟩⟩
theorem IM.look(h:IM V w b n f)(J:∀{a b},V a=V b->a=b){t e:TypeId}(O:Tryz.prog.underlying t=some (.map 60 e))(j:α)(Q:∀w,(zeroValue e).run Tryz.prog w=.ok (V j) w)(x:Id):(Instr.lookup t (.map (some b)) (Qa x) false).run Tryz.prog w=.ok (V ((f x).getD j)) w/\(Instr.lookup t (.map (some b)) (Qa x) true).run Tryz.prog w=.ok (.tuple #[V ((f x).getD j),.bool (f x).isSome]) w:=by obtain⟨D,E,I⟩:=h;exact⟨Lz XJ J E O j (Q w) I x,F9 XJ J E O j (Q w) I x⟩
theorem IM.congr{g:Id->Option α}(h:IM V w b n f)(e:∀x,f x=g x):IM V w b n g:=by obtain⟨D,j,E⟩:=h;exact⟨D,j,E.congr e⟩
end
theorem Ct{α:Type}{V:α->Value}{w:World}{b:Nat}(h:w.ownsMap Tryz.prog 60 (Z7 V) b 0 (.map [])):IM V w b 0 (λ_=>none):=⟨_,h,Xu.start _⟩
structure Tr(w:World)(base p mo ml ms ma no nl ns na:Nat)(fo:Id->Option Q2)(fl fs:Id->Option Unit)(fa:Id->Option ByteArray):Prop where
 box:w.heap[p]?=some (.cells #[.map (some mo),.map (some ml),.map (some ms),.map (some ma)] 188 (0,0))
 of:IM ZA w mo no fo
 live:IM XN w ml nl fl
 seen:IM XN w ms ns fs
 as_:IM Fy w ma na fa
 ne:p≠mo/\p≠ml/\p≠ms/\p≠ma/\mo≠ml/\mo≠ms/\mo≠ma/\ml≠ms/\ml≠ma/\ms≠ma
 base_le:base<=p/\base<=mo/\base<=ml/\base<=ms/\base<=ma
section
variable {w W:World} {base p mo ml ms ma no nl ns na:Nat} {fo:Id->Option Q2} {fl fs:Id->Option Unit} {fa:Id->Option ByteArray}
theorem Tr.lt(h:Tr w base p mo ml ms ma no nl ns na fo fl fs fa):p<w:=(Q5.1 h.box).1
theorem Tr.touch{F:Nat->Prop}(h:Tr w base p mo ml ms ma no nl ns na fo fl fs fa)(t:Qd F w W)(j:∀x,base<=x->x<w->¬F x):Tr W base p mo ml ms ma no nl ns na fo fl fs fa:=
 ⟨QY h.box t (j p h.base_le.1 h.lt),h.of.touch t (j _ h.base_le.2.1 h.of.lt),h.live.touch t (j _ h.base_le.2.2.1 h.live.lt),h.seen.touch t (j _ h.base_le.2.2.2.1 h.seen.lt),h.as_.touch t (j _ h.base_le.2.2.2.2 h.as_.lt),h.ne,h.base_le⟩
theorem Tr.below(h:Tr w base p mo ml ms ma no nl ns na fo fl fs fa)(hb:Below w w W):Tr W base p mo ml ms ma no nl ns na fo fl fs fa:=h.touch (Below.touch hb (λ_=>False)) (λ_ _ _ h=>h)
theorem Tr.drew(h:Tr w base p mo ml ms ma no nl ns na fo fl fs fa):Tr w.drew base p mo ml ms ma no nl ns na fo fl fs fa:=h.below (Qc _ w).drew
theorem Tr.apart{F:Nat->Prop}(h:Tr w base p mo ml ms ma no nl ns na fo fl fs fa)(t:Qd F w W)(j:¬F p)(D:¬F mo)(E:¬F ml)(I:¬F ms)(J:¬F ma):Tr W base p mo ml ms ma no nl ns na fo fl fs fa:=
 ⟨QY h.box t j,h.of.touch t D,h.live.touch t E,h.seen.touch t I,h.as_.touch t J,h.ne,h.base_le⟩
theorem Tr.put_of(h:Tr w base p mo ml ms ma no nl ns na fo fl fs fa)(D:no<maxLen)(x:Id)(a:Q2):∃w',(Instr.mapUpdate 172 (.map (some mo)) (Qa x) (ZA a)).run Tryz.prog w=.ok () w'/\Tr w' base p mo ml ms ma (no+1) nl ns na (λy=>if y=x then some a else fo y) fl fs fa/\Qd (λb=>b=mo) w w':=by obtain⟨w',E,j,t⟩:=h.of.put JO Kd D x a;exact⟨w',E,⟨QY h.box t h.ne.1,j,h.live.touch t (λe=>h.ne.2.2.2.2.1 e.symm),h.seen.touch t (λe=>h.ne.2.2.2.2.2.1 e.symm),h.as_.touch t (λe=>h.ne.2.2.2.2.2.2.1 e.symm),h.ne,h.base_le⟩,t⟩
theorem Tr.put_live(h:Tr w base p mo ml ms ma no nl ns na fo fl fs fa)(D:nl<maxLen)(x:Id):∃w',(Instr.mapUpdate 185 (.map (some ml)) (Qa x) (.agg #[])).run Tryz.prog w=.ok () w'/\Tr w' base p mo ml ms ma no (nl+1) ns na fo (λy=>if y=x then some () else fl y) fs fa/\Qd (λb=>b=ml) w w':=by obtain⟨w',E,j,t⟩:=h.live.put UR UA D x ();exact⟨w',E,⟨QY h.box t h.ne.2.1,h.of.touch t h.ne.2.2.2.2.1,j,h.seen.touch t (λe=>h.ne.2.2.2.2.2.2.2.1 e.symm),h.as_.touch t (λe=>h.ne.2.2.2.2.2.2.2.2.1 e.symm),h.ne,h.base_le⟩,t⟩
theorem Tr.put_seen(h:Tr w base p mo ml ms ma no nl ns na fo fl fs fa)(D:ns<maxLen)(x:Id):∃w',(Instr.mapUpdate 185 (.map (some ms)) (Qa x) (.agg #[])).run Tryz.prog w=.ok () w'/\Tr w' base p mo ml ms ma no nl (ns+1) na fo fl (λy=>if y=x then some () else fs y) fa/\Qd (λb=>b=ms) w w':=by obtain⟨w',E,j,t⟩:=h.seen.put UR UA D x ();exact⟨w',E,⟨QY h.box t h.ne.2.2.1,h.of.touch t h.ne.2.2.2.2.2.1,h.live.touch t h.ne.2.2.2.2.2.2.2.1,j,h.as_.touch t (λe=>h.ne.2.2.2.2.2.2.2.2.2 e.symm),h.ne,h.base_le⟩,t⟩
theorem Tr.put_as(h:Tr w base p mo ml ms ma no nl ns na fo fl fs fa)(D:na<maxLen)(x:Id)(a:ByteArray):∃w',(Instr.mapUpdate 186 (.map (some ma)) (Qa x) (.string a)).run Tryz.prog w=.ok () w'/\Tr w' base p mo ml ms ma no nl ns (na+1) fo fl fs (λy=>if y=x then some a else fa y)/\Qd (λb=>b=ma) w w':=by obtain⟨w',E,j,t⟩:=h.as_.put Ly Tryz.underlying186 D x a;exact⟨w',E,⟨QY h.box t h.ne.2.2.2.1,h.of.touch t h.ne.2.2.2.2.2.2.1,h.live.touch t h.ne.2.2.2.2.2.2.2.2.1,h.seen.touch t h.ne.2.2.2.2.2.2.2.2.2,j,h.ne,h.base_le⟩,t⟩
end
theorem WW(w:World):Tr (((((w.alloc (.map #[] 0)).alloc (.map #[] 0)).alloc (.map #[] 0)).alloc (.map #[] 0)).alloc (.cells #[.map (some w.heap.size),.map (some (w.heap.size+1)),.map (some (w.heap.size+2)),.map (some (w.heap.size+3))] 188)) w (w.heap.size+4) w (w.heap.size+1) (w.heap.size+2) (w.heap.size+3) 0 0 0 0 (λ_=>none) (λ_=>none) (λ_=>none) (λ_=>none):=by have D:=Yg (w.alloc (.map #[] 0)) Tryz.prog 60 (Z7 XN);have j:=Yg ((w.alloc (.map #[] 0)).alloc (.map #[] 0)) Tryz.prog 60 (Z7 XN);have h:=Yg (((w.alloc (.map #[] 0)).alloc (.map #[] 0)).alloc (.map #[] 0)) Tryz.prog 60 (Z7 Fy);rw[Qy] at D j h;rw[Qy] at j h;rw[Qy] at h;refine⟨by(simp only[Zs,Qy,reduceIte];repeat (first|rw[Q7 (by omega)]|rw[Q6 (by omega)])),Ct ((((Yg w _ _ _).alloc _).alloc _).alloc _ |>.alloc _),Ct (((D.alloc _).alloc _).alloc _),Ct ((j.alloc _).alloc _),Ct (h.alloc _),⟨by omega,by omega,by omega,by omega,by omega,by omega,by omega,by omega,by omega,by omega⟩,⟨by omega,by omega,by omega,by omega,by omega⟩⟩
theorem Gt{α:Type}{V:α->Value}{w:World}{b n:Nat}{D:DataW α}(h:w.ownsMap Tryz.prog 60 (Z7 V) b n D):Maps.size D<=n:=by
 obtain⟨j,E,hb,F,J,rfl⟩:=h;have I:Maps.size (DataW.map ((j.toList.map (WideElems.rg Tryz.prog 60 (Z7 V))).foldr DataW.insert []))=j.size:=by simp[Maps.size,length_sorted]
 omega
theorem EQ{α:Type}{V:α->Value}{w:World}{b n:Nat}{D:DataW α}(h:w.ownsMap Tryz.prog 60 (Z7 V) b n D){f:Id->Option α}(E:Xu Ze f D){l:List Id}(Y:l.Nodup)(Q:∀y∈l,(f y).isSome=true):l.length<=Maps.size D:=by
 obtain⟨I,a0,hb,F,hs,rfl⟩:=h;obtain⟨ks,X⟩:=ex ((I.toList.map (WideElems.rg Tryz.prog 60 (Z7 V))).foldr DataW.insert []);rw[X] at E |-;have J:(l.map Ze).Nodup:=by exact UE.2 (Y.imp λh e=>h (Es e))
 have O:∀x∈l.map Ze,x∈ks.map (·.1):=λx hx=>by obtain⟨y,hy,rfl⟩:=QZ.1 hx;have:=E.has y;rw[Q y hy,has_eq,Ua] at this;obtain⟨p,Z,U⟩:=this;exact QZ.2 ⟨p,Z,WideAt.sameKey_eq U⟩
 have j:=Gg J O;rw[Xh,Xh] at j;exact j
def K1(f:Id->Option Q2)(p:Q2):Id->Option Q2:=if (f p.nd).isSome=false/\ZS p.nd=true/\XI p.nm.data.toList=true then λy=>if y=p.nd then some p else f y else f
def Yz(L:List Q2):Id->Option Q2:=L.foldl K1 (λ_=>none)
theorem ER(L:List Q2)(p:Q2):Yz (L++[p])=K1 (Yz L) p:=by unfold Yz;rw[Dj];rfl
def Xk(L:List Id)(x:Id):Option Unit:=if x∈L then some () else none
theorem LA:Xk []=λ_=>none:=by funext x;simp[Xk]
theorem LB(L:List Id)(x:Id):Xk (L++[x])=λy=>if y=x then some () else Xk L y:=by
 funext y;unfold Xk;by_cases h:y=x;·rw[Q7 h,Q7 (by rw[h];simp)]
 rw[Q6 h];by_cases j:y∈L;·rw[Q7 j,Q7 (Qq.2 (.inl j))]
 rw[Q6 j,Q6 (by simp[h,j])]
theorem Fz(L:List Id)(x:Id):(Xk L x).isSome=decide (x∈L):=by
 unfold Xk;by_cases h:x∈L;·rw[Q7 h,QF h];rfl
 rw[Q6 h,Zo h];rfl
theorem LC:∀(L:List Q2)(x:Id)(p:Q2),Yz L x=some p->p.nd=x/\p∈L/\ZS x=true/\XI p.nm.data.toList=true:=by
 intro L
 induction L using JQ with
 |D=>intro x p h;cases h
 |E L q E=>
  intro x p h;rw[ER] at h;unfold K1 at h;split at h
  ·rename_i D;dsimp only at h;by_cases j:x=q.nd;·rw[Q7 j] at h;cases h;exact⟨j.symm,by simp,by rw[j];exact D.2.1,D.2.2⟩
   rw[Q6 j] at h;obtain⟨a,b,c,d⟩:=E x p h;exact⟨a,Qq.2 (.inl b),c,d⟩
  obtain⟨a,b,c,d⟩:=E x p h;exact⟨a,Qq.2 (.inl b),c,d⟩
end
end Go.Proofs.YtfpafikfjjckeaaGreatDoor
