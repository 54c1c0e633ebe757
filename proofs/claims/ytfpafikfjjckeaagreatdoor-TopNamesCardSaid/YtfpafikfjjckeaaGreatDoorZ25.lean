import Derived.Test.YtfpafikfjjckeaaGreatDoorZ8
import Derived.Test.YtfpafikfjjckeaaGreatDoorZ24
set_option maxRecDepth 100000
set_option maxHeartbeats 200000000
namespace Go.Proofs.YtfpafikfjjckeaaGreatDoor
section
open Go Go.RowKit Go.Maps
def RiR(l:List Q1)(w:World)(h i:Value)(wr:World):Prop:=∃(k:Nat)(M:List Q1),k<=l.length/\i=k/\M.length<=k/\(∀g∈M,g∈l)/\wr.ownsRow w 31 7 h M.length (M.flatMap Qg)/\Below w w wr
theorem Q3H(l:List Q1)(A:Option Addr)(n c B:Nat)(w:World)(Z:Xi w B (.slice A n c) l)(Y:B<=w)(hn:l.length<=100000)(hs:∀g∈l,g.ops.length<=1000/\∀o∈g.ops,o.tx.size<=1000000000/\o.name.size<=1000000):Calls Tryz.prog 111 #[.slice A n c] w λe w'=>(∃v,∃M:List Q1,e=.returned v/\M.length<=l.length/\(∀g∈M,g∈l)/\w'.ownsRow w 31 7 v M.length (M.flatMap Qg))/\Below w w w':=by
 obtain rfl:n=l.length:=(Rd.len Z.r).1;obtain⟨i0,hi,z0,z1,z2⟩:=Zc Ft;have HR:=Ki (λW (E:Below w w W)=>Z.r.below' E Y);have af:=Ki (λg (D:g∈l) W (E:Below w w W)=>Q3C g B W ((Z.a g D).below (E.mono Y)) (Q9 Y E.size) (hs g D).2 (hs g D).1);have ag:=Ki (λM x A n c B W h hb=>Q3z M x A n c B W h hb);clear Z hs;go_enter Tryz.func111,Tryz.ntmps111;go_wp2;go_loopw [3,4] (λvo i wr=>RiR l w vo i wr) (λ_ i _=>l.length-(intOf i).toNat);case atStart=>exact⟨0,[],Qh _,rfl,Q3 _,λg h=>(by cases h),⟨rfl,.inl ⟨rfl,rfl⟩⟩,Qc _ _⟩
 case round=>
  obtain⟨k,M,hk,rfl,ak,aa,hO,hb⟩:=hrel;obtain⟨Ao,co,rfl,_,_⟩:=(Rd.of_own hO).form;have HO:=Ki hO;have HB:=Ki hb;have U:=Ki aa;by_cases ac:k<l.length
  ·obtain⟨b,o,rfl,a9,a4⟩:=Qr Qg 7 (λ_=>rfl) (by decide) (HR.o _ hb) ac;obtain⟨g,D⟩:=ex (l[k]);rw[D] at a4;have a5:g∈l:=(by rw[<-D];exact Zt ac);have ah:=Ki a5;have aj:b<wr:=Z1 a9 (Q9 Y hb.size);have a8:=Ki (af.o g a5 wr hb);have Q:=Ki (λW (E:Below wr wr W)=>(λj u (hj:(g:List Value)[j]?=some u)=>((E.cell (p:=(b,o+k*7+j)) aj).trans (a4 j u hj))));have X:=Ki (Q.o wr (Qc _ _));have al:(0:Int)<=(k:Int):=(by omega);have am:(k:Int)<(l.length:Int):=(by omega);unfold Z2 Qg Sl.v at a8;clear a4 D hO hb a9 a5 aa;go_wp2_with (first|((with_reducible refine Ql 31 ?_);refine QA rfl 31 _ rfl _ _ _ rfl X.o (by kernel_rfl) (Zl _) ?_)|fail);refine a8.o.mono ?_;rintro e J ⟨⟨z,rfl⟩,I⟩;have a7:=Ki I;have a1:=Ki (HB.o.trans (I.mono HB.o.size));have a2:=Ki (QB HO.o I);have l0:J.cell? (b,o+k*7)=g.s.T:=Q.o J I 0 _ rfl;have l1:J.cell? (b,o+k*7+1)=g.s.R:=Q.o J I 1 _ rfl;clear I X;by_cases hz:z=0
   ·subst hz;go_wp2_with fail;refine(ag.o M g.s Ao M.length co J J (Rd.of_own a2.o) (Q3 _)).mono ?_;rintro e w2 ⟨⟨z,rfl,_⟩,a0⟩;have ae:=Ki (a7.o.trans (a0.below.mono a7.o.size));have O:=Ki (a1.o.trans (a0.below.mono a1.o.size));have a3:=Ki (QB a2.o a0.below);have X:=Ki (Q.o w2 ae.o);clear a0 l0 l1;by_cases hz:z<0
    ·go_wp2_with (first|((with_reducible refine Ql 31 ?_);refine QA rfl 31 _ rfl _ _ _ rfl X.o (by kernel_rfl) (Zl _) ?_)|(at_builtin;refine Yf _ rfl _ _ 24 rfl w 31 i0 _ 7 88 GQ hi z0 z1 z2 rfl (by decide) _ M.length _ rfl (a3.o.alloc _) ⟨w2.heap.size,0,none⟩ 1 1 (Qg g) rfl rfl (Zd w2 (Qg g) 31) (KC g) (by unfold maxLen;omega) (by omega) (by have:=O.o.size;simp;omega) ?_));intro v9 W9 a6 ab _;have ad:=Ki ((O.o.alloc O.o.size (.cells (Qg g).toArray 31)).grown ab (by have:=O.o.size;simp;omega) (λj hj=>(a3.o.lt j hj).1));have ai:=Ki (show W9.ownsRow w 31 7 v9 (M++[g]).length ((M++[g]).flatMap Qg) by rw[Qj,Zb,Xf];exact a6);obtain⟨A9,c9,rfl,_,_⟩:=(Rd.of_own a6).form;clear a6 ab;go_wp2;go_roundw;case rel=>exact⟨k+1,M++[g],by omega,by go_num,by rw[Qj,XZ];omega,λx hx=>(by rcases Qq.1 hx with h|h;exact U.o x h;rw[Qw.1 h];exact ah.o),ai.o,ad.o⟩
     case measure=>simp[intOf];omega
    go_wp2;go_roundw;case rel=>exact⟨k+1,M,by omega,by go_num,by omega,U.o,a3.o,O.o⟩
    case measure=>simp[intOf];omega
   have an:(z==0)=false:=(by simp[hz]);go_wp2;go_roundw;case rel=>exact⟨k+1,M,by omega,by go_num,by omega,U.o,a2.o,a1.o⟩
   case measure=>simp[intOf];omega
  clear hO hb;go_wp2;go_ret;exact⟨⟨_,M,rfl,by omega,U.o,HO.o⟩,HB.o⟩
end
section
open Go
def Ch(L:List Q2):Nat->Id->Prop|0,x=>∃p,QD L x=some p/\p.pa=Qf|m+1,x=>∃p,QD L x=some p/\p.pa≠Qf/\Ch L m p.pa
theorem II{L:List Q2}:∀{n:Nat}{x:Id},YT L n x=true->∃m,Ch L m x
 |0,x,h=>by cases h
 |n+1,x,h=>by
  rw[YT] at h
  cases j:QD L x with
  |none=>rw[j] at h;cases h
  |some p=>
   rw[j] at h;dsimp only at h;by_cases D:p.pa=Qf;·exact⟨0,p,j,D⟩
   rw[Q6 D] at h
   cases E:QD L p.pa with
   |none=>rw[E] at h;cases h
   |some q=>
    rw[E] at h;dsimp only at h;split at h;·obtain⟨m,hm⟩:=II h;exact⟨m+1,p,j,D,hm⟩
    cases h
theorem IJ{L:List Q2}(D:QD L Qf=none):∀{m:Nat}{x:Id},Ch L m x->Vu L (m+1) x|0,x,h=>by obtain⟨p,j,E⟩:=h;exact⟨p,j,by rw[E];exact D⟩|m+1,x,h=>by obtain⟨p,j,_,I⟩:=h;exact⟨p,j,IJ D I⟩
theorem Nq{L:List Q2}(j:QD L Qf=none){n:Nat}{h:Id}(E:0<n)(D:h≠Qf):Zx L n Qf h=false:=by
 cases n with
 |zero=>omega
 |succ n=>rw[Zx,Q6 (λe=>D e.symm),j]
theorem Nr{L:List Q2}(Q:QD L Qf=none):∀{m n:Nat}{x D:Id},Ch L m x->m+2<=n->D≠Qf->Zx L n x D=true->∃j,j<=m/\Ch L j D
 |m,0,x,D,_,U,_,_=>by omega
 |0,n+1,x,D,E,U,O,h=>by
  rw[Zx] at h;by_cases I:x=D;·exact⟨0,Q3 _,I▸E⟩
  rw[Q6 I] at h;obtain⟨p,J,W⟩:=E;rw[J] at h;dsimp only at h;rw[W,Nq Q (by omega) O] at h;cases h
 |m+1,n+1,x,D,E,U,O,h=>by
  rw[Zx] at h;by_cases I:x=D;·exact⟨m+1,Q3 _,I▸E⟩
  rw[Q6 I] at h;obtain⟨p,J,_,X⟩:=E;rw[J] at h;obtain⟨j,Z,Y⟩:=Nr Q X (by omega) O h;exact⟨j,by omega,Y⟩
theorem Ns{L:List Q2}(W:QD L Qf=none):∀{m n:Nat}{x j:Id}{p:Q2},Ch L m x->m+2<=n->j≠Qf->Zx L n x j=true->QD L j=some p->p.pa≠Qf->Zx L n x p.pa=true
 |m,0,x,j,_,_,X,_,_,_,_=>by omega
 |0,n+1,x,j,p,J,X,Q,h,E,U=>by
  rw[Zx] at h |-;by_cases I:x=j;·subst I;obtain⟨q,D,O⟩:=J;rw[D] at E;cases E;exact absurd O U
  rw[Q6 I] at h;obtain⟨q,D,O⟩:=J;rw[D] at h;dsimp only at h;rw[O,Nq W (by omega) Q] at h;cases h
 |m+1,n+1,x,j,p,J,X,Q,h,E,U=>by
  rw[Zx] at h |-;by_cases Y:x=p.pa;·rw[Q7 Y]
  rw[Q6 Y];obtain⟨q,D,_,Z⟩:=J;rw[D];dsimp only;by_cases I:x=j
  ·subst I;rw[D] at E;cases E
   cases n with
   |zero=>omega
   |succ n=>rw[Zx,Q7 rfl]
  rw[Q6 I,D] at h;exact Ns W Z (by omega) Q h E U
theorem Q3I{L:List Q2}{j:List Id}{y:Id}(h:J6 L j y=true):QD (Ux L j) y=QD L y:=by
 unfold QD Ux;rw[List.find?_filter];congr 1;funext a;by_cases e:a.nd=y;·rw[e,h];simp
 simp[e]
theorem Q3J{L:List Q2}:∀p∈Xe L,QD (Xe L) p.nd=some p:=by
 induction L using JQ with
 |D=>intro p h;cases h
 |E L x E=>
  rw[CL];unfold KT;split
  ·rename_i D;simp only[ZJ,Option.isNone_iff_eq_none] at D;intro p I;unfold QD;rw[GR];rcases Qq.1 I with j|j;·have:=E p j;unfold QD at this;rw[this];rfl
   rw[Qw.1 j];have:=D.2;unfold QD at this;rw[this];simp
  exact E
theorem IK{x:Id}(h:ZS x=true):x≠Qf:=by rintro rfl;exact absurd h (by decide)
theorem Nt{L:List Q2}{Z:List Id}(U:QD L Qf=none)(I:∀p∈L,ZS p.nd=true/\QD L p.nd=some p):∀{j:Nat}{p:Q2},p∈L->Ch L j p.nd->J6 L Z p.nd=true->Up (Ux L Z) j p
 |0,p,D,Y,Q=>by obtain⟨q,h,J⟩:=Y;rw[(I p D).2] at h;cases h;exact J
 |j+1,p,D,Y,Q=>by
  obtain⟨q,h,J,W⟩:=Y;rw[(I p D).2] at h;cases h;have a1:J6 L Z p.pa=true:=by unfold J6 at Q |-;rw[Ua] at Q |-;obtain⟨x,hx,O⟩:=Q;simp only[ZJ] at O;refine⟨x,hx,?_⟩;simp only[ZJ];obtain⟨m,hm⟩:=II O.1.2;have a2:=OX (IJ U hm);exact⟨O.1,Ns U hm (by omega) (IK (I p D).1) O.2 (I p D).2 J⟩
  have E:∃q,QD L p.pa=some q:=by
   cases j with
   |zero=>obtain⟨q,X,_⟩:=W;exact⟨q,X⟩
   |succ j=>obtain⟨q,X,_⟩:=W;exact⟨q,X⟩
  obtain⟨q,E⟩:=E;have a0:=DX E;refine⟨J,q,by rw[Q3I a1];exact E,Nt U I (BC E) (by rw[a0];exact W) (by rw[a0];exact a1)⟩
theorem Q3K{L0:List Q2}(U:List Id)(Z:L0.length<=1000):∀p∈Ux (Xe L0) U,∃m,m<=1000/\Up (Ux (Xe L0) U) m p:=by
 intro p h;have I:∀p∈Xe L0,ZS p.nd=true/\QD (Xe L0) p.nd=some p:=λp h=>⟨(Nk h).2,Q3J p h⟩;have D:QD (Xe L0) Qf=none:=by rw[Ku];exact λp h=>IK (I p h).1
 have O:=(V5.1 h).1;have Q:=(V5.1 h).2;have J:=Q;unfold J6 at J;rw[Ua] at J;obtain⟨x,hx,E⟩:=J;simp only[ZJ] at E;obtain⟨m,hm⟩:=II E.1.2;have Y:=OX (IJ D hm);obtain⟨j,X,W⟩:=Nr D hm (by omega) (IK (I p O).1) E.2;have:=CN L0;exact⟨j,by omega,Nt D I O W Q⟩
end
section
open Go Go.RowKit Go.Maps
def EX(w:World)(g j:Nat)(y x:QE):World:=
 ((((((((((((w.setCell (g,j*6+6) y.nd.s.T).setCell (g,j*6+6+1) y.nd.s.R).setCell (g,j*6+6+2) y.nd.I).setCell (g,j*6+6+3) y.path).setCell (g,j*6+6+4) (.bool y.dir)).setCell (g,j*6+6+5) (.bool y.back)).setCell (g,j*6) x.nd.s.T).setCell (g,j*6+1) x.nd.s.R).setCell (g,j*6+2) x.nd.I).setCell (g,j*6+3) x.path).setCell (g,j*6+4) (.bool x.dir)).setCell (g,j*6+5) (.bool x.back)).drew
theorem Nu(w:World)(g j:Nat)(y x:QE):EX w g j y x=((w.setCells g (j*6+6) (ZV y)).setCells g (j*6) (ZV x)).drew:=rfl
theorem Q3L{w:World}{base:Nat}{n g cap j:Nat}{P S:List QE}{y x:QE}(D:P.length=j)(h:w.ownsRow base 65 6 (.slice (g,0) n cap) n ((P++y::x::S).flatMap ZV))(E:0<n):(EX w g j y x).ownsRow base 65 6 (.slice (g,0) n cap) n ((P++x::y::S).flatMap ZV):=by have:=F5 (enc:=ZV) (k:=6) (λ_=>rfl) h E;rw[D] at this;rw[Nu];exact ZY this
theorem Q3M{B:Nat}{a w:World}(h:Below B a w){g:Nat}(D:B<=g)(j:Nat)(y x:QE):Below B a (EX w g j y x):=by rw[Nu];exact(Jd (Jd h D _ _) D _ _).drew
def ItR(N:Nat)(h:World)(v i:Value)(wr:World):Prop:=∃(k:Nat)(I:List QE),k<=N/\i=k/\I.length=k/\wr.ownsRow h 65 6 v I.length (I.flatMap ZV)/\Below h h wr
def InI(n:Nat)(h:World)(v i:Value)(wr:World):Prop:=∃(P S:List QE)(x:QE),(P++x::S).length=n/\i=.int .i64 (P.length:Nat)/\wr.ownsRow h 65 6 v n ((P++x::S).flatMap ZV)/\Below h h wr
theorem Q3N(L0:List Q2)(lv:List Id)(aq:∀q∈L0,q.nm.size<=1000000)(A A':Option Addr)(n c n' c' B:Nat)(w:World)(hR:Rd w B 8 (.slice A n c) n (L0.flatMap Qb))(aj:Rd w B 3 (.slice A' n' c') n' (lv.flatMap Qe))(hB:B<=w)(hn:n<=1000):Calls Tryz.prog 117 #[.slice A n c,.slice A' n' c'] w λe w'=>(∃A c n,e=.returned (.slice A n c))/\Below w w w':=by
 obtain rfl:=QL Qb 8 (λ_=>rfl) (by decide) hR.1;obtain rfl:=QL Qe 3 (λ_=>rfl) (by decide) aj.1;obtain⟨i0,hi,z0,z1,z2⟩:=Zc Mn;have ap:=Ki (Q3i L0 lv aq A A' _ c _ c' B w hR aj hB (by omega));have aG:=Ki (Q3K (L0:=L0) lv hn);have ao:=Kj (∀q∈Ux (Xe L0) lv,q.nm.size<=1000000) (λq hq=>aq q (Nk (V5.1 hq).1).1);have aZ:(Ux (Xe L0) lv).length<=1000:=Q9 (Vl ..) (Q9 (CN L0) hn);have aC:=Ki (λx W (J:Below w w W)=>Bj lv x A' _ c' B W (aj.below' J hB) (Q9 hB J.size));unfold Qa at aC;obtain⟨M,hM⟩:=ex (Ux (Xe L0) lv);rw[hM] at ap aG ao aZ;clear hR aj aq hM hn;go_enter Tryz.func117,Tryz.ntmps117;go_wp2_with fail;refine ap.o.mono ?_;rintro e U ⟨⟨v1,rfl,ai⟩,aK⟩;obtain⟨A1,c1,rfl,_,_⟩:=(Rd.of_own ai).form;have af:=Ki aK;have aW:=Ki (λW (J:Below U U W)=>(Rd.of_own ai).below J);have aV:=Ki (λ(p:Q2) m hm hu hp W (J:Below U U W)=>Q37 M p m hm hu hp ao.o A1 _ c1 U W ((Rd.of_own ai).below J) J.size);clear aK ai ap;go_wp2;go_loopw [6,7,8,9] (λv i _ _ wr=>ItR M.length U v i wr) (λ_ i _ _ _=>M.length-(intOf i).toNat);case atStart=>exact⟨0,[],Qh _,rfl,rfl,⟨rfl,.inl ⟨rfl,rfl⟩⟩,Qc _ _⟩
 case round=>
  rename World=>wo
  obtain⟨k,I,hk,rfl,aI,hO,hb⟩:=hrel;obtain⟨Ao,co,rfl,_,_⟩:=(Rd.of_own hO).form;have HO:=Ki hO;have HB:=Ki hb;by_cases ax:k<M.length
  ·obtain⟨b,o,rfl,aY,av⟩:=Qr Qb 8 (λ_=>rfl) (by decide) (aW.o _ hb) ax;obtain⟨p,hp⟩:=ex (M[k]);rw[hp] at av;obtain⟨m,hm,hu⟩:=aG.o p (by rw[<-hp];exact Zt ax);have aE:=Ki (aV.o p m hm hu (ao.o p (by rw[<-hp];exact Zt ax)));have aH:=Kj (∀(j:Nat)(v:Value),(p:List Value)[j]?=some v->wo.cell? (b,o+k*8+j)=some v) av;have am:=Ki aI;have bf:(0:Int)<=(k:Int):=(by omega);have bg:(k:Int)<(M.length:Int):=(by omega);clear av hp hO hb aY hm hu aI;go_upto_region 7 with(first|((with_reducible refine Ql 124 ?_);refine QA rfl 124 _ rfl _ _ _ rfl aH.o (by kernel_rfl) (GO _) ?_)|((with_reducible refine Zm 124 ?_);refine Zp rfl 124 _ _ rfl _ _ rfl rfl _ _ (Qi _ _) (by kernel_rfl) rfl (by kernel_rfl) ?_;rw[Xm,Zn]));obtain⟨W6,ak⟩:∃W,wo.alloc (.cells p 124)=W:=⟨_,rfl⟩;have h6:=bn ak;have au:=bl ak;rw[ak];obtain⟨E,aL⟩:∃b,wo.heap.size=b:=⟨_,rfl⟩;rw[aL] at h6 |-;have ac:W6.drew.heap[E]?=some (.cells p 124 (0,0)):=h6;have l8:E<W6.drew.heap.size:=(Q5.1 h6).1;have X:=Kj (Below U U W6.drew) ((HB.o.trans (au.mono HB.o.size)).drew);have a7:=Kj (W6.drew.ownsRow U 65 6 (.slice Ao I.length co) I.length (I.flatMap ZV)) (ZY (QB HO.o au))
   have aF:=Ki (λD (h:D.heap[E]?=some (.cells #[p.nd.s.T,p.nd.s.R,p.nd.I,p.pa.s.T,p.pa.s.R,p.pa.I,.string p.nm,.bool p.dir] 124 (0,0)))=>(show D.cell? ⟨E,0,none⟩=some (.int .i64 p.nd.s.T)/\D.cell? ⟨E,1,none⟩=some (.int .i64 p.nd.s.R)/\D.cell? ⟨E,2,none⟩=some (.int .i64 p.nd.I)/\D.cell? ⟨E,3,none⟩=some (.int .i64 p.pa.s.T)/\D.cell? ⟨E,4,none⟩=some (.int .i64 p.pa.s.R)/\D.cell? ⟨E,5,none⟩=some (.int .i64 p.pa.I)/\D.cell? ⟨E,6,none⟩=some (.string p.nm)/\D.cell? ⟨E,7,none⟩=some (.bool p.dir) from⟨cell_of_row D _ 0 _ _ _ h,cell_of_row D _ 1 _ _ _ h,cell_of_row D _ 2 _ _ _ h,cell_of_row D _ 3 _ _ _ h,cell_of_row D _ 4 _ _ _ h,cell_of_row D _ 5 _ _ _ h,cell_of_row D _ 6 _ _ _ h,cell_of_row D _ 7 _ _ _ h⟩));have aU:=Ki (show I.length<=1000 by have:=am.o;omega);have ba:=aU.o;clear ak au h6 aL
   go_region_held3 (λD=>D.cell? (E,0)=p.nd.s.T/\D.cell? (E,1)=p.nd.s.R/\D.cell? (E,2)=p.nd.I/\D.cell? (E,3)=p.pa.s.T/\D.cell? (E,4)=p.pa.s.R/\D.cell? (E,5)=p.pa.I/\D.cell? (E,6)=p.nm/\D.cell? (E,7)=some (.bool p.dir)) (first|exact aF.o _ (by assumption)|go_keep)
    (first
     |(go_at_call 163;refine(aE.o _ X.o).mono ?_;rintro e9 W9 ⟨⟨s,rfl,hs⟩,ad⟩;replace ac:=(ad.block E l8).trans ac;replace l8:=Z1 l8 ad.size;replace a7:=Ki (QB a7.o ad);replace X:=Ki (X.o.trans (ad.mono X.o.size));clear ad)
     |(go_at_call 164;refine(aC.o _ _ (af.o.trans (X.o.mono af.o.size))).mono ?_;obtain⟨hv,aN⟩:∃b,decide (p.nd∈lv)=b:=⟨_,rfl⟩;rw[aN];clear aN;rintro be ah ⟨rfl,ae⟩;replace ac:=(ae.below.block E l8).trans ac;replace l8:=Z1 l8 ae.below.size;replace a7:=Ki (QB a7.o ae.below);replace X:=Ki (X.o.trans (ae.below.mono X.o.size));clear ae;have aA:(ah.alloc (.cells ([.int .i64 p.nd.s.T,.int .i64 p.nd.s.R,.int .i64 p.nd.I,.string s,.bool p.dir,.bool (!hv)]).toArray 65)).heap[E]?=some (.cells p 124 (0,0)):=((Qc _ ah).alloc (Q3 _) _ |>.block E l8).trans ac)
     |(refine Ja _ (by rfl) _ _ _ (by rfl) U 65 i0 _ 6 48 Tryz.underlying62 hi z0 z1 z2 rfl (by omega) _ I.length _ (by rfl) (a7.o.alloc _) ⟨ah.heap.size,0,none⟩ 1 1 [.int .i64 p.nd.s.T,.int .i64 p.nd.s.R,.int .i64 p.nd.I,.string s,.bool p.dir,.bool (!hv)] (by rfl) (by rfl) (Zd ah [.int .i64 p.nd.s.T,.int .i64 p.nd.s.R,.int .i64 p.nd.I,.string s,.bool p.dir,.bool (!hv)] 65) (Ia ⟨p.nd,s,p.dir,!hv⟩) (by omega) (by unfold maxLen;omega) (by omega) (by have:=X.o.size;simp;omega) _ (by rfl) ?_;intro g cap WA aR aw b6 Q;have bd:WA.heap[E]?=some (.cells p 124 (0,0)):=(aw.block E (by rw[Qy];omega) (λe=>ZN (r:=⟨65,6,.slice Ao I.length co,I.length,I.flatMap ZV⟩) (a7.o.alloc _) aA (show(124:TypeId)≠65 by decide) e.symm)).trans aA))
   all_goals
    have aB:=Ki ((X.o.alloc X.o.size (.cells ([.int .i64 p.nd.s.T,.int .i64 p.nd.s.R,.int .i64 p.nd.I,.string s,.bool p.dir,.bool (!hv)]).toArray 65)).grown aw (by have:=X.o.size;simp;omega) (λj hj=>((a7.o.alloc (.cells ([.int .i64 p.nd.s.T,.int .i64 p.nd.s.R,.int .i64 p.nd.I,.string s,.bool p.dir,.bool (!hv)]).toArray 65)).lt j hj).1));have aa:=Ki (show WA.ownsRow U 65 6 (.slice (g,0) (I.length+1) cap) (I.length+1) ((I++[(⟨p.nd,s,p.dir,!hv⟩:QE)]).flatMap ZV) by rw[Zb,Xf];exact aR);have b9:U<=g:=(aa.o.lt g rfl).1;clear ac aA bd l8 aR aw b6 Q aH aF aE hs ba;obtain⟨it,aO⟩:=ex ((⟨p.nd,s,p.dir,!hv⟩:QE));rw[aO] at aa;clear aO;have aQ:I.length+1=k+1:=(by have:=am.o;omega);have aD:=Ki (show(I++[it]).length=k+1 by rw[Qj,XZ];omega);rw[aQ] at aa |-;have bc:k+1<=1000:=(by omega);obtain⟨n1,ay⟩:=ex (k+1);have an:=Ki ay;rw[ay] at aa aD bc |-;clear aQ ay;go_wp2;go_loopw [9] (λi wr=>InI n1 U (.slice (g,0) n1 cap) i wr) (λi _=>(intOf i).toNat);case atStart=>exact⟨I,[],it,aD.o,by have:=an.o;have:=am.o;congr 1;omega,aa.o,aB.o⟩
    case round=>
     obtain⟨P,S,x,aJ,rfl,ar,aM⟩:=hrel;have a6:=Ki aJ;have ab:=Ki ar;have Q:g<wr:=(ar.lt g rfl).2;have a9:=Ki aM;clear aJ ar aM aB aa;rcases Ky P with rfl|⟨Y,y,rfl⟩;·go_wp2;go_quiet (fail);go_wp2;exact⟨⟨k+1,[]++x::S,by omega,by go_num,by rw[a6.o,an.o],by have h:=QB ab.o ((Q0.refl wr).drewN nq).below;rw[a6.o];exact h,a9.o.trans (((Q0.refl wr).drewN nq).below.mono a9.o.size)⟩,by simp[intOf];omega⟩
     obtain⟨j,hj⟩:=ex (Y.length);have aP:((Y++[y]).length:Int)=(j:Int)+1:=(by rw[Qj,hj];rfl);rw[aP];have hM:(Y++[y])++x::S=Y++y::x::S:=(by simp);rw[hM] at ab a6;have bh:j+1<n1:=(by have:=a6.o;simp at this;omega);have cy:∀r u,(ZV y)[r]?=some u->wr.cell? (g,j*6+r)=some u:=λr u hu=>(X8 ab.o _ u (hj▸YJ ZV 6 (λ_=>rfl) Y (x::S) y r u hu)).1
     have Z:∀r u,(ZV x)[r]?=some u->wr.cell? (g,(j+1)*6+r)=some u:=λr u hu=>(X8 ab.o _ u (by
      have:=YJ ZV 6 (λ_=>rfl) (Y++[y]) S x r u hu;rw[Qj,hj] at this
      simpa using this)).1
     have bb:(j+1)*6=j*6+6:=(by omega);rw[bb] at Z;have HJ:=Ki hj;have a0:∀n os,(Sort.grow (wr.drewN n) os).cell? (g,j*6)=y.nd.s.T:=λn os=>QG Q (cy 0 _ rfl) n os;have a1:∀n os,(Sort.grow (wr.drewN n) os).cell? (g,j*6+1)=y.nd.s.R:=λn os=>QG Q (cy 1 _ rfl) n os;have a2:∀n os,(Sort.grow (wr.drewN n) os).cell? (g,j*6+2)=y.nd.I:=λn os=>QG Q (cy 2 _ rfl) n os;have a3:∀n os,(Sort.grow (wr.drewN n) os).cell? (g,j*6+3)=y.path:=λn os=>QG Q (cy 3 _ rfl) n os;have a4:∀n os,(Sort.grow (wr.drewN n) os).cell? (g,j*6+4)=some (.bool y.dir):=λn os=>QG Q (cy 4 _ rfl) n os;have a5:∀n os,(Sort.grow (wr.drewN n) os).cell? (g,j*6+5)=some (.bool y.back):=λn os=>QG Q (cy 5 _ rfl) n os;have b0:∀n os,(Sort.grow (wr.drewN n) os).cell? (g,j*6+6)=x.nd.s.T:=λn os=>QG Q (Z 0 _ rfl) n os;have b1:∀n os,(Sort.grow (wr.drewN n) os).cell? (g,j*6+7)=x.nd.s.R:=λn os=>QG Q (Z 1 _ rfl) n os;have b2:∀n os,(Sort.grow (wr.drewN n) os).cell? (g,j*6+8)=x.nd.I:=λn os=>QG Q (Z 2 _ rfl) n os;have b3:∀n os,(Sort.grow (wr.drewN n) os).cell? (g,j*6+9)=x.path:=λn os=>QG Q (Z 3 _ rfl) n os;have b4:∀n os,(Sort.grow (wr.drewN n) os).cell? (g,j*6+10)=some (.bool x.dir):=λn os=>QG Q (Z 4 _ rfl) n os;have b5:∀n os,(Sort.grow (wr.drewN n) os).cell? (g,j*6+11)=some (.bool x.back):=λn os=>QG Q (Z 5 _ rfl) n os;have i3:(0:Int)<=(j:Int)+1:=(by omega);have i4:(j:Int)+1<(n1:Int):=(by omega)
     have i5:(0:Int)<=(j:Int):=(by omega);have i6:(j:Int)<(n1:Int):=(by omega);have hw:IntKind.i64.wrap (j:Int)=j:=QO _ (by omega);clear hj aP hM Z cy;rcases hc:Op.bytesLess x.path.toList y.path.toList with _|_
     ·go_wp2;refine QK (by kernel_rfl) (by kernel_rfl) ?_;repeat (quiet_step (fail))
      refine QN ?_;rintro W ⟨⟨nq,O⟩,J⟩;have a8:Q0 wr W:=⟨nq,O,J⟩;have al:=a9.o.trans (a8.below.mono a9.o.size);have ag:=Ki (QB ab.o a8.below);clear J a8 a0 a1 a2 a3 a4 a5 b0 b1 b2 b3 b4 b5;go_wp2;exact⟨⟨k+1,Y++y::x::S,by omega,by go_num,by rw[a6.o,an.o],by rw[a6.o];exact ag.o,al⟩,by simp[intOf];omega⟩
     go_wp2;refine QK (by kernel_rfl) (by kernel_rfl) ?_;repeat (quiet_step (fail))
     refine QN ?_;rintro W ⟨⟨nq,O⟩,J⟩;have a8:Q0 wr W:=⟨nq,O,J⟩;have al:=a9.o.trans (a8.below.mono a9.o.size);have az:=QB ab.o a8.below;have A0:W.cell? (g,j*6)=y.nd.s.T:=J▸a0 nq O;have A1:W.cell? (g,j*6+1)=y.nd.s.R:=J▸a1 nq O;have A2:W.cell? (g,j*6+2)=y.nd.I:=J▸a2 nq O;have A3:W.cell? (g,j*6+3)=y.path:=J▸a3 nq O;have A4:W.cell? (g,j*6+4)=some (.bool y.dir):=J▸a4 nq O;have A5:W.cell? (g,j*6+5)=some (.bool y.back):=J▸a5 nq O;have B0:W.cell? (g,j*6+6)=x.nd.s.T:=J▸b0 nq O;have B1:W.cell? (g,j*6+7)=x.nd.s.R:=J▸b1 nq O;have B2:W.cell? (g,j*6+8)=x.nd.I:=J▸b2 nq O;have B3:W.cell? (g,j*6+9)=x.path:=J▸b3 nq O;have B4:W.cell? (g,j*6+10)=some (.bool x.dir):=J▸b4 nq O;have B5:W.cell? (g,j*6+11)=some (.bool x.back):=J▸b5 nq O;have b7:∀i,W.frozen? ⟨g,i,none⟩=false:=YY az (by omega);have ag:=Ki az;clear J a8 az a0 a1 a2 a3 a4 a5 b0 b1 b2 b3 b4 b5;go_wp2;go_region;have aX:=Ki (Q3L HJ.o ag.o (by omega));have aT:=Ki (Q3M al b9 j y x);change Exit.inBlock _ _ _ _ (EX W g j y x);generalize EX W g j y x=W5 at *;clear A0 A1 A2 A3 A4 A5 B0 B1 B2 B3 B4 B5 b7 ag al;go_wp2;go_roundw
     case rel=>
      refine⟨Y,y::S,x,?_,?_,?_,?_⟩;·have:=a6.o;simp at this |-;omega
      ·rw[HJ.o]
      ·exact aX.o
      exact aT.o
     case measure=>simp[intOf]
  have aS:=Ki (af.o.trans (hb.mono af.o.size));clear hO hb;go_wp2;go_ret;exact⟨⟨_,_,_,rfl⟩,aS.o⟩
end
section
open Go Go.RowKit Go.Maps
structure ZF(a:World)(b:Nat)(On:List Q4)(von va vt vh vl:Value)(at_:List Id)(td:List Q2)(hv ls:List QP)(w:World):Prop where
 fam:Zr w b (λ_=>False) [QT von On,ZH va at_,ZI vt td,QV vh hv,QV vl ls]
 box:w.heap[b]?=some (.cells #[von,.slice none 0 0,vh,vl,.slice none 0 0] 151 (0,0))
 bel:Below b a w
 le:a.heap.size=b
def IL(n d:Nat)(at_:List Id)(td:List Q2)(hv ls:List QP):Prop:=at_.length<=n/\td.length<=n/\hv.length<=n/\ls.length<=d/\K7 td
section
variable {a w W:World} {b:Nat} {On:List Q4} {von va vt vh vl v':Value} {at_:List Id} {td:List Q2} {hv ls:List QP}
theorem ZF.lt(h:ZF a b On von va vt vh vl at_ td hv ls w):b<w:=(Q5.1 h.box).1
theorem ZF.below(h:ZF a b On von va vt vh vl at_ td hv ls w)(hb:Below w w W):ZF a b On von va vt vh vl at_ td hv ls W:=
 ⟨h.fam.below hb,(hb.block b h.lt).trans h.box,h.bel.trans (hb.mono (Xn h.lt)),h.le⟩
theorem ZF.rOn(h:ZF a b On von va vt vh vl at_ td hv ls w):w.ownsRow b 27 2 von On.length (On.flatMap Qv):=h.fam.own (QT von On) (by simp)
theorem ZF.rA(h:ZF a b On von va vt vh vl at_ td hv ls w):w.ownsRow b 60 3 va at_.length (at_.flatMap Qe):=h.fam.own (ZH va at_) (by simp)
theorem ZF.rT(h:ZF a b On von va vt vh vl at_ td hv ls w):w.ownsRow b 124 8 vt td.length (td.flatMap Qb):=h.fam.own (ZI vt td) (by simp)
theorem ZF.rH(h:ZF a b On von va vt vh vl at_ td hv ls w):w.ownsRow b 171 5 vh hv.length (hv.flatMap QR):=h.fam.own (QV vh hv) (by simp)
theorem ZF.rL(h:ZF a b On von va vt vh vl at_ td hv ls w):w.ownsRow b 171 5 vl ls.length (ls.flatMap QR):=h.fam.own (QV vl ls) (by simp)
theorem ZF.keep{r:Z3}(h:ZF a b On von va vt vh vl at_ td hv ls w)(E:r∈[QT von On,ZH va at_,ZI vt td,QV vh hv,QV vl ls])(D:w.grownBy W r.v.ownBlock){k:Nat}{cs:Array Value}{t:TypeId}(j:w.heap[k]?=some (.cells cs t (0,0)))(I:t≠r.e):W.heap[k]?=some (.cells cs t (0,0)):=
 (D.block k (Q5.1 j).1 (λe=>ZN (h.fam.own r E) j I e.symm)).trans j
theorem ZF.grown{r:Z3}(h:ZF a b On von va vt vh vl at_ td hv ls w)(D:r∈[QT von On,ZH va at_,ZI vt td,QV vh hv,QV vl ls])(j:w.grownBy W r.v.ownBlock):Below b a W:=UU h.bel (Eg h.le.symm) (h.fam.own r D) j
theorem ZF.pushA(h:ZF a b On von va vt vh vl at_ td hv ls w)(x:Id)(E:W.ownsRow b 60 3 v' (at_.length+1) (at_.flatMap Qe++Qe x))(j:w.grownBy W va.ownBlock)(D:v'.ownBlock=va.ownBlock\/v'.ownBlock=some w.heap.size):ZF a b On von v' vt vh vl (at_++[x]) td hv ls W:=by
 refine⟨?_,h.keep (r:=ZH va at_) (by simp) j h.box (by show(151:TypeId)≠60;decide),h.grown (r:=ZH va at_) (by simp) j,h.le⟩;have e:[QT von On,ZH v' (at_++[x]),ZI vt td,QV vh hv,QV vl ls]=[QT von On,ZH va at_,ZI vt td,QV vh hv,QV vl ls].set 1 ⟨60,3,v',at_.length+1,at_.flatMap Qe++Qe x⟩:=by simp[ZH]
 rw[e];exact h.fam.put2 (i:=1) (r:=ZH va at_) rfl E j D (λ_ hb=>hb.elim)
theorem ZF.pushT(h:ZF a b On von va vt vh vl at_ td hv ls w)(x:Q2)(E:W.ownsRow b 124 8 v' (td.length+1) (td.flatMap Qb++Qb x))(j:w.grownBy W vt.ownBlock)(D:v'.ownBlock=vt.ownBlock\/v'.ownBlock=some w.heap.size):ZF a b On von va v' vh vl at_ (td++[x]) hv ls W:=by
 refine⟨?_,h.keep (r:=ZI vt td) (by simp) j h.box (by show(151:TypeId)≠124;decide),h.grown (r:=ZI vt td) (by simp) j,h.le⟩;have e:[QT von On,ZH va at_,ZI v' (td++[x]),QV vh hv,QV vl ls]=[QT von On,ZH va at_,ZI vt td,QV vh hv,QV vl ls].set 2 ⟨124,8,v',td.length+1,td.flatMap Qb++Qb x⟩:=by simp[ZI]
 rw[e];exact h.fam.put2 (i:=2) (r:=ZI vt td) rfl E j D (λ_ hb=>hb.elim)
theorem IN{rs:List Z3}{w:World}{b i:Nat}{u:Value}{cs:Array Value}{t:TypeId}(h:Zr w b (λ_=>False) rs)(D:w.heap[b]?=some (.cells cs t (0,0)))(E:∀r∈rs,t≠r.e):Zr (w.setCell (b,i) u) b (λ_=>False) rs:=
 ⟨λr j=>K6 (h.own r j) (λe=>ZN (h.own r j) D (E r j) e.symm),h.free,h.apart⟩
theorem ZF.pushH(h:ZF a b On von va vt vh vl at_ td hv ls w)(x:QP)(J:W.ownsRow b 171 5 v' (hv.length+1) (hv.flatMap QR++QR x))(j:w.grownBy W vh.ownBlock)(I:v'.ownBlock=vh.ownBlock\/v'.ownBlock=some w.heap.size):ZF a b On von va vt v' vl at_ td (hv++[x]) ls (W.setCell (b,2) v'):=by
 have D:=h.keep (r:=QV vh hv) (by simp) j h.box (by show(151:TypeId)≠171;decide);refine⟨IN ?_ D ?_,JV D 2 v',(h.grown (r:=QV vh hv) (by simp) j).setCell (p:=(b,2)) (Q3 b) _,h.le⟩
 ·have e:[QT von On,ZH va at_,ZI vt td,QV v' (hv++[x]),QV vl ls]=[QT von On,ZH va at_,ZI vt td,QV vh hv,QV vl ls].set 3 ⟨171,5,v',hv.length+1,hv.flatMap QR++QR x⟩:=by simp[QV]
  rw[e];exact h.fam.put2 (i:=3) (r:=QV vh hv) rfl J j I (λ_ hb=>hb.elim)
 intro r E;simp only[QI,V3,JD] at E;rcases E with rfl|rfl|rfl|rfl|rfl<;>simp only[QT,ZH,ZI,QV]<;>decide
theorem ZF.pushL(h:ZF a b On von va vt vh vl at_ td hv ls w)(x:QP)(J:W.ownsRow b 171 5 v' (ls.length+1) (ls.flatMap QR++QR x))(j:w.grownBy W vl.ownBlock)(I:v'.ownBlock=vl.ownBlock\/v'.ownBlock=some w.heap.size):ZF a b On von va vt vh v' at_ td hv (ls++[x]) (W.setCell (b,3) v'):=by
 have D:=h.keep (r:=QV vl ls) (by simp) j h.box (by show(151:TypeId)≠171;decide);refine⟨IN ?_ D ?_,JV D 3 v',(h.grown (r:=QV vl ls) (by simp) j).setCell (p:=(b,3)) (Q3 b) _,h.le⟩
 ·have e:[QT von On,ZH va at_,ZI vt td,QV vh hv,QV v' (ls++[x])]=[QT von On,ZH va at_,ZI vt td,QV vh hv,QV vl ls].set 4 ⟨171,5,v',ls.length+1,ls.flatMap QR++QR x⟩:=by simp[QV]
  rw[e];exact h.fam.put2 (i:=4) (r:=QV vl ls) rfl J j I (λ_ hb=>hb.elim)
 intro r E;simp only[QI,V3,JD] at E;rcases E with rfl|rfl|rfl|rfl|rfl<;>simp only[QT,ZH,ZI,QV]<;>decide
theorem ZF.start{E:World}(D:E.ownsRow b 27 2 von On.length (On.flatMap Qv))(hb:E.heap[b]?=some (.cells #[.slice none 0 0,.slice none 0 0,.slice none 0 0,.slice none 0 0,.slice none 0 0] 151 (0,0)))(X:Below b a E)(Z:a.heap.size=b):ZF a b On von (.slice none 0 0) (.slice none 0 0) (.slice none 0 0) (.slice none 0 0) [] [] [] [] (E.setCell (b,0) von):=by
 have I:∀r∈[ZH (.slice none 0 0) [],ZI (.slice none 0 0) [],QV (.slice none 0 0) [],QV (.slice none 0 0) []],r.own E b/\r.v.ownBlock=none:=by intro r D;simp only[QI,V3,JD] at D;rcases D with rfl|rfl|rfl|rfl<;>exact⟨⟨rfl,.inl ⟨rfl,rfl⟩⟩,rfl⟩
 refine⟨IN (cs:=#[.slice none 0 0,.slice none 0 0,.slice none 0 0,.slice none 0 0,.slice none 0 0]) (t:=151) ⟨?_,λ_ _ _ _ h=>h,?_⟩ hb ?_,JV hb 0 von,X.setCell (p:=(b,0)) (Q3 b) _,Z⟩
 ·intro r h;rcases QI.1 h with rfl|h;·exact D
  exact(I r h).1
 ·intro i j Y r s Q U k J O
  cases i with
  |zero=>
   cases j with
   |zero=>exact Y rfl
   |succ j=>rw[(I s (J9 U)).2] at O;cases O
  |succ i=>rw[(I r (J9 Q)).2] at J;cases J
 intro r D;simp only[QI,V3,JD] at D;rcases D with rfl|rfl|rfl|rfl|rfl<;>simp only[QT,ZH,ZI,QV]<;>decide
end
end
section
open Go
section
variable {P:Program} {l:List Oper} {Q:Exit->Act->World->Prop} {S:World->Prop} {n g:Nat}
def EY(l:List Oper)(n i:Nat):Bool:=Region.noSelect l.toArray&&decide (i<n)&&(List.range (l.length-n)).all λt=>Gp l 6 (n+t) i
theorem Nv{i:Nat}{D:Array Bool}(O:UX l D)(J:EY l n i=true)(W:D.getD i true=false):∀t,n<=t->t∉Region.ready .any l.toArray D:=by
 intro t X I;simp only[EY,ZJ] at J;have Y:t<l.length:=by obtain⟨_,Z,U,_⟩:=Uh.1 I;have:=(Q5.1 U).1;simpa using this
 have h:=V4.1 J.2 (t-n) (Uc.2 (by omega));rw[show n+(t-n)=t by omega] at h;unfold Gp at h;rw[G4] at h
 have:D.getD i true=true:=by
  rcases h with h|h;·exact EK I h
  obtain⟨j,_,E⟩:=Ua.1 h;rw[ZJ] at E;exact AR 5 O E.2 (EK I E.1)
 rw[W] at this;cases this
theorem Qn.first3{i:Nat}{U:Oper}{v:Value}(hi:l.toArray[i]?=some U)(hB:EY l n i=true)(hQ:∀c a w,Q (.panic c) (a.put U.dst v) w->Q (.panic c) a w):∀(f:Nat)(D:Array Bool)(a:Act)(w:World),UX l D->(∀j W,l.toArray[j]?=some W->j≠i->D.getD j true=false->(∀e∈W.after,Region.binds .any e=true->e.on≠i)->U.apart l.toArray W=true)->i∈Region.ready .any l.toArray D->YieldsIf P l.toArray S U v a->S w->Qn P l Q S n g f (D.setIfInBounds i true) (a.put U.dst v) w->Qn P l Q S n g (f+1) D a w:=by
 have a0:=hB
 simp only[EY,ZJ,XD] at a0
 have ad:=a0.1.2
 have a6:=Region.noSelect_spec a0.1.1
 intro f
 induction f with
 |zero=>
  intro D a w hc _ I hy X H;have O:=(Uh.1 I).1;refine⟨λh=>(by rw[h] at I;cases I),λj J=>?_⟩
  have a1:j<n:=by
   rcases UH j n with h|h;·exact h
   exact absurd J (Nv hc hB O j h)
  refine⟨a1,?_⟩;by_cases E:j=i;·subst E;exact hy.wpOp hi X ⟨X,H⟩
  have:=H.1 j (G5 J E);omega
 |succ f ih=>
  intro D a w hc a3 I hy X H;have O:=(Uh.1 I).1;refine⟨λh=>(by rw[h] at I;cases I),λj J=>?_⟩
  have a1:j<n:=by
   rcases UH j n with h|h;·exact h
   exact absurd J (Nv hc hB O j h)
  refine⟨a1,?_⟩;by_cases E:j=i;·subst E;exact hy.wpOp hi X ⟨X,H⟩
  have Z:=(H.2 j (G5 J E)).2;obtain⟨a5,W,a2,a7⟩:=Uh.1 J;have ac:∀e∈W.after,Region.binds .any e=true->e.on≠i:=λe he hb a8=>by have Z:=a7 e he hb;rw[a8,getD_both O] at Z;cases Z
  have h2:=wpOp_putIf a2 (a3 j W a2 E a5 ac) (λcs b=>a6 i U cs b hi) (λcs b=>a6 j W cs b a2) hQ hy Z
  have a9:∀k Y,l.toArray[k]?=some Y->k≠i->(D.setIfInBounds j true).getD k true=false ->
    (∀e∈Y.after,Region.binds .any e=true->e.on≠i)->U.apart l.toArray Y=true:=λk Y hk aa O ab=>by
   refine a3 k Y hk aa ?_ ab
   by_cases a4:j=k
   ·subst a4;exact a5
   ·rw[getD_set_ne true a4] at O;exact O
  refine wpOp_mono (λa' w' h3=>⟨h3.2.1,ih (D.setIfInBounds j true) a' w' (hc.set J) a9 (G5 I (XF E)) h3.1 h3.2.1 ?_⟩) h2;rw[Array.setIfInBounds_comm _ _ E];exact h3.2.2
theorem Qn.take3{i f:Nat}{D:Oper}{v:Value}{j:Array Bool}{a:Act}{w:World}(X:l[i]?=some D)(I:EY l n i=true)(Z:j.size=l.length)(U:AQ l j=true)(W:Region.free .any l.toArray j i=true)(Y:(Region.ready .any l.toArray j).contains i=true)(J:∀c a w,Q (.panic c) (a.put D.dst v) w->Q (.panic c) a w)(hy:YieldsIf P l.toArray S D v a)(O:S w)(h:Qn P l Q S n g f (j.setIfInBounds i true) (a.put D.dst v) w):Qn P l Q S n g (f+1) j a w:=by
 have E:l.toArray[i]?=some D:=by simpa using X
 exact Qn.first3 E I J f j a w (Ln Z U) (Region.free_spec E W) (by simpa using Y) hy O h
end
section
variable {P:Program} {l:List Oper} {Q:Exit->Act->World->Prop} {S:World->Prop} {n g:Nat}
theorem T3(i:Nat){f:Nat}{oi:Oper}{v:Value}{listed:Array Bool}{a:Act}{w:World}(hS:S w)(h:Qn P l Q S n g f (listed.setIfInBounds i true) (a.put oi.dst v) w)(hi:l[i]?=some oi:=by rfl)(hy:YieldsIf P l.toArray S oi v a:=by exact .inl ⟨by rfl,by (intro w' hSw;(try dsimp only at hSw);go_simp;(try with_reducible rfl))⟩)(hQ:∀c a w,Q (.panic c) (a.put oi.dst v) w->Q (.panic c) a w:=by exact λ_ _ _ h=>h)(hB:EY l n i=true:=by kernel_rfl)(hs:listed.size=l.length:=by rfl)(hcl:AQ l listed=true:=by kernel_rfl)(hf:Region.free .any l.toArray listed i=true:=by kernel_rfl)(hr:(Region.ready .any l.toArray listed).contains i=true:=by kernel_rfl):Qn P l Q S n g (f+1) listed a w:=Qn.take3 hi hB hs hcl hf hr hQ hy hS h
end
end
end Go.Proofs.YtfpafikfjjckeaaGreatDoor
