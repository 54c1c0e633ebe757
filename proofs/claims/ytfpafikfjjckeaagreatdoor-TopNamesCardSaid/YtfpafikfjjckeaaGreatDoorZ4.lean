import Derived.Test.YtfpafikfjjckeaaGreatDoorZ3
set_option maxRecDepth 100000
set_option maxHeartbeats 200000000
namespace Go.Proofs.YtfpafikfjjckeaaGreatDoor
open Go Go.RowKit Go.Maps
theorem Q3t(g:Q1)(o:Qt)(k:Int)(hk:Qu k)(B:Nat)(w:World)(hO:XH w B o)(hB:B<=w)(aB:o.tx.size<=1000000000)(aK:o.name.size<=1000000)(J:o.k=3):Calls Tryz.prog 205 #[Z2 g,Qz o,k] w (GD w):=by
 have an:=Ki (λW=>KU g o.node k W);have ap:=Ki (λW=>VH g o.up k W);have ao:=Ki (λW=>VH g o.af k W);have aA:=Ki (λW=>Km o.name W (by omega));have au:o.dv.n=o.dots.length:=(Rd.len hO.d).1;have av:o.ev.n=o.els.length:=(Rd.len hO.e).1;have ax:=Ki (λW (U:Below w w W)=>FQ g o.dots o.dv.A o.dv.n o.dv.c B W (by have ag:=hO.d.below' U hB;rw[<-au] at ag;exact ag) (Q9 hB U.size));have ay:=Ki (λW (U:Below w w W)=>FR g k o.els o.ev.A o.ev.n o.ev.c B W (by have ag:=hO.e.below' U hB;rw[<-av] at ag;exact ag) (Q9 hB U.size));have az:=Ki (λW=>FS o.tx W aB);obtain⟨ya,Y⟩:∃y,Zq g.s k o.node=y:=⟨_,rfl⟩;rw[Y] at an;clear Y;obtain⟨yu,Y⟩:∃y,X9 g.s k o.up=y:=⟨_,rfl⟩;rw[Y] at ap;clear Y;obtain⟨yf,Y⟩:∃y,X9 g.s k o.af=y:=⟨_,rfl⟩;rw[Y] at ao;clear Y;obtain⟨yn,Y⟩:∃y,JJ o.name.toList=y:=⟨_,rfl⟩;rw[Y] at aA;clear Y;have a9:=Ki J;clear hO au av J;have aM:=Xt;have aD:=ZR;unfold Qa Z2 Qg Sl.v at an ap ao;unfold Z2 Qg Sl.v at ax ay;have al:=FL o;unfold Qz Qp Sl.v at al;have al:=Ki al;have am:=FM o;unfold Qz Qp Sl.v at am;have am:=Ki am;have aj:=FN o;unfold Qz Qp Sl.v at aj;have aj:=Ki aj;have ah:=FO o;unfold Qz Qp Sl.v at ah;have ah:=Ki ah;have ak:=FP o;unfold Qz Qp Sl.v at ak;have ak:=Ki ak;unfold Z2 Qz Qg Qp Sl.v;go_enter DA,Dw;go_upto_region 2 with(fail);obtain⟨D,a8⟩:∃W,((w.alloc (.cells g 31)).alloc (.cells o 72)).alloc (.cells #[g.s.T,g.s.R,k] 60)=W:=⟨_,rfl⟩
 have I:=Kj (Below w w D) (by rw[<-a8];exact((((Q0.refl w).alloc _).alloc _).alloc _).below);have J:D.heap[w.heap.size]?=some (.cells g 31 (0,0)):=by rw[<-a8];(simp only[Zs,Qy,reduceIte];repeat (first|rw[Q7 (by omega)]|rw[Q6 (by omega)]))
 have h1:D.heap[w.heap.size+1]?=some (.cells o 72 (0,0)):=by rw[<-a8];(simp only[Zs,Qy,reduceIte];repeat (first|rw[Q7 (by omega)]|rw[Q6 (by omega)]))
 have h7:D.heap[w.heap.size+2]?=some (.cells #[g.s.T,g.s.R,k] 60 (0,0)):=by rw[<-a8];(simp only[Zs,Qy,reduceIte];repeat (first|rw[Q7 (by omega)]|rw[Q6 (by omega)]))
 rw[a8];obtain⟨b7,ai⟩:∃b,w.heap.size+2=b:=⟨_,rfl⟩;obtain⟨b1,ar⟩:∃b,w.heap.size+1=b:=⟨_,rfl⟩;obtain⟨b0,aq⟩:∃b,w.heap.size=b:=⟨_,rfl⟩;rw[ai] at h7;try rw[show w.heap.size+1+1=b7 from ai]
 try rw[ai]
 rw[ar] at h1 |-;rw[aq] at J |-
 have HX:=Ki (λW (U:Below D D W)=>(show W.cell? (b1,0)=o.k/\W.cell? (b1,1)=o.node.s.T/\W.cell? (b1,2)=o.node.s.R/\W.cell? (b1,3)=o.node.I/\W.cell? (b1,4)=o.up.s.T/\W.cell? (b1,5)=o.up.s.R/\W.cell? (b1,6)=o.up.I/\W.cell? (b1,7)=o.name/\W.cell? (b1,9)=some (.slice o.dv.A o.dv.n o.dv.c)/\W.cell? (b1,10)=o.af.s.T/\W.cell? (b1,11)=o.af.s.R/\W.cell? (b1,12)=o.af.I/\W.cell? (b1,13)=o.el.s.T/\W.cell? (b1,14)=o.el.s.R/\W.cell? (b1,15)=o.el.I/\W.cell? (b1,16)=o.tx/\W.cell? (b1,17)=some (.slice o.ev.A o.ev.n o.ev.c)/\W.cell? (b7,0)=g.s.T/\W.cell? (b7,1)=g.s.R/\W.cell? (b7,2)=k from by
  have E:=(U.block b1 (Q5.1 h1).1).trans h1;have g7:=(U.block b7 (Q5.1 h7).1).trans h7
  exact⟨cR 0 E,cR 1 E,cR 2 E,cR 3 E,cR 4 E,cR 5 E,cR 6 E,cR 7 E,cR 9 E,cR 10 E,cR 11 E,cR 12 E,cR 13 E,cR 14 E,cR 15 E,cR 16 E,cR 17 E,cR 0 g7,cR 1 g7,cR 2 g7⟩))
 have aa:=Ki (λW (U:Below D D W)=>Zz (w:=W) (cs:=g) ((U.block b0 (Q5.1 J).1).trans J));have ab:=Ki (λW (U:Below D D W)=>Zz (w:=W) (cs:=o) ((U.block b1 (Q5.1 h1).1).trans h1));have h:=Ki (Qc D D);clear a8 aq ar ai J h1 h7;obtain⟨Z,c1,c2,c3,c4,c5,c6,c7,c9,a0,a1,a2,a3,a4,a5,a6,a7,w0,w1,w2⟩:=HX.o D h.o;have O:=Kj (∀(j:Nat)(v:Value),(g:List Value)[j]?=some v->D.cell? (b0,0+j)=some v) (aa.o D h.o);have Q:=Kj (∀(j:Nat)(v:Value),(o:List Value)[j]?=some v->D.cell? (b1,0+j)=some v) (ab.o D h.o);have aE:(o.k==0)=false:=by have J:=a9.o;rw[J];rfl
 have aF:(o.k==1)=false:=by have J:=a9.o;rw[J];rfl
 have aG:(o.k==2)=false:=by have J:=a9.o;rw[J];rfl
 have aH:(o.k==3)=true:=by have J:=a9.o;rw[J];rfl
 clear a9;go_wp2_with (fail);refine(az.o _).mono ?_;rintro e ac ⟨n,z,rfl,aL,X⟩;replace h:=Ki (h.o.trans (X.mono h.o.size));clear X O Q Z c1 c2 c3 c4 c5 c6 c7 c9 a0 a1 a2 a3 a4 a5 a6 a7 w0 w1 w2;obtain⟨Z,c1,c2,c3,c4,c5,c6,c7,c9,a0,a1,a2,a3,a4,a5,a6,a7,w0,w1,w2⟩:=HX.o ac h.o;have O:=Kj (∀(j:Nat)(v:Value),(g:List Value)[j]?=some v->ac.cell? (b0,0+j)=some v) (aa.o ac h.o);have Q:=Kj (∀(j:Nat)(v:Value),(o:List Value)[j]?=some v->ac.cell? (b1,0+j)=some v) (ab.o ac h.o);go_wp2_with (first|((with_reducible refine Ql 31 ?_);refine QA rfl 31 _ rfl _ _ _ rfl O.o (by kernel_rfl) (Zl _) ?_)|((with_reducible refine Ql 72 ?_);refine QA rfl 72 _ rfl _ _ _ rfl Q.o (by kernel_rfl) (Z6 _) ?_)|((with_reducible refine Ql 31 ?_);refine X1 (by rfl) 31 _ rfl _ _ _ rfl O.o (by kernel_rfl) (Zl _) ?_)|((with_reducible refine Ql 72 ?_);refine X1 (by rfl) 72 _ rfl _ _ _ rfl Q.o (by kernel_rfl) (Z6 _) ?_));refine(an.o _).mono ?_;rintro e ad ⟨rfl,X⟩;replace h:=Ki (h.o.trans (X.below.mono h.o.size));clear X O Q Z c1 c2 c3 c4 c5 c6 c7 c9 a0 a1 a2 a3 a4 a5 a6 a7 w0 w1 w2;obtain⟨Z,c1,c2,c3,c4,c5,c6,c7,c9,a0,a1,a2,a3,a4,a5,a6,a7,w0,w1,w2⟩:=HX.o ad h.o;have O:=Kj (∀(j:Nat)(v:Value),(g:List Value)[j]?=some v->ad.cell? (b0,0+j)=some v) (aa.o ad h.o);have Q:=Kj (∀(j:Nat)(v:Value),(o:List Value)[j]?=some v->ad.cell? (b1,0+j)=some v) (ab.o ad h.o);cases ya;·go_wp2;go_ret;exact⟨⟨_,rfl,by omega,by omega⟩,I.o.trans (h.o.mono I.o.size)⟩
 go_wp2_with (first|((with_reducible refine Ql 31 ?_);refine QA rfl 31 _ rfl _ _ _ rfl O.o (by kernel_rfl) (Zl _) ?_)|((with_reducible refine Ql 72 ?_);refine QA rfl 72 _ rfl _ _ _ rfl Q.o (by kernel_rfl) (Z6 _) ?_)|((with_reducible refine Ql 31 ?_);refine X1 (by rfl) 31 _ rfl _ _ _ rfl O.o (by kernel_rfl) (Zl _) ?_)|((with_reducible refine Ql 72 ?_);refine X1 (by rfl) 72 _ rfl _ _ _ rfl Q.o (by kernel_rfl) (Z6 _) ?_));refine(ao.o _).mono ?_;rintro e ae ⟨rfl,X⟩;replace h:=Ki (h.o.trans (X.below.mono h.o.size));clear X O Q Z c1 c2 c3 c4 c5 c6 c7 c9 a0 a1 a2 a3 a4 a5 a6 a7 w0 w1 w2
 as_aux_lemma=>
  obtain⟨Z,c1,c2,c3,c4,c5,c6,c7,c9,a0,a1,a2,a3,a4,a5,a6,a7,w0,w1,w2⟩:=HX.o ae h.o;have O:=Kj (∀(j:Nat)(v:Value),(g:List Value)[j]?=some v->ae.cell? (b0,0+j)=some v) (aa.o ae h.o);have Q:=Kj (∀(j:Nat)(v:Value),(o:List Value)[j]?=some v->ae.cell? (b1,0+j)=some v) (ab.o ae h.o);cases yf;·as_aux_lemma=>go_wp2;go_ret;exact⟨⟨_,rfl,by omega,by omega⟩,I.o.trans (h.o.mono I.o.size)⟩
  as_aux_lemma=>
   have hE:=Nm o.el g.s k hk;rcases hE2:YZ g.s k o.el with _|_<;>rw[hE2] at hE<;>clear hE2;·as_aux_lemma=>go_wp2;go_ret;exact⟨⟨_,rfl,by omega,by omega⟩,I.o.trans (h.o.mono I.o.size)⟩
   as_aux_lemma=>
    by_cases aw:z=0
    ·as_aux_lemma=>
      have aC:(z==0)=true:=(by rw[aw];rfl);by_cases aI:(n:Int)>=1
      ·as_aux_lemma=>
        by_cases aJ:(n:Int)<=2000
        ·as_aux_lemma=>
          go_wp2_with (first|((with_reducible refine Ql 31 ?_);refine QA rfl 31 _ rfl _ _ _ rfl O.o (by kernel_rfl) (Zl _) ?_)|((with_reducible refine Ql 72 ?_);refine QA rfl 72 _ rfl _ _ _ rfl Q.o (by kernel_rfl) (Z6 _) ?_)|((with_reducible refine Ql 31 ?_);refine X1 (by rfl) 31 _ rfl _ _ _ rfl O.o (by kernel_rfl) (Zl _) ?_)|((with_reducible refine Ql 72 ?_);refine X1 (by rfl) 72 _ rfl _ _ _ rfl Q.o (by kernel_rfl) (Z6 _) ?_));refine(ah.o _).mono ?_;rintro e af ⟨⟨y,rfl⟩,X⟩;replace h:=Ki (h.o.trans (X.below.mono h.o.size));clear X O Q Z c1 c2 c3 c4 c5 c6 c7 c9 a0 a1 a2 a3 a4 a5 a6 a7 w0 w1 w2;obtain⟨Z,c1,c2,c3,c4,c5,c6,c7,c9,a0,a1,a2,a3,a4,a5,a6,a7,w0,w1,w2⟩:=HX.o af h.o;have O:=Kj (∀(j:Nat)(v:Value),(g:List Value)[j]?=some v->af.cell? (b0,0+j)=some v) (aa.o af h.o);have Q:=Kj (∀(j:Nat)(v:Value),(o:List Value)[j]?=some v->af.cell? (b1,0+j)=some v) (ab.o af h.o);cases y;·as_aux_lemma=>go_wp2;go_ret;exact⟨⟨_,rfl,by omega,by omega⟩,I.o.trans (h.o.mono I.o.size)⟩
          as_aux_lemma=>go_wp2;go_ret;exact⟨⟨_,rfl,by omega,by omega⟩,I.o.trans (h.o.mono I.o.size)⟩
        as_aux_lemma=>go_wp2;go_ret;exact⟨⟨_,rfl,by omega,by omega⟩,I.o.trans (h.o.mono I.o.size)⟩
      as_aux_lemma=>go_wp2;go_ret;exact⟨⟨_,rfl,by omega,by omega⟩,I.o.trans (h.o.mono I.o.size)⟩
    as_aux_lemma=>have aC:(z==0)=false:=(by simp[aw]);go_wp2;go_ret;exact⟨⟨_,rfl,by omega,by omega⟩,I.o.trans (h.o.mono I.o.size)⟩
theorem Q3u(g:Q1)(o:Qt)(k:Int)(J:Qu k)(B:Nat)(w:World)(D:XH w B o)(j:B<=w)(I:o.tx.size<=1000000000)(E:o.name.size<=1000000):Calls Tryz.prog 205 #[Z2 g,Qz o,k] w (GD w):=by
 rcases (show o.k=0\/o.k=1\/o.k=2\/o.k=3\/o.k=4\/(¬o.k=0/\¬o.k=1/\¬o.k=2/\¬o.k=3/\¬o.k=4) by omega) with h|h|h|h|h|h;·exact Q3o g o k J B w D j I E h
 ·exact Q3p g o k B w D j I E h
 ·exact Q3q g o k B w D j I E h
 ·exact Q3t g o k J B w D j I E h
 ·exact Q3r g o k B w D j I E h
 exact Q3s g o k B w D j I E h
end Go.Proofs.YtfpafikfjjckeaaGreatDoor
