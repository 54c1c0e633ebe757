import Derived.Deep.LoopGhost
import Derived.Test.YtfpafikfjjckeaaGreatDoorZ23
set_option maxRecDepth 100000
set_option maxHeartbeats 200000000
namespace Go.Proofs.YtfpafikfjjckeaaGreatDoor
section
open Go Go.RowKit Go.Maps Go.Shelf
def CK(T:List QJ)(h:World)(j i:Value)(wr:World):Prop:=
 ∃k:Nat,k<=T.length/\i=k/\wr.ownsRow h 124 8 j (Xv (T.take k)).length ((Xv (T.take k)).flatMap Qb)/\Below h h wr
theorem Q2X{l L:List QJ}(j:GC L)(D:∀h,h∈L↔XK QJ.at_ l h):Fd l L:=⟨UE.1 j,D⟩
def Q2Y(L:List Q2)(x:Q2)(n:Nat)(w:World)(v:Value)(i:Value)(wr:World):Prop:=
 ∃P S,L=P++S/\i=.int .i64 (P.length:Nat)/\(∀y∈S,x.nd.Lt y.nd)/\wr.ownsRow w 124 8 v n ((P++x::S).flatMap Qb)/\Below w w wr
def EW(w:World)(g j:Nat)(y x:Q2):World:=
 ((((((((((((((((w.setCell ⟨g,j*8+8,none⟩ y.nd.s.T).setCell ⟨g,j*8+8+1,none⟩ y.nd.s.R).setCell ⟨g,j*8+8+2,none⟩ y.nd.I).setCell ⟨g,j*8+8+3,none⟩ y.pa.s.T).setCell ⟨g,j*8+8+4,none⟩ y.pa.s.R).setCell ⟨g,j*8+8+5,none⟩ y.pa.I).setCell ⟨g,j*8+8+6,none⟩ (.string y.nm)).setCell ⟨g,j*8+8+7,none⟩ (.bool y.dir)).setCell ⟨g,j*8,none⟩ x.nd.s.T).setCell ⟨g,j*8+1,none⟩ x.nd.s.R).setCell ⟨g,j*8+2,none⟩ x.nd.I).setCell ⟨g,j*8+3,none⟩ x.pa.s.T).setCell ⟨g,j*8+4,none⟩ x.pa.s.R).setCell ⟨g,j*8+5,none⟩ x.pa.I).setCell ⟨g,j*8+6,none⟩ (.string x.nm)).setCell ⟨g,j*8+7,none⟩ (.bool x.dir)).drew
theorem Ni(w:World)(g j:Nat)(y x:Q2):EW w g j y x=((w.setCells g (j*8+8) (Qb y)).setCells g (j*8) (Qb x)).drew:=rfl
theorem Q2Z{w:World}{base:Nat}{n g cap j:Nat}{P S:List Q2}{y x:Q2}(D:P.length=j)(h:w.ownsRow base 124 8 (.slice (some ⟨g,0,none⟩) n cap) n ((P++y::x::S).flatMap Qb))(E:0<n):(EW w g j y x).ownsRow base 124 8 (.slice (some ⟨g,0,none⟩) n cap) n ((P++x::y::S).flatMap Qb):=by have:=F5 (enc:=Qb) (k:=8) (λ_=>rfl) h E;rw[D] at this;rw[Ni];exact ZY this
theorem Q30{B:Nat}{a w:World}(h:Below B a w){g:Nat}(D:B<=g)(j:Nat)(y x:Q2):Below B a (EW w g j y x):=by rw[Ni];exact(Jd (Jd h D _ _) D _ _).drew
theorem Nj{T:List QJ}{k n:Nat}{h wr:World}{v:Value}{L P S:List Q2}{x:Q2}(U:k<T.length)(J:Xv (T.take (k+1))=Y3 L x)(E:Y3 L x=XW x L)(Z:ZT L)(X:QD L x.nd=none)(W:L.length+1=n)(j:L=P++S)(O:∀y∈S,x.nd.Lt y.nd)(I:∀z,P.getLast?=some z->¬x.nd.Lt z.nd)(Y:wr.ownsRow h 124 8 v n ((P++x::S).flatMap Qb))(hb:Below h h wr):CK T h v (.int .i64 ((k:Int)+1)) wr:=by
 have D:P++x::S=XW x L:=by subst j;exact Q2Q Z X O I
 have Q:(P++x::S).length=n:=by rw[<-W,j];simp;omega
 refine⟨k+1,U,by simp,?_,hb⟩;rw[J,E,<-D,Q];exact Y
theorem K6{w:World}{base:Nat}{e:TypeId}{K n b i:Nat}{v u:Value}{xs:List Value}(h:w.ownsRow base e K v n xs)(O:some b≠v.ownBlock):(w.setCell ⟨b,i,none⟩ u).ownsRow base e K v n xs:=by
 refine⟨h.1,?_⟩;rcases h.2 with j|⟨g,cap,E,D,j,I,J⟩;·exact .inl j
 refine .inr ⟨g,cap,E,D,j,(YV _ _ _ _ (λe=>O ?_)).trans I,J⟩;subst D;simp[Value.ownBlock,e]
theorem Q31(aa:List Id)(bl:List Q2)(A A':Option Addr)(n c n' c' B:Nat)(w:World)(hR:Rd w B 3 (.slice A n c) n (aa.flatMap Qe))(aZ:Rd w B 8 (.slice A' n' c') n' (bl.flatMap Qb))(hB:B<=w)(hn:n<=90000):Calls Tryz.prog 116 #[.slice A n c,.slice A' n' c'] w (AY aa bl w):=by
 obtain rfl:=QL Qe 3 (λ_=>rfl) (by decide) hR.1;have aS:=Ki (Q2N aa bl A A' _ c n' c' B w hR aZ hB (by omega));clear hR aZ;obtain⟨i0,hi,bJ,bK,bL⟩:=Zc Lx;go_enter Tryz.func116,Tryz.ntmps116;go_wp2_with fail;refine aS.o.mono ?_;rintro e w1 ⟨sv,T,rfl,Y,hF,hM,hl,hb⟩;obtain⟨A1,c1,rfl,bQ,bA⟩:=(Rd.of_own Y).form;have bs:=Ki (Rd.of_own Y);have bu:=Ki (Q2X hF hM);have HB:=Ki hb;have bx:T.length<=aa.length:=by have:=Cr aa bl;omega
 clear Y hF hM hb aS bA hl;go_wp2;go_loopw [6,7] (λbM i wr=>CK T w1 bM i wr) (λ_ i _=>T.length-(intOf i).toNat);case atStart=>exact⟨0,Qh _,rfl,J8 _ _ _ _,Qc _ _⟩
 case round=>
  obtain⟨k,hk,rfl,Y,hb⟩:=hrel;have aV:=EP T k hk;have ar:=BG (T.take k);obtain⟨Av,cv,rfl,aU,bB⟩:=(Rd.of_own Y).form;obtain⟨Q,rfl⟩:∃Q:World,Q=wr:=⟨_,rfl⟩;by_cases ax:k<T.length
  ·obtain⟨ba,oa,rfl,bv,bb⟩:=Qr ZQ 11 (λ_=>rfl) (by decide) bs.o ax;have a9:∀j u,(ZQ T[k])[j]?=some u->Q.cell? ⟨ba,oa+k*11+j,none⟩=some u:=λj u hu=>(hb.cell (p:=⟨ba,oa+k*11+j,none⟩) bv).trans (bb j u hu);have al:=AX ax;obtain⟨L,a8⟩:∃L,Xv (T.take k)=L:=⟨_,rfl⟩;rw[a8] at al Y aV ar aU |-;obtain⟨t,ht⟩:∃t,T[k]=t:=⟨_,rfl⟩;rw[ht] at a9 al;obtain⟨at_,p⟩:=t;dsimp only at al;have aq:=Ki al;have az:=Ki ar;have HO:=Ki Y;have c3:=a9 3 _ rfl;have c4:=a9 4 _ rfl;have c5:=a9 5 _ rfl;have c6:=a9 6 _ rfl;have c7:=a9 7 _ rfl;have c8:=a9 8 _ rfl;have c9:=a9 9 _ rfl;have bO:=a9 10 _ rfl;clear a9 bb ht al a8 ar Y bB;have i1:(0:Int)<=(k:Int):=(by omega);have i2:(k:Int)<(T.length:Int):=(by omega);have hq:=Xt;have bR:=ZR;have hE:=Cs p.nd
   have aT:=Ki (λ(W:World)(h:Below Q Q W)(hp:Y3 L p=L)=>(show CK T w1 (.slice Av L.length cv) (.int .i64 ((k:Int)+1)) W from
    ⟨k+1,by omega,by simp,by rw[aq.o,hp];exact QB HO.o h,hb.trans (h.mono hb.size)⟩))
   by_cases X:p.nd=Qf;·rw[QF X] at hE;have HZ:=Ki X;clear X;go_wp2;refine⟨?_,by simp[intOf];omega⟩;exact aT.o _ (((Q0.refl Q).alloc _).below) (Nh (.inl HZ.o))
   rw[Zo X] at hE;have HZ:=Ki X;clear X;go_wp2_with fail;obtain⟨w3,am⟩:∃W,Q.alloc (.cells (Qb p).toArray 124)=W:=⟨_,rfl⟩;have aI:Q0 Q w3:=(by rw[<-am];exact(Q0.refl Q).alloc _);have aM:w3.heap[Q.heap.size]?=some (.cells (Qb p).toArray 124 (0,0)):=(by rw[<-am];exact Qi Q _);unfold Qb at am;rw[am];have aW:=QB HO.o aI.below;have hw:=Q2W L p.pa p.nd Av L.length cv w3 w3 (Rd.of_own aW) (Q3 _) (by omega);obtain⟨R,aG⟩:∃R,Zx L (L.length+1) p.pa p.nd=R:=⟨_,rfl⟩;rw[aG] at hw;have aR:=Ki aG;unfold Qa at hw;have HW:=Ki hw;have ak:=aI.below;have bo:=(Q5.1 aM).1;clear am aI hw aG aW;refine HW.o.mono ?_;rintro e w4 ⟨rfl,ah⟩;have bf:Below Q Q w4:=ak.trans (ah.mono ak.size);have ad:=(ah.block _ bo).trans aM;obtain⟨J,aH⟩:∃k,Q.heap.size=k:=⟨_,rfl⟩;have an:=Ki bf;rw[aH] at ad |-;have aN:=Ki aH;clear aM ah ak bo bf aH
   cases R with
   |true=>clear ad;go_wp2;refine⟨?_,by simp[intOf];omega⟩;exact aT.o _ an.o (Nh (.inr aR.o))
   |false=>
    have aB:=Ki (Q2R HZ.o aR.o);have aE:=QB HO.o an.o;have HF:=Ki (FK L p.nd Av L.length cv w4 w4 (Rd.of_own aE) (Q3 _));have d0:w4.cell? ⟨J,0,none⟩=some (.int .i64 p.nd.s.T):=cR 0 ad;have d1:w4.cell? ⟨J,1,none⟩=some (.int .i64 p.nd.s.R):=cR 1 ad;have d2:w4.cell? ⟨J,2,none⟩=some (.int .i64 p.nd.I):=cR 2 ad;have ai:=Ki aE;have aC:=Ki ad;unfold Qa at HF;clear aE ad;go_wp2_with fail;refine HF.o.mono ?_;rintro e D ⟨⟨r,rfl,hr⟩,bd⟩;have av:=bd.below;have Z:=(av.block _ (Q5.1 aC.o).1).trans aC.o;have aX:=QB ai.o av;have bg:Below Q Q D:=an.o.trans (av.mono an.o.size);have ae:=Ki aX;have aO:=Ki bg;have bN:=Ki Z;have f0:D.cell? ⟨J,0,none⟩=some (.int .i64 p.nd.s.T):=cR 0 Z;have f1:D.cell? ⟨J,1,none⟩=some (.int .i64 p.nd.s.R):=cR 1 Z;have f2:D.cell? ⟨J,2,none⟩=some (.int .i64 p.nd.I):=cR 2 Z;have f3:D.cell? ⟨J,3,none⟩=some (.int .i64 p.pa.s.T):=cR 3 Z;have f4:D.cell? ⟨J,4,none⟩=some (.int .i64 p.pa.s.R):=cR 4 Z;have f5:D.cell? ⟨J,5,none⟩=some (.int .i64 p.pa.I):=cR 5 Z;have f6:D.cell? ⟨J,6,none⟩=some (.string p.nm):=cR 6 Z;have f7:D.cell? ⟨J,7,none⟩=some (.bool p.dir):=cR 7 Z;have z0:∀i,D.frozen? ⟨J,i,none⟩=false:=λi=>by simp[World.frozen?,Z]
    clear aX bg Z bd av d0 d1 d2 HF aC ai;rcases hr with⟨O,bH,rfl,bi,_⟩|⟨rfl,bj⟩
    ·obtain⟨P,q,S,a8,au⟩:∃P q S,L=P++q::S/\P.length=O:=⟨L.take O,L[O],L.drop (O+1),by rw[<-VL bH,XU],by rw[Zi];omega⟩;have bn:q.nd=p.nd:=(by subst a8;subst au;simpa using bi);have i3:(0:Int)<=(O:Int):=(by omega);have i4:(O:Int)<(L.length:Int):=(by omega)
     obtain⟨g,cap,rfl,bD⟩:∃g cap,Av=some ⟨g,0,none⟩/\w1<=g:=by
      rcases ae.o.2 with⟨ag,h0⟩|⟨g,cap,bP,ag,hg,_⟩;·omega
      injection ag with ag;exact⟨g,cap,ag,hg⟩
     have bG:g≠J:=(by have:=(HO.o.lt g rfl).2;have:=aN.o;omega);have E:∀r u,(Qb q)[r]?=some u->D.cell? ⟨g,O*8+r,none⟩=some u:=λr u hu=>(X8 ae.o _ u (by rw[a8,<-au];exact YJ Qb 8 (λ_=>rfl) P S q r u hu)).1;have y0:D.cell? ⟨g,O*8,none⟩=some (.int .i64 q.nd.s.T):=E 0 _ rfl;have y1:D.cell? ⟨g,O*8+1,none⟩=some (.int .i64 q.nd.s.R):=E 1 _ rfl;have y2:D.cell? ⟨g,O*8+2,none⟩=some (.int .i64 q.nd.I):=E 2 _ rfl;have y3:D.cell? ⟨g,O*8+3,none⟩=some (.int .i64 q.pa.s.T):=E 3 _ rfl;have y4:D.cell? ⟨g,O*8+4,none⟩=some (.int .i64 q.pa.s.R):=E 4 _ rfl;have y5:D.cell? ⟨g,O*8+5,none⟩=some (.int .i64 q.pa.I):=E 5 _ rfl;have y6:D.cell? ⟨g,O*8+6,none⟩=some (.string q.nm):=E 6 _ rfl;have y7:D.cell? ⟨g,O*8+7,none⟩=some (.bool q.dir):=E 7 _ rfl;have bc:∀i,D.frozen? ⟨g,i,none⟩=false:=YY ae.o (by omega);have bI:J≠g:=bG.symm;have br:=Kj (L=P++q::S/\P.length=O/\q.nd=p.nd) ⟨a8,au,bn⟩;clear E a8 au bn bi;go_wp2;refine⟨?_,by simp[intOf];omega⟩;obtain⟨e1,e2,e3⟩:=br.o;change CK T w1 _ _ ((D.setCell ⟨J,7,none⟩ (.bool q.dir)).setCells g (O*8) (Qb { p with dir:=q.dir }));have aY:=K6 (b:=J) (i:=7) (u:=.bool q.dir) ae.o (by simp[Value.ownBlock];exact bI);have hx:L.flatMap Qb=P.flatMap Qb++Qb q++S.flatMap Qb:=(by rw[e1];simp);rw[hx] at aY;have h9:=VQ aY (Qb { p with dir:=q.dir }) rfl (by omega);rw[XG Qb 8 (λ_=>rfl),e2] at h9
     have hI:P++{ p with dir:=q.dir }::S=XW p L:=(by rw[e1];exact Q2O (e1▸az.o) e3);have bw:(XW p L).length=L.length:=(by rw[<-hI,e1];simp);have bz:=hb.trans (aO.o.mono hb.size);refine⟨k+1,by omega,by simp,?_,Jd (bz.setCell (p:=⟨J,7,none⟩) (by have:=aN.o;have:=hb.size;simp;omega) _) bD _ _⟩;rw[aq.o,aB.o,bw,<-hI];simpa using h9
    obtain⟨x,rfl⟩:∃x,x=p:=⟨_,rfl⟩;have aP:=Ki bj;have aj:=hb.trans (aO.o.mono hb.size);clear bj;go_wp2_with (at_builtin;refine Yf _ rfl _ _ 114 rfl w1 124 i0 _ 8 72 FX hi bJ bK bL rfl (by decide) _ _ _ rfl (ae.o.alloc _) ⟨D.heap.size,0,none⟩ 1 1 (Qb x) rfl rfl ?qc2 (KB x) ?qc4 ?qc5 ?qc6 ?_);case qc2=>exact Zd D (Qb x) 124
    case qc4=>unfold maxLen;omega
    case qc5=>omega
    case qc6=>have:=aj.size;simp;omega
    intro v' W4 bk be _;obtain⟨g,cap,rfl,bC,bE,bF,aK⟩:=Ui bk
    have ah:Below w1 w1 W4:=(aj.alloc aj.size _).grown be (by have:=aj.size;simp;omega) (λj hj=>by
     rcases (ae.o).lt j hj with⟨h1,_⟩
     exact h1)
    clear bk f0 f1 f2 f3 f4 f5 f6 f7 z0;obtain⟨n1,aJ⟩:=ex (L.length+1);have bT:L.length<n1:=(by omega);have bU:n1<=k+1:=(by omega);rw[aJ] at aK bE |-;have aA:=Ki aJ;have ai:=Ki aK;unfold maxLen at bF;clear be aK aj aJ;go_wp2;go_loopw [10] (λi wr=>Q2Y L x n1 w1 (.slice (some ⟨g,0,none⟩) n1 cap) i wr) (λi _=>(intOf i).toNat);case atStart=>exact⟨L,[],by simp,by have:=aA.o;congr 1;omega,by simp,ai.o,ah⟩
    case round=>
     obtain⟨P,S,a8,rfl,b9,aF,ab⟩:=hrel;have ao:=Ki a8;have aD:=Ki b9;have af:=Ki aF;have U:=(aF.lt g rfl).2;clear a8 b9 aF ah ai;rcases Ky P with rfl|⟨P',y,rfl⟩;·go_wp2;go_quiet (fail);go_wp2;exact⟨Nj ax aq.o aB.o az.o aP.o aA.o ao.o aD.o (by simp) (QB af.o ((Q0.refl wr).drewN nq).below) (ab.trans (((Q0.refl wr).drewN nq).below.mono ab.size)),by simp[intOf];omega⟩
     obtain⟨j,hj⟩:=ex (P'.length);have bh:((P'++[y]).length:Int)=(j:Int)+1:=(by rw[Qj,hj];rfl);rw[bh];have hM:(P'++[y])++x::S=P'++y::x::S:=(by simp);rw[hM] at af;have bS:j+1<n1:=(by have:=Xz List.length ao.o;simp at this;omega);have E:∀r u,(Qb y)[r]?=some u->wr.cell? ⟨g,j*8+r,none⟩=some u:=λr u hu=>(X8 af.o _ u (hj▸YJ Qb 8 (λ_=>rfl) P' (x::S) y r u hu)).1
     have cx:∀r u,(Qb x)[r]?=some u->wr.cell? ⟨g,(j+1)*8+r,none⟩=some u:=λr u hu=>(X8 af.o _ u (by
      have:=YJ Qb 8 (λ_=>rfl) (P'++[y]) S x r u hu;rw[Qj,hj] at this
      simpa using this)).1
     have ak:(j+1)*8=j*8+8:=(by omega);rw[ak] at cx;have HJ:=Ki hj;have HC:=Ki (λw=>GY x.nd y.nd w);unfold Qa at HC;obtain⟨r,hr⟩:=ex (x.nd.cmp y.nd);rw[hr] at HC;have aQ:=Ki hr;clear hr;have a0:∀n os,(Sort.grow (wr.drewN n) os).cell? ⟨g,j*8,none⟩=some (.int .i64 y.nd.s.T):=λn os=>QG U (E 0 _ rfl) n os;have a1:∀n os,(Sort.grow (wr.drewN n) os).cell? ⟨g,j*8+1,none⟩=some (.int .i64 y.nd.s.R):=λn os=>QG U (E 1 _ rfl) n os;have a2:∀n os,(Sort.grow (wr.drewN n) os).cell? ⟨g,j*8+2,none⟩=some (.int .i64 y.nd.I):=λn os=>QG U (E 2 _ rfl) n os;have a3:∀n os,(Sort.grow (wr.drewN n) os).cell? ⟨g,j*8+3,none⟩=some (.int .i64 y.pa.s.T):=λn os=>QG U (E 3 _ rfl) n os;have a4:∀n os,(Sort.grow (wr.drewN n) os).cell? ⟨g,j*8+4,none⟩=some (.int .i64 y.pa.s.R):=λn os=>QG U (E 4 _ rfl) n os;have a5:∀n os,(Sort.grow (wr.drewN n) os).cell? ⟨g,j*8+5,none⟩=some (.int .i64 y.pa.I):=λn os=>QG U (E 5 _ rfl) n os;have a6:∀n os,(Sort.grow (wr.drewN n) os).cell? ⟨g,j*8+6,none⟩=some (.string y.nm):=λn os=>QG U (E 6 _ rfl) n os;have a7:∀n os,(Sort.grow (wr.drewN n) os).cell? ⟨g,j*8+7,none⟩=some (.bool y.dir):=λn os=>QG U (E 7 _ rfl) n os;have b0:∀n os,(Sort.grow (wr.drewN n) os).cell? ⟨g,j*8+8,none⟩=some (.int .i64 x.nd.s.T):=λn os=>QG U (cx 0 _ rfl) n os;have b1:∀n os,(Sort.grow (wr.drewN n) os).cell? ⟨g,j*8+9,none⟩=some (.int .i64 x.nd.s.R):=λn os=>QG U (cx 1 _ rfl) n os
     have b2:∀n os,(Sort.grow (wr.drewN n) os).cell? ⟨g,j*8+10,none⟩=some (.int .i64 x.nd.I):=λn os=>QG U (cx 2 _ rfl) n os;have b3:∀n os,(Sort.grow (wr.drewN n) os).cell? ⟨g,j*8+11,none⟩=some (.int .i64 x.pa.s.T):=λn os=>QG U (cx 3 _ rfl) n os;have b4:∀n os,(Sort.grow (wr.drewN n) os).cell? ⟨g,j*8+12,none⟩=some (.int .i64 x.pa.s.R):=λn os=>QG U (cx 4 _ rfl) n os;have b5:∀n os,(Sort.grow (wr.drewN n) os).cell? ⟨g,j*8+13,none⟩=some (.int .i64 x.pa.I):=λn os=>QG U (cx 5 _ rfl) n os;have b6:∀n os,(Sort.grow (wr.drewN n) os).cell? ⟨g,j*8+14,none⟩=some (.string x.nm):=λn os=>QG U (cx 6 _ rfl) n os;have b7:∀n os,(Sort.grow (wr.drewN n) os).cell? ⟨g,j*8+15,none⟩=some (.bool x.dir):=λn os=>QG U (cx 7 _ rfl) n os;have i3:(0:Int)<=(j:Int)+1:=(by omega);have i4:(j:Int)+1<(n1:Int):=(by omega);have i5:(0:Int)<=(j:Int):=(by omega);have i6:(j:Int)<(n1:Int):=(by omega);have hw:IntKind.i64.wrap (j:Int)=j:=QO _ (by omega);clear hj bh hM cx E;rcases hc:decide (r<0) with _|_
     ·have ay:=Ki hc;go_wp2;refine QK (by kernel_rfl) (by kernel_rfl) ?_;repeat (quiet_step ((go_at_call 123;exact Qk (HC.o _))))
      refine QN ?_;rintro W ⟨⟨nq,I⟩,h⟩;have ac:Q0 wr W:=⟨nq,I,h⟩;have aw:=ab.trans (ac.below.mono ab.size);have ap:=Ki (QB af.o ac.below);clear h ac ab a0 a1 a2 a3 a4 a5 a6 a7 b0 b1 b2 b3 b4 b5 b6 b7;go_wp2
      exact⟨Nj (P:=P'++[y]) (S:=S) ax aq.o aB.o az.o aP.o aA.o ao.o aD.o (by
       intro z X;have:y=z:=(by simpa using X);subst this;intro ag;have h2:=(XV _ _).2 ag;rw[aQ.o] at h2;have:=ay.o;simp at this
       omega) (by simpa using ap.o) aw,by simp[intOf];omega⟩
     have ay:=Ki hc;go_wp2;refine QK (by kernel_rfl) (by kernel_rfl) ?_;repeat (quiet_step ((go_at_call 123;exact Qk (HC.o _))))
     refine QN ?_;rintro W ⟨⟨nq,I⟩,h⟩;have ac:Q0 wr W:=⟨nq,I,h⟩;have aw:=ab.trans (ac.below.mono ab.size);have aL:=QB af.o ac.below;have A0:=h▸a0 nq I;have A1:=h▸a1 nq I;have A2:=h▸a2 nq I;have A3:=h▸a3 nq I;have A4:=h▸a4 nq I;have A5:=h▸a5 nq I;have A6:=h▸a6 nq I;have A7:=h▸a7 nq I;have B0:=h▸b0 nq I;have B1:=h▸b1 nq I;have B2:=h▸b2 nq I;have B3:=h▸b3 nq I;have B4:=h▸b4 nq I;have B5:=h▸b5 nq I;have B6:=h▸b6 nq I;have B7:=h▸b7 nq I;have bc:=YY aL (by omega);have ap:=Ki aL;clear h ac ab aL a0 a1 a2 a3 a4 a5 a6 a7 b0 b1 b2 b3 b4 b5 b6 b7;go_wp2;go_region;have bt:=Ki (Q2Z HJ.o ap.o (by omega));have bp:=Ki (Q30 aw bC j y x);change Exit.inBlock _ _ _ _ (EW W g j y x);generalize EW W g j y x=W5 at *;clear A0 A1 A2 A3 A4 A5 A6 A7 B0 B1 B2 B3 B4 B5 B6 B7 bc ap aw;go_wp2;go_roundw
     case rel=>
      refine⟨P',y::S,?_,?_,?_,?_,?_⟩;·rw[ao.o];simp
      ·rw[HJ.o]
      ·intro z X;rcases QI.1 X with rfl|X;·exact(XV _ _).1 (by rw[aQ.o];have:=ay.o;simpa using this)
       exact aD.o z X
      ·exact bt.o
      exact bp.o
     case measure=>simp[intOf]
  obtain rfl:k=T.length:=by omega
  rw[X6] at Y aU |-;have bq:=Kj (AY aa bl w (.returned (.slice Av (Xv T).length cv)) Q) ⟨_,T,rfl,bu.o,bx,Yp Y HB.o.size,HB.o.trans (hb.mono HB.o.size)⟩;clear Y aV ar;go_wp2;go_ret;exact bq.o
end
section
open Go Go.RowKit
theorem Q32(n:ByteArray)(hn:n.size<=1000000)(x:Id)(w:World):Calls Tryz.prog 249 #[.string n,Qa x] w λe w'=>(∃(s:ByteArray)(z:Int),e=.returned (.tuple #[.string s,z])/\s.size<=n.size+61)/\Below w w w':=by
 have I:=Ki (λW=>Km n W (by omega));have H2:=Ki (λW=>TD x W);obtain⟨y,Y⟩:=ex (JJ n.toList);rw[Y] at I;clear Y;unfold Qa at *;cases y;·go_enter Tryz.func249,Tryz.ntmps249;go_wp2_with fail;refine(I.o _).mono ?_;rintro e w1 ⟨rfl,h⟩;have HB:=Ki (((Q0.refl w).alloc _).trans h).below;clear h;go_wp2;go_ret2;exact⟨⟨_,_,rfl,Qh _⟩,HB.o⟩
 go_enter Tryz.func249,Tryz.ntmps249;go_upto_region 1 with fail;obtain⟨W1,E⟩:∃W,w.alloc (.cells x 60)=W:=⟨_,rfl⟩;have U:=bl E;have j:=bn E;rw[E];obtain⟨b3,X⟩:∃b,w.heap.size=b:=⟨_,rfl⟩;have J:=Ki U;rw[X] at j |-;have Z:=(Q5.1 j).1;clear E U X;go_wp2_with fail;refine(I.o _).mono ?_;rintro e w1 ⟨rfl,h⟩;have O:=Ki (J.o.trans (h.below.mono J.o.size));have D:=(h.below.block b3 Z).trans j;have d0:=cr0 D;have d1:=cr1 D;have d2:=cr2 D;clear h j Z D;go_wp2_with fail;refine(H2.o _).mono ?_;rintro e w2 ⟨⟨t,rfl,ht⟩,hb⟩;have Q:=Ki (O.o.trans (hb.mono O.o.size));clear hb d0 d1 d2;rcases he:t.toList.isEmpty with _|_;·have q1:¬9223372036854775807<n.size+1:=(by omega);have q2:¬9223372036854775807<n.size+1+t.size:=(by omega);go_wp2;go_ret2;exact⟨⟨_,_,rfl,by simp only[KZ];rw[show(⟨#[126]⟩:ByteArray).size=1 from rfl];omega⟩,Q.o⟩
 go_wp2;go_ret2;exact⟨⟨_,_,rfl,Qh _⟩,Q.o⟩
def Q33(L:List Q2)(h:World)(i:Value)(wr:World):Prop:=∃k:Nat,k<=L.length/\i=k/\Below h h wr
theorem Q34(L:List Q2)(p:Q2)(hp:p.nm.size<=1000000)(A:Option Addr)(n c B:Nat)(w:World)(Z:Rd w B 8 (.slice A n c) n (L.flatMap Qb))(hB:B<=w):Calls Tryz.prog 208 #[.slice A n c,.agg p] w λe w'=>(∃s:ByteArray,e=.returned s/\s.size<=1000061)/\Below w w w':=by
 obtain⟨_,al,af⟩:=Z.len;unfold maxLen at af;obtain rfl:=QL Qb 8 (λ_=>rfl) (by decide) Z.1;have HR:=Ki (λW (Q:Below w w W)=>Z.below' Q hB);have ac:=Ki hB;have a3:=Ki (λW=>Q32 p.nm hp p.nd W);have a4:=Ki (λ(a b:Id) W=>GY a b W);unfold Qa at a3 a4;have a9:=Ki hp;clear Z hB hp;go_enter Tryz.func208,Tryz.ntmps208;go_upto_region 1 with fail;obtain⟨W1,a0⟩:∃W,w.alloc (.cells p 124)=W:=⟨_,rfl⟩;have ab:=bl a0;have O:=bn a0;rw[a0];obtain⟨j,X⟩:∃b,w.heap.size=b:=⟨_,rfl⟩;have J:=Ki ab;rw[X] at O |-;have l3:=(Q5.1 O).1;have H1:=Ki O;have HX:=Ki (λW (Q:Below W1 W1 W)=>(Q.block j l3).trans O);clear a0 ab X O;go_wp2;go_loopw [5] (λi wr=>Q33 L W1 i wr) (λi _=>L.length-(intOf i).toNat);case atStart=>exact⟨0,Qh _,rfl,Qc _ _⟩
 case round=>
  obtain⟨k,hk,rfl,U⟩:=hrel;have h:=HX.o wr U;have E:=(Q5.1 h).1;by_cases ah:k<L.length
  ·have a6:=J.o.trans (U.mono J.o.size);obtain⟨b,o,rfl,aa,D⟩:=Qr Qb 8 (λ_=>rfl) (by decide) (HR.o _ a6) ah;have I:=Z1 aa (Q9 ac.o a6.size);obtain⟨q,hq⟩:=ex (L[k]);rw[hq] at D;have f0:∀n os,(Sort.grow (wr.drewN n) os).cell? (b,o+k*8)=q.nd.s.T:=λn os=>QC I (D 0 _ rfl) n os;have f1:∀n os,(Sort.grow (wr.drewN n) os).cell? (b,o+k*8+1)=q.nd.s.R:=λn os=>QC I (D 1 _ rfl) n os;have f2:∀n os,(Sort.grow (wr.drewN n) os).cell? (b,o+k*8+2)=q.nd.I:=λn os=>QC I (D 2 _ rfl) n os;have f3:∀n os,(Sort.grow (wr.drewN n) os).cell? (b,o+k*8+3)=q.pa.s.T:=λn os=>QC I (D 3 _ rfl) n os;have f4:∀n os,(Sort.grow (wr.drewN n) os).cell? (b,o+k*8+4)=q.pa.s.R:=λn os=>QC I (D 4 _ rfl) n os;have f5:∀n os,(Sort.grow (wr.drewN n) os).cell? (b,o+k*8+5)=q.pa.I:=λn os=>QC I (D 5 _ rfl) n os;have f6:∀n os,(Sort.grow (wr.drewN n) os).cell? (b,o+k*8+6)=q.nm:=λn os=>QC I (D 6 _ rfl) n os;have g0:∀n os,(Sort.grow (wr.drewN n) os).cell? (j,0)=p.nd.s.T:=λn os=>QC E (cR 0 h) n os;have g1:∀n os,(Sort.grow (wr.drewN n) os).cell? (j,1)=p.nd.s.R:=λn os=>QC E (cR 1 h) n os;have g2:∀n os,(Sort.grow (wr.drewN n) os).cell? (j,2)=p.nd.I:=λn os=>QC E (cR 2 h) n os;have g3:∀n os,(Sort.grow (wr.drewN n) os).cell? (j,3)=p.pa.s.T:=λn os=>QC E (cR 3 h) n os;have g4:∀n os,(Sort.grow (wr.drewN n) os).cell? (j,4)=p.pa.s.R:=λn os=>QC E (cR 4 h) n os
   have g5:∀n os,(Sort.grow (wr.drewN n) os).cell? (j,5)=p.pa.I:=λn os=>QC E (cR 5 h) n os;have g6:∀n os,(Sort.grow (wr.drewN n) os).cell? (j,6)=p.nm:=λn os=>QC E (cR 6 h) n os;have a7:=Ki U;have aj:(0:Int)<=(k:Int):=(by omega);have ak:(k:Int)<(L.length:Int):=(by omega);have am:=Xt;have ai:=ZR;have ae:=Ki h;clear D hq U h a6 aa;go_upto_region 4 with fail;go_cut [42] from 8 to 51 (λv wx=>(∃t:Bool,v=.bool t)/\Below wr wr wx)
   case first=>
    obtain⟨z,hz⟩:=ex (q.nd.cmp p.nd);have a8:=Ki (λW=>a4.o q.nd p.nd W);rw[hz] at a8;clear hz a4 a3;rcases O:Xs q.pa.s.T q.pa.s.R q.pa.I p.pa.s.T p.pa.s.R p.pa.I with _|_<;>rcases h2:(q.nm.toList==p.nm.toList) with _|_<;>rcases h3:decide (z<0) with _|_
    all_goals
     refine QK (by kernel_rfl) (by kernel_rfl) ?_;iterate 29 (first|go_big_quiet_skip|quiet_step ((go_at_call 123;exact Qk (a8.o _))))
     refine QN ?_;rintro W ⟨⟨n,os⟩,Q⟩;have ag:=(Z9 Q).below;clear Q;go_wp2;go_meet;case rel=>exact⟨⟨_,rfl⟩,ag⟩
   case rest=>
    obtain⟨⟨t,rfl⟩,a5⟩:=hcut;have a2:=Ki (a7.o.trans (a5.mono a7.o.size));have Y:=(a5.block j E).trans ae.o;have d0:=cr0 Y;have d1:=cr1 Y;have d2:=cr2 Y;have d6:=cr6 Y;clear f0 f1 f2 f3 f4 f5 f6 g0 g1 g2 g3 g4 g5 g6 a5 Y;cases t
    ·go_wp2;go_roundw;case rel=>exact⟨k+1,by omega,by go_num,a2.o⟩
     case measure=>simp[intOf];omega
    go_wp2_with fail;refine(a3.o _).mono ?_;rintro e w3 ⟨⟨s,z,rfl,hs⟩,X⟩;have a1:=Ki (J.o.trans ((a2.o.trans (X.mono a2.o.size)).mono J.o.size));have ad:=Ki (show s.size<=1000061 by have:=a9.o;omega);clear X d0 d1 d2 d6;go_wp2;go_ret;exact⟨⟨s,rfl,ad.o⟩,a1.o⟩
  have d6:=cr6 h;have a1:=Ki (J.o.trans (U.mono J.o.size));clear U h;go_wp2;go_ret;exact⟨⟨_,rfl,by have:=a9.o;omega⟩,a1.o⟩
def Up(L:List Q2):Nat->Q2->Prop|0,p=>p.pa=Qf|m+1,p=>p.pa≠Qf/\∃q,QD L p.pa=some q/\Up L m q
def Q35(L:List Q2)(h:Nat)(w:World)(g:Nat)(s:Value)(wr:World):Prop:=
 ∃(q:Q2)(t:ByteArray),s=.string t/\Up L g q/\g<=1000/\t.size<=(1001-g)*1000100/\q.nm.size<=1000000/\wr.heap[h]?=some (.cells q 124 (0,0))/\Below w w wr
theorem IF(x:Id):ZX x=decide (x=Qf):=by
 unfold ZX;rw[Eb];constructor;·rintro⟨h,j,D⟩;exact Id.ext' (Q4.ext' h j) D
 rintro rfl;exact⟨rfl,rfl,rfl⟩
theorem Q36(w:World)(b:Nat)(cs:Array Value):Qd (λk=>k=b) w (w.setRow b cs):=⟨rfl,rfl,rfl,by show w.heap.size<=(w.heap.modify b _).size;rw[Array.size_modify];exact Q3 _,λk _ h=>by show(w.heap.modify b _)[k]?=_;rw[Vm,Q6 (λe=>h e.symm)]⟩
theorem Q37(L:List Q2)(p:Q2)(m:Nat)(hm:m<=1000)(hu:Up L m p)(hp:p.nm.size<=1000000)(hL:∀q∈L,q.nm.size<=1000000)(A:Option Addr)(n c B:Nat)(w:World)(E:Rd w B 8 (.slice A n c) n (L.flatMap Qb))(j:B<=w):Calls Tryz.prog 163 #[.slice A n c,.agg p] w λe w'=>(∃s:ByteArray,e=.returned s/\s.size<=2000000000)/\Below w w w':=by
 obtain⟨_,aE,ax⟩:=E.len;unfold maxLen at ax;obtain rfl:=QL Qb 8 (λ_=>rfl) (by decide) E.1;have HR:=Ki (λW (D:Below w w W)=>E.below' D j);have aB:=Ki j;have HN:=Ki (λ(q:Q2)(hq:q.nm.size<=1000000) W (D:Below w w W)=>Q34 L q hq A _ c B W (E.below' D j) (Q9 j D.size));have HF:=Ki (λ(y:Id) W (D:Below w w W)=>FK L y A _ c B W (E.below' D j) (Q9 j D.size));unfold Qa at HF;have HU:=Ki hu;have HL:=Ki hL;have ad:=Ki hp;clear E j hp hu hL;go_enter Tryz.func163,Tryz.ntmps163;go_upto_region 1 with fail;obtain⟨W1,Q⟩:∃W,w.alloc (.cells p 124)=W:=⟨_,rfl⟩;have a0:=bl Q;have O:=bn Q;rw[Q];obtain⟨h,a1⟩:∃b,w.heap.size=b:=⟨_,rfl⟩;have aj:=Ki a1;have a9:=Ki a0;rw[a1] at O |-;have H1:=Ki O;have ar:=Ki (Zz (cs:=Qb p) O);have am:=Ki (HN.o p ad.o W1 a0);clear Q a0 a1 O;go_wp2_with (((with_reducible refine Ql 124 ?_);refine QA rfl 124 _ rfl _ _ _ rfl ar.o (by kernel_rfl) (Tryz.isAgg124 _) ?_));refine am.o.mono ?_;rintro e W2 ⟨⟨s,rfl,hs⟩,hb⟩;have ai:=Ki (a9.o.trans (hb.mono a9.o.size));have H2:=Ki ((hb.block h (Q5.1 H1.o).1).trans H1.o);have q1:¬9223372036854775807<1+s.size:=by omega
 have ae:=Kj (((⟨#[47]⟩:ByteArray)++s).size<=1000100) (by rw[KZ,show(⟨#[47]⟩:ByteArray).size=1 from rfl];omega);clear hb;go_wp2;go_loopg [5] m (λg s wr=>Q35 L h w g s wr);case atStart=>exact⟨p,_,rfl,HU.o,hm,by have:=ae.o;omega,ad.o,H2.o,ai.o⟩
 case round=>
  clear q1 hs ae
  obtain⟨q,t,rfl,a8,hg,ht,aF,J,hb⟩:=hrel
  have X:=Ki hb
  have HX:=Ki J
  have d3:=cR 3 J
  have d4:=cR 4 J
  have d5:=cR 5 J
  have aA:=F1
  have ay:=ZR
  have hE:=Cc q.pa
  cases gk with
  |zero=>have ap:=Kj (q.pa=Qf) a8;rw[IF,QF ap.o] at hE;clear a8 hb J;go_wp2;go_ret;exact⟨⟨t,rfl,by omega⟩,X.o⟩
  |succ g=>
   obtain⟨hz,x,ag,ah⟩:=a8;rw[IF,Zo hz] at hE;have aq:=Ki ah;have ac:=Ki ag;have al:=Ki (HF.o q.pa wr hb);clear hb J hz ag ah;go_wp2_with fail;refine al.o.mono ?_;rintro e w3 ⟨⟨r,rfl,az⟩,a6⟩;have a4:=X.o.trans (a6.below.mono X.o.size);have aa:=Ki a4;have H4:=Ki ((a6.below.block h (Q5.1 HX.o).1).trans HX.o);rcases az with⟨k,hk,rfl,_,I⟩|⟨_,I⟩
   ·have a7:L[k]=x:=(by rw[ac.o] at I;exact(Jr I).symm);obtain⟨b,o,rfl,aw,a5⟩:=Qr Qb 8 (λ_=>rfl) (by decide) (HR.o _ a4) hk;rw[a7] at a5;have av:=Ki a5;have af:=Ki (HL.o x (by rw[<-a7];exact Zt hk));have aC:(0:Int)<=(k:Int):=(by omega);have aD:(k:Int)<(L.length:Int):=(by omega);clear a5 a7 I a6 a4 d3 d4 d5 aA ay hE aw;go_upto_region 4 with(first|((with_reducible refine Ql 124 ?_);refine QA rfl 124 _ rfl _ _ _ rfl av.o (by kernel_rfl) (Tryz.isAgg124 _) ?_)|((with_reducible refine Zm 124 ?_);refine wpList_store_row rfl 124 _ _ rfl _ _ rfl rfl 124 _ H4.o (by kernel_rfl) rfl (by kernel_rfl) ?_;rw[Zn]));obtain⟨Y,U⟩:∃W,w3.setRow h (Qb x).toArray=W:=⟨_,rfl⟩;have Z:Y.heap[h]?=some (.cells x 124 (0,0)):=(by rw[<-U];exact setRow_heap w3 h _ _ 124 _ H4.o);have a2:Below w w Y:=(by rw[<-U];exact aa.o.trans ((Q36 w3 h _).below aa.o.size (λy hy e=>by have:=aj.o;omega)));rw[U];have ab:=Ki a2;have H5:=Ki Z;have au:=Ki (Zz (cs:=Qb x) Z);have an:=Ki (HN.o x af.o Y a2);clear U Z a2;go_wp2_with (((with_reducible refine Ql 124 ?_);refine QA rfl 124 _ rfl _ _ _ rfl au.o (by kernel_rfl) (Tryz.isAgg124 _) ?_));refine an.o.mono ?_;rintro e w6 ⟨⟨s,rfl,hs⟩,a3⟩;have ak:=Ki (ab.o.trans (a3.mono ab.o.size));have H6:=Ki ((a3.block h (Q5.1 H5.o).1).trans H5.o);have q1:¬9223372036854775807<1+s.size:=(by omega);have q2:¬9223372036854775807<1+s.size+t.size:=(by omega)
    have ao:=Kj (((⟨#[47]⟩:ByteArray)++s++t).size<=(1001-g)*1000100) (by rw[KZ,KZ,show(⟨#[47]⟩:ByteArray).size=1 from rfl];omega);clear a3;go_wp2;go_roundg g;case measure=>omega
    case rel=>exact⟨x,_,rfl,aq.o,by omega,ao.o,af.o,H6.o,ak.o⟩
   rw[ac.o] at I;cases I
end
section
open Go Go.RowKit Go.Maps
def Gw(w w':World):Prop:=Below w w w'/\w.drawn<=w'.drawn
theorem Q0.drawn{w w':World}(h:Q0 w w'):w.drawn<=w'.drawn:=by obtain⟨q,os,rfl⟩:=h;exact Nat.le_add_right _ _
theorem Gw.of{w w':World}(h:Q0 w w'):Gw w w':=⟨h.below,h.drawn⟩
theorem Gw.grows{w W w':World}(h:Gw w W)(k:Q0 W w'):Gw w w':=⟨h.1.trans (k.below.mono h.1.size),Q9 h.2 k.drawn⟩
theorem Gw.set{w w':World}(h:Gw w w'){p:Addr}(j:w<=p.block)(u:Value):Gw w (w'.setCell p u):=⟨h.1.setCell j u,h.2⟩
theorem Gw.o{w w':World}(h:Gw w w'):Q0 w w':=by
 refine⟨w'.drawn-w.drawn,w'.heap.extract w w',?_⟩
 have Z:w'.heap=w.heap++w'.heap.extract w w'.heap.size:=by
  refine Array.ext (by have:=h.1.size;simp;omega) λi E O=>?_;by_cases I:i<w;·rw[Array.getElem_append_left I];have:=h.1.block i I;rw[Array.getElem?_eq_getElem E,Array.getElem?_eq_getElem I] at this;exact Jr this
  rw[Array.getElem_append_right (by omega),Array.getElem_extract];congr 1;omega
 have E:=h.1.os;have O:=h.1.tape;have Y:=h.1.output;have h4:=h.2;obtain⟨Q,tp,j,os,a0⟩:=w;obtain⟨J,X,D,U,W⟩:=w';dsimp only at *;subst E O Y;show World.mk J X D U W=World.mk (Q++J.extract Q.size J.size) X (j+(D-j)) U W;rw[<-Z,show j+(D-j)=D by omega]
def YT(L:List Q2):Nat->Id->Bool|0,_=>false|n+1,x=>match QD L x with|none=>false|some p=>if p.pa=Qf then true else match QD L p.pa with|none=>false|some q=>if q.dir=true then YT L n p.pa else false
def Q38(L:List Q2)(R:Bool)(h:Nat)(w:World)(i:Value)(wr:World):Prop:=
 ∃(k:Nat)(y:Id),k<=L.length+1/\i=k/\YT L (L.length+1-k) y=R/\wr.heap[h]?=some (.cells y 60 (0,0))/\Gw w wr
theorem Q39(L:List Q2)(x:Id)(A:Option Addr)(n c B:Nat)(w:World)(hR:Rd w B 8 (.slice A n c) n (L.flatMap Qb))(hB:B<=w)(hn:n<=100000):Calls Tryz.prog 207 #[.slice A n c,Qa x] w λe w'=>e=.returned (.bool (YT L (L.length+1) x))/\Q0 w w':=by
 obtain rfl:=QL Qb 8 (λ_=>rfl) (by decide) hR.1;have HR:=Ki (λW (hW:Below w w W)=>hR.below' hW hB);have HF:=Ki (λW y (hW:Below w w W)=>FK L y A _ c B W (hR.below' hW hB) (Q9 hB hW.size));clear hR;unfold Qa at HF |-;go_enter Tryz.func207,Tryz.ntmps207;go_wp2;obtain⟨w0,a2⟩:∃W,w.alloc (.cells x 60)=W:=⟨_,rfl⟩;have ad:=bn a2;have ag:Gw w w0:=by rw[<-a2];exact .of ((Q0.refl w).alloc _)
 rw[a2];obtain⟨E,a8⟩:∃k,w.heap.size=k:=⟨_,rfl⟩;rw[a8] at ad |-;have ai:=Ki a8;obtain⟨R,af⟩:=ex (YT L (L.length+1) x);have X:=Ki af;clear a2 a8;go_loopw [5] (λi wr=>Q38 L R E w i wr) (λi _=>L.length+1-(intOf i).toNat);case atStart=>exact⟨0,x,Qh _,rfl,X.o,ad,ag⟩
 case round=>
  clear ad ag af;obtain⟨k,y,hk,rfl,Z,U,a1⟩:=hrel;have HX:=Ki U;have aj:=Ki a1;have aq:=(Q5.1 U).1;have e0:=cr0 U;have e1:=cr1 U;have Q:=cr2 U;by_cases au:k<=L.length
  ·obtain⟨m',ac⟩:∃m',L.length+1-k=m'+1:=⟨L.length-k,by omega⟩;rw[ac,YT] at Z;have av:(k:Int)<=(L.length:Int):=(by omega);have I:=Ki Z;have al:=Ki ac;clear U Z ac;go_wp2_with fail;refine(HF.o wr y a1.1).mono ?_;rintro e w4 ⟨⟨r,rfl,hr⟩,a9⟩;have a5:=Ki (a1.grows a9);have O:=(a9.below.block _ aq).trans HX.o;clear e0 e1 Q a9 a1;rcases hr with⟨a4,hj,rfl,ap,D⟩|⟨rfl,D⟩
   ·rw[D] at I;obtain⟨b,o,rfl,ae,J⟩:=Qr Qb 8 (λ_=>rfl) (by decide) (HR.o w4 a5.o.1) hj;obtain⟨p,hp⟩:=ex (L[a4]);rw[hp] at J I;have c3:=J 3 _ rfl;have c4:=J 4 _ rfl;have c5:=J 5 _ rfl;have z0:∀i,w4.frozen? ⟨E,i,none⟩=false:=λi=>by simp[World.frozen?,O]
    have i1:(0:Int)<=(a4:Int):=(by omega);have i2:(a4:Int)<(L.length:Int):=(by omega);have i3:¬(a4:Int)<0:=(by omega);have aw:=(Q5.1 O).1;have x0:=cr0 O;have x1:=cr1 O;have x2:=cr2 O;have am:=Ki O;clear J hp D ap O;go_upto_region 8 with fail;obtain⟨w5,a3⟩:∃W,((w4.setCell (E,0) p.pa.s.T).setCell (E,1) p.pa.s.R).setCell (E,2) p.pa.I=W:=⟨_,rfl⟩;have ab:w<=E:=(by have:=ai.o;omega);have a6:=Kj (Gw w w5) (by rw[<-a3];exact((a5.o.set (p:=(E,0)) ab p.pa.s.T).set (p:=(E,1)) ab p.pa.s.R).set (p:=(E,2)) ab p.pa.I);have Y:w5.heap[E]?=some (.cells p.pa 60 (0,0)):=(by rw[<-a3];exact Fq am.o);rw[a3];have H5:=Ki Y;have ar:=(Q5.1 Y).1;have y0:=cr0 Y;have y1:=cr1 Y;have y2:=cr2 Y;have hq:=Xt;have an:=ZR;have hE:=Cc p.pa;rw[IF] at hE;clear a3 Y x0 x1 x2 c3 c4 c5 z0 i1 i2 i3 ae;by_cases hz:p.pa=Qf;·have j:=Kj (true=R) (by have h:=I.o;rwa [Q7 hz] at h);rw[QF hz] at hE;clear hz I;go_wp2;go_ret;exact⟨Qo (by rw[X.o];exact j.o),a6.o.o⟩
    have h:=I.o;rw[Q6 hz] at h;rw[Zo hz] at hE;have j:=Ki h;clear hz h I;have ak:=Ki (HF.o w5 p.pa a6.o.1);go_wp2_with fail;refine ak.o.mono ?_;rintro e w6 ⟨⟨r,rfl,hr⟩,aa⟩;have a0:=Ki (a6.o.grows aa);have H6:=Ki ((aa.below.block _ ar).trans H5.o);clear aa y0 y1 y2 hq an hE;rcases hr with⟨j2,ao,rfl,_,D⟩|⟨rfl,D⟩
    ·rw[D] at j;obtain⟨b2,o2,Q,ae,J⟩:=Qr Qb 8 (λ_=>rfl) (by decide) (HR.o w6 a0.o.1) ao;injection Q with Q;injection Q with Q e3;subst Q e3;obtain⟨q,ah⟩:∃p,L[j2]=p:=⟨_,rfl⟩;rw[ah] at J j;have j:=Kj ((if q.dir=true then YT L m' p.pa else false)=R) j.o;have c7:=J 7 _ rfl;have i1:(0:Int)<=(j2:Int):=(by omega);have i2:(j2:Int)<(L.length:Int):=(by omega);have i3:¬(j2:Int)<0:=(by omega);clear J ah D;obtain⟨d,hd⟩:∃d,q.dir=d:=⟨_,rfl⟩;rw[hd] at c7 j;clear hd;cases d;·have a7:=Kj (false=R) (by have h:=j.o;rwa [Q6 (by decide)] at h);clear j;go_wp2;go_ret;exact⟨Qo (by rw[X.o];exact a7.o),a0.o.o⟩
     have a7:=Kj (YT L m' p.pa=R) (by have h:=j.o;rwa [Q7 rfl] at h);clear j;go_wp2;go_roundw;case rel=>exact⟨k+1,p.pa,by omega,by go_num,by have h:=al.o;rw[show L.length+1-(k+1)=m' by omega];exact a7.o,H6.o,a0.o⟩
     case measure=>simp[intOf];omega
    rw[D] at j;clear D;go_wp2;go_ret;exact⟨Qo (by rw[X.o];exact j.o),a0.o.o⟩
   rw[D] at I;clear D O;go_wp2;go_ret;exact⟨Qo (by rw[X.o];exact I.o),a5.o.o⟩
  obtain rfl:k=L.length+1:=by omega
  rw[GV,YT] at Z;have I:=Ki Z;have i9:¬((L.length:Int)+1<=(L.length:Int)):=(by omega);clear Z U;go_wp2;go_ret;exact⟨Qo (by rw[X.o];exact I.o),aj.o.o⟩
def Q3a(L:List Q2)(R:Bool)(h:Id)(D j:Nat)(w:World)(i:Value)(wr:World):Prop:=
 ∃(k:Nat)(y:Id),k<=L.length+1/\i=k/\Zx L (L.length+1-k) y h=R/\wr.heap[D]?=some (.cells y 60 (0,0))/\wr.heap[j]?=some (.cells h 60 (0,0))/\Gw w wr
theorem Q3b(L:List Q2)(x D:Id)(A:Option Addr)(n c B:Nat)(w:World)(hR:Rd w B 8 (.slice A n c) n (L.flatMap Qb))(hB:B<=w)(hn:n<=100000):Calls Tryz.prog 160 #[.slice A n c,Qa x,Qa D] w λe w'=>e=.returned (.bool (Zx L (L.length+1) x D))/\Q0 w w':=by
 obtain rfl:=QL Qb 8 (λ_=>rfl) (by decide) hR.1;have HR:=Ki (λW (hW:Below w w W)=>hR.below' hW hB);have HF:=Ki (λW y (hW:Below w w W)=>FK L y A _ c B W (hR.below' hW hB) (Q9 hB hW.size));clear hR;unfold Qa at HF |-;go_enter Tryz.func160,Tryz.ntmps160;go_wp2;obtain⟨w0,Z⟩:∃W,(w.alloc (.cells x 60)).alloc (.cells D 60)=W:=⟨_,rfl⟩;have af:Q0 w w0:=by rw[<-Z];exact((Q0.refl w).alloc _).alloc _
 have a8:w0.heap[w.heap.size]?=some (.cells x 60 (0,0)):=by rw[<-Z];exact(Z5 _ _ _ (by simp)).trans (Qi w _)
 have a6:w0.heap[w.heap.size+1]?=some (.cells D 60 (0,0)):=by rw[<-Z];have:=Qi (w.alloc (.cells x 60)) (.cells D 60);rwa [Qy] at this
 rw[Z];obtain⟨E,ac⟩:∃k,w.heap.size=k:=⟨_,rfl⟩;obtain⟨Bu,ab⟩:∃k,w.heap.size+1=k:=⟨_,rfl⟩;rw[ab] at a6 |-;rw[ac] at a8 |-;have ae:=Gw.of af;have a9:=Ki (show E=w.heap.size/\Bu=w.heap.size+1 by omega);obtain⟨R,ad⟩:=ex (Zx L (L.length+1) x D);have a0:=Ki ad;clear Z af ac ab;go_loopw [7] (λi wr=>Q3a L R D E Bu w i wr) (λi _=>L.length+1-(intOf i).toNat);case atStart=>exact⟨0,x,Qh _,rfl,a0.o,a8,a6,ae⟩
 case round=>
  clear a8 a6 ae ad;obtain⟨k,y,hk,rfl,h,O,J,U⟩:=hrel;have HX:=Ki O;have HU:=Ki J;have aa:=Ki U;have an:=(Q5.1 O).1;have am:=(Q5.1 J).1;have al:E≠Bu:=by have:=a9.o;omega
  have e0:=cr0 O;have e1:=cr1 O;have e2:=cr2 O;have f0:=cr0 J;have f1:=cr1 J;have f2:=cr2 J;by_cases aq:k<=L.length
  ·obtain⟨m',ak⟩:∃m',L.length+1-k=m'+1:=⟨L.length-k,by omega⟩;rw[ak,Zx] at h;have ar:(k:Int)<=(L.length:Int):=(by omega);have hq:=Xt;have ap:=ZR;have hE:=UT y D;clear O J;by_cases Q:y=D;·rw[Q7 Q] at h;rw[QF Q] at hE;have j:=Ki h;clear Q h;go_wp2;go_ret;exact⟨Qo (by rw[a0.o];exact j.o),aa.o.o⟩
   rw[Q6 Q] at h;rw[Zo Q] at hE;have j:=Ki h;clear Q h;go_wp2_with fail;refine(HF.o wr y U.1).mono ?_;rintro e w4 ⟨⟨r,rfl,hr⟩,a2⟩;have a1:=a2.below;have a4:=Ki (U.grows a2);have I:=(a1.block _ an).trans HX.o;have a7:=(a1.block _ am).trans HU.o;rcases hr with⟨a3,hj,rfl,aj,Y⟩|⟨rfl,Y⟩
   ·rw[Y] at j;obtain⟨b,o,rfl,ao,X⟩:=Qr Qb 8 (λ_=>rfl) (by decide) (HR.o w4 a4.o.1) hj;obtain⟨p,hp⟩:=ex (L[a3]);rw[hp] at X j;have c3:=X 3 _ rfl;have c4:=X 4 _ rfl;have c5:=X 5 _ rfl;have z0:∀i,w4.frozen? ⟨E,i,none⟩=false:=λi=>by simp[World.frozen?,I]
    have i1:(0:Int)<=(a3:Int):=(by omega);have i2:(a3:Int)<(L.length:Int):=(by omega);have i3:¬(a3:Int)<0:=(by omega);have au:=(Q5.1 I).1;have x0:=cr0 I;have x1:=cr1 I;have x2:=cr2 I;have ah:=Ki I;have ag:=Ki a7;clear X hp Y aj I a7 e0 e1 e2 f0 f1 f2 hE a1 a2 U;go_wp2;have q:=a9.o;have a5:w<=E:=(by omega);have ai:=((a4.o.set (p:=(E,0)) a5 p.pa.s.T).set (p:=(E,1)) a5 p.pa.s.R).set (p:=(E,2)) a5 p.pa.I;refine⟨⟨k+1,p.pa,by omega,by go_num,?_,Fq ah.o,(AM al.symm).trans ag.o,ai⟩,by simp[intOf];omega⟩;rw[show L.length+1-(k+1)=m' by omega];exact j.o
   rw[Y] at j;clear Y I a7 e0 e1 e2 f0 f1 f2 hE a1 a2 U;go_wp2;go_ret;exact⟨Qo (by rw[a0.o];exact j.o),a4.o.o⟩
  obtain rfl:k=L.length+1:=by omega
  rw[GV,Zx] at h;have j:=Ki h;have i9:¬((L.length:Int)+1<=(L.length:Int)):=(by omega);clear h O J;go_wp2;go_ret;exact⟨Qo (by rw[a0.o];exact j.o),aa.o.o⟩
def KT(M:List Q2)(p:Q2):List Q2:=if (ZS p.nd&&JJ p.nm.toList&&(QD M p.nd).isNone)=true then M++[p] else M
def Xe(L:List Q2):List Q2:=L.foldl KT []
theorem CL(L:List Q2)(p:Q2):Xe (L++[p])=KT (Xe L) p:=by unfold Xe;rw[Dj];rfl
theorem Q3c(M:List Q2)(p:Q2):(KT M p).length<=M.length+1:=by unfold KT;split<;>simp
theorem CN(L:List Q2):(Xe L).length<=L.length:=by
 induction L using JQ with
 |D=>exact Q3 _
 |E L p h=>rw[CL,Qj];have:=Q3c (Xe L) p;simp only[Z4,Ub];omega
theorem Nk{L:List Q2}{p:Q2}:p∈Xe L->p∈L/\ZS p.nd=true:=by
 induction L using JQ with
 |D=>intro h;cases h
 |E L x D=>
  rw[CL];unfold KT;split
  ·rename_i E;intro h;rcases Qq.1 h with j|j;·exact⟨Qq.2 (.inl (D j).1),(D j).2⟩
   rw[Qw.1 j];simp only[ZJ] at E;exact⟨by simp,E.1.1⟩
  intro h;exact⟨Qq.2 (.inl (D h).1),(D h).2⟩
def Q3d(L:List Q2)(w:World)(v i:Value)(wr:World):Prop:=∃k:Nat,k<=L.length/\i=k/\wr.ownsRow w 124 8 v (Xe (L.take k)).length ((Xe (L.take k)).flatMap Qb)/\Below w w wr
theorem Q3e(L:List Q2)(hL:∀q∈L,q.nm.size<=1000000)(A:Option Addr)(n c B:Nat)(w:World)(hR:Rd w B 8 (.slice A n c) n (L.flatMap Qb))(hB:B<=w)(hn:n<=100000):Calls Tryz.prog 206 #[.slice A n c] w λe w'=>(∃v,e=.returned v/\w'.ownsRow w 124 8 v (Xe L).length ((Xe L).flatMap Qb))/\Below w w w':=by
 obtain rfl:=QL Qb 8 (λ_=>rfl) (by decide) hR.1;obtain⟨i0,hi,z0,z1,z2⟩:=Zc EL;have HR:=Ki (λW (hW:Below w w W)=>hR.below' hW hB);have H1:=Ki (λx W=>Ay x W);have H2:=Ki (λs (hs:s.size<=1000000) W=>Km s W (by omega));have HL:=Ki hL;clear hR hL;unfold Qa at H1;go_enter Tryz.func206,Tryz.ntmps206;go_wp2;go_loopw [3,4] (λv i wr=>Q3d L w v i wr) (λ_ i _=>L.length-(intOf i).toNat);case atStart=>exact⟨0,Qh _,rfl,⟨rfl,.inl ⟨rfl,rfl⟩⟩,Qc _ _⟩
 case round=>
  obtain⟨k,hk,rfl,hO,hb⟩:=hrel;obtain⟨Ao,co,rfl,_,_⟩:=(Rd.of_own hO).form;have Q:=Ki hO;have I:=Ki hb;by_cases a2:k<L.length
  ·obtain⟨b,o,rfl,aa,X⟩:=Qr Qb 8 (λ_=>rfl) (by decide) (HR.o _ hb) a2;obtain⟨q,hq⟩:∃q,L[k]=q:=⟨_,rfl⟩;rw[hq] at X;have Z:=Ki (show Xe (L.take (k+1))=KT (Xe (L.take k)) q by rw[QQ a2,CL,hq]);have ag:=Ki (HL.o q (by rw[<-hq];exact Zt a2));have a7:=Kj ((Xe (L.take k)).length<=100000) (Q9 (CN _) (by rw[Zi];omega));obtain⟨M,hM⟩:∃M,Xe (L.take k)=M:=⟨_,rfl⟩;rw[hM] at Q Z a7 |-;have ai:b<wr:=Z1 aa (Q9 hB hb.size);have O:=Ki (λW (hW:Below wr wr W)=>(λj v (hj:(Qb q)[j]?=some v)=>(show W.cell? ⟨b,o+k*8+j,none⟩=some v from(hW.cell (p:=⟨b,o+k*8+j,none⟩) ai).trans (X j v hj))));have c0:wr.cell? ⟨b,o+k*8,none⟩=some (.int .i64 q.nd.s.T):=X 0 _ rfl;have c1:wr.cell? ⟨b,o+k*8+1,none⟩=some (.int .i64 q.nd.s.R):=X 1 _ rfl;have c2:wr.cell? ⟨b,o+k*8+2,none⟩=some (.int .i64 q.nd.I):=X 2 _ rfl;have ak:(0:Int)<=(k:Int):=(by omega);have al:(k:Int)<(L.length:Int):=(by omega);have U:=Kj (KT M q=if (ZS q.nd&&JJ q.nm.toList&&(QD M q.nd).isNone)=true then M++[q] else M) rfl;clear X hq hO hb hM aa;obtain⟨y1,ac⟩:∃y,ZS q.nd=y:=⟨_,rfl⟩;obtain⟨y2,ad⟩:∃y,JJ q.nm.toList=y:=⟨_,rfl⟩;have a4:=Ki (λW=>H1.o q.nd W);have a5:=Ki (λW=>H2.o q.nm ag.o W);rw[ac] at a4 U;rw[ad] at a5 U;clear ac ad;go_wp2_with fail;refine(a4.o _).mono ?_;rintro e w2 ⟨rfl,D⟩;have a0:=Ki D.below;clear D c0 c1 c2;cases y1
   ·have J:=Kj (Xe (L.take (k+1))=M) (by rw[Z.o,U.o];rfl);go_wp2;go_roundw;case rel=>exact⟨k+1,by omega,by go_num,by rw[J.o];exact QB Q.o a0.o,I.o.trans (a0.o.mono I.o.size)⟩
    case measure=>simp[intOf];omega
   have c6:=O.o w2 a0.o 6 _ rfl;go_wp2_with fail;refine(a5.o _).mono ?_;rintro e E ⟨rfl,D⟩;have h:=Ki (a0.o.trans (D.below.mono a0.o.size));clear D c6;cases y2
   ·have J:=Kj (Xe (L.take (k+1))=M) (by rw[Z.o,U.o];rfl);go_wp2;go_roundw;case rel=>exact⟨k+1,by omega,by go_num,by rw[J.o];exact QB Q.o h.o,I.o.trans (h.o.mono I.o.size)⟩
    case measure=>simp[intOf];omega
   have c0:=O.o E h.o 0 _ rfl;have c0:E.cell? ⟨b,o+k*8,none⟩=some (.int .i64 q.nd.s.T):=O.o E h.o 0 _ rfl;have c1:E.cell? ⟨b,o+k*8+1,none⟩=some (.int .i64 q.nd.s.R):=O.o E h.o 1 _ rfl;have c2:E.cell? ⟨b,o+k*8+2,none⟩=some (.int .i64 q.nd.I):=O.o E h.o 2 _ rfl;have a8:=Ki (QB Q.o h.o);have a6:=Ki (FK M q.nd Ao M.length co E E (Rd.of_own a8.o) (Q3 _));unfold Qa at a6;go_wp2_with fail;refine a6.o.mono ?_;rintro e w4 ⟨⟨r,rfl,hr⟩,D⟩;have a9:=Ki (h.o.trans (D.below.mono h.o.size));have a1:=Ki (QB a8.o D.below);have Y:=Ki (I.o.trans (a9.o.mono I.o.size));clear D c0 c1 c2;rcases hr with⟨j,hj,rfl,_,hf⟩|⟨rfl,hf⟩
   ·have J:=Kj (Xe (L.take (k+1))=M) (by rw[Z.o,U.o,hf];rfl);have am:¬(j:Int)<0:=(by omega);clear hf;go_wp2;go_roundw;case rel=>exact⟨k+1,by omega,by go_num,by rw[J.o];exact a1.o,Y.o⟩
    case measure=>simp[intOf];omega
   have J:=Kj (Xe (L.take (k+1))=M++[q]) (by rw[Z.o,U.o,hf];rfl);clear hf;have ah:=Kj (∀(j:Nat)(v:Value),(q:List Value)[j]?=some v->w4.cell? (b,o+k*8+j)=some v) (O.o w4 a9.o);have aj:=a7.o;go_wp2_with (first|((with_reducible refine Ql 124 ?_);refine QA rfl 124 _ rfl _ _ _ rfl ah.o (by kernel_rfl) (GO _) ?_)|(at_builtin;refine Yf _ rfl _ _ 114 rfl w 124 i0 _ 8 72 FX hi z0 z1 z2 rfl (by decide) _ M.length _ rfl (a1.o.alloc _) ⟨w4.heap.size,0,none⟩ 1 1 (Qb q) rfl rfl (Zd w4 (Qb q) 124) (KB q) (by unfold maxLen;omega) (by omega) (by have:=Y.o.size;simp;omega) ?_));intro v8 W8 a3 ab _;have ae:=Ki ((Y.o.alloc Y.o.size (.cells (Qb q).toArray 124)).grown ab (by have:=Y.o.size;simp;omega) (λj hj=>((a1.o.alloc (.cells (Qb q).toArray 124)).lt j hj).1));have af:=Ki (show W8.ownsRow w 124 8 v8 (M++[q]).length ((M++[q]).flatMap Qb) by simpa using a3);obtain⟨A8,c8,rfl,_,_⟩:=(Rd.of_own a3).form;clear a3 ab aj;go_wp2;go_roundw;case rel=>exact⟨k+1,by omega,by go_num,by rw[J.o];exact af.o,ae.o⟩
   case measure=>simp[intOf];omega
  rw[Zk (show L.length<=k by omega)] at Q |-;clear hO hb;go_wp2;go_ret;exact⟨⟨_,rfl,Q.o⟩,I.o⟩
def J6(L:List Q2)(h:List Id)(x:Id):Bool:=L.any (λq=>decide (q.nd∈h)&&YT L (L.length+1) q.nd&&Zx L (L.length+1) q.nd x)
def Ux(L:List Q2)(h:List Id):List Q2:=L.filter (λp=>J6 L h p.nd)
def Q3f(L:List Q2)(j:List Id)(h:World)(v i:Value)(wr:World):Prop:=∃k:Nat,k<=L.length/\i=k/\wr.ownsRow h 124 8 v ((L.take k).filter (λp=>J6 L j p.nd)).length (((L.take k).filter (λp=>J6 L j p.nd)).flatMap Qb)/\Below h h wr
def Q3g(L:List Q2)(j:List Id)(x:Id)(h:World)(v i:Value)(wr:World):Prop:=∃k:Nat,k<=L.length/\i=k/\v=.bool ((L.take k).any (λq=>decide (q.nd∈j)&&YT L (L.length+1) q.nd&&Zx L (L.length+1) q.nd x))/\Below h h wr
theorem Q3h{h:Type}(l:List h)(x:h)(f:h->Bool):(l++[x]).any f=(l.any f||f x):=by simp
theorem Q3i(L0:List Q2)(h:List Id)(ak:∀q∈L0,q.nm.size<=1000000)(A A':Option Addr)(n c n' c' B:Nat)(w:World)(hR:Rd w B 8 (.slice A n c) n (L0.flatMap Qb))(a8:Rd w B 3 (.slice A' n' c') n' (h.flatMap Qe))(hB:B<=w)(hn:n<=100000):Calls Tryz.prog 162 #[.slice A n c,.slice A' n' c'] w λe w'=>(∃v,e=.returned v/\w'.ownsRow w 124 8 v (Ux (Xe L0) h).length ((Ux (Xe L0) h).flatMap Qb))/\Below w w w':=by
 obtain rfl:=QL Qb 8 (λ_=>rfl) (by decide) hR.1;obtain rfl:=QL Qe 3 (λ_=>rfl) (by decide) a8.1;obtain⟨i0,hi,z0,z1,z2⟩:=Zc EL;have ae:=Ki (Q3e L0 ak A _ c B w hR hB hn);have al:=CN L0;obtain⟨L,hL⟩:=ex (Xe L0);rw[hL] at ae al |-;have a2:=Ki (show L.length<=100000 by omega);have ag:=Ki (λx W (D:Below w w W)=>Bj h x A' _ c' B W (a8.below' D hB) (Q9 hB D.size));unfold Qa at ag;clear hR a8 ak hL al hn;go_enter Tryz.func162,Tryz.ntmps162;go_wp2_with fail;refine ae.o.mono ?_;rintro e I ⟨⟨v1,rfl,a0⟩,an⟩;obtain⟨A1,c1,rfl,_,_⟩:=(Rd.of_own a0).form;have X:=Ki an;have a6:=Ki (λW (D:Below I I W)=>(Rd.of_own a0).below D);have af:=Ki (λx W (D:Below I I W)=>Q39 L x A1 _ c1 I W ((Rd.of_own a0).below D) D.size a2.o);have ah:=Ki (λx y W (D:Below I I W)=>Q3b L x y A1 _ c1 I W ((Rd.of_own a0).below D) D.size a2.o);unfold Qa at af ah;clear an a0;have aM:=a2.o;go_wp2;go_loopw [5,6,7,8] (λv i _ _ wr=>Q3f L h I v i wr) (λ_ i _ _ _=>L.length-(intOf i).toNat);case atStart=>exact⟨0,Qh _,rfl,⟨rfl,.inl ⟨rfl,rfl⟩⟩,Qc _ _⟩
 case round=>
  rename World=>wo
  obtain⟨k,hk,rfl,hO,hb⟩:=hrel;obtain⟨Ao,co,rfl,_,_⟩:=(Rd.of_own hO).form;have HO:=Ki hO;have HB:=Ki hb;by_cases ar:k<L.length
  ·obtain⟨q,hq⟩:=ex (L[k])
   have a3:=Ki (show(L.take (k+1)).filter (λp=>J6 L h p.nd)=(L.take k).filter (λp=>J6 L h p.nd)++if J6 L h q.nd=true then [q] else [] by
    rw[QQ ar,YU,hq];congr 1;rw[Ec]
    split<;>rfl)
   have ad:=Kj (((L.take k).filter (λp=>J6 L h p.nd)).length<=100000) (Q9 (Vl ..) (by rw[Zi];have:=a2.o;omega));have HQ:=Ki hq;have ac:=Ki ar;obtain⟨M,hM⟩:=ex ((L.take k).filter (λp=>J6 L h p.nd));rw[hM] at HO a3 ad |-;have aI:(0:Int)<=(k:Int):=(by omega);have aJ:(k:Int)<(L.length:Int):=(by omega);clear hq hO hb hM;go_wp2;go_loopw [7,8] (λv i w'=>Q3g L h q.nd wo v i w') (λ_ i _=>L.length-(intOf i).toNat);case atStart=>exact⟨0,Qh _,rfl,rfl,Qc _ _⟩
   case round=>
    obtain⟨j,hj,rfl,rfl,hb⟩:=hrel;have J:=HB.o.trans (hb.mono HB.o.size);have a4:=X.o.trans (J.mono X.o.size);by_cases aq:j<L.length
    ·obtain⟨b,o,rfl,aj,O⟩:=Qr Qb 8 (λ_=>rfl) (by decide) (a6.o _ J) aq;obtain⟨b2,o2,Z,_,a1⟩:=Qr Qb 8 (λ_=>rfl) (by decide) (a6.o _ J) ac.o;injection Z with Z;injection Z with Z e3;subst Z e3;rw[HQ.o] at a1;obtain⟨p,hp⟩:=ex (L[j]);rw[hp] at O;have U:=Z1 aj J.size;have f0:∀n os,(Sort.grow (wr.drewN n) os).cell? (b,o+j*8)=p.nd.s.T:=λn os=>QC U (O 0 _ rfl) n os;have f1:∀n os,(Sort.grow (wr.drewN n) os).cell? (b,o+j*8+1)=p.nd.s.R:=λn os=>QC U (O 1 _ rfl) n os;have f2:∀n os,(Sort.grow (wr.drewN n) os).cell? (b,o+j*8+2)=p.nd.I:=λn os=>QC U (O 2 _ rfl) n os;have g0:∀n os,(Sort.grow (wr.drewN n) os).cell? (b,o+k*8)=q.nd.s.T:=λn os=>QC U (a1 0 _ rfl) n os;have g1:∀n os,(Sort.grow (wr.drewN n) os).cell? (b,o+k*8+1)=q.nd.s.R:=λn os=>QC U (a1 1 _ rfl) n os;have g2:∀n os,(Sort.grow (wr.drewN n) os).cell? ⟨b,o+k*8+2,none⟩=some (.int .i64 q.nd.I):=λn os=>QC U (a1 2 _ rfl) n os
     have Q:=Ki (show(L.take (j+1)).any (λE=>decide (E.nd∈h)&&YT L (L.length+1) E.nd&&Zx L (L.length+1) E.nd q.nd)=((L.take j).any (λE=>decide (E.nd∈h)&&YT L (L.length+1) E.nd&&Zx L (L.length+1) E.nd q.nd)||(decide (p.nd∈h)&&YT L (L.length+1) p.nd&&Zx L (L.length+1) p.nd q.nd)) by
      rw[QQ aq,Q3h,hp])
     obtain⟨aH,am⟩:∃a,(L.take j).any (λE=>decide (E.nd∈h)&&YT L (L.length+1) E.nd&&Zx L (L.length+1) E.nd q.nd)=a:=⟨_,rfl⟩;rw[am] at Q |-;have HP:=Kj (∀n os,Below I I (Sort.grow (wr.drewN n) os)) (λn os=>J.trans ((Q0.below ⟨n,os,rfl⟩).mono J.size));have aB:=Kj (∀n os,Below w w (Sort.grow (wr.drewN n) os)) (λn os=>a4.trans ((Q0.below ⟨n,os,rfl⟩).mono a4.size));have H1:=Ki (λW D=>ag.o p.nd W D);have H2:=Ki (λW D=>af.o p.nd W D);have H3:=Ki (λW D=>ah.o p.nd q.nd W D);have aK:(0:Int)<=(j:Int):=(by omega);have aL:(j:Int)<(L.length:Int):=(by omega);have ab:=Ki hb;obtain⟨y1,au⟩:∃y,decide (p.nd∈h)=y:=⟨_,rfl⟩;obtain⟨y2,av⟩:∃y,YT L (L.length+1) p.nd=y:=⟨_,rfl⟩;obtain⟨y3,aw⟩:∃y,Zx L (L.length+1) p.nd q.nd=y:=⟨_,rfl⟩;rw[au] at H1 Q;rw[av] at H2 Q;rw[aw] at H3 Q;clear O a1 hp am hb J a4 aj au av aw;go_upto_region 10 with fail;go_cut [52] from 17 to 52 (λv wx=>v=.bool (y1&&y2&&y3)/\Below wr wr wx)
     case first=>
      cases y1<;>cases y2<;>cases y3
      all_goals
       refine QK (by kernel_rfl) (by kernel_rfl) ?_;iterate 30 (first|go_big_quiet_skip|quiet_step (first|(go_at_call 164;exact Qk (H1.o _ (aB.o _ _)))|(go_at_call 207;exact Qk (H2.o _ (HP.o _ _)))|(go_at_call 160;exact Qk (H3.o _ (HP.o _ _)))))
       refine QN ?_;rintro W ⟨⟨n,os⟩,D⟩;have aE:=(Z9 D).below;clear D;go_wp2;go_meet;case rel=>exact⟨rfl,aE⟩
     case rest=>
      obtain⟨rfl,ao⟩:=hcut;have aa:=Ki (ab.o.trans (ao.mono ab.o.size));obtain⟨y,hy⟩:∃y,(y1&&y2&&y3)=y:=⟨_,rfl⟩;rw[hy] at Q |-;clear f0 f1 f2 g0 g1 g2 ao hy;cases y
      ·go_wp2;go_roundw;case rel=>exact⟨j+1,by omega,by go_num,by rw[Q.o,Bool.or_false],aa.o⟩
       case measure=>simp[intOf];omega
      go_wp2;go_roundw;case rel=>exact⟨j+1,by omega,by go_num,by rw[Q.o,Bool.or_true],aa.o⟩
      case measure=>simp[intOf];omega
    rw[Zk (show L.length<=j by omega)];have aC:=Kj (L.any (λE=>decide (E.nd∈h)&&YT L (L.length+1) E.nd&&Zx L (L.length+1) E.nd q.nd)=J6 L h q.nd) rfl;rw[aC.o];have aG:=Ki hb;have a5:=Ki (QB HO.o hb);have Y:=Ki J;obtain⟨b,o,rfl,_,O⟩:=Qr Qb 8 (λ_=>rfl) (by decide) (a6.o _ J) ac.o;rw[HQ.o] at O;have aD:=Kj (∀(j:Nat)(v:Value),(q:List Value)[j]?=some v->wr.cell? (b,o+k*8+j)=some v) O;obtain⟨y,hy⟩:∃y,J6 L h q.nd=y:=⟨_,rfl⟩;rw[hy] at a3 |-;have aF:=ad.o;clear O hb J a4 hy;cases y
    ·have a7:=Kj ((L.take (k+1)).filter (λp=>J6 L h p.nd)=M) (by rw[a3.o];simp);go_wp2;go_roundw;case rel=>exact⟨k+1,by omega,by go_num,by rw[a7.o];exact a5.o,Y.o⟩
     case measure=>simp[intOf];omega
    have a7:=Kj ((L.take (k+1)).filter (λp=>J6 L h p.nd)=M++[q]) (by rw[a3.o];simp);go_wp2_with (first|((with_reducible refine Ql 124 ?_);refine QA rfl 124 _ rfl _ _ _ rfl aD.o (by kernel_rfl) (GO _) ?_)|(at_builtin;refine Yf _ rfl _ _ 114 rfl I 124 i0 _ 8 72 FX hi z0 z1 z2 rfl (by decide) _ M.length _ rfl (a5.o.alloc _) ⟨wr.heap.size,0,none⟩ 1 1 (Qb q) rfl rfl (Zd wr (Qb q) 124) (KB q) (by unfold maxLen;omega) (by omega) (by have:=Y.o.size;simp;omega) ?_));intro v8 W8 a9 ap _;have ax:=Ki ((Y.o.alloc Y.o.size (.cells (Qb q).toArray 124)).grown ap (by have:=Y.o.size;simp;omega) (λj hj=>((a5.o.alloc (.cells (Qb q).toArray 124)).lt j hj).1));have az:=Ki (show W8.ownsRow I 124 8 v8 (M++[q]).length ((M++[q]).flatMap Qb) by simpa using a9);obtain⟨A8,c8,rfl,_,_⟩:=(Rd.of_own a9).form;clear a9 ap aF;go_wp2;go_roundw;case rel=>exact⟨k+1,by omega,by go_num,by rw[a7.o];exact az.o,ax.o⟩
    case measure=>simp[intOf];omega
  rw[Zk (show L.length<=k by omega)] at HO |-;have ay:=Ki (X.o.trans (hb.mono X.o.size));have aA:=Ki (Yp hO X.o.size);clear hO hb;go_wp2;go_ret;exact⟨⟨_,rfl,by unfold Ux;have ai:=aA.o;rw[Zk (show L.length<=k by omega)] at ai;exact ai⟩,ay.o⟩
theorem JV{w:World}{g:Nat}{cs:List Value}{t:TypeId}{j:Nat×Nat}(h:w.heap[g]?=some (.cells cs.toArray t j))(i:Nat)(v:Value):(w.setCell (g,i) v).heap[g]?=some (.cells (cs.set i v).toArray t j):=by simp[World.setCell,Vm,h]
def K7(l:List Q2):Prop:=∀q∈l,q.nm.size<=1000000
def MdR(N b:Nat)(W:World)(h i:Value)(wr:World):Prop:=∃(k:Nat)(M:List Q2),k<=N/\i=k/\M.length<=k*b/\K7 M/\wr.ownsRow W 124 8 h M.length (M.flatMap Qb)/\Below W W wr
def Q3j(l:List Q1)(b:Nat)(W:World)(h i:Value)(wr:World):Prop:=∃(k:Nat)(M:List Q2),k<=l.length/\i=k/\M.length<=b+QW (l.take k)/\K7 M/\wr.ownsRow W 124 8 h M.length (M.flatMap Qb)/\Below W W wr
def Q3k(N b:Nat)(W:World)(h i:Value)(wr:World):Prop:=∃(k:Nat)(M:List Q2),k<=N/\i=k/\M.length<=b+k/\K7 M/\wr.ownsRow W 124 8 h M.length (M.flatMap Qb)/\Below W W wr
theorem Q3l{l:List Q1}{j:Nat}(h:j<l.length):QW (l.take (j+1))=QW (l.take j)+l[j].ops.length:=by unfold QW;rw[QQ h,ZC,B5,List.map_singleton,List.sum_singleton]
theorem Q3m(l:List Q1)(ps:List Q2)(az:K7 ps)(A:Option Addr)(n c:Nat)(A':Option Addr)(n' c' B:Nat)(w:World)(hG:Xi w B (.slice A n c) l)(hR:Rd w B 8 (.slice A' n' c') n' (ps.flatMap Qb))(hB:B<=w)(hl:l.length<=1000)(bc:ps.length<=1000)(hs:QW l<=1000):Calls Tryz.prog 115 #[.slice A n c,.slice A' n' c'] w λe w'=>(∃v,∃M:List Q2,e=.returned v/\M.length<=ps.length*QW l/\K7 M/\w'.ownsRow w 124 8 v M.length (M.flatMap Qb))/\Below w w w':=by
 obtain rfl:n=l.length:=(Rd.len hG.r).1;obtain rfl:=QL Qb 8 (λ_=>rfl) (by decide) hR.1;obtain⟨i0,hi,z0,z1,z2⟩:=Zc EL;have HR:=Ki (λW (D:Below w w W)=>hG.r.below' D hB);have HP:=Ki (λW (D:Below w w W)=>hR.below' D hB);have ao:=Ki (λg (hg:g∈l) W (D:Below w w W)=>(hG.a g hg).o.below' D hB);have aK:=Ki az;obtain⟨S,hS⟩:=ex (QW l);have aM:=Ki hS;have HS:=Ki (hs);rw[hS] at hs |-;clear hG hR az hS;go_enter Tryz.func115,Tryz.ntmps115;go_wp2;go_loopw [5,6] (λv i wr=>MdR ps.length S w v i wr) (λ_ i _=>ps.length-(intOf i).toNat);case atStart=>exact⟨0,[],Qh _,rfl,Qh _,λq h=>(by cases h),⟨rfl,.inl ⟨rfl,rfl⟩⟩,Qc _ _⟩
 case round=>
  rename World=>wo
  obtain⟨k,M,hk,rfl,O,X,J,hb⟩:=hrel;obtain⟨Ao,co,rfl,_,_⟩:=(Rd.of_own J).form;have U:=Ki J;have I:=Ki hb;by_cases ai:k<ps.length
  ·obtain⟨p,hp⟩:=ex (ps[k]);have aJ:=Kj (p.nm.size<=1000000) (by rw[<-hp];exact aK.o _ (Zt ai))
   have af:=Ki (λW (D:Below w w W)=>(show ∃b o,A'=some ⟨b,o,none⟩/\∀j u,(p:List Value)[j]?=some u->W.cell? (b,o+k*8+j)=some u from by
    obtain⟨b2,o2,E,_,h2⟩:=Qr Qb 8 (λ_=>rfl) (by decide) (HP.o _ D) ai;rw[hp] at h2
    exact⟨b2,o2,E,h2⟩))
   have b6:(0:Int)<=(k:Int):=(by omega);have b7:(k:Int)<(ps.length:Int):=(by omega);obtain⟨bp,op,rfl,_⟩:=af.o wo hb;have an:=Ki (GT (show k<=1000 by omega) hs);have am:=Ki (Nat.succ_mul k S);obtain⟨au,hZ⟩:=ex (k*S);rw[hZ] at an am O;clear J hb hp hZ;go_wp2;go_loopw [5,7] (λv i wr=>Q3j l au w v i wr) (λ_ i _=>l.length-(intOf i).toNat);case atStart=>exact⟨0,M,Qh _,rfl,by omega,X,U.o,I.o⟩
   case round=>
    clear U I O X;rename World=>wm
    obtain⟨j,M,hj,rfl,O,X,J,hb⟩:=hrel;obtain⟨Ao,co,rfl,_,_⟩:=(Rd.of_own J).form;have U:=Ki J;have I:=Ki hb;by_cases aa:j<l.length
    ·obtain⟨g,hg⟩:=ex (l[j]);have a8:g∈l:=(by rw[<-hg];exact Zt aa);have aq:=Kj (QW (l.take (j+1))=QW (l.take j)+g.ops.length) (by rw[Q3l aa,hg]);have ar:=Ki (Q9 (Iv l j) HS.o);obtain⟨T,hT⟩:=ex (QW (l.take j));rw[hT] at aq ar O;have aj:=(Rd.len (ao.o g a8 w (Qc _ w))).1;have b3:=Q9 (Iu a8) HS.o;have ae:=Ki (λW (D:Below w w W)=>ao.o g a8 W D)
     have al:=Ki (λW (D:Below w w W)=>(show ∃b o,A=some ⟨b,o,none⟩/\W.cell? (b,o+j*7+6)=some (.slice g.ov.A g.ops.length g.ov.c) from by
      obtain⟨b2,o2,E,_,h2⟩:=Qr Qg 7 (λ_=>rfl) (by decide) (HR.o _ D) aa;rw[hg] at h2
      exact⟨b2,o2,E,by rw[<-aj];exact h2 6 _ rfl⟩))
     unfold Sl.v at ae;rw[aj] at ae;have b4:(0:Int)<=(j:Int):=(by omega);have b5:(j:Int)<(l.length:Int):=(by omega);obtain⟨bg,og,rfl,_⟩:=al.o wm hb;clear hg J hb aj a8 hT;go_wp2;go_loopw [5,8] (λv i wr=>Q3k g.ops.length (au+T) w v i wr) (λ_ i _=>g.ops.length-(intOf i).toNat);case atStart=>exact⟨0,M,Qh _,rfl,by omega,X,U.o,I.o⟩
     case round=>
      clear U I O X;obtain⟨m,M,hm,rfl,O,X,J,hb⟩:=hrel;obtain⟨Ao,co,rfl,_,_⟩:=(Rd.of_own J).form;have U:=Ki J;have I:=Ki hb;have ac:=Ki X;have ab:=Ki O;obtain⟨aZ,bd,E,c6⟩:=al.o wr hb;injection E with E;injection E with E e3;subst E e3;by_cases aV:m<g.ops.length
      ·obtain⟨bo,oo,eo,av,a7⟩:=Qr Qp 18 (λ_=>rfl) (by decide) (ae.o _ hb) aV;rw[eo] at c6;obtain⟨q,hq⟩:=ex (g.ops[m]);rw[hq] at a7;have b9:(0:Int)<=(m:Int):=(by omega);have ba:(m:Int)<(g.ops.length:Int):=(by omega);obtain⟨aP,aX,E,a0⟩:=af.o wr hb;injection E with E;injection E with E e3;subst E e3
       have Q:=Ki (show bg<w/\bo<w/\bp<w from by
        refine⟨?_,Z1 av hB,?_⟩;·obtain⟨_,_,e,h,_⟩:=Qr Qg 7 (λ_=>rfl) (by decide) (HR.o _ hb) aa;injection e with e;injection e with e e';subst e;exact Z1 h hB
        obtain⟨_,_,e,h,_⟩:=Qr Qb 8 (λ_=>rfl) (by decide) (HP.o _ hb) ai;injection e with e;injection e with e e';subst e
        exact Z1 h hB)
       have Z:=hb.size;have a4:=a7;have f6:∀n os,(Sort.grow (wr.drewN n) os).cell? (bg,og+j*7+6)=some (.slice (bo,oo) g.ops.length g.ov.c):=λn os=>QC (Z1 Q.o.1 Z) c6 n os;have d0:∀n os,(Sort.grow (wr.drewN n) os).cell? (bo,oo+m*18)=q.k:=λn os=>QC (Z1 Q.o.2.1 Z) (a4 0 _ rfl) n os;have d1:∀n os,(Sort.grow (wr.drewN n) os).cell? (bo,oo+m*18+1)=q.node.s.T:=λn os=>QC (Z1 Q.o.2.1 Z) (a4 1 _ rfl) n os;have d2:∀n os,(Sort.grow (wr.drewN n) os).cell? (bo,oo+m*18+2)=q.node.s.R:=λn os=>QC (Z1 Q.o.2.1 Z) (a4 2 _ rfl) n os;have d3:∀n os,(Sort.grow (wr.drewN n) os).cell? (bo,oo+m*18+3)=q.node.I:=λn os=>QC (Z1 Q.o.2.1 Z) (a4 3 _ rfl) n os;have p0:∀n os,(Sort.grow (wr.drewN n) os).cell? (bp,op+k*8)=p.nd.s.T:=λn os=>QC (Z1 Q.o.2.2 Z) (a0 0 _ rfl) n os;have p1:∀n os,(Sort.grow (wr.drewN n) os).cell? (bp,op+k*8+1)=p.nd.s.R:=λn os=>QC (Z1 Q.o.2.2 Z) (a0 1 _ rfl) n os;have p2:∀n os,(Sort.grow (wr.drewN n) os).cell? (bp,op+k*8+2)=p.nd.I:=λn os=>QC (Z1 Q.o.2.2 Z) (a0 2 _ rfl) n os;have aW:=Xt;have aR:=ZR;have hE:=F4 q.node p.nd;obtain⟨y,hy⟩:=ex (decide (q.node=p.nd));rw[hy] at hE;have aE:=Kj (M.length<=1002000) (by have:=an.o;have:=ar.o;omega);have aI:=Ki (λW (D:Below wr wr W)=>af.o W (I.o.trans (D.mono I.o.size)));have aL:=Ki (λW (D:Below wr wr W)=>((D.cell (p:=(bo,oo+m*18+8)) (Z1 Q.o.2.1 I.o.size)).trans (a7 8 _ rfl)))
       have aD:=Ki (λW (D:Below wr wr W)=>((D.cell (p:=(bg,og+j*7+6)) (Z1 Q.o.1 I.o.size)).trans c6));clear a7 a4 hq J hb av eo a0 O Z hy;go_upto_region 11 with fail;go_cut [58] from 22 to 76 (λv wx=>(∃b:Bool,v=.bool b)/\Below wr wr wx)
       case first=>
        by_cases a9:q.k=0
        ·have ek:(q.k==0)=true:=(by simp[a9]);clear a9;refine QK (by kernel_rfl) (by kernel_rfl) ?_;iterate 27 (first|go_big_quiet_skip|quiet_step (fail))
         refine QN ?_;rintro W ⟨⟨n,os⟩,D⟩;have ah:=(Z9 D).below;clear D;go_wp2;go_meet;case rel=>exact⟨⟨_,rfl⟩,ah⟩
        have ek:(q.k==0)=false:=(by simp[a9]);clear a9;refine QK (by kernel_rfl) (by kernel_rfl) ?_;iterate 27 (first|go_big_quiet_skip|quiet_step (fail))
        refine QN ?_;rintro W ⟨⟨n,os⟩,D⟩;have ah:=(Z9 D).below;clear D;go_wp2;go_meet;case rel=>exact⟨⟨_,rfl⟩,ah⟩
       case rest=>
        obtain⟨⟨t,rfl⟩,Y⟩:=hcut;have a6:=Ki (I.o.trans (Y.mono I.o.size));have ad:=Ki (QB U.o Y);clear f6 d0 d1 d2 d3 p0 p1 p2 c6 hE aW aR;cases t
        ·clear Y;go_wp2;go_roundw;case rel=>exact⟨m+1,M,by omega,by go_num,by have:=ab.o;omega,ac.o,ad.o,a6.o⟩
         case measure=>simp[intOf];omega
        obtain⟨aP,aX,E,a0⟩:=aI.o wc Y;injection E with E;injection E with E e3;subst E e3;have aO:=Ki a0;clear a0;go_upto_region 13 with(first|((with_reducible refine Ql 124 ?_);refine QA rfl 124 _ rfl _ _ _ rfl aO.o (by kernel_rfl) (GO _) ?_)|((with_reducible refine Zm 124 ?_);refine Zp rfl 124 _ _ rfl _ _ rfl rfl _ _ (Qi _ _) (by kernel_rfl) rfl (by kernel_rfl) ?_;rw[Xm,Zn]));obtain⟨W8,a2⟩:∃W,wc.alloc (.cells ([.int .i64 p.nd.s.T,.int .i64 p.nd.s.R,.int .i64 p.nd.I,.int .i64 p.pa.s.T,.int .i64 p.pa.s.R,.int .i64 p.pa.I,.string p.nm,.bool p.dir]).toArray 124)=W:=⟨_,rfl⟩;have h8:=bn a2;have a1:=bl a2;rw[a2];have aB:=Ki (a6.o.trans (a1.mono a6.o.size));have aG:=Ki (QB ad.o a1);have q8:=aL.o W8 (Y.trans (a1.mono Y.size));have g8:=aD.o W8 (Y.trans (a1.mono Y.size));have aU:wc.heap.size<W8.heap.size:=(by rw[<-a2,Qy];omega);have aQ:=a1;obtain⟨b8,ag⟩:∃b,wc.heap.size=b:=⟨_,rfl⟩;have aA:=Kj (w<=b8) (by rw[<-ag];exact a6.o.size);have aF:=Kj (∀j,Value.ownBlock (.slice Ao M.length co)=some j->j≠b8) (λj hj e=>by have h1:=(ad.o.lt j hj).2;omega);rw[ag] at h8 aU |-;clear a2 a1 ag Y aQ;have c7:=cr7 h8;have aY:∀i,W8.frozen? ⟨b8,i,none⟩=false:=λi=>by simp[World.frozen?,h8]
        go_upto_region 14 with fail;obtain⟨W9,a3⟩:∃W,W8.setCell (b8,7) (.bool q.dir)=W:=⟨_,rfl⟩;have h9:W9.heap[b8]?=some (.cells ([.int .i64 p.nd.s.T,.int .i64 p.nd.s.R,.int .i64 p.nd.I,.int .i64 p.pa.s.T,.int .i64 p.pa.s.R,.int .i64 p.pa.I,.string p.nm,.bool q.dir]).toArray 124 (0,0)):=(by rw[<-a3];exact JV h8 7 _);have aw:Below w w W9:=(by rw[<-a3];exact aB.o.setCell (p:=(b8,7)) aA.o _);have ay:W9.ownsRow w 124 8 (.slice Ao M.length co) M.length (M.flatMap Qb):=(by rw[<-a3];exact K6 aG.o (λe=>aF.o b8 e.symm rfl));rw[a3];have a5:=Ki aw;have ap:=Ki ay
        have aN:=Ki (show ∀(j':Nat)(v:Value),([p.nd.s.T,p.nd.s.R,p.nd.I,p.pa.s.T,p.pa.s.R,p.pa.I,.string p.nm,.bool q.dir]:List Value)[j']?=some v->W9.cell? (b8,0+j')=some v from λj v hj=>by
         rw[V7]
         exact(cR j h9).trans (by rw[<-List.getElem?_toArray] at hj;exact hj))
        have bb:=aE.o;clear a3 h9 aw ay h8 aY c7 q8 g8;go_wp2_with (first|((with_reducible refine Ql 124 ?_);refine QA rfl 124 _ rfl _ _ _ rfl aN.o (by kernel_rfl) (GO _) ?_)|(at_builtin;refine Yf _ rfl _ _ 114 rfl w 124 i0 _ 8 72 FX hi z0 z1 z2 rfl (by decide) _ M.length _ rfl (ap.o.alloc _) ⟨W9.heap.size,0,none⟩ 1 1 [p.nd.s.T,p.nd.s.R,p.nd.I,p.pa.s.T,p.pa.s.R,p.pa.I,.string p.nm,.bool q.dir] rfl rfl (Zd W9 [p.nd.s.T,p.nd.s.R,p.nd.I,p.pa.s.T,p.pa.s.R,p.pa.I,.string p.nm,.bool q.dir] 124) (KB { p with dir:=q.dir }) (by unfold maxLen;omega) (by omega) (by have:=a5.o.size;simp;omega) ?_));intro v3 W3 ak ax _;have aC:=Ki ((a5.o.alloc a5.o.size (.cells ([.int .i64 p.nd.s.T,.int .i64 p.nd.s.R,.int .i64 p.nd.I,.int .i64 p.pa.s.T,.int .i64 p.pa.s.R,.int .i64 p.pa.I,.string p.nm,.bool q.dir]).toArray 124)).grown ax (by have:=a5.o.size;simp;omega) (λj hj=>(ap.o.lt j hj).1));have aH:=Ki (show W3.ownsRow w 124 8 v3 (M++[{ p with dir:=q.dir }]).length ((M++[{ p with dir:=q.dir }]).flatMap Qb) by rw[Qj,Zb,Xf];exact ak);obtain⟨A9,c9,rfl,_,_⟩:=(Rd.of_own ak).form;clear ak ax;go_wp2;go_roundw;case rel=>exact⟨m+1,M++[{ p with dir:=q.dir }],by omega,by go_num,by rw[Qj,XZ];have:=ab.o;omega,λx hx=>(by rcases Qq.1 hx with h|h;exact ac.o x h;rw[Qw.1 h];exact aJ.o),aH.o,aC.o⟩
        case measure=>simp[intOf];omega
      clear J hb;go_wp2;go_roundw;case rel=>exact⟨j+1,M,by omega,by go_num,by rw[aq.o];have:=ab.o;omega,ac.o,U.o,I.o⟩
      case measure=>simp[intOf];omega
    have aS:j=l.length:=(by omega);subst aS;rw[X6,aM.o] at O;clear J hb;go_wp2;go_roundw;case rel=>exact⟨k+1,M,by omega,by go_num,by rw[am.o];exact O,X,U.o,I.o⟩
    case measure=>simp[intOf];omega
  have aT:k=ps.length:=(by omega);subst aT;clear J hb;go_wp2;go_ret;exact⟨⟨_,M,rfl,O,X,U.o⟩,I.o⟩
theorem Q3D(l:List Q1):∀u∈l.flatMap Qg,u.oneCell'=true:=by intro u j;obtain⟨g,_,h⟩:=YW.1 j;exact KC g u h
theorem Nn(l:List Q1)(g:Q1)(A:Option Addr)(n c B:Nat)(w:World)(Q:Rd w B 7 (.slice A n c) n (l.flatMap Qg))(hB:B<=w)(hn:n<=100000):Calls Tryz.prog 8 #[.slice A n c,Z2 g] w λe w'=>∃v,e=.returned v/\w'.ownsRow w 31 7 v (l++[g]).length ((l++[g]).flatMap Qg)/\Below w w w':=by
 obtain rfl:=QL Qg 7 (λ_=>rfl) (by decide) Q.1;obtain⟨i0,hi,a8,a9,aa⟩:=Zc Ft;have HR:=Ki Q;clear Q;unfold Z2 Qg Sl.v;go_enter Tryz.func8,Tryz.ntmps8;go_upto_region 1 with(fail);obtain⟨D,h⟩:∃af,w.alloc (.cells g 31)=af:=⟨_,rfl⟩;have U:=bl h;have O:=bn h;have a7:D.heap.size=w.heap.size+1:=by rw[<-h];simp
 rw[h];clear h;have ae:=Ki (HR.o.below' U hB);have j:=Ki U;obtain⟨b3,W⟩:∃b,w.heap.size=b:=⟨_,rfl⟩;have ag:=Ki W;have ah:=Ki a7;rw[W] at O |-;have Y:=Ki O;clear U W O a7;go_upto_region 3 with(at_builtin;refine Se rfl _ _ 24 rfl D 31 i0 _ 7 88 GQ hi a8 a9 aa rfl (by decide) _ 0 [] rfl (J8 _ _ _ _) _ B l.length (l.flatMap Qg) rfl ae.o (Q3D l) (by unfold maxLen;omega) (by omega) (Q3 _) ?_;intro v J a5 a3);have E:=a3;clear a3;have a0:=(E.block b3 (Q5.1 Y.o).1 (λe=>by cases e)).trans Y.o;have LD:=Ki (Zz (cs:=g) a0);have a6:J.ownsRow D 31 7 v l.length (l.flatMap Qg):=by simpa using a5
 have Z:=Ki a6;have I:=Ki (j.o.grown E j.o.size (λab X=>by cases X));have ai:=E.size;clear a0 a5 a6 E;go_wp2_with (first|((with_reducible refine Ql 31 ?_);refine QA rfl 31 _ rfl _ _ _ rfl LD.o (by kernel_rfl) (Zl _) ?_)|(at_builtin;refine Yf _ rfl _ _ 24 rfl D 31 i0 _ 7 88 GQ hi a8 a9 aa rfl (by decide) _ _ _ rfl (Z.o.alloc _) ⟨J.heap.size,0,none⟩ 1 1 (Qg g) rfl rfl ?qc2 (KC g) ?qc4 ?qc5 ?qc6 ?_));case qc2=>exact Zd J (Qg g) 31
 case qc4=>unfold maxLen;omega
 case qc5=>omega
 case qc6=>simp;omega
 intro v8 W8 a4 a2 _
 have a1:Below w w W8:=(I.o.alloc I.o.size _).grown a2 (by have:=I.o.size;simp;omega) (λab X=>by
  rcases (Z.o).lt ab X with⟨h1,_⟩;have:=j.o.size
  omega)
 have ad:=Ki (show W8.ownsRow w 31 7 v8 (l++[g]).length ((l++[g]).flatMap Qg) from by
  have e:(l++[g]).length=l.length+1:=by simp
  have e2:(l++[g]).flatMap Qg=l.flatMap Qg++Qg g:=by simp
  rw[e,e2]
  exact Yp a4 j.o.size)
 have ac:=Ki a1;clear a4 a2 a1;go_wp2;go_ret;exact⟨_,rfl,ad.o,ac.o⟩
def Vk(l:List Q1)(v:List Int):List Q1:=l.filter (λg=>decide (g.n<=Zw v g.s.R))
def KnR(l:List Q1)(v:List Int)(w:World)(h i:Value)(wr:World):Prop:=∃k:Nat,k<=l.length/\i=k/\wr.ownsRow w 31 7 h (Vk (l.take k) v).length ((Vk (l.take k) v).flatMap Qg)/\Below w w wr
theorem Q3E(l:List Q1)(v:List Int)(A Z:Option Addr)(n c X c' B:Nat)(w:World)(hR:Rd w B 7 (.slice A n c) n (l.flatMap Qg))(a7:Rd w B 1 (.slice Z X c') X (v.flatMap QS))(hB:B<=w)(hn:n<=100000):Calls Tryz.prog 34 #[.slice A n c,.slice Z X c'] w λe w'=>(∃Y,e=.returned Y/\w'.ownsRow w 31 7 Y (Vk l v).length ((Vk l v).flatMap Qg))/\Below w w w':=by
 obtain rfl:=QL Qg 7 (λ_=>rfl) (by decide) hR.1;obtain⟨i0,hi,z0,z1,z2⟩:=Zc Ft;have HR:=Ki (λW (h:Below w w W)=>hR.below' h hB);have HA:=Ki (λr (hr:Qu r) W (h:Below w w W)=>Fj v r Z X c' B W (a7.below' h hB) hr);clear hR a7;go_enter Tryz.func34,Tryz.ntmps34;go_wp2;go_loopw [5,6] (λY i wr=>KnR l v w Y i wr) (λ_ i _=>l.length-(intOf i).toNat);case atStart=>exact⟨0,Qh _,rfl,⟨rfl,.inl ⟨rfl,rfl⟩⟩,Qc _ _⟩
 case round=>
  obtain⟨k,hk,rfl,Q,hb⟩:=hrel;obtain⟨Ao,co,rfl,_,_⟩:=(Rd.of_own Q).form;have J:=Ki Q;have HB:=Ki hb;by_cases a9:k<l.length
  ·obtain⟨b,o,rfl,a6,I⟩:=Qr Qg 7 (λ_=>rfl) (by decide) (HR.o _ hb) a9;obtain⟨g,hg⟩:=ex (l[k]);rw[hg] at I;have a2:b<wr:=Z1 a6 (Q9 hB hb.size)
   have O:=Ki (show Vk (l.take (k+1)) v=Vk (l.take k) v++if decide (g.n<=Zw v g.s.R)=true then [g] else [] by
    unfold Vk;rw[QQ a9,YU,hg,Ec]
    congr 1)
   have a5:=Kj ((Vk (l.take k) v).length<=100000) (Q9 (Vl ..) (by rw[Zi];omega));obtain⟨M,hM⟩:=ex (Vk (l.take k) v);rw[hM] at J O a5 |-;have ab:=Ki (λW (h:Below wr wr W)=>(λj u (hj:(g:List Value)[j]?=some u)=>(show W.cell? (b,o+k*7+j)=some u from(h.cell (p:=(b,o+k*7+j)) a2).trans (I j u hj))));have f0:∀n os,(Sort.grow (wr.drewN n) os).cell? (b,o+k*7+2)=g.n:=λn os=>QC a2 (I 2 _ rfl) n os;have f1:∀n os,(Sort.grow (wr.drewN n) os).cell? (b,o+k*7+1)=g.s.R:=λn os=>QC a2 (I 1 _ rfl) n os;have af:(0:Int)<=(k:Int):=(by omega);have ag:(k:Int)<(l.length:Int):=(by omega);have a4:=Ki (λn os=>HA.o g.s.R g.s.hR (Sort.grow (wr.drewN n) os) (hb.trans ((Q0.below ⟨n,os,rfl⟩).mono hb.size)));obtain⟨z,hz⟩:=ex (Zw v g.s.R);rw[hz] at a4 O;clear I hg Q hb hM a6 hz;go_upto_region 5 with fail;go_cut [26] from 7 to 33 (λt wx=>t=.bool (decide (g.n<=z))/\Below wr wr wx)
   case first=>
    refine QK (by kernel_rfl) (by kernel_rfl) ?_;repeat (quiet_step ((go_at_call 35;exact JI (a4.o _ _))))
    refine QN ?_;rintro W ⟨⟨n,os⟩,h⟩;have ad:=(Z9 h).below;clear h;go_wp2;go_meet;case rel=>exact⟨rfl,ad⟩
   case rest=>
    obtain⟨rfl,U⟩:=hcut;have E:=Ki (HB.o.trans (U.mono HB.o.size));have a0:=Ki (QB J.o U);have LD:=Ki (ab.o wc U);have ae:=a5.o;clear f0 f1 U;by_cases D:g.n<=z
    ·have a1:=Kj (Vk (l.take (k+1)) v=M++[g]) (by rw[O.o,QF D];rfl);have e1:decide (g.n<=z)=true:=QF D;rw[e1];clear D;go_wp2_with (first|((with_reducible refine Ql 31 ?_);refine QA rfl 31 _ rfl _ _ _ rfl LD.o (by kernel_rfl) (Zl _) ?_)|(at_builtin;refine Yf _ rfl _ _ 24 rfl w 31 i0 _ 7 88 GQ hi z0 z1 z2 rfl (by decide) _ M.length _ rfl (a0.o.alloc _) ⟨wc.heap.size,0,none⟩ 1 1 (Qg g) rfl rfl (Zd wc (Qg g) 31) (KC g) (by unfold maxLen;omega) (by omega) (by have:=E.o.size;simp;omega) ?_));intro v9 W9 a3 a8 _;have aa:=Ki ((E.o.alloc E.o.size (.cells (Qg g).toArray 31)).grown a8 (by have:=E.o.size;simp;omega) (λj hj=>(a0.o.lt j hj).1));have ac:=Ki (show W9.ownsRow w 31 7 v9 (M++[g]).length ((M++[g]).flatMap Qg) by rw[Qj,Zb,Xf];exact a3);obtain⟨A9,c9,rfl,_,_⟩:=(Rd.of_own a3).form;clear a3 a8 ae;go_wp2;go_roundw;case rel=>exact⟨k+1,by omega,by go_num,by rw[a1.o];exact ac.o,aa.o⟩
     case measure=>simp[intOf];omega
    have a1:=Kj (Vk (l.take (k+1)) v=M) (by rw[O.o,Zo D];simp);have e1:decide (g.n<=z)=false:=Zo D;rw[e1];clear D;go_wp2;go_roundw;case rel=>exact⟨k+1,by omega,by go_num,by rw[a1.o];exact a0.o,E.o⟩
    case measure=>simp[intOf];omega
  rw[Zk (show l.length<=k by omega)] at J |-;clear Q hb;go_wp2;go_ret;exact⟨⟨_,rfl,J.o⟩,HB.o⟩
def YC(K:Int)(v:List Int):Prop:=v.length<=16/\∀x∈v,0<=x/\x<=K
theorem YC.at_{K:Int}{v:List Int}(h:YC K v)(D:0<=K)(r:Int):0<=Zw v r/\Zw v r<=K:=by
 unfold Zw;split;·omega
 split;·omega
 rename_i x j;exact h.2 x (J9 j)
theorem YC.take{K:Int}{v:List Int}(h:YC K v)(k:Nat):YC K (v.take k):=⟨by have:=h.1;rw[Zi];omega,λx j=>h.2 x (U8 j)⟩
def No(K:Int)(N:Nat)(w:World)(h i:Value)(wr:World):Prop:=∃(k:Nat)(M:List Int),k<=N/\i=.int .i64 ((k:Int)+1)/\M.length=k/\YC K M/\wr.ownsRow w 3 1 h k (M.flatMap QS)/\Below w w wr
def IG(K:Int)(w:World)(f:Value->Value)(e:Ending)(w':World):Prop:=∃(M:List Int)(A:Option Addr)(c:Nat),e=.returned (f (.slice A M.length c))/\YC K M/\Rd w' w' 1 (.slice A M.length c) M.length (M.flatMap QS)/\Below w w w'
theorem IH(x:Int):∀u∈QS x,u.oneCell'=true:=by intro u h;rw[show QS x=[.int .i64 x] from rfl,Qw] at h;rw[h];rfl
theorem Np{K:Int}{w wr W:World}{h:Option Addr}{j k:Nat}{M:List Int}(O:M.length=k)(U:YC K M)(Q:wr.ownsRow w 3 1 (.slice h k j) k (M.flatMap QS))(hb:Below w w wr)(D:Q0 wr W)(f:Value->Value):IG K w f (.returned (f (.slice h (ZO M) j))) W:=by
 have E:=(Rd.of_own Q).below' D.below (Q3 _);rw[<-O] at E;have J:=AD E (Fk M);have I:(M.take (ZO M)).length=ZO M:=by rw[Zi];have:=Fk M;omega
 refine⟨M.take (ZO M),h,j,by rw[I],U.take _,?_,hb.trans (D.below.mono hb.size)⟩;rw[I];exact J.more D.below.size
theorem Q3F(K:Int)(hK:0<=K)(v D:List Int)(hv:YC K v)(a0:YC K D)(A Q:Option Addr)(n c n' c' B:Nat)(w:World)(U:Rd w B 1 (.slice A n c) n (v.flatMap QS))(X:Rd w B 1 (.slice Q n' c') n' (D.flatMap QS))(hB:B<=w):Calls Tryz.prog 33 #[.slice A n c,.slice Q n' c'] w (IG K w (λx=>x)):=by
 obtain rfl:=QL QS 1 Yy (by decide) U.1;obtain rfl:=QL QS 1 Yy (by decide) X.1;obtain⟨i0,hi,z0,z1,z2⟩:=Zc AP;have HA:=Ki (λr (hr:Qu r) W (Y:Below w w W)=>Fj v r A _ c B W (U.below' Y hB) hr);have a4:=Ki (λr (hr:Qu r) W (Y:Below w w W)=>Fj D r Q _ c' B W (X.below' Y hB) hr);have HV:=Ki (λr=>hv.at_ hK r);have ae:=Ki (λr=>a0.at_ hK r);obtain⟨N,hN⟩:=ex (max v.length D.length);have aj:max (v.length:Int) (D.length:Int)=(N:Int):=by omega
 have a9:=Ki (show N<=16 by have:=hv.1;have:=a0.1;omega);have ab:=Ki (λM A n c B W h=>AE M A n c B W h);clear U X hv a0 hN;go_enter Tryz.func33,Tryz.ntmps33;go_wp2;go_loopw [5,6] (λvo i wr=>No K N w vo i wr) (λ_ i _=>N+1-(intOf i).toNat);case atStart=>exact⟨0,[],Qh _,rfl,rfl,⟨Qh _,λx h=>by cases h⟩,⟨rfl,.inl ⟨rfl,rfl⟩⟩,Qc _ _⟩
 case round=>
  obtain⟨k,M,hk,rfl,I,J,j,hb⟩:=hrel;obtain⟨Ao,co,rfl,_,_⟩:=(Rd.of_own j).form;have HO:=Ki j;have E:=Ki hb;have HM:=Ki I;have ag:=Ki J;have am:=a9.o;by_cases al:k<N
  ·have e1:(k:Int)+1<=(N:Int):=(by omega);have HI:=Kj (Qu ((k:Int)+1)) (by unfold Qu;omega);have a1:=Ki (HA.o _ HI.o wr hb);have a2:=Ki (a4.o _ HI.o wr hb);obtain⟨p,hp⟩:=ex (Zw v ((k:Int)+1));obtain⟨q,hq⟩:∃p,Zw D ((k:Int)+1)=p:=⟨_,rfl⟩;have ac:=Kj ((0<=p/\p<=K)/\0<=q/\q<=K) ⟨by rw[<-hp];exact HV.o _,by rw[<-hq];exact ae.o _⟩;rw[hp] at a1;rw[hq] at a2;clear j hb I J;go_wp2_with fail;refine a1.o.mono ?_;rintro e w2 ⟨rfl,rfl⟩;go_wp2_with fail;refine a2.o.mono ?_;rintro e w3 ⟨rfl,rfl⟩;obtain⟨m,hm⟩:=ex (max p q);have a8:=Kj (0<=m/\m<=K) (by have:=ac.o;omega);have ak:k<=15:=(by omega);clear hp hq;go_wp2_with (at_builtin;refine Yf _ rfl _ _ 28 rfl w 3 i0 _ 1 8 CX hi z0 z1 z2 rfl (by decide) _ k _ rfl (HO.o.alloc _) ⟨wr.heap.size,0,none⟩ 1 1 (QS m) rfl rfl (Zd wr (QS m) 3) (IH m) (by unfold maxLen;omega) (by omega) (by have:=E.o.size;simp;omega) ?_);intro v9 W9 Z a3 _;have a5:=Ki ((E.o.alloc E.o.size (.cells (QS m).toArray 3)).grown a3 (by have:=E.o.size;simp;omega) (λai hj=>(HO.o.lt ai hj).1));have aa:=Ki (show W9.ownsRow w 3 1 v9 (k+1) ((M++[m]).flatMap QS) by rw[Zb,Xf];exact Z);obtain⟨A9,c9,rfl,_,_⟩:=(Rd.of_own Z).form
   have af:=Ki (show YC K (M++[m]) from⟨by rw[Qj,XZ];have:=HM.o;omega,λx hx=>by
    rcases Qq.1 hx with h|h;·exact ag.o.2 x h
    rw[Qw.1 h];exact a8.o⟩)
   have a7:=Ki (show(M++[m]).length=k+1 by rw[Qj,XZ,HM.o]);clear Z a3;go_wp2;go_roundw;case rel=>exact⟨k+1,M++[m],by omega,by go_num,a7.o,af.o,aa.o,a5.o⟩
   case measure=>simp[intOf];omega
  have ah:k=N:=(by omega);have e1:¬(k:Int)+1<=(N:Int):=(by omega);have ad:=Ki (ab.o M Ao k co wr wr (Rd.of_own j));have a6:=Ki (λW (O:Q0 wr W)=>Np I J j hb O (λx=>x));clear j hb ah I J;go_wp2_with fail;refine ad.o.mono ?_;rintro e w2 ⟨rfl,O⟩;have HF:=Ki (a6.o w2 O);clear O;go_wp2;go_ret;exact HF.o
theorem Q3G(K:Int)(hK:0<=K)(v:List Int)(hv:YC K v)(r:Nat)(hr:1<=r/\r<=16)(y:Int)(hy:0<=y/\y<=K)(A:Option Addr)(n c B:Nat)(w:World)(hR:Rd w B 1 (.slice A n c) n (v.flatMap QS))(hB:B<=w):Calls Tryz.prog 38 #[.slice A n c,.int .i64 (r:Int),y] w (IG K w (λx=>.tuple #[x,(0:Int)])):=by
 obtain rfl:=QL QS 1 Yy (by decide) hR.1;obtain⟨i0,hi,z0,z1,z2⟩:=Zc AP;have HA:=Ki (λr (hr:Qu r) W (hW:Below w w W)=>Fj v r A _ c B W (hR.below' hW hB) hr);have HV:=Ki (λr=>hv.at_ hK r);obtain⟨N,hN⟩:=ex (max v.length r);have ad:max (v.length:Int) (r:Int)=(N:Int):=by omega
 have a8:=Ki (show N<=16 by have:=hv.1;omega);have HY:=Ki hy;have r1:¬(r:Int)<1:=by omega
 have r2:¬(r:Int)>16:=by omega
 have a9:=Ki (λM A n c B W h=>AE M A n c B W h);clear hR hv hN hy;go_enter Tryz.func38,Tryz.ntmps38;go_wp2;go_loopw [8,9] (λvo i wr=>No K N w vo i wr) (λ_ i _=>N+1-(intOf i).toNat);case atStart=>exact⟨0,[],Qh _,rfl,rfl,⟨Qh _,λx h=>by cases h⟩,⟨rfl,.inl ⟨rfl,rfl⟩⟩,Qc _ _⟩
 case round=>
  obtain⟨k,M,hk,rfl,I,J,D,hb⟩:=hrel;obtain⟨Ao,co,rfl,_,_⟩:=(Rd.of_own D).form;have U:=Ki D;have j:=Ki hb;have Q:=Ki I;have a5:=Ki J;have af:=a8.o;by_cases ae:k<N
  ·have e1:(k:Int)+1<=(N:Int):=(by omega);by_cases a6:k+1=r
   ·have e2:((k:Int)+1==(r:Int))=true:=(by simp;omega);have e3:(k:Int)+1=(r:Int):=(by omega);have a0:=Kj (0<=y/\y<=K) HY.o;clear D hb I J a6;have ac:k<=15:=(by omega);go_wp2_with (at_builtin;refine Yf _ rfl _ _ 28 rfl w 3 i0 _ 1 8 CX hi z0 z1 z2 rfl (by decide) _ k _ rfl (U.o.alloc _) ⟨wr.heap.size,0,none⟩ 1 1 (QS y) rfl rfl (Zd wr (QS y) 3) (IH y) (by unfold maxLen;omega) (by omega) (by have:=j.o.size;simp;omega) ?_);intro v9 W9 E O _;have Y:=Ki ((j.o.alloc j.o.size (.cells (QS y).toArray 3)).grown O (by have:=j.o.size;simp;omega) (λa3 hj=>(U.o.lt a3 hj).1));have a1:=Ki (show W9.ownsRow w 3 1 v9 (k+1) ((M++[y]).flatMap QS) by rw[Zb,Xf];exact E);obtain⟨A9,c9,rfl,_,_⟩:=(Rd.of_own E).form
    have a2:=Ki (show YC K (M++[y]) from⟨by rw[Qj,XZ];have:=Q.o;omega,λx hx=>by
     rcases Qq.1 hx with h|h;·exact a5.o.2 x h
     rw[Qw.1 h];exact a0.o⟩)
    have Z:=Ki (show(M++[y]).length=k+1 by rw[Qj,XZ,Q.o]);clear E O;go_wp2;go_roundw;case rel=>exact⟨k+1,M++[y],by omega,by go_num,Z.o,a2.o,a1.o,Y.o⟩
    case measure=>simp[intOf];omega
   have e2:((k:Int)+1==(r:Int))=false:=(by simp;omega);have e3:¬(k:Int)+1=(r:Int):=(by omega);have HI:=Kj (Qu ((k:Int)+1)) (by unfold Qu;omega);have a4:=Ki (HA.o _ HI.o wr hb);obtain⟨p,hp⟩:=ex (Zw v ((k:Int)+1));have a0:=Kj (0<=p/\p<=K) (by rw[<-hp];exact HV.o _);rw[hp] at a4;clear D hb I J hp a6;go_wp2_with fail;refine a4.o.mono ?_;rintro e w2 ⟨rfl,rfl⟩;have ac:k<=15:=(by omega);go_wp2_with (at_builtin;refine Yf _ rfl _ _ 28 rfl w 3 i0 _ 1 8 CX hi z0 z1 z2 rfl (by decide) _ k _ rfl (U.o.alloc _) ⟨wr.heap.size,0,none⟩ 1 1 (QS p) rfl rfl (Zd wr (QS p) 3) (IH p) (by unfold maxLen;omega) (by omega) (by have:=j.o.size;simp;omega) ?_);intro v9 W9 E O _;have Y:=Ki ((j.o.alloc j.o.size (.cells (QS p).toArray 3)).grown O (by have:=j.o.size;simp;omega) (λa3 hj=>(U.o.lt a3 hj).1));have a1:=Ki (show W9.ownsRow w 3 1 v9 (k+1) ((M++[p]).flatMap QS) by rw[Zb,Xf];exact E);obtain⟨A9,c9,rfl,_,_⟩:=(Rd.of_own E).form
   have a2:=Ki (show YC K (M++[p]) from⟨by rw[Qj,XZ];have:=Q.o;omega,λx hx=>by
    rcases Qq.1 hx with h|h;·exact a5.o.2 x h
    rw[Qw.1 h];exact a0.o⟩)
   have Z:=Ki (show(M++[p]).length=k+1 by rw[Qj,XZ,Q.o]);clear E O;go_wp2;go_roundw;case rel=>exact⟨k+1,M++[p],by omega,by go_num,Z.o,a2.o,a1.o,Y.o⟩
   case measure=>simp[intOf];omega
  have ab:k=N:=(by omega);have e1:¬(k:Int)+1<=(N:Int):=(by omega);have aa:=Ki (a9.o M Ao k co wr wr (Rd.of_own D));have a7:=Ki (λW (X:Q0 wr W)=>Np I J D hb X (λx=>.tuple #[x,(0:Int)]));clear D hb ab I J;go_wp2_with fail;refine aa.o.mono ?_;rintro e w2 ⟨rfl,X⟩;have HF:=Ki (a7.o w2 X);clear X;go_wp2;go_ret2;exact HF.o
end
section
open Go Go.RowKit
def Q3v(l:List Q1)(w:World)(t i:Value)(wr:World):Prop:=∃k:Nat,k<=l.length/\i=k/\t=.int .i64 (XO (l.take k))/\∃q,wr=w.drewN q
theorem Q3w(l:List Q1)(A:Option Addr)(n c B:Nat)(w:World)(h:Rd w B 7 (.slice A n c) n (l.flatMap Qg)):Calls Tryz.prog 36 #[.slice A n c] w λe w'=>e=.returned (.int .i64 (XO l))/\Q0 w w':=by
 obtain⟨_,a1,W⟩:=h.len;unfold maxLen at W;obtain rfl:=QL Qg 7 (λ_=>rfl) (by decide) h.1;have O:=Ki h;clear h;go_enter Tryz.func36,Tryz.ntmps36;go_wp2;go_loopw [3,4] (λt i wr=>Q3v l w t i wr) (λ_ i _=>l.length-(intOf i).toNat);case atStart=>exact⟨0,Qh _,rfl,rfl,0,rfl⟩
 case round=>
  obtain⟨k,hk,rfl,rfl,q,rfl⟩:=hrel;by_cases J:k<l.length
  ·obtain⟨b,o,rfl,Z,j⟩:=Qr Qg 7 (λ_=>rfl) (by decide) O.o J;obtain⟨g,D⟩:∃g,l[k]=g:=⟨_,rfl⟩;rw[D] at j;have Y:w.cell? ⟨b,o+k*7,none⟩=some (.int .i64 g.s.T):=j 0 _ rfl;have U:=Ki (show XO (l.take (k+1))=max (XO (l.take k)) g.s.T by rw[QQ J,D,EI]);have a0:(0:Int)<=(k:Int):=(by omega);have X:(k:Int)<(l.length:Int):=(by omega);clear j D;generalize XO (l.take k)=t at *;go_wp2;go_roundw;case rel=>exact⟨k+1,by omega,by go_num,by rw[U.o],_,rfl⟩
   case measure=>simp[intOf];omega
  have I:l.take k=l:=Zk (by omega);rw[I];have X:¬((k:Int)<(l.length:Int)):=(by omega);obtain⟨t,E⟩:=ex (XO l);have Q:=Ki E;rw[E];clear I E;go_wp2;go_ret;exact⟨by rw[Q.o];rfl,(Q0.refl w).drewN q⟩
def Q3x(l:List Q1)(x:Q4)(z:Int):Prop:=(∃(k:Nat)(h:k<l.length),z=k/\l[k].s=x)\/(z = -1/\∀g∈l,g.s≠x)
def Q3y(l:List Q1)(x:Q4)(w:World)(i:Value)(wr:World):Prop:=∃k:Nat,k<=l.length/\i=k/\(∀g∈l.take k,g.s≠x)/\∃q,wr=w.drewN q
theorem Q3z(l:List Q1)(x:Q4)(A:Option Addr)(n c B:Nat)(w:World)(I:Rd w B 7 (.slice A n c) n (l.flatMap Qg))(hB:B<=w):Calls Tryz.prog 157 #[.slice A n c,QU x] w λe w'=>(∃z,e=.returned (.int .i64 z)/\Q3x l x z)/\Q0 w w':=by
 obtain⟨_,a7,a4⟩:=I.len;unfold maxLen at a4;obtain rfl:=QL Qg 7 (λ_=>rfl) (by decide) I.1;have HR:=Ki I;clear I;unfold QU;go_enter Tryz.func157,Tryz.ntmps157;go_wp2;obtain⟨E,J⟩:∃a3,w.alloc (.cells #[x.T,x.R] 27)=a3:=⟨_,rfl⟩;have Y:Q0 w E:=by rw[<-J];exact(Q0.refl w).alloc _
 have X:=bn J;rw[J];have c0:=cr0 X;have c1:=cR 1 X;have a1:=Ki (HR.o.below' Y.below hB);clear J X HR;go_loopw [5] (λi wr=>Q3y l x E i wr) (λi _=>l.length-(intOf i).toNat);case atStart=>exact⟨0,Qh _,rfl,by simp,0,rfl⟩
 case round=>
  obtain⟨k,hk,rfl,D,q,rfl⟩:=hrel;by_cases Z:k<l.length
  ·obtain⟨b,o,rfl,a5,O⟩:=Qr Qg 7 (λ_=>rfl) (by decide) a1.o Z;obtain⟨g,Q⟩:∃g,l[k]=g:=⟨_,rfl⟩;rw[Q] at O;have d0:E.cell? (b,o+k*7)=g.s.T:=O 0 _ rfl;have d1:E.cell? (b,o+k*7+1)=g.s.R:=O 1 _ rfl;have a0:=Ki Q;have hq:=GZ;have a6:=Kh;have hE:=F3 g.s x;have U:=Ki D;have a2:=Ki (show l.take (k+1)=l.take k++[g] by rw[QQ Z,Q]);clear O Q D;by_cases h:g.s=x;·rw[QF h] at hE;have W:=Ki h;clear h;go_wp2;go_quiet (fail);go_wp2;go_ret;exact⟨⟨_,rfl,.inl ⟨k,Z,rfl,by rw[a0.o];exact W.o⟩⟩,(Y.drewN q).drewN nq⟩
   rw[Zo h] at hE;have W:=Ki h;clear h;go_wp2;go_quiet (fail);go_wp2;go_roundw
   case rel=>
    refine⟨k+1,by omega,by go_num,?_,q+nq,rfl⟩;rw[a2.o];intro y j;rcases Qq.1 j with j|j;·exact U.o y j
    rw[Qw] at j;rw[j];exact W.o
   case measure=>simp[intOf];omega
  obtain rfl:k=l.length:=by omega
  rw[X6] at D;have U:=Ki D;clear D;go_wp2;go_ret;exact⟨⟨_,rfl,.inr ⟨rfl,U.o⟩⟩,Y.drewN q⟩
end
end Go.Proofs.YtfpafikfjjckeaaGreatDoor
