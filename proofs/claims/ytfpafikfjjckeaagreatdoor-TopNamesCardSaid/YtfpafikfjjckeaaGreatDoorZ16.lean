import Derived.Test.YtfpafikfjjckeaaGreatDoorZ15
set_option maxRecDepth 100000
set_option maxHeartbeats 200000000
namespace Go.Proofs.YtfpafikfjjckeaaGreatDoor
section
open Go Go.RowKit Go.Maps
theorem WX{w W:World}{base:Nat}{X:Nat->Prop}{a b c d e f:Z3}(Z:a.own w base)(hb:Below w.heap.size w W)(Y:b.own W w.heap.size)(hl:base<=w)(fa:∀k,a.v.ownBlock=some k->¬X k)(fb:∀k,X k->k<w)(I:c.own W base/\c.v.ownBlock=none)(J:d.own W base/\d.v.ownBlock=none)(O:e.own W base/\e.v.ownBlock=none)(Q:f.own W base/\f.v.ownBlock=none):Zr W base X [a,b,c,d,e,f]:=by
 have qa:=QB Z hb;have la:∀k,a.v.ownBlock=some k->k<w:=λk j=>(UG Z k j).2;have lb:∀k,b.v.ownBlock=some k->w<=k:=λk j=>(UG Y k j).1;constructor
 ·intro r E;simp only[QI,V3,JD] at E;rcases E with rfl|rfl|rfl|rfl|rfl|rfl;·exact qa
  ·exact Yp Y hl
  ·exact I.1
  ·exact J.1
  ·exact O.1
  exact Q.1
 ·intro r E k j hx;simp only[QI,V3,JD] at E;rcases E with rfl|rfl|rfl|rfl|rfl|rfl;·exact fa k j hx
  ·have:=lb k j;have:=fb k hx;omega
  ·rw[I.2] at j;cases j
  ·rw[J.2] at j;cases j
  ·rw[O.2] at j;cases j
  rw[Q.2] at j;cases j
 intro i a1 a2 r s E hs k j a0
 have U:∀(i:Nat)(r:Z3),[a,b,c,d,e,f][i]?=some r->r.v.ownBlock=some k->(i=0/\k<w)\/(i=1/\w<=k):=by
  intro i r h D
  match i,h with
  |0,h=>cases h;exact .inl ⟨rfl,la k D⟩
  |1,h=>cases h;exact .inr ⟨rfl,lb k D⟩
  |2,h=>cases h;rw[I.2] at D;cases D
  |3,h=>cases h;rw[J.2] at D;cases D
  |4,h=>cases h;rw[O.2] at D;cases D
  |5,h=>cases h;rw[Q.2] at D;cases D
  |n+6,h=>simp at h
 rcases U i r E j with⟨h,D⟩|⟨h,D⟩<;>rcases U a1 s hs a0 with⟨h3,h4⟩|⟨h3,h4⟩<;>omega
theorem LD(L:List Q4)(s:Q4):(VC L s).isSome=decide (s∈L):=by
 unfold VC;by_cases h:s∈L;·rw[Q7 h,QF h];rfl
 rw[Q6 h,Zo h];rfl
theorem WY:VC []=λ_=>none:=by funext s;simp[VC]
theorem WZ(L:List Q4)(x:Q4):VC (L++[x])=λy=>if y=x then some () else VC L y:=by
 funext y;unfold VC;by_cases h:y=x;·rw[Q7 h,Q7 (by rw[h];simp)]
 rw[Q6 h];by_cases j:y∈L;·rw[Q7 j,Q7 (Qq.2 (.inl j))]
 rw[Q6 j,Q6 (by simp[h,j])]
abbrev VD:Value:=.slice none 0 0
theorem V1.vw{X w W:World}{base p J O bm:Nat}{C:List Q1}{M U N L:List Q4}{E nv uv v:Value}(h:V1 X base p J O bm C M U N E nv uv w)(hb:Below w.heap.size w W)(Y:W.ownsRow w.heap.size 27 2 v L.length (L.flatMap Qv)):Vw (W.setCell ⟨p,1,none⟩ v) base p J O 0 0 (VC []) S0.fd (Yq E C) (QT v L) (ZH VD []) (ZI VD []) (QV VD []) (J3 VD [])/\Below base X (W.setCell ⟨p,1,none⟩ v):=by
 have I:=h.below hb;have Q:Qd (λb=>b=p) W (W.setCell ⟨p,1,none⟩ v):=Qd.setCell (F:=λb=>b=p) (p:=⟨p,1,none⟩) (Qd.refl _ W) (λ_=>rfl) _
 have Z:Zr W base (λb=>b=p\/b=J\/b=O) [Yq E C,QT v L,ZH VD [],ZI VD [],QV VD [],J3 VD []]:=
  WX (h.fam.own _ (by simp)) hb Y h.sz (λk hk D=>h.fam.free (Yq E C) (by simp) k hk (by rcases D with j|j|j;exact .inl j;exact .inr (.inl j);exact .inr (.inr (.inl j)))) (λk D=>h.mlt k (by rcases D with j|j|j;exact .inl j;exact .inr (.inl j);exact .inr (.inr (.inl j))))
   ⟨J8 _ _ _ _,rfl⟩ ⟨J8 _ _ _ _,rfl⟩ ⟨J8 _ _ _ _,rfl⟩ ⟨J8 _ _ _ _,rfl⟩
 refine⟨⟨Zf I.box,Z.touch Q (λ_ D=>.inl D),⟨_,Xo I.on Q (λe=>h.ne.1 e.symm),?_⟩,⟨_,Xo I.dirs Q (λe=>h.ne.2.1 e.symm),?_⟩,⟨h.ne.1,h.ne.2.1,h.ne.2.2.1⟩,⟨h.base_le.1,h.base_le.2.1,h.base_le.2.2.1⟩⟩,Xd I.bel h.base_le.1⟩;·rw[WY];exact Xu.start _
 exact Xu.start _
theorem LE:∀C:List Q1,YF (C.map (·.s)) (C.map (·.un))=C.map Y4|[]=>rfl|g::C=>by have:=LE C;unfold YF at *;simp_all [Y4]
def I0(l:List Q1)(w:World)(p j D bm:Nat)(I E i:Value)(wr:World):Prop:=
 ∃k:Nat,k<=l.length/\i=k/\∃h,V1 w w.heap.size p j D bm (Qs (l.take k)) ((Qs (l.take k)).map (·.s)) ((Qs (l.take k)).map (·.un)) (ZZ (l.take k)) h E I wr
def Q00(w:World)(base p j D:Nat)(C:List Q1)(L:List Q4)(h E:Value)(i:Value)(wr:World):Prop:=
 ∃k:Nat,k<=L.length/\i=k/\Vw wr base p j D k 0 (VC (L.take k)) S0.fd (Yq h C) (QT E L) (ZH VD []) (ZI VD []) (QV VD []) (J3 VD [])/\Below base w wr
def LF(w:World)(base p D E I N:Nat)(C:List Q1)(L:List Q4)(j J:Value)(S:VS):Prop:=
 ∃h O W U Q,h<=N/\Vw w base p D E I h (VC L) S.fd (Yq j C) (QT J L) (ZH O S.at_) (ZI W S.td) (QV U S.hv) (J3 Q S.gn)
def Q01(w:World)(base p j D E:Nat)(C:List Q1)(L:List Q4)(h I:Value)(i:Value)(wr:World):Prop:=
 ∃k:Nat,k<=C.length/\i=k/\LF wr base p j D E (QW (C.take k)) C L h I (Yr L (C.take k) S0)/\Below base w wr
def LG(l:List Q1)(w:World)(e:Ending)(w':World):Prop:=
 ∃p j D E N L h I,e=.returned (.pointer (p,0))/\LF w' w.heap.size p j D E N (Qs l) L h I (Yr L (Qs l) S0)/\Jx ((Qs l).map Y4) L/\L.length<=(Qs l).length/\Below w.heap.size w w'
theorem Q02:(Tryz.prog.info? 27).map (λi=>(i.zero,i.size,i.bytes))=some (some (.agg #[(0:Int),(0:Int)]),2,16):=by kernel_rfl
theorem Cu{W:World}{b:Nat}{xs:List Value}{t:TypeId}{D:Nat×Nat}(h:W.heap[b]?=some (.cells xs.toArray t D)):∀j u,xs[j]?=some u->W.cell? ((⟨b,0,none⟩:Addr).add j)=some u:=by intro j u E;rw[O6,V7,cell_of_row _ _ _ _ _ _ h,<-E];simp
theorem Q03(l:List Q1)(w:World):I0 l w (w.heap.size+2) w.heap.size (w.heap.size+1) (w.heap.size+3) (.slice (w.heap.size+4,0) 0 0) (.slice (w.heap.size+5,0) 0 0) (.int .i64 (0:Nat)) ((((((w.alloc (.map #[] 0)).alloc (.map #[] 0)).alloc (.cells #[.slice none 0 0,.slice none 0 0,.map (some w.heap.size),.slice none 0 0,.slice none 0 0,.map (some (w.heap.size+1)),.slice none 0 0,.slice none 0 0] 117)).alloc (.map #[] 0)).alloc (.cells #[] 27)).alloc (.cells #[] 27)):=by
 obtain⟨W,j⟩:=ex (((((((w.alloc (.map #[] 0)).alloc (.map #[] 0)).alloc (.cells #[.slice none 0 0,.slice none 0 0,.map (some w.heap.size),.slice none 0 0,.slice none 0 0,.map (some (w.heap.size+1)),.slice none 0 0,.slice none 0 0] 117)).alloc (.map #[] 0)).alloc (.cells #[] 27)).alloc (.cells #[] 27)));have b2:W.heap[w.heap.size+2]?=some (.cells #[.slice none 0 0,.slice none 0 0,.map (some w.heap.size),.slice none 0 0,.slice none 0 0,.map (some (w.heap.size+1)),.slice none 0 0,.slice none 0 0] 117 (0,0)):=by rw[<-j];(simp only[Zs,Qy,reduceIte];repeat (first|rw[Q7 (by omega)]|rw[Q6 (by omega)]))
 have O:W.heap[w.heap.size+4]?=some (.cells #[] 27 (0,0)):=by rw[<-j];(simp only[Zs,Qy,reduceIte];repeat (first|rw[Q7 (by omega)]|rw[Q6 (by omega)]))
 have Q:W.heap[w.heap.size+5]?=some (.cells #[] 27 (0,0)):=by rw[<-j];(simp only[Zs,Qy,reduceIte];repeat (first|rw[Q7 (by omega)]|rw[Q6 (by omega)]))
 have m1:W.ownsMap Tryz.prog 27 (Z7 XN) w.heap.size 0 (.map []):=by rw[<-j];exact(((((Yg w _ _ _).alloc _).alloc _).alloc _).alloc _).alloc _
 have m2:W.ownsMap Tryz.prog 60 (Z7 Value.bool) (w.heap.size+1) 0 (.map []):=by have:=Yg (w.alloc (.map #[] 0)) Tryz.prog 60 (Z7 Value.bool);rw[Qy] at this;rw[<-j];exact(((this.alloc _).alloc _).alloc _).alloc _
 have m3:W.ownsMap Tryz.prog 27 (plainElem Tryz.prog 3) (w.heap.size+3) 0 (DataW.map ([]:List (Lit×DataW HH))):=by have:=Yg (H:=HH) (((w.alloc (.map #[] 0)).alloc (.map #[] 0)).alloc (.cells #[.slice none 0 0,.slice none 0 0,.map (some w.heap.size),.slice none 0 0,.slice none 0 0,.map (some (w.heap.size+1)),.slice none 0 0,.slice none 0 0] 117)) Tryz.prog 27 (plainElem Tryz.prog 3);rw[Qy,Qy,Qy] at this;rw[<-j];exact(this.alloc _).alloc _
 have hb:Below w.heap.size w W:=by rw[<-j];exact((((((Q0.refl w).alloc _).alloc _).alloc _).alloc _).alloc _).alloc _ |>.below
 rw[j];clear j;refine⟨0,Qh _,rfl,.slice none 0 0,b2,?_,m1,m2,⟨_,_,EC m3⟩,⟨by omega,by omega,by omega,by omega,by omega,by omega⟩,⟨by omega,by omega,by omega,by omega⟩,hb,Q3 _⟩;have o4:(QT (.slice (w.heap.size+4,0) 0 0) []).own W w.heap.size:=Jv (by omega) O;have o5:(QT (.slice (w.heap.size+5,0) 0 0) []).own W w.heap.size:=Jv (by omega) Q;constructor
 ·intro r D;simp only[QI,V3,JD] at D;rcases D with rfl|rfl|rfl;·exact J8 _ _ _ _
  ·exact o5
  exact o4
 ·intro r D k I hx;simp only[QI,V3,JD] at D;rcases D with rfl|rfl|rfl;·cases I
  ·have e:w.heap.size+5=k:=(by simpa [Value.ownBlock,QT] using I);omega
  have e:w.heap.size+4=k:=(by simpa [Value.ownBlock,QT] using I);omega
 intro i a0 a1 r s D Z k I Y
 have J:∀(i:Nat)(r:Z3),[Yq (.slice none 0 0) (Qs (l.take 0)),QT (.slice (w.heap.size+5,0) 0 0) ((Qs (l.take 0)).map (·.s)),QT (.slice (w.heap.size+4,0) 0 0) ((Qs (l.take 0)).map (·.un))][i]?=some r->r.v.ownBlock=some k->(i=1/\w.heap.size+5=k)\/(i=2/\w.heap.size+4=k):=by
  intro i r h E
  match i,h with
  |0,h=>cases h;cases E
  |1,h=>cases h;exact .inl ⟨rfl,by simpa [Value.ownBlock,QT] using E⟩
  |2,h=>cases h;exact .inr ⟨rfl,by simpa [Value.ownBlock,QT] using E⟩
  |n+3,h=>simp at h
 rcases J i r D I with⟨h,E⟩|⟨h,E⟩<;>rcases J a0 s Z Y with⟨U,X⟩|⟨U,X⟩<;>omega
theorem Q04(l:List Q1)(A:Option Addr)(n c B:Nat)(w:World)(hG:Xi w B (.slice A n c) l)(hn:n<=1000)(hB:B<=w)(hT:ZD w)(c3:∀g∈l,∀o∈g.ops,o.tx.size<=1000000000)(bQ:∀g∈l,∀o∈g.ops,o.dots.length<=1000)(bZ:QW l<=900):Calls Tryz.prog 23 #[.slice A n c] w (LG l w):=by
 obtain rfl:n=l.length:=(Rd.len hG.r).1;have HR:=Ki (λW (hW:Below w.heap.size w W)=>hG.r.below' hW hB);have bq:=Ki (λg (J:g∈l) W (hW:Below w.heap.size w W)=>(show X4 W B g from⟨(hG.a g J).d.below' hW hB,(hG.a g J).i,(hG.a g J).o.below' hW hB,λo ho=>⟨((hG.a g J).a o ho).d.below' hW hB,((hG.a g J).a o ho).e.below' hW hB⟩⟩));have bk:=Ki (λg (J:g∈l) W (hW:Below w.heap.size w W)=>AI g B W (bq.o g J W hW) (Q9 hB hW.size) (hT.below hW) (c3 g J));have bo:=Ki bQ;have ck:=Ki (Q9 (Fx (Fs l)) bZ);have ca:=Ki hB;clear hG hT c3 bQ bZ;obtain⟨i0,hi,cE,cF,cG⟩:=Zc Ft;obtain⟨j0,hj,y0,y1,y2⟩:=Zc Q02;have cy:=@Ue Tryz.prog;go_enter Tryz.func23,Tryz.ntmps23;go_wp2;obtain⟨w1,bd⟩:∃W,(((((w.alloc (.map #[] 0)).alloc (.map #[] 0)).alloc (.cells #[.slice none 0 0,.slice none 0 0,.map (some w.heap.size),.slice none 0 0,.slice none 0 0,.map (some (w.heap.size+1)),.slice none 0 0,.slice none 0 0] 117)).alloc (.map #[] 0)).alloc (.cells #[] 27)).alloc (.cells #[] 27)=W:=⟨_,rfl⟩
 have aM:=Ki (show I0 l w (w.heap.size+1+1) w.heap.size (w.heap.size+1) (w.heap.size+1+1+1) (.slice (w.heap.size+1+1+1+1,0) 0 0) (.slice (w.heap.size+1+1+1+1+1,0) 0 0) (.int .i64 (0:Nat)) w1 from by
  rw[<-bd]
  exact Q03 l w)
 rw[bd];obtain⟨m1,bT⟩:∃b,w.heap.size=b:=⟨_,rfl⟩;obtain⟨b5,a9⟩:∃b,w.heap.size+1+1+1+1+1=b:=⟨_,rfl⟩;obtain⟨b4,a0⟩:∃b,w.heap.size+1+1+1+1=b:=⟨_,rfl⟩;obtain⟨bm,bM⟩:∃b,w.heap.size+1+1+1=b:=⟨_,rfl⟩;obtain⟨p,hp⟩:∃b,w.heap.size+1+1=b:=⟨_,rfl⟩;obtain⟨m2,bU⟩:∃b,w.heap.size+1=b:=⟨_,rfl⟩;rw[a9,a0,bM,hp,bU,bT] at aM |-;clear bd cy a9 a0 bM hp bU bT;go_loopw [5,6,22] (λuv nv i wr=>I0 l w p m1 m2 bm uv nv i wr) (λ_ _ i _=>l.length-(intOf i).toNat);case atStart=>exact aM.o
 case round=>
  clear aM;obtain⟨k,hk,rfl,gv,Z⟩:=hrel;obtain⟨C,hC⟩:=ex (Qs (l.take k));rw[hC] at Z;have bH:C.length<=1000:=by have:=EH (l.take k);rw[hC,Zi] at this;omega
  obtain⟨M,hM⟩:=ex (C.map (·.s));obtain⟨U,hU⟩:=ex (C.map (·.un));rw[hM,hU] at Z;have cX:M.length<=1000:=by rw[<-hM,Xh];exact bH
  have cY:U.length<=1000:=by rw[<-hU,Xh];exact bH
  have a2:=Kj (Qs (l.take k)=C/\C.map (·.s)=M/\C.map (·.un)=U) ⟨hC,hM,hU⟩;clear hC hM hU;have bV:wr.ownsRow w.heap.size 27 2 u6 M.length (M.flatMap Qv):=Z.fam.own (QT u6 M) (by simp);have bW:wr.ownsRow w.heap.size 27 2 u5 U.length (U.flatMap Qv):=Z.fam.own (QT u5 U) (by simp);obtain⟨X,Y,rfl,_,_⟩:=(Rd.of_own bV).form;obtain⟨O,Q,rfl,_,_⟩:=(Rd.of_own bW).form;clear bV bW;obtain⟨N,hN⟩:=ex (ZZ (l.take k));have cp:=Lg (l.take k);rw[Zi,JC (by omega),hN] at cp;rw[hN] at Z;have HN:=Ki hN;clear hN;by_cases an:k<l.length
  ·obtain⟨bg,og,e1,bE,a4⟩:=Qr Qg 7 (λ_=>rfl) (by decide) (HR.o wr Z.bel) an;obtain⟨g,J⟩:=ex (l[k]);rw[J] at a4;have aS:=Ki a4;have ce:=Ki (λW hW=>bk.o g (J▸Zt an) W hW);have a6:=Ki (show l.take (k+1)=l.take k++[g] by rw[QQ an,J]);rw[e1];have HV:=Ki Z;have cC:=Z.lt;have cr:=Z.mlt bm (.inr (.inr (.inr rfl)));have bR:(0:Int)<=(k:Int):=(by omega);have au:(k:Int)<(l.length:Int):=(by omega);have bt:=Kj (∀j,gv.ownBlock=some j->j<wr) (λj hj=>(Z.fam.lt (r:=Yq gv C) (by simp) hj).2);clear a4 J Z;go_upto_region 7 with(first|((with_reducible refine Ql 31 ?_);refine QA rfl 31 _ rfl _ _ _ rfl aS.o (by kernel_rfl) (Zl _) ?_)|((with_reducible refine Zm 31 ?_);refine Zp rfl 31 _ _ rfl _ _ rfl rfl _ _ (Qi _ _) (by kernel_rfl) rfl (by kernel_rfl) ?_;rw[Xm,Zn]));obtain⟨W4,a8⟩:∃W,wr.alloc (.cells (Qg g).toArray 31)=W:=⟨_,rfl⟩;have h4:=bn a8;have a0:=bl a8;rw[a8];clear a8;obtain⟨D,am⟩:∃b,wr.heap.size=b:=⟨_,rfl⟩;have aB:=Ki (Zz h4);rw[am] at aB h4 cC cr bt |-;have ai:=Ki (HV.o.bel.trans (a0.mono HV.o.sz));have aH:=(Q5.1 h4).1;have bj:=Ki (ce.o W4 ai.o);unfold Z2 at bj;go_wp2_with (((with_reducible refine Ql 31 ?_);refine QA rfl 31 _ rfl _ _ _ rfl aB.o (by kernel_rfl) (Zl _) ?_));refine bj.o.mono ?_;rintro e5 W5 ⟨rfl,a9⟩;have H5:=Ki ((a9.block D aH).trans h4);have c7:Below wr.heap.size wr W5:=a0.trans (a9.mono a0.size);have ao:=Ki (HV.o.below c7);clear h4 a0 a9 c7 aH am HV ai;rcases hok:ZG g with _|_
   ·have HE:=Ki (show ZZ (l.take (k+1))=N by rw[a6.o,EG,hok,HN.o];simp);have aj:=Ki (show Qs (l.take (k+1))=C by rw[a6.o,Gm,hok,a2.o.1];simp);have cB:((Fo false:Int) != 0)=true:=rfl;clear hok;go_wp2;go_roundw;case rel=>exact⟨k+1,by omega,by go_num,gv,by rw[HE.o,aj.o,a2.o.2.1,a2.o.2.2];exact ao.o⟩
    case measure=>simp[intOf];omega
   have cB:((Fo true:Int) != 0)=false:=rfl;have HE:=Ki (show ZZ (l.take (k+1))=N++[g.s] by rw[a6.o,EG,hok,HN.o];rfl)
   have aj:=Ki (show Qs (l.take (k+1))=C++(if g.s∈N then [] else [g]) by
    rw[a6.o,Gm,hok,a2.o.1,HN.o];by_cases h:g.s∈N;·rw[Q7 h,Q6 (λh'=>h'.2 h)]
    rw[Q6 h,Q7 ⟨rfl,h⟩])
   clear hok;obtain⟨t,ht⟩:=ex (cnt N g.s);have cv:=Fi N g.s;rw[ht] at cv;have aN:=Ki ht;obtain⟨m,cV,aV⟩:=ao.o.drew.had;have e0:=aV.look Vs U7 g.s;obtain⟨st,w6,E,e2,e3,e4,b8,D3,aW⟩:=aV.tick Vs Et U7 g.s (by omega);rw[ht] at e0 e2 e3 e4;unfold QU goInt at *;have c0:W5.drew.cell? (D,0)=g.s.T:=cell_of_row W5 D 0 _ _ _ H5.o;have c1:W5.drew.cell? (D,1)=g.s.R:=cell_of_row W5 D 1 _ _ _ H5.o;have hw:IntKind.i64.wrap ((t:Int)+1)=(t:Int)+1:=QO _ (by omega);have ci:=Ki aW;have aH:D<W5:=(Q5.1 H5.o).1;have H7:=Ki ((b8.block D aH (λe=>by cases e;omega)).trans H5.o);have a7:=Ki (ao.o.drew.tick b8 ⟨_,_,aW⟩);clear ht b8 aW aV;go_wp2;go_region;have e5:=ci.o.look Vs U7 g.s;have bP:cnt (N++[g.s]) g.s=t+1:=(by rw[C8,aN.o,Q7 rfl]);rw[bP] at e5;unfold QU at e5;have d0:E.cell? (D,0)=g.s.T:=cell_of_row E D 0 _ _ _ H7.o;have d1:E.cell? (D,1)=g.s.R:=cell_of_row E D 1 _ _ _ H7.o;clear e0 e2 e3 e4 c0 c1 bP;by_cases bc:t=0
   ·subst bc;have av:g.s∉N:=(Kz N g.s).1 aN.o;rw[Q6 av] at aj;clear av;have kp:E.cell? (p,0)=some gv:=cell_of_row E p 0 _ _ _ a7.o.box;have cH:E.cell? (D,0)=g.s.T:=cell_of_row E D 0 _ _ _ H7.o;have cI:E.cell? (D,1)=g.s.R:=cell_of_row E D 1 _ _ _ H7.o;have cJ:E.cell? (D,2)=g.n:=cell_of_row E D 2 _ _ _ H7.o;have cK:E.cell? (D,3)=some (.slice g.dv.A g.dv.n g.dv.c):=cell_of_row E D 3 _ _ _ H7.o;have cL:E.cell? (D,4)=g.un.T:=cell_of_row E D 4 _ _ _ H7.o;have cM:E.cell? (D,5)=g.un.R:=cell_of_row E D 5 _ _ _ H7.o;have cN:E.cell? (D,6)=some (.slice g.ov.A g.ov.n g.ov.c):=cell_of_row E D 6 _ _ _ H7.o;have bY:E.ownsRow w.heap.size 31 7 gv C.length (C.flatMap Qg):=a7.o.fam.own (Yq gv C) (by simp);have bz:=Ki bY;have aK:=Ki (λo'=>a7.o.drew.below ((Qc _ E.drew).alloc (Q3 _) o'))
    have HK:=Ki (show ∀o' W,(E.drew.alloc o').grownBy W gv.ownBlock->W.cell? (p,0)=some gv/\W.frozen? (p,0)=false/\W.heap[D]?=some (.cells (Qg g).toArray 31 (0,0)) from λo' W J=>by
     have be:=aK.o o';have hb:=(J.block p be.lt (λe=>be.fam.free (Yq gv C) (by simp) p e.symm (.inl rfl))).trans be.box;have l6:=(Q5.1 H7.o).1;have h6:=(J.block D (by simp;omega) (λe=>by have:=bt.o D e.symm;omega)).trans ((Z5 E.drew o' D l6).trans H7.o)
     exact⟨cell_of_row W p 0 _ _ _ hb,by simp[World.frozen?,hb],h6⟩)
    have bi:=Ki a7.o.sz;have lp:p<E:=a7.o.lt;have l6:D<E:=(Q5.1 H7.o).1;obtain⟨aT,b7,bO⟩:∃c,E.heap[p]?=some (.cells c 117 (0,0))/\c[0]?=some gv:=⟨_,a7.o.box,rfl⟩;have az:=Ki (λW (h:W.heap[p]?=some (.cells aT 117 (0,0))/\W.heap[D]?=some (.cells (Qg g).toArray 31 (0,0)))=>(show(λW=>W.cell? ⟨p,0,none⟩=some gv/\W.cell? ⟨D,0,none⟩=some (.int .i64 g.s.T)/\W.cell? ⟨D,1,none⟩=some (.int .i64 g.s.R)/\W.cell? ⟨D,2,none⟩=some (.int .i64 g.n)/\W.cell? ⟨D,3,none⟩=some (.slice g.dv.A g.dv.n g.dv.c)/\W.cell? ⟨D,4,none⟩=some (.int .i64 g.un.T)/\W.cell? ⟨D,5,none⟩=some (.int .i64 g.un.R)/\W.cell? ⟨D,6,none⟩=some (.slice g.ov.A g.ov.n g.ov.c)) W from⟨(cell_of_row W p 0 _ _ _ h.1).trans bO,cell_of_row W D 0 _ _ _ h.2,cell_of_row W D 1 _ _ _ h.2,cell_of_row W D 2 _ _ _ h.2,cell_of_row W D 3 _ _ _ h.2,cell_of_row W D 4 _ _ _ h.2,cell_of_row W D 5 _ _ _ h.2,cell_of_row W D 6 _ _ _ h.2⟩));have aZ:E.drew.heap[p]?=some (.cells aT 117 (0,0))/\E.drew.heap[D]?=some (.cells (Qg g).toArray 31 (0,0)):=⟨b7,H7.o⟩;have bI:∀o',(E.drew.alloc o').heap[p]?=some (.cells aT 117 (0,0))/\(E.drew.alloc o').heap[D]?=some (.cells (Qg g).toArray 31 (0,0)):=λo'=>⟨(Z5 E.drew o' p lp).trans b7,(Z5 E.drew o' D l6).trans H7.o⟩;clear bY;go_upto_region 10 with(fail);refine Jt rfl ?_;change wpAny _ _ _ _ 11 #[false,false,false,false,false,false,false,false,false,false,false] _ (World.drew _);refine' T0 0 ?_;try simp only[Act.put,PS]
    refine' T0 1 ?_;try simp only[Act.put,PS]
    refine' T0 2 ?_;try simp only[Act.put,PS]
    refine' T0 3 ?_;try simp only[Act.put,PS]
    refine Qn.of (n:=7) (g:=4) (S:=(λW=>W.cell? (p,0)=some gv/\W.cell? (D,0)=g.s.T/\W.cell? (D,1)=g.s.R/\W.cell? (D,2)=g.n/\W.cell? (D,3)=some (.slice g.dv.A g.dv.n g.dv.c)/\W.cell? (D,4)=g.un.T/\W.cell? (D,5)=g.un.R/\W.cell? (D,6)=some (.slice g.ov.A g.ov.n g.ov.c))) 3 _ _ _ ?_;refine' Qn.take2 (i:=4) (v:=_) rfl (by kernel_rfl) rfl (by kernel_rfl) (by kernel_rfl) (by kernel_rfl) (λ_ _ _ h=>h) (.inl ⟨by rfl,?y105⟩) ?S105 ?_;case y105=>(intro w' b3;(try dsimp only at b3);go_simp;(try with_reducible rfl))
    case S105=>exact az.o _ aZ
    try simp only[Act.put,PS]
    refine' Qn.take2 (i:=5) (v:=_) rfl (by kernel_rfl) rfl (by kernel_rfl) (by kernel_rfl) (by kernel_rfl) (λ_ _ _ h=>h) (.inl ⟨by rfl,?y106⟩) ?S106 ?_;case y106=>(intro w' b3;(try dsimp only at b3);go_simp;(try with_reducible rfl))
    case S106=>exact az.o _ aZ
    try simp only[Act.put,PS]
    refine Qn.all (rs:=[6]) (by kernel_rfl) rfl ?_;refine QH.cons rfl (by kernel_rfl) (λK hK=>?_) QH.nil;go_simp;refine hK.out _ _ (az.o _ (bI _)) (λcm=>?_);clear hK K cm;try simp only[PS]
    refine Qn.done (by kernel_rfl) ?_;refine Yk (rs:=[7]) (by kernel_rfl) (by simp) (Yi rfl (λK hK=>?_) Yj);refine Ja _ (by rfl) _ _ _ (by rfl) w.heap.size 31 i0 _ 7 88 GQ hi cE cF cG rfl (by omega) _ C.length _ (by rfl) ((ZY bz.o).alloc _) ⟨E.heap.size,0,none⟩ 1 1 [g.s.T,g.s.R,g.n,.slice g.dv.A g.dv.n g.dv.c,g.un.T,g.un.R,.slice g.ov.A g.ov.n g.ov.c] (by rfl) (by rfl) (Zd E.drew [g.s.T,g.s.R,g.n,.slice g.dv.A g.dv.n g.dv.c,g.un.T,g.un.R,.slice g.ov.A g.ov.n g.ov.c] 31) (KC g) (by omega) (by unfold maxLen;omega) (by omega) (by have:=bi.o;simp;omega) _ (by rfl) ?_;intro g4 cap W5 bX b9 bL cw;obtain⟨q0,q1,q2⟩:=HK.o _ W5 b9;refine hK _ _ ?_;clear hK K;try simp only[Act.put,PS]
    refine' T0 8 ?_;try simp only[Act.put,PS]
    refine' T0 9 ?_;try simp only[Act.put,PS]
    refine Yk (rs:=[10]) (by kernel_rfl) (by simp) (Yi rfl (λK hK=>?_) Yj);go_simp;refine hK _ _ ?_;clear hK K;try simp only[PS]
    refine YD (by kernel_rfl) ?_ _;have HP:=Ki ((aK.o _).push_gr g bX b9 bL);have ah:=Ki ((Xw (i:=0) (v:=(.slice (g4,0) (C.length+1) cap)) (show D≠p from by omega)).trans q2);clear bX b9 bL cw q0 q1 q2 kp cH cI cJ cK cL cM cN b7 bO aZ bI lp l6 d0 d1;clear HK aK az bz bi;obtain⟨I,c6⟩:∃W,W5.setCell (p,0) (.slice (g4,0) (C.length+1) cap)=W:=⟨_,rfl⟩;rw[c6] at HP ah |-;clear c6;have l6:D<I:=(Q5.1 ah.o).1;have aa:=Ki (λW' (h:W'.heap[D]?=some (.cells (Qg g).toArray 31 (0,0)))=>(show W'.cell? ⟨D,0,none⟩=some (.int .i64 g.s.T)/\W'.cell? ⟨D,1,none⟩=some (.int .i64 g.s.R)/\W'.cell? ⟨D,4,none⟩=some (.int .i64 g.un.T)/\W'.cell? ⟨D,5,none⟩=some (.int .i64 g.un.R) from⟨cell_of_row W' D 0 _ _ _ h,cell_of_row W' D 1 _ _ _ h,cell_of_row W' D 4 _ _ _ h,cell_of_row W' D 5 _ _ _ h⟩));have cf:=Ki (show(C++[g]).map (·.s)=M++[g.s] by rw[ZC,a2.o.2.1];rfl);have ch:=Ki (show(C++[g]).map (·.un)=U++[g.un] by rw[ZC,a2.o.2.2];rfl);go_upto_region 11 with(fail);have cx:(I.alloc (.cells #[g.un.T,g.un.R] 27)).drew.heap[D]?=some (.cells (Qg g).toArray 31 (0,0)):=(Z5 _ _ _ l6).trans ah.o;have aP:=Kj (V1 w w.heap.size p m1 m2 bm (C++[g]) M U (N++[g.s]) (.slice (g4,0) (C.length+1) cap) (.slice X M.length Y) (.slice O U.length Q) (I.alloc (.cells #[g.s.T,g.s.R] 27)).drew) ((HP.o.below ((Qc _ _).alloc (Q3 _) _)).drew);have aE:(I.alloc (.cells #[g.s.T,g.s.R] 27)).drew.heap[D]?=some (.cells (Qg g).toArray 31 (0,0)):=(Z5 _ _ _ l6).trans ah.o
    have bu:=Kj ((I.alloc (.cells #[g.s.T,g.s.R] 27)).drew.ownsRow w.heap.size 27 2 (.slice X M.length Y) M.length (M.flatMap Qv)) (aP.o.fam.own (QT (.slice X M.length Y) M) (by simp));have aQ:=Kj (V1 w w.heap.size p m1 m2 bm (C++[g]) M U (N++[g.s]) (.slice (g4,0) (C.length+1) cap) (.slice X M.length Y) (.slice O U.length Q) ((I.alloc (.cells #[g.s.T,g.s.R] 27)).alloc (.cells #[g.un.T,g.un.R] 27)).drew) (((HP.o.below ((Qc _ _).alloc (Q3 _) _)).below ((Qc _ _).alloc (Q3 _) _)).drew);have aF:((I.alloc (.cells #[g.s.T,g.s.R] 27)).alloc (.cells #[g.un.T,g.un.R] 27)).drew.heap[D]?=some (.cells (Qg g).toArray 31 (0,0)):=(Z5 _ _ _ (by simp;omega)).trans ((Z5 _ _ _ l6).trans ah.o);have bv:=Kj (((I.alloc (.cells #[g.s.T,g.s.R] 27)).alloc (.cells #[g.un.T,g.un.R] 27)).drew.ownsRow w.heap.size 27 2 (.slice X M.length Y) M.length (M.flatMap Qv)) (aQ.o.fam.own (QT (.slice X M.length Y) M) (by simp));have aR:=Kj (V1 w w.heap.size p m1 m2 bm (C++[g]) M U (N++[g.s]) (.slice (g4,0) (C.length+1) cap) (.slice X M.length Y) (.slice O U.length Q) ((I.alloc (.cells #[g.un.T,g.un.R] 27)).alloc (.cells #[g.s.T,g.s.R] 27)).drew) (((HP.o.below ((Qc _ _).alloc (Q3 _) _)).below ((Qc _ _).alloc (Q3 _) _)).drew);have aG:((I.alloc (.cells #[g.un.T,g.un.R] 27)).alloc (.cells #[g.s.T,g.s.R] 27)).drew.heap[D]?=some (.cells (Qg g).toArray 31 (0,0)):=(Z5 _ _ _ (by simp;omega)).trans ((Z5 _ _ _ l6).trans ah.o)
    have bw:=Kj (((I.alloc (.cells #[g.un.T,g.un.R] 27)).alloc (.cells #[g.s.T,g.s.R] 27)).drew.ownsRow w.heap.size 27 2 (.slice X M.length Y) M.length (M.flatMap Qv)) (aR.o.fam.own (QT (.slice X M.length Y) M) (by simp));have cb:=Kj (∀j u,([g.s.T,g.s.R]:List Value)[j]?=some u->(I.alloc (.cells #[g.s.T,g.s.R] 27)).drew.cell? ((⟨I.heap.size,0,none⟩:Addr).add j)=some u) (Zd I [g.s.T,g.s.R] 27);have bC:((I.alloc (.cells #[g.s.T,g.s.R] 27)).alloc (.cells #[g.un.T,g.un.R] 27)).drew.heap[I.heap.size]?=some (.cells #[g.s.T,g.s.R] 27 (0,0)):=(Z5 _ _ _ (by simp)).trans (Qi I _);have bF:((I.alloc (.cells #[g.s.T,g.s.R] 27)).alloc (.cells #[g.un.T,g.un.R] 27)).drew.heap[(I.heap.size+1)]?=some (.cells #[g.un.T,g.un.R] 27 (0,0)):=(by have:=Qi (I.alloc (.cells #[g.s.T,g.s.R] 27)) (.cells #[g.un.T,g.un.R] 27);rwa [Qy] at this);have cc:=Ki (Cu (xs:=[g.s.T,g.s.R]) bC);have br:=Ki bF;have bG:((I.alloc (.cells #[g.un.T,g.un.R] 27)).alloc (.cells #[g.s.T,g.s.R] 27)).drew.heap[I.heap.size]?=some (.cells #[g.un.T,g.un.R] 27 (0,0)):=(Z5 _ _ _ (by simp)).trans (Qi I _);have bD:((I.alloc (.cells #[g.un.T,g.un.R] 27)).alloc (.cells #[g.s.T,g.s.R] 27)).drew.heap[(I.heap.size+1)]?=some (.cells #[g.s.T,g.s.R] 27 (0,0)):=(by have:=Qi (I.alloc (.cells #[g.un.T,g.un.R] 27)) (.cells #[g.s.T,g.s.R] 27);rwa [Qy] at this);have cd:=Ki (Cu (xs:=[g.s.T,g.s.R]) bD);have bs:=Ki bG;have bf:=Ki (λk (hk:(Value.slice X M.length Y).ownBlock=some k)=>(HP.o.fam.lt (r:=QT (.slice X M.length Y) M) (by simp) hk).2)
    clear bC bD bF bG
    go_region_held3 (λW'=>W'.cell? (D,0)=g.s.T/\W'.cell? (D,1)=g.s.R/\W'.cell? (D,4)=g.un.T/\W'.cell? (D,5)=g.un.R)
     (first|exact aa.o _ ah.o|exact aa.o _ aE|exact aa.o _ aF|exact aa.o _ aG|exact aa.o _ cx|exact aa.o _ kA|exact aa.o _ ((Z5 _ _ _ (Q5.1 kA).1).trans kA)|exact aa.o _ kB|go_keep)
     (first
      |(refine Ja _ (by rfl) _ _ _ (by rfl) w.heap.size 27 j0 _ 2 16 G1 hj y0 y1 y2 rfl (by omega) _ M.length _ (by rfl) bu.o ⟨I.heap.size,0,none⟩ 1 1 [.int .i64 g.s.T,.int .i64 g.s.R] (by rfl) (by rfl) cb.o (by simp[Value.oneCell']) (by omega) (by unfold maxLen;omega) (by omega) aP.o.sz _ (by rfl) ?_;intro g1 bA WA af a3 ac ae;have a1:=aP.o.push_nm g.s af a3 ac (Q3 _);have kA:=(a3.block D (Q5.1 aE).1 (λe=>ZN (r:=QT (.slice X M.length Y) M) bu.o aE (show(31:TypeId)≠27 by decide) e.symm)).trans aE;clear af a3 ac ae)
      |(refine Ja _ (by rfl) _ _ _ (by rfl) w.heap.size 27 j0 _ 2 16 G1 hj y0 y1 y2 rfl (by omega) _ M.length _ (by rfl) bv.o ⟨I.heap.size,0,none⟩ 1 1 [.int .i64 g.s.T,.int .i64 g.s.R] (by rfl) (by rfl) cc.o (by simp[Value.oneCell']) (by omega) (by unfold maxLen;omega) (by omega) aQ.o.sz _ (by rfl) ?_;intro g1 bA WA af a3 ac ae;have a1:=aQ.o.push_nm g.s af a3 ac (Q3 _);have kA:=(a3.block D (Q5.1 aF).1 (λe=>ZN (r:=QT (.slice X M.length Y) M) bv.o aF (show(31:TypeId)≠27 by decide) e.symm)).trans aF;have aU:=Cu (xs:=[.int .i64 g.un.T,.int .i64 g.un.R]) ((a3.block (I.heap.size+1) (Q5.1 br.o).1 (λe=>by have:=bf.o _ e.symm;omega)).trans br.o);clear af a3 ac ae)
      |(refine Ja _ (by rfl) _ _ _ (by rfl) w.heap.size 27 j0 _ 2 16 G1 hj y0 y1 y2 rfl (by omega) _ M.length _ (by rfl) bw.o ⟨(I.heap.size+1),0,none⟩ 1 1 [.int .i64 g.s.T,.int .i64 g.s.R] (by rfl) (by rfl) cd.o (by simp[Value.oneCell']) (by omega) (by unfold maxLen;omega) (by omega) aR.o.sz _ (by rfl) ?_;intro g1 bA WA af a3 ac ae;have a1:=aR.o.push_nm g.s af a3 ac (Q3 _);have kA:=(a3.block D (Q5.1 aG).1 (λe=>ZN (r:=QT (.slice X M.length Y) M) bw.o aG (show(31:TypeId)≠27 by decide) e.symm)).trans aG;have aU:=Cu (xs:=[.int .i64 g.un.T,.int .i64 g.un.R]) ((a3.block I.heap.size (Q5.1 bs.o).1 (λe=>by have:=bf.o _ e.symm;omega)).trans bs.o);clear af a3 ac ae)
      |(refine Ja _ (by rfl) _ _ _ (by rfl) w.heap.size 27 j0 _ 2 16 G1 hj y0 y1 y2 rfl (by omega) _ U.length _ (by rfl) (show(WA.alloc (.cells #[.int .i64 g.un.T,.int .i64 g.un.R] 27)).ownsRow w.heap.size 27 2 (.slice O U.length Q) U.length (U.flatMap Qv) from(a1.below ((Qc _ _).alloc (Q3 _) (.cells #[.int .i64 g.un.T,.int .i64 g.un.R] 27))).fam.own (QT (.slice O U.length Q) U) (by simp)) ⟨WA.heap.size,0,none⟩ 1 1 [.int .i64 g.un.T,.int .i64 g.un.R] (by rfl) (by rfl) (Zd WA [.int .i64 g.un.T,.int .i64 g.un.R] 27) (by simp[Value.oneCell']) (by omega) (by unfold maxLen;omega) (by omega) (a1.below ((Qc _ _).alloc (Q3 _) (.cells #[.int .i64 g.un.T,.int .i64 g.un.R] 27))).sz _ (by rfl) ?_;intro g2 bB WB ag a5 ad ar;have aL:=Ki ((a1.below ((Qc _ _).alloc (Q3 _) (.cells #[.int .i64 g.un.T,.int .i64 g.un.R] 27))).push_ud g.un ag a5 ad (Q3 _));have kB:=(a5.block D (by have:=(Q5.1 kA).1;simp;omega) (λe=>ZN (r:=QT (.slice O U.length Q) U) ((a1.below ((Qc _ _).alloc (Q3 _) (.cells #[.int .i64 g.un.T,.int .i64 g.un.R] 27))).fam.own (QT (.slice O U.length Q) U) (by simp)) ((Z5 _ _ _ (Q5.1 kA).1).trans kA) (show(31:TypeId)≠27 by decide) e.symm)).trans ((Z5 _ _ _ (Q5.1 kA).1).trans kA);clear ag a5 ad ar)
      |(refine Ja _ (by rfl) _ _ _ (by rfl) w.heap.size 27 j0 _ 2 16 G1 hj y0 y1 y2 rfl (by omega) _ U.length _ (by rfl) (show WA.ownsRow w.heap.size 27 2 (.slice O U.length Q) U.length (U.flatMap Qv) from a1.fam.own (QT (.slice O U.length Q) U) (by simp)) ⟨(I.heap.size+1),0,none⟩ 1 1 [.int .i64 g.un.T,.int .i64 g.un.R] (by rfl) (by rfl) aU (by simp[Value.oneCell']) (by omega) (by unfold maxLen;omega) (by omega) a1.sz _ (by rfl) ?_;intro g2 bB WB ag a5 ad ar;have aL:=Ki (a1.push_ud g.un ag a5 ad (Q3 _));have kB:=(a5.block D (Q5.1 kA).1 (λe=>ZN (r:=QT (.slice O U.length Q) U) (a1.fam.own (QT (.slice O U.length Q) U) (by simp)) kA (show(31:TypeId)≠27 by decide) e.symm)).trans kA;clear ag a5 ad ar)
      |(refine Ja _ (by rfl) _ _ _ (by rfl) w.heap.size 27 j0 _ 2 16 G1 hj y0 y1 y2 rfl (by omega) _ U.length _ (by rfl) (show WA.ownsRow w.heap.size 27 2 (.slice O U.length Q) U.length (U.flatMap Qv) from a1.fam.own (QT (.slice O U.length Q) U) (by simp)) ⟨I.heap.size,0,none⟩ 1 1 [.int .i64 g.un.T,.int .i64 g.un.R] (by rfl) (by rfl) aU (by simp[Value.oneCell']) (by omega) (by unfold maxLen;omega) (by omega) a1.sz _ (by rfl) ?_;intro g2 bB WB ag a5 ad ar;have aL:=Ki (a1.push_ud g.un ag a5 ad (Q3 _));have kB:=(a5.block D (Q5.1 kA).1 (λe=>ZN (r:=QT (.slice O U.length Q) U) (a1.fam.own (QT (.slice O U.length Q) U) (by simp)) kA (show(31:TypeId)≠27 by decide) e.symm)).trans kA;clear ag a5 ad ar))
    all_goals
     go_wp2;go_roundw;case rel=>exact⟨k+1,by omega,by go_num,_,by rw[HE.o,aj.o,cf.o,ch.o];exact aL.o⟩
     case measure=>simp[intOf];omega
   have av:g.s∈N:=O4 λh=>bc (aN.o.symm.trans ((Kz N g.s).2 h));rw[Q7 av,ZB] at aj;have d4:(((t+1:Nat):Int)>1):=(by omega);have d5:((t:Int)+1>1):=(by omega);clear bc av;go_wp2;go_roundw;case rel=>exact⟨k+1,by omega,by go_num,gv,by rw[HE.o,aj.o,a2.o.2.1,a2.o.2.2];exact a7.o⟩
   case measure=>simp[intOf];omega
  have bS:l.take k=l:=Zk (by omega);rw[bS] at a2;have HC:=Ki a2.o.1;have au:¬((k:Int)<(l.length:Int)):=(by omega);have hZ:=LE C;rw[a2.o.2.1,a2.o.2.2] at hZ;have HZ:=Ki hZ;have cq:QW C<=900:=(by rw[<-HC.o];exact ck.o);obtain⟨Ag,cg,rfl,_,_⟩:=(Rd.of_own (show wr.ownsRow w.heap.size 31 7 gv C.length (C.flatMap Qg) from Z.fam.own (Yq gv C) (by simp))).form;have HV:=Ki Z;have bx:=Ki (WC M U X O M.length Y U.length Q wr.heap.size wr (Rd.of_own (show wr.ownsRow w.heap.size 27 2 (.slice X M.length Y) M.length (M.flatMap Qv) from Z.fam.own (QT (.slice X M.length Y) M) (by simp))) (Rd.of_own (show wr.ownsRow w.heap.size 27 2 (.slice O U.length Q) U.length (U.flatMap Qv) from Z.fam.own (QT (.slice O U.length Q) U) (by simp))) (Q3 _) (by omega));clear Z bS hZ bk HR HN;go_wp2_with fail;refine bx.o.mono ?_;rintro e4 W4 ⟨v4,L,rfl,aX,aY,cW,a0⟩;rw[HZ.o] at aY;have co:L.length<=C.length:=(by have h:=Xz List.length a2.o.2.1;rw[Xh] at h;omega);obtain⟨A4,c4,rfl,_,_⟩:=(Rd.of_own aX).form;obtain⟨bJ,bN⟩:=HV.o.vw a0 aX;have aI:=(a0.block p HV.o.lt).trans HV.o.box;have f1:W4.frozen? (p,1)=false:=(by simp[World.frozen?,aI]);have c1:W4.cell? (p,1)=some (.slice none 0 0):=cell_of_row W4 p 1 _ _ _ aI;have ap:=Ki bJ;have aJ:=Ki bN;have cj:=Ki aY;have cO:p<W4:=(Q5.1 aI).1;clear bJ bN aI aX aY a0 HV bx;go_upto_region 14 with(fail);obtain⟨W5,bK⟩:∃W,W4.setCell (p,1) (.slice A4 L.length c4)=W:=⟨_,rfl⟩;rw[bK] at ap aJ |-
  have d1:W5.cell? (p,1)=some (.slice A4 L.length c4):=cell_of_row W5 p 1 _ _ _ ap.o.box;have cP:p<W5:=ap.o.lt;clear bK f1 c1 cO;go_wp2;go_loopw [73] (λi wr=>Q00 w w.heap.size p m1 m2 C L (.slice Ag C.length cg) (.slice A4 L.length c4) i wr) (λi _=>L.length-(intOf i).toNat);case atStart=>exact⟨0,Qh _,rfl,ap.o,aJ.o⟩
  case round=>
   clear ap aJ d1 cP;obtain⟨j,hj,rfl,ab,hb2⟩:=hrel;by_cases an:j<L.length
   ·obtain⟨bg,og,e1,bE,a4⟩:=Qr Qv 2 (λ_=>rfl) (by decide) (Rd.of_own (show wr.ownsRow w.heap.size 27 2 (.slice A4 L.length c4) L.length (L.flatMap Qv) from ab.fam.own (QT (.slice A4 L.length c4) L) (by simp))) an;obtain⟨s,hs⟩:=ex (L[j]);rw[hs] at a4;have a6:=Ki (show L.take (j+1)=L.take j++[s] by rw[QQ an,hs]);have q0:wr.cell? (bg,og+j*2)=s.T:=a4 0 _ rfl;have q1:wr.cell? (bg,og+j*2+1)=s.R:=a4 1 _ rfl;have ak:=Ki ab;have ax:=Ki hb2;have bR:(0:Int)<=(j:Int):=(by omega);have au:(j:Int)<(L.length:Int):=(by omega);subst e1;clear a4 hs ab hb2;go_upto_region 17 with(fail);obtain⟨W6,aC⟩:∃W,wr.alloc (.cells #[s.T,s.R] 27)=W:=⟨_,rfl⟩;have am:=bl aC;have h6:=bn aC;rw[aC];have aA:=Ki (ak.o.below am).drew;have bh:=Ki (ax.o.trans (am.mono (Q9 ak.o.base_le.1 (Xn ak.o.lt)))).drew;have r0:W6.cell? (wr.heap.size,0)=s.T:=cell_of_row W6 _ 0 _ _ _ h6;have r1:W6.cell? (wr.heap.size,1)=s.R:=cell_of_row W6 _ 1 _ _ _ h6;have r2:W6.cell? (p,2)=some (.map (some m1)):=cell_of_row W6 _ 2 _ _ _ aA.o.box;have d6:p<W6:=aA.o.lt;have d7:wr.heap.size<W6.heap.size:=(Q5.1 h6).1;obtain⟨E,cD,c5,c2⟩:=aA.o.seton (by unfold maxLen;omega) s;have a7:=Ki c5;have c9:=Kj (Below w.heap.size w E) (bh.o.trans (c2.below bh.o.size (λx hx e=>by have:=aA.o.base_le.2.1;omega)));unfold QU at cD;clear aC am h6 q0 q1 c5 c2;go_region;go_wp2;go_roundw;case rel=>exact⟨j+1,by omega,by go_num,by rw[a6.o,WZ];exact a7.o,c9.o⟩
    case measure=>simp[intOf];omega
   have aw:L.take j=L:=Zk (by omega);rw[aw] at ab;have au:¬((j:Int)<(L.length:Int)):=(by omega);have d0:wr.cell? (p,0)=some (.slice Ag C.length cg):=cell_of_row wr p 0 _ _ _ ab.box;have cQ:p<wr:=ab.lt;have ak:=Ki ab;have ax:=Ki hb2;obtain⟨wm,rfl⟩:∃wm:World,wm=wr:=⟨_,rfl⟩;obtain⟨n1,cz⟩:=ex (j);clear ab hb2 aw;go_wp2;go_loopw [89] (λi wr=>Q01 w w.heap.size p m1 m2 j C L (.slice Ag C.length cg) (.slice A4 L.length c4) i wr) (λi _=>C.length-(intOf i).toNat);case atStart=>exact⟨0,Qh _,rfl,⟨0,_,_,_,_,Qh _,ak.o⟩,ax.o⟩
   case round=>
    clear ak ax d0 cQ cz;obtain⟨i3,cZ,rfl,⟨n2,va,vt,vh,vg,bb,al⟩,aD⟩:=hrel;by_cases ba:i3<C.length
    ·obtain⟨bg,og,e1,bE,a4⟩:=Qr Qg 7 (λ_=>rfl) (by decide) (Rd.of_own (show wr.ownsRow w.heap.size 31 7 (.slice Ag C.length cg) C.length (C.flatMap Qg) from al.fam.own (Yq (.slice Ag C.length cg) C) (by simp))) ba;obtain⟨g,J⟩:=ex (C[i3]);rw[J] at a4;have ae:g∈l:=XC (by rw[HC.o];exact J▸Zt ba);have aS:=Ki a4;have a6:=Ki (show C.take (i3+1)=C.take i3++[g] by rw[QQ ba,J]);have d3:QW (C.take i3)+g.ops.length<=900:=(by rw[<-Gs,<-a6.o];exact Q9 (Fx (List.take_sublist _ _)) cq);have aO:=Ki al;have ay:=Ki aD;have cl:=Ki (AV L (C.take i3) (λx hx=>bo.o x (XC (by rw[HC.o];exact U8 hx))));have bR:(0:Int)<=(i3:Int):=(by omega);have au:(i3:Int)<(C.length:Int):=(by omega);subst e1;clear a4 J al aD;go_upto_region 22 with(first|((with_reducible refine Ql 31 ?_);refine QA rfl 31 _ rfl _ _ _ rfl aS.o (by kernel_rfl) (Zl _) ?_)|((with_reducible refine Zm 31 ?_);refine Zp rfl 31 _ _ rfl _ _ rfl rfl _ _ (Qi _ _) (by kernel_rfl) rfl (by kernel_rfl) ?_;rw[Xm,Zn]));obtain⟨W4,a8⟩:∃W,wr.alloc (.cells (Qg g).toArray 31)=W:=⟨_,rfl⟩;have h4:=bn a8;have a0:=bl a8;rw[a8];have aB:=Ki (Zz h4);have ai:=Ki (ay.o.trans (a0.mono ay.o.size));have bp:=Ki (Wh g B (QW (C.take i3)) (1000*QW (C.take i3)) ⟨n2,bb,aO.o.below a0⟩ (bq.o g ae W4 ai.o) ca.o ai.o.size cl.o (by omega) (by omega) (by omega) (bo.o g ae));have d2:=(Q5.1 h4).1;unfold Z2 at bp;clear a8 h4 a0;go_wp2_with (((with_reducible refine Ql 31 ?_);refine QA rfl 31 _ rfl _ _ _ rfl aB.o (by kernel_rfl) (Zl _) ?_));refine bp.o.mono ?_
     rintro e5 W5 ⟨rfl,aq,a9⟩;have ao:=Ki aq;have c8:=Ki (ai.o.trans a9);clear aq a9;go_wp2;go_roundw;case rel=>obtain⟨cR,cU,cT,cS,n5,cA,aq⟩:=ao.o;rw[LD] at aq;exact⟨i3+1,by omega,by go_num,⟨n5,cR,cU,cT,cS,by rw[a6.o,Gs];exact cA,by rw[a6.o,Gr];exact aq⟩,c8.o⟩
     case measure=>simp[intOf];omega
    have aw:C.take i3=C:=Zk (by omega);rw[aw] at al bb;have au:¬((i3:Int)<(C.length:Int)):=(by omega);have aO:=Ki al;have ay:=Ki aD;clear al aD aw;go_wp2;go_ret;exact⟨p,m1,m2,j,_,L,_,_,rfl,⟨n2,va,vt,vh,vg,bb,by rw[HC.o];exact aO.o⟩,by rw[HC.o];exact cj.o,by rw[HC.o];exact co,ay.o⟩
end
section
open Go Go.RowKit Go.Maps
theorem Zr.put2{w w':World}{base:Nat}{X:Nat->Prop}{rs:List Z3}(h:Zr w base X rs){i:Nat}{r:Z3}(Q:rs[i]?=some r){v:Value}{n:Nat}{xs:List Value}(O:w'.ownsRow base r.e r.K v n xs)(a0:w.grownBy w' r.v.ownBlock)(Z:v.ownBlock=r.v.ownBlock\/v.ownBlock=some w.heap.size)(hX:∀b,X b->b<w):Zr w' base X (rs.set i ⟨r.e,r.K,v,n,xs⟩):=by
 rcases O.2 with⟨rfl,hx⟩|⟨g,cap,a4,rfl,_⟩
 ·have a5:=O.1;have hr:r∈rs:=J9 Q;have a2:i<rs.length:=(Kb.1 Q).1
  have a3:r.v.ownBlock=none:=by
   rcases Z with E|E;·rw[<-E];rfl
   cases E
  have old:∀(j:Nat)(s:Z3),rs[j]?=some s->s.own w' base:=λj s D=>World.ownsRow.kept (h.own s (J9 D)) a0 (by rw[a3];cases hv:s.v.ownBlock with|none=>exact .inl rfl|some c=>exact .inr (by simp))
  have J:∀(j:Nat)(s:Z3),(rs.set i ⟨r.e,r.K,.slice none 0 0,n,xs⟩)[j]?=some s->(j=i/\s=⟨r.e,r.K,.slice none 0 0,n,xs⟩)\/(j≠i/\rs[j]?=some s):=by
   intro j s D;by_cases Y:j=i;·subst Y;rw[List.getElem?_set_self a2] at D;exact .inl ⟨rfl,by cases D;rfl⟩
   rw[List.getElem?_set_ne (λe=>Y e.symm)] at D;exact .inr ⟨Y,D⟩
  constructor
  ·intro s D;obtain⟨j,U⟩:=List.mem_iff_getElem?.1 D;rcases J j s U with⟨_,rfl⟩|⟨_,I⟩;·exact O
   exact old j s I
  ·intro s D b hb;obtain⟨j,U⟩:=List.mem_iff_getElem?.1 D;rcases J j s U with⟨_,rfl⟩|⟨_,I⟩;·cases hb
   exact h.free s (J9 I) b hb
  intro a c a1 s u D hu b hb hb2;rcases J a s D with⟨_,rfl⟩|⟨_,I⟩;·cases hb
  rcases J c u hu with⟨_,rfl⟩|⟨_,h3⟩;·cases hb2
  exact h.apart a c a1 s u I h3 b hb hb2
 exact h.put Q O a0 (by
  rcases Z with E|E;·exact .inl E.symm
  exact .inr (by cases E;rfl)) (Q3 _) hX
theorem KE{P:Program}{w:World}{a0:Array Oper}{rest:List Oper}{o:Oper}{a:Act}{Q:Exit->Act->World->Prop}(J:o.guard=none)(s x:Operand)(t:TypeId)(X:o.op=.call { callee:=.builtin .append,args:=#[s,x],argTypes:=#[t,t] })(base:Nat)(e:TypeId)(i:TypeInfo)(z:Value)(size E:Nat)(Z:P.underlying t=some (.slice e))(O:P.info? e=some i)(hz:i.zero=some z)(a6:i.size=size)(a3:i.bytes=E)(a9:z.cells.size=size)(a8:0<size)(v:Value)(n:Nat)(xs:List Value)(Y:a.eval s=v)(I:w.ownsRow base e size v n xs)(vb:Value)(B m:Nat)(D:List Value)(hx:a.eval x=vb)(a7:Rd w B size vb m D)(h1:∀u∈D,u.oneCell'=true)(a1:n+m<=maxLen)(a4:(n+m)*E<=140737488355328)(a2:base<=w)(h:∀j w',w'.ownsRow base e size j (n+m) (xs++D)->w.grownBy w' v.ownBlock->(j.ownBlock=v.ownBlock\/j.ownBlock=some w.heap.size)->wpList P a0 Q rest (a.put o.dst j) w'):wpList P a0 Q (o::rest) a w:=by
 obtain⟨U,A,c,rfl,_,_,hc⟩:=a7;rcases Dm m with rfl|hm;·have hn:D=[]:=VJ (by simpa using U);subst hn;have hr:=OM (w:=w) base t o.type e i size Z O v n xs I A c;refine wpList_plain J λ_ hK=>?_;unfold Oper.wp execOp;simp only[X,resolve,invoke,builtin,DE,DD,Dp,B3,ZW,Kf,Y,hx,hr];exact hK _ _ (h v w (by simpa using I) ⟨rfl,rfl,rfl,Q3 _,λ_ _ _=>rfl⟩ (.inl rfl))
 obtain⟨b,o',rfl,_,a5⟩:=hc hm;exact KY w J s x t X base e i z size E Z O hz a6 a3 a9 a8 v n xs Y I ⟨b,o',none⟩ m c D hx U (λaa u hu=>by rw[O6];exact a5 aa u hu) h1 a1 a4 a2 (λj w' h2 h3 _ h5=>h j w' h2 h3 h5)
def JR(v:Value)(l:List Rn):Z3:=⟨131,7,v,l.length,l.flatMap XL⟩
def ZE(v:Value)(l:List Id):Z3:=⟨60,3,v,l.length,l.flatMap Qe⟩
structure Tx(w0:World)(b3:Nat)(x:Id)(R:List Rn)(Gn:List Id)(v6 v7:Value)(w:World):Prop where
 fam:Zr w w0 (λb=>b=b3) [JR v6 R,ZE v7 Gn]
 b3:w.heap[b3]?=some (.cells (Qe x).toArray 60 (0,0))
 bel:Below w0 w0 w
section
variable {w0 w W:World} {b3:Nat} {x:Id} {R:List Rn} {Gn:List Id} {v6 v7:Value}
theorem Tx.below(h:Tx w0 b3 x R Gn v6 v7 w)(hb:Below w w W):Tx w0 b3 x R Gn v6 v7 W:=⟨h.fam.below hb,(hb.block b3 (Q5.1 h.b3).1).trans h.b3,h.bel.trans (hb.mono h.bel.size)⟩
theorem Tx.push_r(h:Tx w0 b3 x R Gn v6 v7 w)(r:Rn){v:Value}(O:W.ownsRow w0 131 7 v (R.length+1) (R.flatMap XL++XL r))(j:w.grownBy W v6.ownBlock)(I:v.ownBlock=v6.ownBlock\/v.ownBlock=some w.heap.size):Tx w0 b3 x (R++[r]) Gn v v7 W:=by
 have E:JR v (R++[r])=⟨131,7,v,R.length+1,R.flatMap XL++XL r⟩:=by unfold JR;simp
 have D:=(Q5.1 h.b3).1;have J:Zr W w0 (λb=>b=b3) ([JR v6 R,ZE v7 Gn].set 0 ⟨131,7,v,R.length+1,R.flatMap XL++XL r⟩):=h.fam.put2 (i:=0) (r:=JR v6 R) rfl O j I (λb hb=>by subst hb;exact D);refine⟨?_,(j.block b3 D (λe=>h.fam.free (JR v6 R) (by simp) b3 e.symm rfl)).trans h.b3,UU h.bel (Q3 _) (h.fam.own (JR v6 R) (by simp)) j⟩;rw[E];exact J
theorem Tx.push_g(h:Tx w0 b3 x R Gn v6 v7 w)(l:List Id){v:Value}(O:W.ownsRow w0 60 3 v (Gn.length+l.length) (Gn.flatMap Qe++l.flatMap Qe))(j:w.grownBy W v7.ownBlock)(I:v.ownBlock=v7.ownBlock\/v.ownBlock=some w.heap.size):Tx w0 b3 x R (Gn++l) v6 v W:=by
 have E:ZE v (Gn++l)=⟨60,3,v,Gn.length+l.length,Gn.flatMap Qe++l.flatMap Qe⟩:=by unfold ZE;simp
 have D:=(Q5.1 h.b3).1;have J:Zr W w0 (λb=>b=b3) ([JR v6 R,ZE v7 Gn].set 1 ⟨60,3,v,Gn.length+l.length,Gn.flatMap Qe++l.flatMap Qe⟩):=h.fam.put2 (i:=1) (r:=ZE v7 Gn) rfl O j I (λb hb=>by subst hb;exact D);refine⟨?_,(j.block b3 D (λe=>h.fam.free (ZE v7 Gn) (by simp) b3 e.symm rfl)).trans h.b3,UU h.bel (Q3 _) (h.fam.own (ZE v7 Gn) (by simp)) j⟩;rw[E];exact J
end
theorem Cv{w:World}{base:Nat}{X:Nat->Prop}{a b:Z3}(Y:a.own w base)(hb:b.own w base)(O:∀k,a.v.ownBlock=some k->¬X k)(Q:∀k,b.v.ownBlock=some k->¬X k)(E:∀k,a.v.ownBlock=some k->b.v.ownBlock≠some k):Zr w base X [a,b]:=by
 constructor
 ·intro r j;simp only[QI,V3,JD] at j;rcases j with rfl|rfl;·exact Y
  exact hb
 ·intro r j;simp only[QI,V3,JD] at j;rcases j with rfl|rfl;·exact O
  exact Q
 intro i a0 a1 r s j Z k I J
 have D:∀(i:Nat)(r:Z3),[a,b][i]?=some r->(i=0/\r=a)\/(i=1/\r=b):=by
  intro i r h
  match i,h with
  |0,h=>cases h;exact .inl ⟨rfl,rfl⟩
  |1,h=>cases h;exact .inr ⟨rfl,rfl⟩
  |n+2,h=>simp at h
 rcases D i r j with⟨h,rfl⟩|⟨h,rfl⟩<;>rcases D a0 s Z with⟨U,rfl⟩|⟨U,rfl⟩;·omega
 ·exact E k I J
 ·exact E k J I
 omega
def Zu(x:Id)(o:Qt):List Rn:=if o.node=x/\o.k=3 then [⟨o.af,o.el,o.tx⟩] else []
def Ys(x:Id)(h:Bool)(o:Qt):List Id:=if o.node=x/\o.k=4/\h=true then o.els else []
def Za(C:List Q1)(x:Id):List Rn:=C.flatMap (λg=>g.ops.flatMap (Zu x))
def Xy(L:List Q4)(C:List Q1)(x:Id):List Id:=C.flatMap (λg=>g.ops.flatMap (Ys x (decide (g.s∈L))))
theorem Cw(C:List Q1)(g:Q1)(x:Id):Za (C++[g]) x=Za C x++g.ops.flatMap (Zu x):=by unfold Za;rw[Zb,Xf]
theorem LH(L:List Q4)(C:List Q1)(g:Q1)(x:Id):Xy L (C++[g]) x=Xy L C x++g.ops.flatMap (Ys x (decide (g.s∈L))):=by unfold Xy;rw[Zb,Xf]
def Q05(C:List Q1)(L:List Q4)(w:World)(b3:Nat)(x:Id)(v6 v7 i:Value)(wr:World):Prop:=
 ∃k:Nat,k<=C.length/\i=k/\(Za (C.take k) x).length<=QW (C.take k)/\(Xy L (C.take k) x).length<=100*QW (C.take k)/\(∀r∈Za (C.take k) x,r.tx.size<=100)/\Tx w b3 x (Za (C.take k) x) (Xy L (C.take k) x) v6 v7 wr
def Q06(R:List Rn)(Gn:List Id)(N:Nat)(g:Q1)(h:Bool)(w:World)(b3 D:Nat)(x:Id)(v6 v7 i:Value)(wr:World):Prop:=
 ∃j:Nat,j<=g.ops.length/\i=j/\(R++(g.ops.take j).flatMap (Zu x)).length<=N+j/\(Gn++(g.ops.take j).flatMap (Ys x h)).length<=100*(N+j)/\(∀r∈R++(g.ops.take j).flatMap (Zu x),r.tx.size<=100)/\Tx w b3 x (R++(g.ops.take j).flatMap (Zu x)) (Gn++(g.ops.take j).flatMap (Ys x h)) v6 v7 wr/\wr.heap[D]?=some (.cells (Qg g).toArray 31 (0,0))
theorem LI:∀(R:List Rn),(∀r∈R,r.tx.size<=100)->(Qx R).length<=100*R.length
 |[],_=>Q3 _
 |r::R,h=>by
  have E:=LI R (λx D=>h x (X2 _ D));have I:=C1 r.tx.data.toList;have J:=h r (XT ..);have j:(Qx (r::R)).length=(Yx r.tx.data.toList).length+(Qx R).length:=by unfold Qx;rw[XA,Qj,Gj]
  have O:r.tx.data.toList.length=r.tx.size:=by rw[Array.length_toList];rfl
  rw[j,Z4];omega
theorem LJ:(Tryz.prog.info? 131).map (λi=>(i.zero,i.size,i.bytes))=some (some (.agg #[(0:Int),(0:Int),(0:Int),(0:Int),(0:Int),(0:Int),.string ⟨#[]⟩]),7,64):=by kernel_rfl
theorem LK(C:List Q1)(L:List Q4)(x:Id)(B:Nat){w:World}{base p m1 m2 n1 n2:Nat}{fd:Id->Option Bool}{gv nv:Value}{at_ td hv gn:Z3}(hV:Vw w base p m1 m2 n1 n2 (VC L) fd (Yq gv C) (QT nv L) at_ td hv gn)(hG:∀g∈C,X4 w B g)(hB:B<=w)(hT:ZD w)(hC:C.length<=1000)(hL:L.length<=1000)(bI:QW C<=900)(bd:∀g∈C,∀o∈g.ops,o.tx.size<=100)(b8:∀g∈C,∀o∈g.ops,o.els.length<=100):Calls Tryz.prog 25 #[.pointer (some ⟨p,0,none⟩),Qa x] w (C9 (Za C x) L (Xy L C x) w):=by
 have av:=Ki (λg (Y:g∈C) W (I:Below w w W)=>(show X4 W B g from⟨(hG g Y).d.below' I hB,(hG g Y).i,(hG g Y).o.below' I hB,λo ho=>⟨((hG g Y).a o ho).d.below' I hB,((hG g Y).a o ho).e.below' I hB⟩⟩));have HV:=Ki (λW (I:Below w w W)=>hV.below I);have bw:=Ki (λW (I:Below w w W)=>hT.below I);have bz:=Ki bd;have bp:=Ki b8;have bP:=Ki hB;have aR:=Ki (λk=>Q9 (Fx (List.take_sublist k C)) bI);clear hV hG hT bd b8;obtain⟨i0,hi,bM,bN,bO⟩:=Zc LJ;obtain⟨j0,bF,y0,y1,y2⟩:=Zc UZ;unfold Qa;go_enter Tryz.func25,Tryz.ntmps25;go_upto_region 2 with(fail);obtain⟨w1,aa⟩:∃W,((w.alloc (.cells x 60)).alloc (.cells #[] 131)).alloc (.cells #[] 60)=W:=⟨_,rfl⟩;have ap:Below w w w1:=by rw[<-aa];exact(((Q0.refl w).alloc _).alloc _).alloc _ |>.below
 have h3:w1.heap[w.heap.size]?=some (.cells (Qe x).toArray 60 (0,0)):=by rw[<-aa];(simp only[Zs,Qy,reduceIte];repeat (first|rw[Q7 (by omega)]|rw[Q6 (by omega)]));rfl
 have h4:w1.heap[w.heap.size+1]?=some (.cells #[] 131 (0,0)):=by rw[<-aa];(simp only[Zs,Qy,reduceIte];repeat (first|rw[Q7 (by omega)]|rw[Q6 (by omega)]))
 have h5:w1.heap[w.heap.size+1+1]?=some (.cells #[] 60 (0,0)):=by rw[<-aa];(simp only[Zs,Qy,reduceIte];repeat (first|rw[Q7 (by omega)]|rw[Q6 (by omega)]))
 have ah:=Ki (show Tx w w x [] [] (.slice (some ⟨w.heap.size+1,0,none⟩) 0 0) (.slice (some ⟨w.heap.size+1+1,0,none⟩) 0 0) w1 from by
  refine⟨Cv (Jv (by omega) h4) (Jv (by omega) h5) (λk hk hx=>?_) (λk hk hx=>?_) (λk hk bG=>?_),h3,ap⟩;·have e:w.heap.size+1=k:=(by simpa [Value.ownBlock,JR] using hk);omega
  ·have e:w.heap.size+1+1=k:=(by simpa [Value.ownBlock,ZE] using hk);omega
  have e:w.heap.size+1=k:=(by simpa [Value.ownBlock,JR] using hk);have e2:w.heap.size+1+1=k:=(by simpa [Value.ownBlock,ZE] using bG)
  omega)
 rw[aa];have aj:=Ki (HV.o w1 ap);have c0:w1.cell? ⟨p,0,none⟩=some gv:=cR 0 aj.o.box;have lp:p<w1:=aj.o.lt;obtain⟨Ag,cg,ba,_,_⟩:=(Rd.of_own (show w1.ownsRow base 31 7 gv C.length (C.flatMap Qg) from aj.o.fam.own (Yq gv C) (by simp))).form;have aP:=Ki (λW (I:Below w w W)=>Rd.of_own (show W.ownsRow base 31 7 gv C.length (C.flatMap Qg) from(HV.o W I).fam.own (Yq gv C) (by simp)));have ay:=Ki (λW (I:Below w w W)=>Rd.of_own (show W.ownsRow base 27 2 nv L.length (L.flatMap Qv) from(HV.o W I).fam.own (QT nv L) (by simp)));rw[ba] at c0 aP;obtain⟨An,cn,aJ,_,_⟩:=(ay.o w1 ap).form;rw[aJ] at ay;have bh:=Ki (λW (I:Below w w W)=>(show W.cell? ⟨p,1,none⟩=some (.slice An L.length cn)/\p<W from⟨(cR 1 (HV.o W I).box).trans (by rw[<-aJ];rfl),(HV.o W I).lt⟩));obtain⟨b3,aF⟩:∃b,w.heap.size=b:=⟨_,rfl⟩;rw[aF] at ah |-;obtain⟨b5,aZ⟩:∃b,b3+1+1=b:=⟨_,rfl⟩;obtain⟨b4,ae⟩:∃b,b3+1=b:=⟨_,rfl⟩;have bQ:=Ki aF;rw[aZ,ae] at ah |-;clear aa h3 h4 h5 aF aZ ae ba aJ aj;go_wp2;go_loopw [6,7,19] (λv6 v7 i wr=>Q05 C L w b3 x v6 v7 i wr) (λ_ _ i _=>C.length-(intOf i).toNat);case atStart=>exact⟨0,Qh _,rfl,Qh _,Qh _,(λr hr=>by cases hr),ah.o⟩
 case round=>
  clear ah c0 lp ap;obtain⟨k,hk,rfl,am,al,a8,D⟩:=hrel;have bH:=aR.o k;obtain⟨R,aE⟩:∃R,Za (C.take k) x=R:=⟨_,rfl⟩;obtain⟨Gn,aB⟩:∃R,Xy L (C.take k) x=R:=⟨_,rfl⟩;obtain⟨N,aC⟩:∃N,QW (C.take k)=N:=⟨_,rfl⟩;rw[aE] at am a8 D;rw[aB] at al D;rw[aC] at am al bH;have HE:=Kj (Za (C.take k) x=R/\Xy L (C.take k) x=Gn/\QW (C.take k)=N) ⟨aE,aB,aC⟩;clear aE aB aC;by_cases aH:k<C.length
  ·obtain⟨bg,og,e1,bR,a4⟩:=Qr Qg 7 (λ_=>rfl) (by decide) (aP.o wr D.bel) aH;obtain⟨g,Y⟩:∃g,C[k]=g:=⟨_,rfl⟩;rw[Y] at a4;have af:g∈C:=Y▸Zt aH;have az:=Ki a4;have ai:=Ki (show C.take (k+1)=C.take k++[g] by rw[QQ aH,Y]);have bX:N+g.ops.length<=900:=(by have:=aR.o (k+1);rw[ai.o,Gs,HE.o.2.2] at this;exact this);have a3:=Ki D;have bV:(0:Int)<=(k:Int):=(by omega);have bD:(k:Int)<(C.length:Int):=(by omega);have aQ:=Ki a8;subst e1;clear a4 Y D a8;go_upto_region 5 with(first|((with_reducible refine Ql 31 ?_);refine QA rfl 31 _ rfl _ _ _ rfl az.o (by kernel_rfl) (Zl _) ?_)|((with_reducible refine Zm 31 ?_);refine Zp rfl 31 _ _ rfl _ _ rfl rfl _ _ (Qi _ _) (by kernel_rfl) rfl (by kernel_rfl) ?_;rw[Xm,Zn]));obtain⟨W4,an⟩:∃W,wr.alloc (.cells (Qg g).toArray 31)=W:=⟨_,rfl⟩;have h9:W4.heap[wr.heap.size]?=some (.cells (Qg g).toArray 31 (0,0)):=(by rw[<-an];exact Qi wr _);have ae:Below wr wr W4:=(by rw[<-an];exact(Qc _ wr).alloc (Q3 _) _);rw[an];obtain⟨b9,b7⟩:∃b,wr.heap.size=b:=⟨_,rfl⟩;rw[b7] at h9 |-;have aS:=Ki (a3.o.below ae);have H9:=Ki h9;have ax:=Kj (g.ov.n=g.ops.length) ((Rd.len (av.o g af w (Qc _ w)).o).1);have bs:=Ki (λW (I:Below w w W)=>(av.o g af W I).o);have c6:W4.cell? (b9,6)=some (.slice g.ov.A g.ov.n g.ov.c):=cR 6 h9;have bx:=Ki (bz.o g af);have bk:=Ki (bp.o g af);obtain⟨U,aL⟩:∃b,decide (g.s∈L)=b:=⟨_,rfl⟩;have bq:=Ki aL;have aw:=Ki (λW (I:Below w w W)=>L8 (HV.o W I) g.s);rw[LD,aL] at aw;unfold QU at aw
   have bf:=Ki (av.o g af);clear an h9 ae b7 a3 aL;go_wp2;go_loopw [6,7,26] (λv6 v7 i wr=>Q06 R Gn N g U w b3 b9 x v6 v7 i wr) (λ_ _ i _=>g.ops.length-(intOf i).toNat);case atStart=>exact⟨0,Qh _,rfl,by simpa using am,by simpa using al,by simpa using aQ.o,by simpa using aS.o,H9.o⟩
   case round=>
    clear aS H9 c6 am al aQ;obtain⟨j,hj,rfl,aX,aV,a9,D,h9⟩:=hrel;by_cases aI:j<g.ops.length
    ·obtain⟨bo,oo,e2,bS,a4⟩:=Qr Qp 18 (λ_=>rfl) (by decide) (by have h:=bs.o wr D.bel;unfold Sl.v at h;rw[<-ax.o] at h;exact h) aI;obtain⟨o,ho⟩:=ex (g.ops[j]);rw[ho] at a4;have aK:o∈g.ops:=ho▸Zt aI;have az:=Ki a4;have aT:=Ki (show g.ops.take (j+1)=g.ops.take j++[o] by rw[QQ aI,ho]);have bJ:=bx.o o aK;have bT:=bk.o o aK;have bW:(0:Int)<=(j:Int):=(by omega);have bE:(j:Int)<(g.ov.n:Int):=(by have:=ax.o;omega);rw[e2];obtain⟨R2,aD⟩:∃l,R++(g.ops.take j).flatMap (Zu x)=l:=⟨_,rfl⟩;obtain⟨G2,aA⟩:∃l,Gn++(g.ops.take j).flatMap (Ys x U)=l:=⟨_,rfl⟩;rw[aD] at aX a9 D;rw[aA] at aV D;have a3:=Ki D;have a2:=Ki a9;have H9:=Ki h9;have E:=Ki (show R++(g.ops.take (j+1)).flatMap (Zu x)=R2++Zu x o by rw[aT.o,Zb,Xf,<-Y7,aD]);have Q:=Ki (show Gn++(g.ops.take (j+1)).flatMap (Ys x U)=G2++Ys x U o by rw[aT.o,Zb,Xf,<-Y7,aA]);clear a4 ho D a9 h9 aD aA;go_upto_region 8 with(first|((with_reducible refine Ql 72 ?_);refine QA rfl 72 _ rfl _ _ _ rfl az.o (by kernel_rfl) (Z6 _) ?_)|((with_reducible refine Zm 72 ?_);refine Zp rfl 72 _ _ rfl _ _ rfl rfl _ _ (Qi _ _) (by kernel_rfl) rfl (by kernel_rfl) ?_;rw[Xm,Zn]));obtain⟨W6,ao⟩:∃W,wr.alloc (.cells (Qp o).toArray 72)=W:=⟨_,rfl⟩;have h6:=bn ao;have aG:=bl ao;rw[ao];obtain⟨bA,aY⟩:∃b,wr.heap.size=b:=⟨_,rfl⟩;have X:=Ki (a3.o.below aG);have a1:=Ki ((aG.block b9 (Q5.1 H9.o).1).trans H9.o);rw[aY] at h6 |-;have H6:=Ki h6;have k0:=cr0 h6;have k1:=cr1 h6;have k2:=cr2 h6;have k3:=cr3 h6
     have x0:=cr0 X.o.b3;have x1:=cr1 X.o.b3;have x2:=cr2 X.o.b3;have hq:=F1;have bU:=ZR;have hE:=UT o.node x;clear ao h6 aG aY a3 H9;by_cases a6:o.node=x
     ·rw[QF a6] at hE;have aN:=Ki a6;clear a6;by_cases h3:o.k=3
      ·have bK:(o.k==3)=true:=(by rw[h3];rfl);have J:=Kj (Zu x o=[⟨o.af,o.el,o.tx⟩]) (Q7 ⟨aN.o,h3⟩);have O:=Kj (Ys x U o=[]) (Q6 (λh=>by have:=h.2.1;omega));have a0:=H6.o;have bY:=cr10 a0;have bZ:=cr11 a0;have c2:=cr12 a0;have c3:=cr13 a0;have c4:=cr14 a0;have c5:=cr15 a0;have c9:=cr16 a0;have a7:W6.ownsRow w 131 7 u6 R2.length (R2.flatMap XL):=X.o.fam.own (JR u6 R2) (by simp);obtain⟨A6,bB,rfl,_,_⟩:=(Rd.of_own a7).form;have ab:=Ki a7;have bu:=Ki X.o.bel.size;clear h3 a7 a0;go_wp2_with (at_builtin;refine KY _ rfl _ _ 129 rfl w 131 i0 _ 7 64 Tryz.underlying129 hi bM bN bO rfl (by decide) _ R2.length _ rfl (ab.o.alloc _) ⟨W6.heap.size,0,none⟩ 1 1 (XL ⟨o.af,o.el,o.tx⟩) rfl rfl (Zd W6 (XL ⟨o.af,o.el,o.tx⟩) 131) (P5 _) (by unfold maxLen;omega) (by omega) (by have:=bu.o;simp;omega) ?_);intro v8 W8 Z a5 _ ad;have HP:=Ki ((X.o.below ((Qc _ W6).alloc (Q3 _) _)).push_r ⟨o.af,o.el,o.tx⟩ Z a5 (by simpa using ad));have ak:(W6.alloc (.cells (XL ⟨o.af,o.el,o.tx⟩).toArray 131)).heap[b9]?=some (.cells (Qg g).toArray 31 (0,0)):=(Z5 _ _ _ (Q5.1 a1.o).1).trans a1.o;have ar:=Ki ((a5.block b9 (Q5.1 ak).1 (λe=>ZN (r:=JR (.slice A6 R2.length bB) R2) (ab.o.alloc _) ak (show(31:TypeId)≠131 by decide) e.symm)).trans ak);obtain⟨A8,c8,rfl,_,_⟩:=(Rd.of_own Z).form;clear Z a5 ad ak;go_wp2;go_roundw
       case rel=>exact⟨j+1,by omega,by go_num,by rw[E.o,J.o];simp;omega,by rw[Q.o,O.o];simp;omega,by rw[E.o,J.o];intro r hr;rcases Qq.1 hr with h1|h1;exact a2.o r h1;(rw[Qw.1 h1];exact bJ),by rw[E.o,J.o,Q.o,O.o,ZB];exact HP.o,ar.o⟩
       case measure=>simp[intOf];omega
      have bK:(o.k==3)=false:=Xg.2 h3;have J:=Kj (Zu x o=[]) (Q6 (λh=>h3 h.2));clear h3;by_cases h4:o.k=4
      ·have bL:(o.k==4)=true:=(by rw[h4];rfl)
       have O:=Ki (show Ys x U o=if U=true then o.els else [] from by
        unfold Ys;rcases U with _|_;·rw[Q6 (by simp),Q6 (by simp)]
        rw[Q7 ⟨aN.o,h4,rfl⟩,Q7 rfl])
       have s0:=cr0 a1.o;have s1:=cr1 a1.o;clear h4;go_wp2_with fail;refine(aw.o W6 X.o.bel).mono ?_;rintro e7 W7 ⟨rfl,aq⟩;have ac:=Ki (X.o.below aq.below);have be:=Ki ((aq.below.block bA (Q5.1 H6.o).1).trans H6.o);have ag:=Ki ((aq.below.block b9 (Q5.1 a1.o).1).trans a1.o);clear aq s0 s1;rcases U with _|_
       ·rw[Q6 (by simp)] at O;go_wp2;go_roundw;case rel=>exact⟨j+1,by omega,by go_num,by rw[E.o,J.o];simp;omega,by rw[Q.o,O.o];simp;omega,by rw[E.o,J.o,ZB];exact a2.o,by rw[E.o,J.o,Q.o,O.o,ZB,ZB];exact ac.o,ag.o⟩
        case measure=>simp[intOf];omega
       rw[Q7 rfl] at O;have ca:=cr17 be.o;have aM:=Ki ((bf.o W7 ac.o.bel).a o aK).e;unfold Sl.v at aM;have a7:W7.ownsRow w 60 3 u7 G2.length (G2.flatMap Qe):=ac.o.fam.own (ZE u7 G2) (by simp);obtain⟨A7,bC,rfl,_,_⟩:=(Rd.of_own a7).form;have ab:=Ki a7;have bv:=Ki ac.o.bel.size;clear a7;go_wp2_with (at_builtin;refine KE rfl _ _ 66 rfl w 60 j0 _ 3 24 V0 bF y0 y1 y2 rfl (by decide) _ G2.length _ rfl ab.o _ B o.els.length _ rfl aM.o (Kn Vb _) (by unfold maxLen;omega) (by omega) bv.o ?_);intro v8 W8 Z a5 ad;have HP:=Ki (ac.o.push_g o.els Z a5 ad);have ar:=Ki ((a5.block b9 (Q5.1 ag.o).1 (λe=>ZN (r:=ZE (.slice A7 G2.length bC) G2) ab.o ag.o (show(31:TypeId)≠60 by decide) e.symm)).trans ag.o);obtain⟨A8,c8,rfl,_,_⟩:=(Rd.of_own Z).form;clear Z a5 ad;go_wp2;go_roundw;case rel=>exact⟨j+1,by omega,by go_num,by rw[E.o,J.o];simp;omega,by rw[Q.o,O.o,Qj];omega,by rw[E.o,J.o,ZB];exact a2.o,by rw[E.o,J.o,Q.o,O.o,ZB];exact HP.o,ar.o⟩
       case measure=>simp[intOf];omega
      have bL:(o.k==4)=false:=Xg.2 h4;have O:=Kj (Ys x U o=[]) (Q6 (λh=>h4 h.2.1));clear h4;go_wp2;go_roundw;case rel=>exact⟨j+1,by omega,by go_num,by rw[E.o,J.o];simp;omega,by rw[Q.o,O.o];simp;omega,by rw[E.o,J.o,ZB];exact a2.o,by rw[E.o,J.o,Q.o,O.o,ZB,ZB];exact X.o,a1.o⟩
      case measure=>simp[intOf];omega
     rw[Zo a6] at hE;have J:=Kj (Zu x o=[]) (Q6 (λh=>a6 h.1));have O:=Kj (Ys x U o=[]) (Q6 (λh=>a6 h.1));clear a6;go_wp2;go_roundw;case rel=>exact⟨j+1,by omega,by go_num,by rw[E.o,J.o];simp;omega,by rw[Q.o,O.o];simp;omega,by rw[E.o,J.o,ZB];exact a2.o,by rw[E.o,J.o,Q.o,O.o,ZB,ZB];exact X.o,a1.o⟩
     case measure=>simp[intOf];omega
    have bb:g.ops.take j=g.ops:=Zk (by omega);rw[bb] at aX aV a9 D;have bE:¬((j:Int)<(g.ov.n:Int)):=(by have:=ax.o;omega);have a3:=Ki D;have a2:=Ki a9;have E:=Ki (show Za (C.take (k+1)) x=R++g.ops.flatMap (Zu x) by rw[ai.o,Cw,HE.o.1]);have Q:=Ki (show Xy L (C.take (k+1)) x=Gn++g.ops.flatMap (Ys x U) by rw[ai.o,LH,HE.o.2.1,bq.o]);have aO:=Ki (show QW (C.take (k+1))=N+g.ops.length by rw[ai.o,Gs,HE.o.2.2]);clear D a9 bb h9;go_wp2;go_roundw;case rel=>exact⟨k+1,by omega,by go_num,by rw[E.o,aO.o];omega,by rw[Q.o,aO.o];omega,by rw[E.o];exact a2.o,by rw[E.o,Q.o];exact a3.o⟩
    case measure=>simp[intOf];omega
  have bc:C.take k=C:=Zk (by omega);rw[bc] at HE;have bD:¬((k:Int)<(C.length:Int)):=(by omega);have bi:=Ki HE.o.1;have bj:=Ki HE.o.2.1;obtain⟨A6,c6,rfl,_,_⟩:=(Rd.of_own (show wr.ownsRow w 131 7 u6 R.length (R.flatMap XL) from D.fam.own (JR u6 R) (by simp))).form;obtain⟨A7,c7,rfl,_,_⟩:=(Rd.of_own (show wr.ownsRow w 60 3 u7 Gn.length (Gn.flatMap Qe) from D.fam.own (ZE u7 Gn) (by simp))).form;have bt:=Ki (TB R L Gn A6 An A7 R.length c6 L.length cn Gn.length c7 wr wr (Rd.of_own (D.fam.own (JR (.slice A6 R.length c6) R) (by simp))) (ay.o wr D.bel) (Rd.of_own (show wr.ownsRow w 60 3 (.slice A7 Gn.length c7) Gn.length (Gn.flatMap Qe) from D.fam.own (ZE (.slice A7 Gn.length c7) Gn) (by simp))) (Q3 _) (bw.o wr D.bel) (by have:=LI R a8;omega) (λr hr=>by have:=a8 r hr;omega) (by omega) (by omega));obtain⟨c1,lp⟩:=bh.o wr D.bel;have au:=Ki D.bel;clear D a8 bc;go_wp2_with fail;refine bt.o.mono ?_;rintro e8 W8 ⟨aU,v,hO,rfl,Z,aW,b6⟩
  have br:=Ki (show C9 (Za C x) L (Xy L C x) w (.returned (.tuple #[v,.string (Q8 (Zh (Xb L Gn aU)))])) W8 from by
   rw[bi.o,bj.o]
   exact⟨aU,v,hO,rfl,Yp Z au.o.size,aW,au.o.trans (b6.mono au.o.size)⟩)
  clear hO Z aW b6;go_wp2;go_ret2;exact br.o
end
end Go.Proofs.YtfpafikfjjckeaaGreatDoor
namespace Go.Proofs.TopTree
variable {N:Type} {par:N->Option N} {nm aQ tx:N->List UInt8} {lt:N->N->Prop} {S:N->Prop}
inductive Way(par:N->Option N):N->List N->Prop
 |top {x:N}:par x=none->Way par x [x]
 |step {x y:N} {l:List N}:par x=some y->Way par y l->Way par x (x::l)
theorem Way.head{x:N}{l:List N}(h:Way par x l):∃t,l=x::t:=by
 cases h with
 |top _=>exact⟨[],rfl⟩
 |step _ _=>exact⟨_,rfl⟩
theorem Way.one{x:N}{l:List N}(h:Way par x l):∀{m:List N},Way par x m->l=m:=by
 induction h with
 |top h=>
  intro m hm
  cases hm with
  |top _=>rfl
  |step h' _=>rw[h] at h';cases h'
 |step h _ ih=>
  intro m hm
  cases hm with
  |top h'=>rw[h'] at h;cases h
  |step h' hw=>rw[h] at h';cases h';rw[ih hw]
def pathOf(l:List (List UInt8)):List UInt8:=l.flatMap (λn=>47::n)
theorem cut_free{a b r s:List UInt8}(ha:(47:UInt8)∉a)(hb:(47:UInt8)∉b)(h:a++47::r=b++47::s):a=b/\r=s:=by
 induction a generalizing b with
 |nil=>
  cases b with
  |nil=>exact⟨rfl,(List.cons.inj h).2⟩
  |cons y b=>exact absurd (List.mem_cons.2 (.inl (List.cons.inj h).1)) hb
 |cons x a ih=>
  cases b with
  |nil=>exact absurd (List.mem_cons.2 (.inl (List.cons.inj h).1.symm)) ha
  |cons y b=>obtain⟨h1,h2⟩:=List.cons.inj h;obtain⟨h3,h4⟩:=ih (λhm=>ha (List.mem_cons_of_mem _ hm)) (λhm=>hb (List.mem_cons_of_mem _ hm)) h2;exact⟨by rw[h1,h3],h4⟩
theorem path_inj:∀{l m:List (List UInt8)},(∀n∈l,(47:UInt8)∉n)->(∀n∈m,(47:UInt8)∉n)->pathOf l=pathOf m->l=m
 |[],[],_,_,_=>rfl
 |[],_::_,_,_,h=>by cases h
 |_::_,[],_,_,h=>by cases h
 |a::l,b::m,hl,hm,h=>by
  have h1:a++pathOf l=b++pathOf m:=(List.cons.inj h).2;have ha:=hl a (List.mem_cons_self ..);have hb:=hm b (List.mem_cons_self ..)
  have key:a=b/\pathOf l=pathOf m:=by
   cases l with
   |nil=>
    cases m with
    |nil=>have:a++[]=b++[]:=h1;rw[List.append_nil,List.append_nil] at this;exact⟨this,rfl⟩
    |cons y m=>exfalso;apply ha;have:a=b++47::(y++pathOf m):=(by have h2:a++[]=b++pathOf (y::m):=h1;rwa [List.append_nil] at h2);rw[this];exact List.mem_append.2 (.inr (List.mem_cons_self ..))
   |cons x l=>
    cases m with
    |nil=>exfalso;apply hb;have:a++47::(x++pathOf l)=b:=(by have h2:a++pathOf (x::l)=b++[]:=h1;rwa [List.append_nil] at h2);rw[<-this];exact List.mem_append.2 (.inr (List.mem_cons_self ..))
    |cons y m=>obtain⟨h3,h4⟩:=cut_free ha hb (r:=x++pathOf l) (s:=y++pathOf m) h1;exact⟨h3,congrArg (47::·) h4⟩
  obtain⟨rfl,h2⟩:=key;rw[path_inj (λn hn=>hl n (List.mem_cons_of_mem _ hn)) (λn hn=>hm n (List.mem_cons_of_mem _ hn)) h2]
def Named(par:N->Option N)(nm aQ tx:N->List UInt8)(lt:N->N->Prop)(S:N->Prop):Prop:=
 ∀x,S x->((∃y,S y/\lt y x/\par y=par x/\nm y=nm x)/\aQ x=nm x++126::tx x)\/((¬∃y,S y/\lt y x/\par y=par x/\nm y=nm x)/\aQ x=nm x)
theorem cut_wave{a b r s:List UInt8}(ha:(126:UInt8)∉a)(hb:(126:UInt8)∉b)(h:a++126::r=b++126::s):a=b/\r=s:=by
 induction a generalizing b with
 |nil=>
  cases b with
  |nil=>exact⟨rfl,(List.cons.inj h).2⟩
  |cons y b=>exact absurd (List.mem_cons.2 (.inl (List.cons.inj h).1)) hb
 |cons x a ih=>
  cases b with
  |nil=>exact absurd (List.mem_cons.2 (.inl (List.cons.inj h).1.symm)) ha
  |cons y b=>obtain⟨h1,h2⟩:=List.cons.inj h;obtain⟨h3,h4⟩:=ih (λhm=>ha (List.mem_cons_of_mem _ hm)) (λhm=>hb (List.mem_cons_of_mem _ hm)) h2;exact⟨by rw[h1,h3],h4⟩
theorem beside(hn:Named par nm aQ tx lt S)(hlt:∀x y,x≠y->lt x y\/lt y x)(hw:∀x,S x->(126:UInt8)∉nm x)(ht:∀x y,S x->S y->tx x=tx y->x=y){x y:N}(hx:S x)(hy:S y)(hp:par x=par y)(h:aQ x=aQ y):x=y:=by
 rcases hn x hx with⟨_,h1⟩|⟨h0,h1⟩<;>rcases hn y hy with⟨_,h2⟩|⟨h3,h2⟩;·rw[h1,h2] at h;exact ht x y hx hy (cut_wave (hw x hx) (hw y hy) h).2
 ·rw[h1,h2] at h;exact absurd (by rw[<-h];exact List.mem_append.2 (.inr (List.mem_cons_self ..))) (hw y hy)
 ·rw[h1,h2] at h;exact absurd (by rw[h];exact List.mem_append.2 (.inr (List.mem_cons_self ..))) (hw x hx)
 rw[h1,h2] at h;refine Classical.byContradiction λhne=>?_;rcases hlt x y hne with h4|h4;·exact h3 ⟨x,hx,h4,hp,h⟩
 exact h0 ⟨y,hy,h4,hp.symm,h.symm⟩
theorem way_names(hs:∀x y,S x->S y->par x=par y->aQ x=aQ y->x=y):∀{l m:List N}{x y:N},Way par x l->Way par y m->(∀z∈l,S z)->(∀z∈m,S z)->l.map aQ=m.map aQ->x=y:=by
 intro l
 induction l with
 |nil=>intro m x y h1;cases h1
 |cons a l ih=>
  intro m x y h1 h2 hl hm h;obtain⟨t,ht⟩:=h2.head;subst ht;obtain⟨s,hs1⟩:=h1.head;obtain⟨rfl,rfl⟩:=List.cons.inj hs1;obtain⟨h3,h4⟩:=List.cons.inj h
  have hp:par a=par y:=by
   cases h1 with
   |top h5=>
    cases h2 with
    |top h6=>rw[h5,h6]
    |step _ h6=>obtain⟨u,rfl⟩:=h6.head;cases h4
   |step h5 h5'=>
    cases h2 with
    |top _=>obtain⟨u,rfl⟩:=h5'.head;cases h4
    |step h6 h6'=>rw[h5,h6,ih h5' h6' (λz hz=>hl z (List.mem_cons_of_mem _ hz)) (λz hz=>hm z (List.mem_cons_of_mem _ hz)) h4]
  exact hs a y (hl a (List.mem_cons_self ..)) (hm y (List.mem_cons_self ..)) hp h3
theorem paths_unlike(hn:Named par nm aQ tx lt S)(hlt:∀x y,x≠y->lt x y\/lt y x)(hw:∀x,S x->(126:UInt8)∉nm x)(ht:∀x y,S x->S y->tx x=tx y->x=y)(hf:∀x,S x->(47:UInt8)∉aQ x){x y:N}{l m:List N}(hx:Way par x l)(hy:Way par y m)(hl:∀z∈l,S z)(hm:∀z∈m,S z)(h:pathOf (l.reverse.map aQ)=pathOf (m.reverse.map aQ)):x=y:=by
 have h1:=path_inj (l:=l.reverse.map aQ) (m:=m.reverse.map aQ) (λn hn=>by
  obtain⟨z,hz,rfl⟩:=List.mem_map.1 hn
  exact hf z (hl z (List.mem_reverse.1 hz))) (λn hn=>by
  obtain⟨z,hz,rfl⟩:=List.mem_map.1 hn
  exact hf z (hm z (List.mem_reverse.1 hz))) h
 rw[List.map_reverse,List.map_reverse,List.reverse_inj] at h1;exact way_names (λx y a b c d=>beside hn hlt hw ht a b c d) hx hy hl hm h1
inductive DWay(par:N->Option N)(has:N->Prop)(dir:N->Bool):N->List N->Prop
 |top {x:N}:has x->par x=none->DWay par has dir x [x]
 |step {x y:N} {l:List N}:has x->par x=some y->dir y=true->DWay par has dir y l->DWay par has dir x (x::l)
section
variable {has:N->Prop} {dir:N->Bool} {live:N->Prop}
theorem DWay.way{x:N}{l:List N}(h:DWay par has dir x l):Way par x l:=by
 induction h with
 |top _ h=>exact .top h
 |step _ h _ _ ih=>exact .step h ih
theorem DWay.up{x:N}{l:List N}(h:DWay par has dir x l):∀y∈l,y=x\/dir y=true:=by
 induction h with
 |top _ _=>exact λy hy=>.inl (by simpa using hy)
 |step _ _ h2 _ ih=>
  intro y hy;rcases List.mem_cons.1 hy with h3|h3;·exact .inl h3
  rcases ih y h3 with rfl|h4;·exact .inr h2
  exact .inr h4
theorem DWay.all_has{x:N}{l:List N}(h:DWay par has dir x l):∀y∈l,has y:=by
 induction h with
 |top h _=>exact λy hy=>by rw[show y=_ by simpa using hy];exact h
 |step h _ _ _ ih=>
  intro y hy;rcases List.mem_cons.1 hy with rfl|h3;·exact h
  exact ih y h3
theorem DWay.from{x:N}{l:List N}(h:DWay par has dir x l):∀y∈l,∃m,DWay par has dir y m/\m <:+ l:=by
 induction h with
 |top h1 h2=>exact λy hy=>by rw[show y=_ by simpa using hy];exact⟨_,.top h1 h2,List.suffix_refl _⟩
 |step h1 h2 h3 h4 ih=>
  intro y hy;rcases List.mem_cons.1 hy with rfl|h5;·exact⟨_,.step h1 h2 h3 h4,List.suffix_refl _⟩
  obtain⟨m,h6,h7⟩:=ih y h5;exact⟨m,h6,h7.trans (List.suffix_cons _ _)⟩
theorem DWay.nodup{x:N}{l:List N}(h:DWay par has dir x l):l.Nodup:=by
 induction h with
 |top _ _=>simp
 |step h1 h2 h3 h4 ih=>refine List.nodup_cons.2 ⟨λhm=>?_,ih⟩;obtain⟨m,h5,h6⟩:=h4.from _ hm;have h7:=(DWay.step h1 h2 h3 h4).way.one h5.way;have h8:=h6.length_le;rw[<-h7,List.length_cons] at h8;omega
def SeenN(par:N->Option N)(has:N->Prop)(dir:N->Bool)(live:N->Prop)(y:N):Prop:=∃x l,live x/\DWay par has dir x l/\y∈l
theorem seen_file{y:N}(h:SeenN par has dir live y)(hd:dir y=false):live y:=by
 obtain⟨x,l,h1,h2,h3⟩:=h;rcases h2.up y h3 with rfl|h4;·exact h1
 rw[hd] at h4;cases h4
end
end Go.Proofs.TopTree
namespace Go.Proofs.YtfpafikfjjckeaaGreatDoor
open Go Go.RowKit Go.Maps
def VE(f:Id->Option Q2)(x:Id):Option Id:=match f x with|none=>none|some q=>if q.pa=Qf then none else some q.pa
def Gu(f:Id->Option Q2)(x:Id):Prop:=(f x).isSome=true
def Us(f:Id->Option Q2)(x:Id):Bool:=match f x with|none=>false|some q=>q.dir
abbrev XY(f:Id->Option Q2):Id->List Id->Prop:=TopTree.DWay (VE f) (Gu f) (Us f)
def KF(f:Id->Option Q2)(x:Id)(l0:List Id)(y:Id):Prop:=
 (∀l,XY f y l->(l0=[]\/Us f y=true)->XY f x (l0++l))/\∀m,XY f x m->∃l,m=l0++l/\XY f y l/\(l0=[]\/Us f y=true)
section
variable {f:Id->Option Q2} {x y:Id} {l0:List Id} {q:Q2}
theorem Q07:KF f x [] x:=⟨λ_ h _=>h,λm h=>⟨m,rfl,h,.inl rfl⟩⟩
theorem I1(j:f y=some q)(h:q.pa≠Qf):VE f y=some q.pa:=by unfold VE;rw[j];exact Q6 h
theorem Q08(j:f y=some q)(h:q.pa=Qf):VE f y=none:=by unfold VE;rw[j];exact Q7 h
theorem LL(h:KF f x l0 y)(E:f y=some q)(Q:l0=[]\/q.dir=true)(I:q.pa≠Qf):KF f x (l0++[y]) q.pa:=by
 have U:l0=[]\/Us f y=true:=Q.imp id λh=>by unfold Us;rw[E];exact h
 constructor
 ·intro l X Y;rcases Y with j|j;·simp at j
  have:=h.1 (y::l) (.step (by unfold Gu;rw[E];rfl) (I1 E I) j X) U;simpa using this
 intro m hm;obtain⟨l,rfl,j,_⟩:=h.2 m hm
 cases j with
 |top _ D=>rw[I1 E I] at D;cases D
 |step _ D J O=>rw[I1 E I] at D;cases D;exact⟨_,by simp,O,.inr J⟩
theorem LM(h:KF f x l0 y)(j:f y=some q)(D:l0=[]\/q.dir=true)(E:q.pa=Qf):XY f x (l0++[y]):=
 h.1 [y] (.top (by unfold Gu;rw[j];rfl) (Q08 j E)) (D.imp id λh=>by unfold Us;rw[j];exact h)
theorem Q09(h:KF f x l0 y)(E:f y=none):∀m,¬XY f x m:=λm hm=>by
 obtain⟨l,_,D,_⟩:=h.2 m hm;have j:Gu f y:=by cases D<;>assumption
 unfold Gu at j;rw[E] at j;cases j
theorem Q0a(h:KF f x l0 y)(J:f y=some q)(I:l0≠[])(E:q.dir=false):∀m,¬XY f x m:=λm hm=>by
 obtain⟨l,_,O,D⟩:=h.2 m hm;rcases D with j|j;·exact I j
 unfold Us at j;rw[J] at j;dsimp only at j;rw[E] at j;cases j
theorem Q0b{N:Nat}(I:∀l:List Id,l.Nodup->(∀y∈l,(f y).isSome=true)->l.length<=N)(h:KF f x l0 y)(Q:N<=l0.length):∀m,¬XY f x m:=λm hm=>by
 obtain⟨l,rfl,j,_⟩:=h.2 m hm;have D:=I _ hm.nodup (λy J=>hm.all_has y J);have E:l≠[]:=by cases j<;>simp
 have O:=Kc.2 E;rw[Qj] at D;omega
end
structure Wy(w0:World)(bx:Nat)(y:Id)(l0:List Id)(v:Value)(w:World):Prop where
 fam:Zr w w0 (λb=>b=bx) [ZE v l0]
 cel:w.heap[bx]?=some (.cells (Qe y).toArray 60 (0,0))
 bel:Below w0 w0 w
 lo:w0<=bx
section
variable {w0 w W:World} {bx:Nat} {y:Id} {l0:List Id} {v:Value}
theorem Wy.lt(h:Wy w0 bx y l0 v w):bx<w:=(Q5.1 h.cel).1
theorem Wy.own(h:Wy w0 bx y l0 v w):w.ownsRow w0 60 3 v l0.length (l0.flatMap Qe):=h.fam.own (ZE v l0) (by simp)
theorem Wy.below(h:Wy w0 bx y l0 v w)(hb:Below w w W):Wy w0 bx y l0 v W:=⟨h.fam.below hb,(hb.block bx h.lt).trans h.cel,h.bel.trans (hb.mono h.bel.size),h.lo⟩
theorem Wy.push(h:Wy w0 bx y l0 v w)(x:Id){j:Value}(Q:W.ownsRow w0 60 3 j (l0.length+1) (l0.flatMap Qe++Qe x))(D:w.grownBy W v.ownBlock)(J:j.ownBlock=v.ownBlock\/j.ownBlock=some w.heap.size):Wy w0 bx y (l0++[x]) j W:=by
 have I:ZE j (l0++[x])=⟨60,3,j,l0.length+1,l0.flatMap Qe++Qe x⟩:=by unfold ZE;simp
 have E:=h.lt;have O:Zr W w0 (λb=>b=bx) ([ZE v l0].set 0 ⟨60,3,j,l0.length+1,l0.flatMap Qe++Qe x⟩):=h.fam.put2 (i:=0) (r:=ZE v l0) rfl Q D J (λb hb=>by subst hb;exact E);refine⟨?_,(D.block bx E (λe=>h.fam.free (ZE v l0) (by simp) bx e.symm rfl)).trans h.cel,UU h.bel (Q3 _) (h.fam.own (ZE v l0) (by simp)) D,h.lo⟩;rw[I];exact O
theorem Wy.set(h:Wy w0 bx y l0 v w)(z:Id):Wy w0 bx z l0 v (((w.setCell ⟨bx,0,none⟩ z.s.T).setCell ⟨bx,1,none⟩ z.s.R).setCell ⟨bx,2,none⟩ z.I):=by have D:Qd (λb=>b=bx) w (w.setCell ⟨bx,0,none⟩ z.s.T):=Qd.setCell (F:=λb=>b=bx) (p:=⟨bx,0,none⟩) (Qd.refl _ w) (λ_=>rfl) _;have E:=Qd.setCell (F:=λb=>b=bx) (p:=(bx,1)) D (λ_=>rfl) z.s.R;have I:=Qd.setCell (F:=λb=>b=bx) (p:=(bx,2)) E (λ_=>rfl) z.I;exact⟨h.fam.touch I (λ_ j=>j),Zf (Zf (Zf h.cel)),Xd (Xd (Xd h.bel h.lo) h.lo) h.lo,h.lo⟩
end
def Q0c(f:Id->Option Q2)(x:Id)(N:Nat)(w:World)(bx:Nat)(v i:Value)(wr:World):Prop:=
 ∃(k:Nat)(y:Id)(l0:List Id),k<=N+1/\i=k/\l0.length=k/\KF f x l0 y/\Wy w bx y l0 v wr
def Q0d(f:Id->Option Q2)(x:Id)(w:World)(e:Ending)(w':World):Prop:=
 ((∃l v,XY f x l/\e=.returned (.tuple #[v,.bool true])/\w'.ownsRow w 60 3 v l.length (l.flatMap Qe))\/((∀l,¬XY f x l)/\e=.returned (.tuple #[.slice none 0 0,.bool false])))/\Below w w w'
theorem LN(x:Id){w:World}{base p mo ml ms ma no nl ns na:Nat}{fo:Id->Option Q2}{fl fs:Id->Option Unit}{fa:Id->Option ByteArray}(hT:Tr w base p mo ml ms ma no nl ns na fo fl fs fa)(aE:no<=100000):Calls Tryz.prog 142 #[.pointer (p,0),Qa x] w (Q0d fo x w):=by
 obtain⟨aj,hD,hF⟩:=hT.of;have aw:=Gt hD;have HN:=Ki (λl h1 h2=>EQ hD hF (l:=l) h1 h2);have HT:=Ki (λW (D:Below w w W)=>hT.below D);have HD:=Ki (λW (D:Below w w W)=>Xo hD (Below.touch D (λ_=>False)) (λh=>h));obtain⟨N,hN⟩:=ex (Maps.size aj);have av:=Ki hN;rw[hN] at aw HN;obtain⟨i0,hi,z0,z1,z2⟩:=Zc UZ;clear hT hD hF hN;unfold Qa;go_enter Tryz.func142,Tryz.ntmps142;go_upto_region 2 with(fail);obtain⟨w1,a7⟩:∃W,(w.alloc (.cells x 60)).alloc (.cells #[] 60)=W:=⟨_,rfl⟩;have aa:Below w w w1:=by rw[<-a7];exact((Q0.refl w).alloc _).alloc _ |>.below
 have h3:w1.heap[w.heap.size]?=some (.cells (Qe x).toArray 60 (0,0)):=by rw[<-a7];(simp only[Zs,Qy,reduceIte];repeat (first|rw[Q7 (by omega)]|rw[Q6 (by omega)]));rfl
 have h4:w1.heap[w.heap.size+1]?=some (.cells #[] 60 (0,0)):=by rw[<-a7];(simp only[Zs,Qy,reduceIte];repeat (first|rw[Q7 (by omega)]|rw[Q6 (by omega)]))
 have a8:=Ki (show Wy w w x [] (.slice (w.heap.size+1,0) 0 0) w1 from by
  refine⟨⟨λr hr=>?_,λr hr k hk hx=>?_,λi aB aC r s hr hs=>?_⟩,h3,aa,Q3 _⟩;·rw[Qw.1 hr];exact Jv (by omega) h4
  ·rw[Qw.1 hr] at hk;have e:w.heap.size+1=k:=(by simpa [Value.ownBlock,ZE] using hk);omega
  match i,aB,hr,hs with
  |0,0,_,_=>omega
  |n+1,_,hr,_=>simp at hr
  |_,n+1,_,hs=>simp at hs)
 rw[a7];have ad:=Ki (HT.o w1 aa);have c0:=cr0 ad.o.box;have lp:=ad.o.lt;obtain⟨bx,aq⟩:∃b,w.heap.size=b:=⟨_,rfl⟩;have am:=HD.o w1 aa;rw[aq] at a8 |-;obtain⟨b4,an⟩:∃b,bx+1=b:=⟨_,rfl⟩;rw[an] at a8 |-;have hw:IntKind.i64.wrap ((N:Int)+1)=(N:Int)+1:=QO _ (by omega);clear a7 h3 h4 aq an;go_wp2_with (at_len;refine wpList_len_own _ rfl _ 172 rfl 60 124 Kd _ mo no aj rfl am ?_;rw[av.o]);go_loopw [6,16] (λv i wr=>Q0c fo x N w bx v i wr) (λ_ i _=>N+1-(intOf i).toNat);case atStart=>exact⟨0,x,[],by omega,rfl,rfl,Q07,a8.o⟩
 case round=>
  clear a8 c0 lp aa am ad;obtain⟨k,y,l0,hk,rfl,aA,hP,D⟩:=hrel;by_cases aD:k<N+1
  ·have HP:=Ki hP;have HW:=Ki D;have az:(k:Int)<(N:Int)+1:=(by omega);have x0:=cr0 D.cel;have x1:=cr1 D.cel;have x2:=cr2 D.cel;have a4:=HT.o wr D.bel;have c0:=cr0 a4.box;have lp:=a4.lt;have lx:=D.lt;have ag:=(a4.drew.of.look JO Kd Jw (UD) y).2;have ah:=((a4.below ((Qc _ wr).alloc (Q3 _) (.cells #[(0:Int),(0:Int),(0:Int),(0:Int),(0:Int),(0:Int),.string ⟨#[]⟩,.bool false] 124))).drew.of.look JO Kd Jw (UD) y).2;obtain⟨z,hz⟩:=ex ((fo y).getD Jw);obtain⟨ok,ai⟩:=ex ((fo y).isSome);rw[hz,ai] at ag ah;unfold ZA Qa at ag ah;have al:=Ki (And.intro hz ai);clear hz ai a4 hP D;go_wp2;go_region
   all_goals
    obtain⟨O,a9⟩:∃W,(wr.alloc (.cells z 124)).drew=W:=⟨_,rfl⟩;have ao:Below wr wr O:=(by rw[<-a9];exact((Qc _ wr).alloc (Q3 _) _).drew);have h7:O.heap[wr.heap.size]?=some (.cells (Qb z).toArray 124 (0,0)):=(by rw[<-a9];exact Qi wr _);rw[a9];have I:=Ki (HW.o.below ao);obtain⟨b7,ap⟩:∃b,wr.heap.size=b:=⟨_,rfl⟩;rw[ap] at h7 |-;have H7:=Ki h7;have y7:=cr7 h7;clear ag ah a9 ao c0 lp lx x0 x1 x2 ap h7;have x0:=cr0 I.o.cel;have x1:=cr1 I.o.cel;have x2:=cr2 I.o.cel;obtain⟨A,c,rfl,_,_⟩:=(Rd.of_own I.o.own).form;subst aA;rcases ok with _|_
    ·have j:=Ki (Q09 HP.o (by
      have:=al.o.2
      cases h:fo y with
      |none=>rfl
      |some q=>rw[h] at this;cases this))
     go_wp2;go_ret2;exact⟨.inr ⟨j.o,rfl⟩,I.o.bel⟩
    ·have a2:=Ki (show fo y=some z by
      obtain⟨e1,e2⟩:=al.o
      cases h:fo y with
      |none=>rw[h] at e2;cases e2
      |some q=>rw[h] at e1;exact Xz some e1)
     by_cases ab:l0.length=0
     ·have a1:=Kj (l0=[]\/z.dir=true) (.inl (VJ ab));have af:¬(0:Int)<(l0.length:Int):=(by omega);have ax:=Zo af;clear ab;have a5:=Cs z.pa;have hq:=Xt;have ay:=ZR;have a3:=Ki I.o.own;have ac:=Ki I.o.bel.size;go_wp2_with (at_builtin;refine KY _ rfl _ _ 66 rfl w 60 i0 _ 3 24 V0 hi z0 z1 z2 rfl (by decide) _ l0.length _ rfl (a3.o.alloc _) ⟨O.heap.size,0,none⟩ 1 1 (Qe y) rfl rfl (Zd O (Qe y) 60) (Vb y) (by unfold maxLen;omega) (by omega) (by have:=ac.o;simp;omega) ?_);intro v8 W8 a0 Y _ a6;have ae:=Y;have J:=Ki ((I.o.below ((Qc _ O).alloc (Q3 _) (.cells (Qe y).toArray 60))).push y a0 Y (by simpa using a6));have X:(O.alloc (.cells (Qe y).toArray 60)).heap[b7]?=some (.cells (Qb z).toArray 124 (0,0)):=(Z5 _ _ _ (Q5.1 H7.o).1).trans H7.o;have U:=(Y.block b7 (Q5.1 X).1 (λe=>ZN (r:=ZE (.slice A l0.length c) l0) (a3.o.alloc _) X (show(124:TypeId)≠60 by decide) e.symm)).trans X;obtain⟨A8,c8,rfl,_,_⟩:=(Rd.of_own a0).form;have y3:=cr3 U;have y4:=cr4 U;have y5:=cr5 U;have u0:∀i,W8.frozen? ⟨bx,i,none⟩=false:=λi=>by simp[World.frozen?,J.o.cel]
      have v0:=cr0 J.o.cel;have v1:=cr1 J.o.cel;have v2:=cr2 J.o.cel;have Z:=Ki (J.o.set z.pa);clear a0 Y a6 ae X U x0 x1 x2;by_cases E:z.pa=Qf;·rw[QF E] at a5;have j:=Ki (LM HP.o a2.o a1.o E);have Q:=Ki (show(l0++[y]).length=l0.length+1 by simp);clear E;go_wp2;go_ret2;exact⟨.inl ⟨_,_,j.o,rfl,by have:=Z.o.own;rw[Q.o] at this |-;exact this⟩,Z.o.bel⟩
      rw[Zo E] at a5;have j:=Ki (LL HP.o a2.o a1.o E);have Q:=Ki (show(l0++[y]).length=l0.length+1 by simp);clear E;go_wp2;go_roundw;case rel=>exact⟨l0.length+1,z.pa,l0++[y],by omega,by go_num,Q.o,j.o,by have:=Z.o;rw[Q.o] at *;exact this⟩
      case measure=>simp[intOf];omega
     have af:(0:Int)<(l0.length:Int):=(by omega);have ax:=QF af;obtain⟨d,hd⟩:=ex (z.dir);rw[hd] at y7;have ak:=Ki hd;have au:=Kj (l0≠[]) (λh=>ab (by rw[h];rfl));clear ab hd;rcases d with _|_;·have j:=Ki (Q0a HP.o a2.o au.o ak.o);go_wp2;go_ret2;exact⟨.inr ⟨j.o,rfl⟩,I.o.bel⟩
     have a1:=Kj (l0=[]\/z.dir=true) (.inr ak.o);have a5:=Cs z.pa;have hq:=Xt;have ay:=ZR;have a3:=Ki I.o.own;have ac:=Ki I.o.bel.size;go_wp2_with (at_builtin;refine KY _ rfl _ _ 66 rfl w 60 i0 _ 3 24 V0 hi z0 z1 z2 rfl (by decide) _ l0.length _ rfl (a3.o.alloc _) ⟨O.heap.size,0,none⟩ 1 1 (Qe y) rfl rfl (Zd O (Qe y) 60) (Vb y) (by unfold maxLen;omega) (by omega) (by have:=ac.o;simp;omega) ?_);intro v8 W8 a0 Y _ a6;have ae:=Y;have J:=Ki ((I.o.below ((Qc _ O).alloc (Q3 _) (.cells (Qe y).toArray 60))).push y a0 Y (by simpa using a6));have X:(O.alloc (.cells (Qe y).toArray 60)).heap[b7]?=some (.cells (Qb z).toArray 124 (0,0)):=(Z5 _ _ _ (Q5.1 H7.o).1).trans H7.o;have U:=(Y.block b7 (Q5.1 X).1 (λe=>ZN (r:=ZE (.slice A l0.length c) l0) (a3.o.alloc _) X (show(124:TypeId)≠60 by decide) e.symm)).trans X;obtain⟨A8,c8,rfl,_,_⟩:=(Rd.of_own a0).form;have y3:=cr3 U;have y4:=cr4 U;have y5:=cr5 U;have u0:∀i,W8.frozen? ⟨bx,i,none⟩=false:=λi=>by simp[World.frozen?,J.o.cel]
     have v0:=cr0 J.o.cel;have v1:=cr1 J.o.cel;have v2:=cr2 J.o.cel;have Z:=Ki (J.o.set z.pa);clear a0 Y a6 ae X U x0 x1 x2;by_cases E:z.pa=Qf;·rw[QF E] at a5;have j:=Ki (LM HP.o a2.o a1.o E);have Q:=Ki (show(l0++[y]).length=l0.length+1 by simp);clear E;go_wp2;go_ret2;exact⟨.inl ⟨_,_,j.o,rfl,by have:=Z.o.own;rw[Q.o] at this |-;exact this⟩,Z.o.bel⟩
     rw[Zo E] at a5;have j:=Ki (LL HP.o a2.o a1.o E);have Q:=Ki (show(l0++[y]).length=l0.length+1 by simp);clear E;go_wp2;go_roundw;case rel=>exact⟨l0.length+1,z.pa,l0++[y],by omega,by go_num,Q.o,j.o,by have:=Z.o;rw[Q.o] at *;exact this⟩
     case measure=>simp[intOf];omega
  have j:=Ki (Q0b HN.o hP (by omega));have az:¬((k:Int)<(N:Int)+1):=(by omega);have ar:=Ki D.bel;clear hP D;go_wp2;go_ret2;exact⟨.inr ⟨j.o,rfl⟩,ar.o⟩
end Go.Proofs.YtfpafikfjjckeaaGreatDoor
