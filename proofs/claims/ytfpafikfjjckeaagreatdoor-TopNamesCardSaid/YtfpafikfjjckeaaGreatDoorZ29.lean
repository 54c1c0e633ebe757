import Derived.Test.YtfpafikfjjckeaaGreatDoorZ28
set_option maxRecDepth 100000
set_option maxHeartbeats 200000000
namespace Go.Proofs.YtfpafikfjjckeaaGreatDoor
open Go Go.RowKit Go.Maps
structure KV where
 v:Sl
 xs:List Int
def JX(q:KV):List Value:=[q.v.v]
theorem Q4M(q:KV):∀u∈JX q,u.oneCell'=true:=by intro u h;rw[Qw.1 h];rfl
structure GF(K:Nat)(l:List Q1)(kn:List KV)(gv kv:Value)(w:World):Prop where
 lim:Xq K l
 k3:kn.length=3
 kin:∀q∈kn,YC K q.xs
 g:Xi w w.heap.size gv l
 k:Rd w w.heap.size 1 kv kn.length (kn.flatMap JX)
 ka:∀q∈kn,Rd w w.heap.size 1 q.v.v q.xs.length (q.xs.flatMap QS)
theorem YC.le{K j:Int}{v:List Int}(h:YC K v)(E:K<=j):YC j v:=⟨h.1,λx D=>⟨(h.2 x D).1,Int.le_trans (h.2 x D).2 E⟩⟩
theorem Xq.up{K:Nat}{l:List Q1}(h:Xq K l):Xq (K+1) l:=⟨Nat.le_succ_of_le h.1,λg j=>(h.2 g j).mono (Nat.le_succ K)⟩
theorem GF.up{K:Nat}{l:List Q1}{D:List KV}{j E:Value}{w:World}(h:GF K l D j E w):GF (K+1) l D j E w:=
 ⟨h.lim.up,h.k3,λq I=>(h.kin q I).le (by omega),h.g,h.k,h.ka⟩
def K9(X:Nat->Prop)(w:World):Prop:=∀k,X k->∃(cs:Array Value)(t:TypeId)(h:Nat×Nat),w.heap[k]?=some (.cells cs t h)/\∀(i:Nat)(u:Value),cs[i]?=some u->∃(A:Option Addr)(n c:Nat),u=Value.slice A n c
theorem K9.below{X:Nat->Prop}{w W:World}(h:K9 X w)(hb:Below w.heap.size w W):K9 X W:=λk I=>by obtain⟨cs,t,j,D,E⟩:=h k I;exact⟨cs,t,j,Yd D hb,E⟩
theorem K9.or{X:Nat->Prop}{w:World}{b:Nat}{cs:Array Value}{t:TypeId}(h:K9 X w)(hb:w.heap[b]?=some (.cells cs t (0,0)))(D:∀(i:Nat)(u:Value),cs[i]?=some u->∃(A:Option Addr)(n c:Nat),u=Value.slice A n c):K9 (λk=>X k\/k=b) w:=λk j=>by
 rcases j with j|rfl;·exact h k j
 exact⟨cs,t,_,hb,D⟩
theorem D8{X:Nat->Prop}{w W:World}{B D n:Nat}{v:Value}{xs:List Value}(h:Rd w B D v n xs)(hB:B<=w)(hs:0<D)(hx:∀u,xs[0]?=some u->∃k i,u=.int k i)(hX:K9 X w)(J:Qd X w W):Rd W W.heap.size D v n xs:=by
 obtain⟨E,A,c,Z,h2,h3,h4⟩:=h;refine⟨E,A,c,Z,h2,h3,λY=>?_⟩;obtain⟨b,o,e2,hb,Q⟩:=h4 Y;have U:0<xs.length:=by rw[E];exact Nat.mul_pos Y hs
 have a0:¬X b:=λhk=>by
  obtain⟨cs,t,fr,h5,h6⟩:=hX b hk;have I:=Q 0 xs[0] (X3 U);obtain⟨k,i,h8⟩:=hx xs[0] (X3 U);have h9:w.cell? (b,o+0)=cs[o+0]?:=by simp[World.cell?,h5]
  rw[h9,h8] at I;obtain⟨A,n,c,h⟩:=h6 _ _ I;cases h
 have O:b<w:=Z1 hb hB;exact⟨b,o,e2,Z1 O J.size,λj u hu=>(J.cell (p:=(b,o+j)) O a0).trans (Q j u hu)⟩
theorem D9{j:Type}(f:j->List Value)(D:∀a,∃k i t,f a=.int k i::t)(l:List j):∀u,(l.flatMap f)[0]?=some u->∃k i,u=.int k i:=by
 intro u h
 cases l with
 |nil=>cases h
 |cons a l=>obtain⟨k,i,t,e⟩:=D a;rw[XA,e] at h;cases h;exact⟨k,i,rfl⟩
theorem X4.far{X:Nat->Prop}{w W:World}{B:Nat}{g:Q1}(h:X4 w B g)(j:B<=w)(E:K9 X w)(D:Qd X w W):X4 W W.heap.size g:=
 ⟨D8 h.d j (by decide) (D9 _ (λ_=>⟨_,_,_,rfl⟩) _) E D,h.i,D8 h.o j (by decide) (D9 _ (λ_=>⟨_,_,_,rfl⟩) _) E D,
  λo I=>⟨D8 (h.a o I).d j (by decide) (D9 _ (λ_=>⟨_,_,_,rfl⟩) _) E D,D8 (h.a o I).e j (by decide) (D9 _ (λ_=>⟨_,_,_,rfl⟩) _) E D⟩⟩
def Rg(K:Nat)(X:Nat->Prop)(w:World)(e:Ending)(w':World):Prop:=
 ∃(j D:Value)(l:List Q1)(E:List KV),e=.returned (.agg #[j,D])/\(∀h,Qd X w' h->GF (K+1) l E j D h)/\Below w.heap.size w w'
def Rh(K D:Nat)(j h:World):Prop:=∃g:Q1,D0 (K+1) g/\h.heap[D]?=some (.cells (Qg g).toArray 31 (0,0))/\X4 h h.heap.size g/\Below j.heap.size j h
theorem CP{w W:World}{b:Nat}{cs:Array Value}(hb:Below w.heap.size w W)(h:w<=b):Below w.heap.size w (W.setRow b cs):=hb.trans ((Y6 W b cs).below hb.size (λy j e=>by omega))
theorem Ri{K:Nat}{X:Nat->Prop}{l:List Q1}{J:List KV}{D E:Value}{b:Nat}{w W:World}(Q:∀j,Qd X w j->GF K l J D E j)(hb:Below w.heap.size w W)(I:w<=b)(cs:Array Value)(U:cs=#[D,E]):Rg K X w (.returned (.agg cs)) (W.setRow b cs):=by subst U;exact⟨D,E,l,J,rfl,λj O=>(Q j ((Below.touch (CP hb I) X).trans O (λ_ _ h=>h))).up,CP hb I⟩
theorem Q4N{K:Nat}(D:K<=100){M:List Int}(h:YC K M):∀x∈M,Qu x:=λx j=>by have:=h.2 x j;unfold Qu;omega
def Da(K:Nat)(h:World)(v:Value)(wr:World):Prop:=∃(M:List Int)(A:Option Addr)(c:Nat),v=.slice A M.length c/\YC K M/\Rd wr wr.heap.size 1 (.slice A M.length c) M.length (M.flatMap QS)/\Below h.heap.size h wr
theorem Q4O:(Tryz.prog.info? 28).map (λi=>(i.zero,i.size,i.bytes))=some (some (.slice none 0 0),1,24):=by kernel_rfl
theorem Q4P(K:Nat)(hK:K<=15)(l:List Q1)(D:List KV)(x:Uz)(gv kv:Value)(af:Nat->Prop)(w:World)(hX:∀k,af k->k<w)(bX:K9 af w)(hW:∀W',Qd af w W'->GF K l D gv kv W'):Calls Tryz.prog 14 #[.agg #[gv,kv],FW x] w (Rg K af w):=by
 have al:=hW w (Qd.refl _ _);obtain⟨Ag,cg,rfl,_,_⟩:=al.g.r.form;obtain⟨Ak,ck,rfl,_,_⟩:=al.k.form;obtain⟨j,bD⟩:∃z,x.r % 3=z:=⟨_,rfl⟩;have r1:Int.tmod (x.r:Int) 3=(j:Int):=by rw[<-bD];exact(Ud x.r 3).symm
 have d6:j<3:=by rw[<-bD];exact Ug _ (by decide)
 have r2:IntKind.i64.wrap (x.r:Int)=(x.r:Int):=QO _ (by have:=x.hr;omega);have r3:IntKind.i64.wrap (1+(j:Int))=1+(j:Int):=QO _ (by omega);have r4:IntKind.i64.wrap (1+(j:Int)-1)=(j:Int):=by rw[show 1+(j:Int)-1=(j:Int) by omega];exact QO _ (by omega)
 have ce:D.length=3:=al.k3;have b5:=Ki ce;have bC:j<D.length:=by omega
 have HW:=Ki (λW (h:Below w.heap.size w W)=>hW W (Below.touch h af));have bg:=Ki hW;have an:=Ki al.lim;have cD:=Ki al.kin;have cI:=Ki hX;have cH:=Ki bX;unfold FW;clear bD ce al hW hX bX;go_enter Tryz.func14,Tryz.ntmps14;go_upto_region 1 with fail;obtain⟨J,ak⟩:∃W,((w.alloc (.cells #[.slice Ag l.length cg,.slice Ak D.length ck] 51)).alloc (.cells #[.int .u8 x.w,.int .u8 x.r,.int .u8 x.a,.int .u8 x.b,.int .u8 x.c,.bool x.see] 54)).alloc (.cells #[.slice none 0 0,.slice none 0 0] 51)=W:=⟨_,rfl⟩;have h2:J.heap[w.heap.size]?=some (.cells #[.slice Ag l.length cg,.slice Ak D.length ck] 51 (0,0)):=by rw[<-ak];(simp only[Zs,Qy,reduceIte];repeat (first|rw[Q7 (by omega)]|rw[Q6 (by omega)]))
 have h3:J.heap[w.heap.size+1]?=some (.cells #[.int .u8 x.w,.int .u8 x.r,.int .u8 x.a,.int .u8 x.b,.int .u8 x.c,.bool x.see] 54 (0,0)):=by rw[<-ak];(simp only[Zs,Qy,reduceIte];repeat (first|rw[Q7 (by omega)]|rw[Q6 (by omega)]))
 have h4:J.heap[w.heap.size+2]?=some (.cells #[.slice none 0 0,.slice none 0 0] 51 (0,0)):=by rw[<-ak];(simp only[Zs,Qy,reduceIte];repeat (first|rw[Q7 (by omega)]|rw[Q6 (by omega)]))
 have bp:Below w.heap.size w J:=by rw[<-ak];exact((((Q0.refl w).alloc _).alloc _).alloc _).below
 rw[ak];obtain⟨b4,au⟩:∃b,w.heap.size+2=b:=⟨_,rfl⟩;obtain⟨b3,a1⟩:∃b,w.heap.size+1=b:=⟨_,rfl⟩;obtain⟨b2,hb2⟩:∃b,w.heap.size=b:=⟨_,rfl⟩;have cr:=Kj (b2=w.heap.size/\b3=w.heap.size+1/\b4=w.heap.size+2) ⟨hb2.symm,a1.symm,au.symm⟩;rw[au] at h4;rw[a1] at h3;rw[hb2] at h2;try rw[show w.heap.size+1+1=b4 from au]
 try rw[au]
 rw[a1,hb2];have ay:=Ki bp;have ad:=Ki (λW (h:Below J.heap.size J W)=>Yd h2 h);have ae:=Ki (λW (h:Below J.heap.size J W)=>Yd h3 h);have ap:=Ki (λW (h:Below J.heap.size J W)=>Yd h4 h);have U:=(HW.o J bp);obtain⟨bk,ok,rfl,_,aw⟩:=Qr JX 1 (λ_=>rfl) (by decide) U.k bC;obtain⟨q,X⟩:=ex (D[j]);have bA:q∈D:=by rw[<-X];exact Zt bC
 have bB:q.v.n=q.xs.length:=(Rd.len (U.ka q bA)).1;have k0:J.cell? (bk,ok+j)=some (.slice q.v.A q.xs.length q.v.c):=by have h:=aw 0 q.v.v (by rw[X];rfl);rw[Uf,UI] at h;rw[<-bB];exact h
 have aX:=Kj (Da K J (.slice q.v.A q.xs.length q.v.c) J) ⟨q.xs,q.v.A,q.v.c,rfl,U.kin q bA,by have h:=U.ka q bA;unfold Sl.v at h;rw[bB] at h;exact h,Qc _ _⟩;have e2:J.cell? (b2,1)=some (.slice (bk,ok) D.length ck):=cR 1 h2;have e3:J.cell? (b3,1)=some (.int .u8 x.r):=cR 1 h3;have e5:J.cell? (b3,5)=some (.bool x.see):=cR 5 h3;have i0:(0:Int)<=(j:Int):=by omega
 have i1:(j:Int)<(D.length:Int):=by omega
 clear ak h2 h3 h4 bp hb2 a1 au U aw X bB;go_upto_region 3 with fail;go_cut [29] (λv Y=>(∃t:Bool,v=.bool t)/\J=Y);case first=>go_wp2;go_meet;case rel=>exact⟨⟨_,rfl⟩,rfl⟩
 case rest=>
 obtain⟨⟨cU,rfl⟩,hw⟩:=hcut;subst hw;go_upto_if 29 with fail;go_cut [6,7] (λv i Y=>Da K J v Y)
 case first=>
  cases cU;·go_wp2;go_meet;case rel=>exact aX.o
  go_wp2;go_loopw [6,7] (λv i wr=>∃k:Nat,k<=D.length/\i=.int .i64 k/\Da K J v wr) (λ_ i _=>D.length-(intOf i).toNat);case atStart=>exact⟨0,Qh _,rfl,aX.o⟩
  case round=>
   obtain⟨k,hk,rfl,M,Am,cm,rfl,a7,a6,hb⟩:=hrel;have e2:wr.cell? (b2,1)=some (.slice (bk,ok) D.length ck):=cR 1 (ad.o wr hb);have bc:=Ki a6;have be:=Ki a7;have bI:=Ki hb;by_cases cf:k<D.length
   ·have U:=HW.o wr (ay.o.trans (hb.mono ay.o.size));obtain⟨cX,d8,e7,_,aw⟩:=Qr JX 1 (λ_=>rfl) (by decide) U.k cf;injection e7 with e7;injection e7 with e7 e8;subst e7 e8;obtain⟨p,hp⟩:=ex (D[k]);have aO:p∈D:=(by rw[<-hp];exact Zt cf);have bz:p.v.n=p.xs.length:=(Rd.len (U.ka p aO)).1;have k0:wr.cell? (bk,ok+k)=some (.slice p.v.A p.xs.length p.v.c):=(by have h:=aw 0 p.v.v (by rw[hp];rfl);rw[Uf,UI] at h;rw[<-bz];exact h);have aP:=U.ka p aO;unfold Sl.v at aP;rw[bz] at aP;have HM:=Ki (Q3F (K:Int) (by omega) M p.xs a7 (U.kin p aO) Am p.v.A M.length cm p.xs.length p.v.c wr.heap.size wr a6 aP (Q3 _));have i2:(0:Int)<=(k:Int):=(by omega);have i3:(k:Int)<(D.length:Int):=(by omega);have i4:k<=3:=(by have:=b5.o;omega);clear U aw hp aO bz aP a6 a7 hb;go_wp2_with fail;refine HM.o.mono ?_;rintro e w2 ⟨M2,A2,c2,rfl,ar,aq,hb2⟩;have HF:=Kj (Da K J (.slice A2 M2.length c2) w2) ⟨M2,A2,c2,rfl,ar,aq,bI.o.trans (hb2.mono bI.o.size)⟩;clear ar aq hb2 HM;go_wp2;go_roundw;case rel=>exact⟨k+1,by omega,by go_num,HF.o⟩
    case measure=>simp[intOf];omega
   have HF:=Kj (Da K J (.slice Am M.length cm) wr) ⟨M,Am,cm,rfl,a7,a6,hb⟩;clear a6 a7 hb;go_wp2;go_meet;case rel=>exact HF.o
 case rest=>
  obtain⟨M,Am,cm,rfl,a7,a6,hb⟩:=hcut;have aj:=Ki (ay.o.trans (hb.mono ay.o.size));have aS:=Ki hb;have U:=HW.o wc aj.o;have c0:wc.cell? (b2,0)=some (.slice Ag l.length cg):=cR 0 (ad.o wc hb);have bQ:=Ki (Q3E l M Ag Am l.length cg M.length cm wc.heap.size wc U.g.r a6 (Q3 _) (by have:=an.o.1;omega));have bc:=Ki a6;have be:=Ki a7;have HZ:=Ki (a7.at_ (by omega:(0:Int)<=(K:Int)) (1+(j:Int)));clear e2 e3 e5 k0 aX U a6 a7 hb;go_wp2_with fail;refine bQ.o.mono ?_;rintro e w2 ⟨⟨v2,rfl,bh⟩,hb2⟩;obtain⟨A2,c2,rfl,_,_⟩:=(Rd.of_own bh).form;have U:=HW.o w2 (aj.o.trans (hb2.mono aj.o.size));have aC:=Kj (Xi w2 w2.heap.size (.slice A2 (Vk l M).length c2) (Vk l M)) ⟨Rd.of_own bh,λg hg=>U.g.a g (V5.1 hg).1⟩;have b6:=Ki (an.o.sub (show(Vk l M).Sublist l from List.filter_sublist));obtain⟨P,hP⟩:=ex (Vk l M);rw[hP] at aC b6 |-;have aU:=Ki (aj.o.trans (hb2.mono aj.o.size));have ao:=Kj (Rd w2 w2.heap.size 1 _ _ _) ((bc.o.below' hb2 (Q3 _)).more hb2.size);have aR:=Ki (aS.o.trans (hb2.mono aS.o.size));have bb:=Ki (Fj M (1+(j:Int)) Am M.length cm w2.heap.size w2 ao.o (by unfold Qu;omega));obtain⟨z,hz⟩:=ex (Zw M (1+(j:Int)));rw[hz] at bb HZ;have z1:IntKind.i64.wrap (z+1)=z+1:=QO _ (by have:=HZ.o;omega);clear U bh hP hb2 bQ c0 hz bc aS aj;go_wp2_with fail;refine bb.o.mono ?_;rintro e w3 ⟨rfl,rfl⟩;have b7:=Ki (Q3w P A2 P.length c2 w2.heap.size w2 aC.o.r);have aG:=Kj (0<=XO P/\XO P<=(K:Int)) ⟨Cn P,IZ (by omega) (λg hg=>(b6.o.2 g hg).t.2)⟩;obtain⟨Z,cn⟩:∃t,XO P=t:=⟨_,rfl⟩
  rw[cn] at b7 aG;have z2:IntKind.i64.wrap (Z+1)=Z+1:=QO _ (by have:=aG.o;omega);clear cn bb;go_wp2_with fail;refine b7.o.mono ?_;rintro e w3 ⟨rfl,c4⟩;have a1:=c4.below;have aA:=Ki (aU.o.trans (a1.mono aU.o.size));have az:=Ki (aR.o.trans (a1.mono aR.o.size));have bL:=Kj (Xi w3 w3.heap.size _ P) ((aC.o.below a1).more a1.size);have bU:=Kj (Rd w3 w3.heap.size 1 _ _ _) ((ao.o.below' a1 (Q3 _)).more a1.size);clear c4 a1 b7 aC ao aU aR;go_upto_region 11 with fail;obtain⟨E,aK⟩:∃W,w3.alloc (.cells #[.int .i64 (Z+1),.int .i64 (1+(j:Int)),.int .i64 (z+1),.slice Am M.length cm,.int .i64 0,.int .i64 0,.slice none 0 0] 31)=W:=⟨_,rfl⟩;have aM:=bl aK;have ag:=bn aK;rw[aK];obtain⟨Q,bq⟩:∃b,w3.heap.size=b:=⟨_,rfl⟩;have aY:=Ki bq;rw[bq] at ag |-;have ab:=Ki ag;have aQ:=Ki (aA.o.trans (aM.mono aA.o.size));have a0:=Ki (az.o.trans (aM.mono az.o.size));have ac:=Ki aM;have aE:=Kj (w<=b4) (by have:=cr.o;omega)
  have a4:=Ki (show Qu (Z+1)/\Qu (1+(j:Int))/\Qu (z+1) from by
   have h1:=aG.o;have h2:=HZ.o;unfold Qu
   omega)
  have bd:=Ki (show(1<=Z+1/\Z+1<=((K+1:Nat):Int))/\(1<=1+(j:Int)/\1+(j:Int)<=3)/\(0<=z+1/\z+1<=((K+1:Nat):Int)) from by
   have h1:=aG.o;have h2:=HZ.o
   omega)
  have bJ:=Ki (λY (hx:Below w3.heap.size w3 Y) (un:Q4) (ov:Sl) (ah:List Qt) (hl:ah.length<=1) (cS:∀o∈ah,EZ ⟨Z+1,1+(j:Int),a4.o.1,a4.o.2.1⟩ o) (ho:Rd Y Y.heap.size 18 ov.v ah.length (ah.flatMap Qp)) (cQ:∀o∈ah,XH Y Y.heap.size o) (hh:Y.heap[Q]?=some (.cells (Qg ⟨⟨Z+1,1+(j:Int),a4.o.1,a4.o.2.1⟩,z+1,⟨Am,M.length,cm⟩,M,un,ov,ah,a4.o.2.2⟩).toArray 31 (0,0)))=>
   (show Rh K Q w3 Y from⟨⟨⟨Z+1,1+(j:Int),a4.o.1,a4.o.2.1⟩,z+1,⟨Am,M.length,cm⟩,M,un,ov,ah,a4.o.2.2⟩,⟨bd.o.1,bd.o.2.1,bd.o.2.2,hl,cS⟩,hh,⟨(bU.o.below' hx (Q3 _)).more hx.size,Q4N (by omega) be.o,ho,cQ⟩,hx⟩))
  have d0:E.cell? (b3,0)=some (.int .u8 x.w):=cR 0 (ae.o E a0.o);obtain⟨m,hm⟩:=ex (x.w % 8);have m1:Int.tmod (x.w:Int) 8=(m:Int):=by rw[<-hm];exact(Ud x.w 8).symm
  clear hm aK ag aM bq;go_cut [63] (λv Y=>(∃t:Bool,v=.bool t)/\E=Y);case first=>go_wp2;go_meet;case rel=>exact⟨⟨_,rfl⟩,rfl⟩
  case rest=>
  obtain⟨⟨t,rfl⟩,hw⟩:=hcut;subst hw;clear d0 m1;go_upto_if 63 with fail;go_cut [11,12] (λ_ _ Y=>Rh K Q w3 Y)
  case first=>
   cases t
   ·have x0:E.cell? (Q,0)=some (.int .i64 (Z+1)):=cR 0 ab.o;have x1:E.cell? (Q,1)=some (.int .i64 (1+(j:Int))):=cR 1 ab.o;have y0:E.cell? (b3,0)=some (.int .u8 x.w):=cR 0 (ae.o E a0.o);have y1:E.cell? (b3,1)=some (.int .u8 x.r):=cR 1 (ae.o E a0.o);have y2:E.cell? (b3,2)=some (.int .u8 x.a):=cR 2 (ae.o E a0.o);have y3:E.cell? (b3,3)=some (.int .u8 x.b):=cR 3 (ae.o E a0.o);have y4:E.cell? (b3,4)=some (.int .u8 x.c):=cR 4 (ae.o E a0.o);have y5:E.cell? (b3,5)=some (.bool x.see):=cR 5 (ae.o E a0.o);have ba:=Ki (Q4L K (by omega) P b6.o ⟨Z+1,1+(j:Int),a4.o.1,a4.o.2.1⟩ x A2 P.length c2 w3.heap.size E (bL.o.below ac.o) ac.o.size);unfold QU FW at ba;go_wp2_with fail;refine ba.o.mono ?_;rintro e w5 ⟨o,cT,rfl,hL,hO,bZ⟩;unfold Qz Qp Sl.v;have cE:=Ki hL;have b9:=Ki hO;have ai:=Ki bZ;clear x0 x1 y0 y1 y2 y3 y4 y5 ba hL hO bZ;go_upto_region 16 with(((with_reducible refine Zm 72 ?_);refine Zp rfl 72 _ _ rfl _ _ rfl rfl _ _ (Qi _ _) (by kernel_rfl) rfl (by kernel_rfl) ?_;rw[Xm,Zn]));obtain⟨O,aL⟩:∃W,w5.alloc (.cells o 72)=W:=⟨_,rfl⟩;have a2:=bl aL;have aI:=bn aL;rw[aL];obtain⟨cW,bY⟩:∃b,w5.heap.size=b:=⟨_,rfl⟩;have a5:=Ki (aQ.o.trans ((ai.o.trans (a2.mono ai.o.size)).mono aQ.o.size));have a3:=Ki (a0.o.trans ((ai.o.trans (a2.mono ai.o.size)).mono a0.o.size));have aV:=Ki (ai.o.trans (a2.mono ai.o.size));have cq:=Ki a2;rw[bY] at aI |-;have cV:=Ki aI;have cJ:=Ki (Zz (cs:=o) aI);clear aL a2 aI bY;cases cT
    ·have f0:O.cell? (b2,0)=some (.slice Ag l.length cg):=cR 0 (ad.o O a3.o);have f1:O.cell? (b2,1)=some (.slice (bk,ok) D.length ck):=cR 1 (ad.o O a3.o);have H4:=Ki (ap.o O a3.o);go_wp2_with (first|((with_reducible refine Zm 51 ?_);refine Zp rfl 51 _ _ rfl _ _ rfl rfl 51 _ H4.o (by kernel_rfl) rfl (by kernel_rfl) ?_;rw[Zn]));refine XE (V2 rfl _ _ b4 51 _ (0,0) _ rfl (X7 O b4 _ _ 51 _ H4.o) Tryz.underlying51 rfl (by kernel_rfl)) rfl ?_;exact Ri bg.o a5.o aE.o _ rfl
    have ag:=Yd ab.o aV.o;have cd:=(Q5.1 ab.o).1;have cP:=(Q5.1 ag).1;have aH:(O.alloc (.cells o 72)).heap[Q]?=some (.cells #[.int .i64 (Z+1),.int .i64 (1+(j:Int)),.int .i64 (z+1),.slice Am M.length cm,.int .i64 0,.int .i64 0,.slice none 0 0] 31 (0,0)):=Yd ag ((Qc _ O).alloc (Q3 _) _);have cN:(O.alloc (.cells o 72)).frozen? (Q,6)=false:=(by simp[World.frozen?,aH]);have d3:(O.alloc (.cells o 72)).cell? (Q,6)=some (.slice none 0 0):=cR 6 aH
    have aZ:=Ki (bJ.o ((O.alloc (.cells o 72)).setCell (Q,6) (.slice (O.heap.size,0) 1 1)) ((ac.o.trans (aV.o.mono ac.o.size)).alloc (ac.o.trans (aV.o.mono ac.o.size)).size _ |>.setCell (p:=(Q,6)) (Eg aY.o) _) Qf.s ⟨some ⟨O.heap.size,0,none⟩,1,1⟩ [o] (Q3 _) (λo' bv=>by rw[Qw.1 bv];exact cE.o rfl)
     (Rd.of_own (base:=O.heap.size) (e:=72) (K6 (show(O.alloc (.cells o 72)).ownsRow O.heap.size 72 18 (.slice (O.heap.size,0) 1 1) [o].length ([o].flatMap Qp) from⟨rfl,.inr ⟨O.heap.size,1,_,rfl,Q3 _,Qi O _,Q3 _,by decide,rfl,rfl⟩⟩) (λe=>by
      have e2:some Q=some O.heap.size:=e;injection e2
      omega)))
     (λo' bv=>by
      rw[Qw.1 bv]
      exact b9.o _ (((Below.touch cq.o (λk=>k<E)).alloc _).setCell (p:=(Q,6)) (λ_=>cd) _))
     (JV (cs:=[.int .i64 (Z+1),.int .i64 (1+(j:Int)),.int .i64 (z+1),.slice Am M.length cm,.int .i64 0,.int .i64 0,.slice none 0 0]) aH 6 _))
    clear ag cd cP aH;go_wp2_with (first|((with_reducible refine Ql 72 ?_);refine QA rfl 72 _ rfl _ _ _ rfl cJ.o (by kernel_rfl) (Z6 _) ?_));go_meet;case rel=>exact aZ.o
   by_cases bx:P.length=0;·have cK:((P.length:Int)==0)=true:=(by rw[bx];rfl);have f0:E.cell? (b2,0)=some (.slice Ag l.length cg):=cR 0 (ad.o E a0.o);have f1:E.cell? (b2,1)=some (.slice (bk,ok) D.length ck):=cR 1 (ad.o E a0.o);have H4:=Ki (ap.o E a0.o);clear bx;go_wp2_with (first|((with_reducible refine Zm 51 ?_);refine Zp rfl 51 _ _ rfl _ _ rfl rfl 51 _ H4.o (by kernel_rfl) rfl (by kernel_rfl) ?_;rw[Zn]));refine XE (V2 rfl _ _ b4 51 _ (0,0) _ rfl (X7 E b4 _ _ 51 _ H4.o) Tryz.underlying51 rfl (by kernel_rfl)) rfl ?_;exact Ri bg.o aQ.o aE.o _ rfl
   obtain⟨k,hk⟩:=ex (x.a % P.length);have t1:Int.tmod (x.a:Int) (P.length:Int)=(k:Int):=(by rw[<-hk];exact(Ud x.a P.length).symm);have cb:k<P.length:=(by rw[<-hk];exact Ug _ (by omega));have cK:((P.length:Int)==0)=false:=(by rw[Xg];omega);have n0:¬(P.length:Int)=0:=(by omega);have wa:IntKind.i64.wrap (x.a:Int)=(x.a:Int):=QO _ (by have:=x.ha;omega);have y2:E.cell? (b3,2)=some (.int .u8 x.a):=cR 2 (ae.o E a0.o);obtain⟨bP,oP,rfl,_,aJ⟩:=Qr Qg 7 (λ_=>rfl) (by decide) (bL.o.below ac.o).r cb;obtain⟨p,hp⟩:=ex (P[k]);rw[hp] at aJ;have p0:E.cell? (bP,oP+k*7)=p.s.T:=aJ 0 _ rfl;have p1:E.cell? (bP,oP+k*7+1)=p.s.R:=aJ 1 _ rfl;have cN:∀i,E.frozen? ⟨Q,i,none⟩=false:=λi=>by simp[World.frozen?,ab.o]
   have q4:E.cell? (Q,4)=(0:Int):=cR 4 ab.o;have q5:E.cell? (Q,5)=(0:Int):=cR 5 ab.o;have j0:(0:Int)<=(k:Int):=(by omega);have j1:(k:Int)<(P.length:Int):=(by omega);have aZ:=Ki (bJ.o ((E.setCell (Q,4) p.s.T).setCell (Q,5) p.s.R) ((ac.o.setCell (p:=(Q,4)) (Eg aY.o) _).setCell (p:=(Q,5)) (Eg aY.o) _) p.s ⟨none,0,0⟩ [] (by decide) (λo ho=>by cases ho) (Rd.nil _ _ _) (λo ho=>by cases ho) (JV (JV (cs:=[.int .i64 (Z+1),.int .i64 (1+(j:Int)),.int .i64 (z+1),.slice Am M.length cm,.int .i64 0,.int .i64 0,.slice none 0 0]) ab.o 4 _) 5 _));clear hk hp aJ bx cb;go_wp2;go_meet;case rel=>exact aZ.o
  case rest=>
   obtain⟨g,ca,c8,c6,av⟩:=hcut;have cz:=Ki ca;have aW:=Ki (aA.o.trans (av.mono aA.o.size));have aT:=Ki (az.o.trans (av.mono az.o.size));have bf:=Ki (Q3G ((K+1:Nat):Int) (by omega) M (be.o.le (by omega)) (j+1) (by omega) (z+1) (by have:=HZ.o;omega) Am M.length cm wc.heap.size wc ((bU.o.below' av (Q3 _)).more av.size) (Q3 _));rw[show(((j+1:Nat)):Int)=1+(j:Int) by omega] at bf;have bK:=Ki c8;have bN:=Ki c6;clear ca c8 c6 av;go_wp2_with fail;refine bf.o.mono ?_;rintro e I ⟨M2,Au,cu,rfl,ar,aq,a2⟩;have a5:=Ki (aW.o.trans (a2.mono aW.o.size));have a3:=Ki (aT.o.trans (a2.mono aT.o.size));have cy:=Ki (Yd bK.o a2);have cB:=Ki ((bN.o.below a2).more a2.size);have cG:=Ki ar;have ao:=Ki aq;have f1:I.cell? (b2,1)=some (.slice (bk,ok) D.length ck):=cR 1 (ad.o I a3.o);have bR:=Ki (HW.o I a5.o).k;obtain⟨j0,hj,y0,y1,y2⟩:=Zc Q4O;obtain⟨co,hi,x0,x1,x2⟩:=Zc Ft;have bT:=Kj (I.ownsRow I.heap.size 28 1 (.slice none 0 0) 0 []) ⟨rfl,.inl ⟨rfl,rfl⟩⟩;have d4:D.length<=3:=(by have:=b5.o;omega);have d5:l.length<=100:=(by have:=an.o.1;omega);clear ar aq a2 bf bK bN aW aT;go_wp2_with (at_builtin;refine KE rfl _ _ 49 rfl I.heap.size 28 j0 _ 1 24 Tryz.underlying49 hj y0 y1 y2 rfl (by decide) _ 0 [] rfl bT.o _ I.heap.size D.length _ rfl bR.o (Kn Q4M _) (by unfold maxLen;omega) (by omega) (Q3 _) ?_);intro v7 W7 a9 a8 bo;have ax:W7.ownsRow I.heap.size 28 1 v7 D.length (D.flatMap JX):=(by simpa using a9);have c1:Below I.heap.size I W7:=(Qc _ I).grown a8 (Q3 _) (λbF hj=>by cases hj)
   obtain⟨g7,c7,_,rfl,c5,cO,d2,_,_,_⟩:=V9 ax (by omega)
   have bE:D.flatMap JX=(D.take j).flatMap JX++JX D[j]++(D.drop (j+1)).flatMap JX:=by
    conv=>lhs;rw[<-XU j D,VL bC]
    rw[Zb,XA,Y7]
   have bj:((D.take j).flatMap JX).length=j:=(by rw[XG JX 1 (λ_=>rfl),Zi];omega);obtain⟨aa,aN⟩:∃L,D.take j++⟨⟨Au,M2.length,cu⟩,M2⟩::D.drop (j+1)=L:=⟨_,rfl⟩;have bu:aa.length=D.length:=(by rw[<-aN,Qj,Z4,Zi,Ds];omega)
   have cc:∀q∈aa,q∈D\/q=⟨⟨Au,M2.length,cu⟩,M2⟩:=λq X=>by
    rw[<-aN] at X;rcases Qq.1 X with h|h;·exact .inl (U8 h)
    rcases QI.1 h with h|h;·exact .inr h
    exact .inl (List.mem_of_mem_drop h)
   have cj:(W7.setCell (g7,j) (.slice Au M2.length cu)).ownsRow I.heap.size 28 1 (.slice (g7,0) D.length c7) aa.length (aa.flatMap JX):=(by have h:=VQ (old:=JX D[j]) (bE▸ax) [.slice Au M2.length cu] rfl (show 0<D.length by omega);rw[bj] at h;rw[bu,<-aN,Zb,XA,<-Y7];exact h);have cL:W7.cell? (g7,j)=some (D[j].v.v):=(X8 ax j _ (by rw[bE,Y7,JZ (by omega),bj,GV];rfl)).1;have cM:W7.frozen? (g7,j)=false:=YY ax (by omega) j;have aD:=Kj (aa.length=D.length/\∀q∈aa,q∈D\/q=⟨⟨Au,M2.length,cu⟩,M2⟩) ⟨bu,cc⟩;have b8:=Ki cj;have bG:=Ki c1;have cw:=Ki c5;clear a9 ax a8 bo bE bj aN bu cc cj c1 c5 cO f1 bR bT;go_upto_region 23 with fail;obtain⟨W8,bi⟩:∃W,W7.setCell (g7,j) (.slice Au M2.length cu)=W:=⟨_,rfl⟩;rw[bi] at b8 |-;have am:=Kj (Below I.heap.size I W8) (by rw[<-bi];exact bG.o.setCell (p:=(g7,j)) cw.o _);have cv:=Ki (a5.o.trans (am.o.mono a5.o.size));have f0:W8.cell? (b2,0)=some (.slice Ag l.length cg):=cR 0 (ad.o W8 (a3.o.trans (am.o.mono a3.o.size)));have bM:=Ki (HW.o W8 cv.o).g.r;have bS:=Kj (W8.ownsRow I.heap.size 31 7 (.slice none 0 0) 0 []) ⟨rfl,.inl ⟨rfl,rfl⟩⟩;have cF:=Ki am.o.size;clear bi cL cM bG;go_wp2_with (at_builtin;refine KE rfl _ _ 24 rfl I.heap.size 31 co _ 7 88 GQ hi x0 x1 x2 rfl (by decide) _ 0 [] rfl bS.o _ W8.heap.size l.length _ rfl bM.o (Kn KC _) (by unfold maxLen;omega) (by omega) cF.o ?_);intro v9 W9 a9 a8 bo;have bw:W9.ownsRow I.heap.size 31 7 v9 l.length (l.flatMap Qg):=(by simpa using a9)
   have br:Below W8.heap.size W8 W9:=(Qc _ W8).grown a8 (Q3 _) (λbF hj=>by cases hj);obtain⟨A9,c9,rfl,_,_⟩:=(Rd.of_own bw).form;have aF:=Ki bw;have bO:=Ki (QB b8.o br);have aB:=Ki (am.o.trans (br.mono am.o.size));have cx:=Ki (Yd cy.o aB.o);have bV:=Ki (Zz (cs:=g) cx.o);clear a9 bw a8 bo br b8 f0 bM bS;go_wp2_with (first|((with_reducible refine Ql 31 ?_);refine QA rfl 31 _ rfl _ _ _ rfl bV.o (by kernel_rfl) (Zl _) ?_)|(at_builtin;refine Yf _ rfl _ _ 24 rfl I.heap.size 31 co _ 7 88 GQ hi x0 x1 x2 rfl (by decide) _ l.length _ rfl (aF.o.alloc _) ⟨W9.heap.size,0,none⟩ 1 1 (Qg g) rfl rfl (Zd W9 (Qg g) 31) (KC g) (by unfold maxLen;omega) (by omega) (by have:=aB.o.size;simp;omega) ?_));intro vA WA a9 a8 _;have cl:WA.ownsRow I.heap.size 31 7 vA (l++[g]).length ((l++[g]).flatMap Qg):=(by rw[Qj,Zb,Xf];exact a9);obtain⟨AA,cA,rfl,_,_⟩:=(Rd.of_own a9).form;have bt:Below I.heap.size I (W9.alloc (.cells (Qg g).toArray 31)):=aB.o.alloc aB.o.size _;have bs:Below I.heap.size I WA:=bt.grown a8 bt.size (λbF hj=>(aF.o.lt bF hj).1)
   have bW:WA.ownsRow I.heap.size 28 1 (.slice (g7,0) D.length c7) aa.length (aa.flatMap JX):=by
    have tA:=(Qd.refl (λk=>(Value.slice A9 l.length c9).ownBlock=some k) (W9.alloc (.cells (Qg g).toArray 31))).grown a8 (λk hk _=>hk);refine Ul (QB bO.o ((Qc _ W9).alloc (Q3 _) _)) tA (λk cY fr hk hc=>?_);rcases (aF.o.alloc (.cells (Qg g).toArray 31)).2 with⟨h0,_⟩|⟨q,cap,cZ,h0,_,X,_⟩;·rw[h0] at hk;cases hk
    rw[h0] at hk;cases hk;rw[X] at hc;injection hc with hc;injection hc with _ h2;exact absurd h2 (by decide)
   have h4:=ap.o WA (a3.o.trans (bs.mono a3.o.size));have b9:=Ki cl;have cC:=Ki bW;have bH:=Ki bs;have H4:=Ki h4;clear a9 a8 cl bt bs bW h4 aF bO bV;go_wp2_with (first|((with_reducible refine Zm 51 ?_);refine Zp rfl 51 _ _ rfl _ _ rfl rfl 51 _ H4.o (by kernel_rfl) rfl (by kernel_rfl) ?_;rw[Zn]));refine XE (V2 rfl _ _ b4 51 _ (0,0) _ rfl (X7 WA b4 _ _ 51 _ H4.o) Tryz.underlying51 rfl (by kernel_rfl)) rfl ?_;have c3:Below w.heap.size w WA:=a5.o.trans (bH.o.mono a5.o.size);refine⟨_,_,l++[g],aa,rfl,λW' hT=>?_,CP c3 aE.o⟩;have d7:=a5.o.size;have d1:b4<I:=(Q5.1 (ap.o I a3.o)).1;have tx:Qd (λk=>af k\/k=b4) I W':=((Below.touch bH.o _).trans (Y6 WA b4 _) (λ_ _ h=>.inr h)).trans hT (λ_ _ h=>.inl h)
   have ch:=(cH.o.below a5.o).or (ap.o I a3.o) (λi u hu=>by
    match i,hu with
    |0,hu=>cases hu;exact⟨_,_,_,rfl⟩
    |1,hu=>cases hu;exact⟨_,_,_,rfl⟩)
   have ci:=bg.o W' ((Below.touch (CP c3 aE.o) af).trans hT (λ_ _ h=>h));have cp:∀{e:TypeId}{sz n:Nat}{v:Value}{xs:List Value},WA.ownsRow I.heap.size e sz v n xs->Rd W' W'.heap.size sz v n xs:=λh=>Rd.of_own (Yn (Yn h (Y6 WA b4 _) (λq X e=>by have:=(h.lt q X).1;omega)) hT (λq X e=>by have:=(h.lt q X).1;have:=cI.o q e;omega));refine⟨⟨by rw[Qj,XZ];have:=an.o.1;omega,λa ha=>?_⟩,by rw[aD.o.1];exact b5.o,λq X=>?_,⟨cp b9.o,λa ha=>?_⟩,by rw[aD.o.1] at *;exact cp cC.o,λq X=>?_⟩
   ·rcases Qq.1 ha with h|h;·exact(an.o.2 a h).mono (Nat.le_succ K)
    rw[Qw.1 h];exact cz.o
   ·rcases aD.o.2 q X with h|h;·exact(cD.o q h).le (by omega)
    rw[h];exact cG.o
   ·rcases Qq.1 ha with h|h;·exact ci.g.a a h
    rw[Qw.1 h];exact cB.o.far (Q3 _) ch tx
   rcases aD.o.2 q X with h|h;·exact ci.ka q h
   rw[h];exact D8 ao.o (Q3 _) (by decide) (D9 _ (λ_=>⟨_,_,_,rfl⟩) _) ch tx
end Go.Proofs.YtfpafikfjjckeaaGreatDoor
