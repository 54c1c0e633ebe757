import Derived.RangeFuncBound
import Derived.RangeFuncCalls
import Derived.Sort.MapsRangeIn
import Derived.Lib.ItoaNum
import Derived.Test.YtfpafikfjjckeaaGreatDoorZ16
set_option maxRecDepth 100000
set_option maxHeartbeats 200000000
namespace Go.Proofs.YtfpafikfjjckeaaGreatDoor
section
open Go Go.RowKit Go.Maps
def LO(L:List Q2)(w:World)(p E D I j:Nat)(i:Value)(wr:World):Prop:=
 ∃k:Nat,k<=L.length/\i=k/\(∃h,h<=k/\Tr wr w p E D I j h 0 0 0 (Yz (L.take k)) (Xk []) (λ_=>none) (λ_=>none))/\Below w w wr
def Q0e(L:List Q2)(h:List Id)(w:World)(p E D I j J:Nat)(i:Value)(wr:World):Prop:=
 ∃k:Nat,k<=h.length/\i=k/\Tr wr w p E D I j J k 0 0 (Yz L) (Xk (h.take k)) (λ_=>none) (λ_=>none)/\Below w w wr
def Q0f(L:List Q2)(h:List Id)(w:World)(e:Ending)(w':World):Prop:=
 ∃p I E J D j,j<=L.length/\e=.returned (.pointer (p,0))/\Tr w' w p I E J D j h.length 0 0 (Yz L) (Xk h) (λ_=>none) (λ_=>none)/\Below w w w'
theorem I2{f:Id->Option Q2}{q:Q2}(h:¬((f q.nd).isSome=false/\ZS q.nd=true/\XI q.nm.data.toList=true)):K1 f q=f:=by unfold K1;rw[Q6 h]
theorem Q0g{f:Id->Option Q2}{q:Q2}(h:(f q.nd).isSome=false/\ZS q.nd=true/\XI q.nm.data.toList=true):K1 f q=λy=>if y=q.nd then some q else f y:=by unfold K1;rw[Q7 h]
theorem Q0h(L:List Q2)(I:List Id)(A A':Option Addr)(n c n' c' B:Nat)(w:World)(hR:Rd w B 8 (.slice A n c) n (L.flatMap Qb))(ai:Rd w B 3 (.slice A' n' c') n' (I.flatMap Qe))(hB:B<=w)(hn:n<=100000)(aS:n'<=100000)(aG:∀q∈L,q.nm.size<=1000000):Calls Tryz.prog 86 #[.slice A n c,.slice A' n' c'] w (Q0f L I w):=by
 obtain rfl:=QL Qb 8 (λ_=>rfl) (by decide) hR.1;obtain rfl:=QL Qe 3 (λ_=>rfl) (by decide) ai.1;have HR:=Ki (λW (hW:Below w w W)=>hR.below' hW hB);have aK:=Ki (λW (hW:Below w w W)=>ai.below' hW hB);have aL:=Ki aG;clear hR ai aG;have aQ:=@Ue Tryz.prog;go_enter Tryz.func86,Tryz.ntmps86;go_wp2;obtain⟨w1,aw⟩:∃W,((((w.alloc (.map #[] 0)).alloc (.map #[] 0)).alloc (.map #[] 0)).alloc (.map #[] 0)).alloc (.cells #[.map (some w.heap.size),.map (some (w.heap.size+1)),.map (some (w.heap.size+2)),.map (some (w.heap.size+3))] 188)=W:=⟨_,rfl⟩;have ad:=WW w;have aC:Below w w w1:=by rw[<-aw];exact(((((Q0.refl w).alloc _).alloc _).alloc _).alloc _).alloc _ |>.below
 rw[aw] at ad |-;obtain⟨p,hp⟩:∃b,w.heap.size+4=b:=⟨_,rfl⟩;obtain⟨ma,an⟩:∃b,w.heap.size+3=b:=⟨_,rfl⟩;obtain⟨ms,aq⟩:∃b,w.heap.size+2=b:=⟨_,rfl⟩;obtain⟨ml,ao⟩:∃b,w.heap.size+1=b:=⟨_,rfl⟩;obtain⟨mo,ap⟩:∃b,w.heap.size=b:=⟨_,rfl⟩
 have az:=Ki (show LO L w p mo ml ms ma (.int .i64 (0:Nat)) w1 from by
  rw[hp,an,aq,ao] at ad
  exact⟨0,Qh _,rfl,⟨0,Q3 _,by rw[<-ap,LA];exact ad⟩,aC⟩)
 rw[hp,an,aq,ao,ap];clear aw aQ ad aC hp an aq ao ap;go_loopw [20] (λi wr=>LO L w p mo ml ms ma i wr) (λi _=>L.length-(intOf i).toNat);case atStart=>exact az.o
 case round=>
  clear az;obtain⟨k,hk,rfl,⟨no,aT,O⟩,hb⟩:=hrel;by_cases a7:k<L.length
  ·obtain⟨bg,og,e1,aO,a0⟩:=Qr Qb 8 (λ_=>rfl) (by decide) (HR.o wr hb) a7;obtain⟨q,hq⟩:∃q,L[k]=q:=⟨_,rfl⟩;rw[hq] at a0;have aU:=aL.o q (hq▸Zt a7);have aN:=Ki a0;have a6:=Ki (show L.take (k+1)=L.take k++[q] by rw[QQ a7,hq]);rw[e1];have Z:=Ki O;have Q:=Ki hb;have aP:(0:Int)<=(k:Int):=(by omega);have ak:(k:Int)<(L.length:Int):=(by omega);clear a0 hq O hb;go_upto_region 5 with(first|((with_reducible refine Ql 124 ?_);refine QA rfl 124 _ rfl _ _ _ rfl aN.o (by kernel_rfl) (GO _) ?_)|((with_reducible refine Zm 124 ?_);refine Zp rfl 124 _ _ rfl _ _ rfl rfl _ _ (Qi _ _) (by kernel_rfl) rfl (by kernel_rfl) ?_;rw[Xm,Zn]));obtain⟨J,ae⟩:∃W,wr.alloc (.cells (Qb q).toArray 124)=W:=⟨_,rfl⟩;have h4:J.heap[wr.heap.size]?=some (.cells (Qb q).toArray 124 (0,0)):=(by rw[<-ae];exact Qi wr _);have aj:Below wr wr J:=(by rw[<-ae];exact(Qc _ wr).alloc (Q3 _) _);rw[ae];obtain⟨h,aD⟩:∃b,wr.heap.size=b:=⟨_,rfl⟩;rw[aD] at h4 |-;have a5:=Ki (Z.o.below aj);have ax:=Ki (Q.o.trans (aj.mono Q.o.size));have H4:=Ki h4;have d0:J.cell? ⟨h,0,none⟩=some (.int .i64 q.nd.s.T):=cR 0 h4;have d1:J.cell? ⟨h,1,none⟩=some (.int .i64 q.nd.s.R):=cR 1 h4;have d2:J.cell? ⟨h,2,none⟩=some (.int .i64 q.nd.I):=cR 2 h4;have c0:J.cell? ⟨p,0,none⟩=some (.map (some mo)):=cR 0 a5.o.box;have aR:p<J:=a5.o.lt;have l8:h<J:=(Q5.1 h4).1;obtain⟨f,hf⟩:∃f,Yz (L.take k)=f:=⟨_,rfl⟩;rw[hf] at a5;have HF:=Ki hf;have al:=(a5.o.drew.of.look JO Kd Jw (UD) q.nd).2
   have am:=((a5.o.below ((Qc _ J).alloc (Q3 _) (.cells #[(0:Int),(0:Int),(0:Int),(0:Int),(0:Int),(0:Int),.string ⟨#[]⟩,.bool false] 124))).drew.of.look JO Kd Jw (UD) q.nd).2;obtain⟨z,hz⟩:∃z,(f q.nd).getD Jw=z:=⟨_,rfl⟩;obtain⟨ok,au⟩:∃ok,(f q.nd).isSome=ok:=⟨_,rfl⟩;rw[hz,au] at al am;unfold ZA Qa at al am;have ay:=Ki au;have HI:=Ki (λW=>Ax q.nd W);have HN:=Ki (λW=>Cf q.nm W (by omega));obtain⟨r,hr⟩:∃r,ZS q.nd=r:=⟨_,rfl⟩;obtain⟨nb,ar⟩:∃r,XI q.nm.data.toList=r:=⟨_,rfl⟩;rw[hr] at HI;rw[ar] at HN;have ab:=Ki (And.intro hr ar);unfold Qa at HI;clear ae h4 aj aD hf hz au hr ar Z;go_region
   all_goals
    obtain⟨D,a1⟩:∃W,(J.alloc (.cells z 124)).drew=W:=⟨_,rfl⟩;have a2:Below J J D:=(by rw[<-a1];exact((Qc _ J).alloc (Q3 _) _).drew);rw[a1];have a3:=Ki (a5.o.below a2);have a4:=Ki (ax.o.trans (a2.mono ax.o.size));have E:D.heap[h]?=some (.cells (Qb q).toArray 124 (0,0)):=(a2.block h l8).trans H4.o;have H6:=Ki E;clear d0 d1 d2 c0 aR l8 al am a1 a2;have d0:D.cell? ⟨h,0,none⟩=some (.int .i64 q.nd.s.T):=cR 0 E;have d1:D.cell? ⟨h,1,none⟩=some (.int .i64 q.nd.s.R):=cR 1 E;have d2:D.cell? ⟨h,2,none⟩=some (.int .i64 q.nd.I):=cR 2 E;have d3:D.cell? ⟨h,3,none⟩=some (.int .i64 q.pa.s.T):=cR 3 E;have d4:D.cell? ⟨h,4,none⟩=some (.int .i64 q.pa.s.R):=cR 4 E;have d5:D.cell? ⟨h,5,none⟩=some (.int .i64 q.pa.I):=cR 5 E;have d6:D.cell? ⟨h,6,none⟩=some (.string q.nm):=cR 6 E;have d7:D.cell? ⟨h,7,none⟩=some (.bool q.dir):=cR 7 E;clear E;rcases ok with _|_
    ·go_wp2_with fail;refine(HI.o D).mono ?_;rintro e7 W7 ⟨rfl,af⟩;have ac:=Ki (a3.o.below af.below);have a8:=Ki (a4.o.trans (af.below.mono a4.o.size));have X:=(af.below.block h (Q5.1 H6.o).1).trans H6.o;have H7:=Ki X;clear d0 d1 d2 d3 d4 d5 d6 d7 af;have d0:W7.cell? ⟨h,0,none⟩=some (.int .i64 q.nd.s.T):=cR 0 X;have d1:W7.cell? ⟨h,1,none⟩=some (.int .i64 q.nd.s.R):=cR 1 X;have d2:W7.cell? ⟨h,2,none⟩=some (.int .i64 q.nd.I):=cR 2 X;have d3:W7.cell? ⟨h,3,none⟩=some (.int .i64 q.pa.s.T):=cR 3 X;have d4:W7.cell? ⟨h,4,none⟩=some (.int .i64 q.pa.s.R):=cR 4 X;have d5:W7.cell? ⟨h,5,none⟩=some (.int .i64 q.pa.I):=cR 5 X;have d6:W7.cell? ⟨h,6,none⟩=some (.string q.nm):=cR 6 X;have d7:W7.cell? ⟨h,7,none⟩=some (.bool q.dir):=cR 7 X;clear X;rcases r with _|_
     ·have HE:=Ki (show Yz (L.take (k+1))=f by rw[a6.o,ER,HF.o];exact I2 (λaa=>by have:=aa.2.1;rw[ab.o.1] at this;cases this));go_wp2;go_roundw;case rel=>exact⟨k+1,by omega,by go_num,⟨no,by omega,by rw[HE.o];exact ac.o⟩,a8.o⟩
      case measure=>simp[intOf];omega
     go_wp2_with fail;refine(HN.o W7).mono ?_;rintro e8 U ⟨rfl,ag⟩;have a9:=Ki (ac.o.below ag.below);have ah:=Ki (a8.o.trans (ag.below.mono a8.o.size));have Y:=(ag.below.block h (Q5.1 H7.o).1).trans H7.o;clear d0 d1 d2 d3 d4 d5 d6 d7 ag;rcases nb with _|_
     ·have HE:=Ki (show Yz (L.take (k+1))=f by rw[a6.o,ER,HF.o];exact I2 (λaa=>by have:=aa.2.2;rw[ab.o.2] at this;cases this));clear Y;go_wp2;go_roundw;case rel=>exact⟨k+1,by omega,by go_num,⟨no,by omega,by rw[HE.o];exact a9.o⟩,ah.o⟩
      case measure=>simp[intOf];omega
     have HE:=Ki (show Yz (L.take (k+1))=λy=>if y=q.nd then some q else f y by rw[a6.o,ER,HF.o];exact Q0g ⟨ay.o,ab.o.1,ab.o.2⟩);have d0:U.cell? (h,0)=q.nd.s.T:=cR 0 Y;have d1:U.cell? (h,1)=q.nd.s.R:=cR 1 Y;have d2:U.cell? (h,2)=q.nd.I:=cR 2 Y;have d3:U.cell? (h,3)=q.pa.s.T:=cR 3 Y;have d4:U.cell? (h,4)=q.pa.s.R:=cR 4 Y;have d5:U.cell? (h,5)=q.pa.I:=cR 5 Y;have d6:U.cell? (h,6)=q.nm:=cR 6 Y;have d7:U.cell? (h,7)=some (.bool q.dir):=cR 7 Y;have c0:U.cell? ⟨p,0,none⟩=some (.map (some mo)):=cR 0 a9.o.box;have aW:p<U:=a9.o.lt;obtain⟨W9,av,aB,aI⟩:=a9.o.drew.put_of (by unfold maxLen;omega) q.nd q;have aM:=Ki aB;have aJ:=Kj (Below w w W9) (ah.o.drew.trans (aI.below ah.o.drew.size (λx hx e=>by have:=a9.o.base_le.2.1;omega)));unfold Qa ZA at av;clear Y aB aI;go_wp2;go_region;go_wp2;go_roundw;case rel=>exact⟨k+1,by omega,by go_num,⟨no+1,by omega,by rw[HE.o];exact aM.o⟩,aJ.o⟩
     case measure=>simp[intOf];omega
    ·have HE:=Ki (show Yz (L.take (k+1))=f by rw[a6.o,ER,HF.o];exact I2 (λaa=>by have:=aa.1;rw[ay.o] at this;cases this));go_wp2;go_roundw;case rel=>exact⟨k+1,by omega,by go_num,⟨no,by omega,by rw[HE.o];exact a3.o⟩,a4.o⟩
     case measure=>simp[intOf];omega
  have aF:L.take k=L:=Zk (by omega);rw[aF] at O;have ak:¬((k:Int)<(L.length:Int)):=(by omega);have Z:=Ki O;have Q:=Ki hb;obtain⟨wm,rfl⟩:∃wm:World,wm=wr:=⟨_,rfl⟩;clear O hb aF;go_wp2;go_loopw [56] (λi wr=>Q0e L I w p mo ml ms ma no i wr) (λi _=>I.length-(intOf i).toNat);case atStart=>exact⟨0,Qh _,rfl,Z.o,Q.o⟩
  case round=>
   clear Z Q;obtain⟨j,hj,rfl,O,hb⟩:=hrel;by_cases a7:j<I.length
   ·obtain⟨bg,og,e1,aO,a0⟩:=Qr Qe 3 (λ_=>rfl) (by decide) (aK.o wr hb) a7;obtain⟨x,hx⟩:∃q,I[j]=q:=⟨_,rfl⟩;rw[hx] at a0;have a6:=Ki (show I.take (j+1)=I.take j++[x] by rw[QQ a7,hx]);have q0:wr.cell? (bg,og+j*3)=x.s.T:=a0 0 _ rfl;have q1:wr.cell? ⟨bg,og+j*3+1,none⟩=some (.int .i64 x.s.R):=a0 1 _ rfl;have q2:wr.cell? ⟨bg,og+j*3+2,none⟩=some (.int .i64 x.I):=a0 2 _ rfl;have Z:=Ki O;have Q:=Ki hb;have aP:(0:Int)<=(j:Int):=(by omega);have ak:(j:Int)<(I.length:Int):=(by omega);rw[e1];clear a0 hx O hb;go_upto_region 12 with(fail);obtain⟨D,a1⟩:∃W,wr.alloc (.cells x 60)=W:=⟨_,rfl⟩;have a2:Below wr wr D:=(by rw[<-a1];exact(Qc _ wr).alloc (Q3 _) _);have E:D.heap[wr.heap.size]?=some (.cells x 60 (0,0)):=(by rw[<-a1];exact Qi wr _);rw[a1];have a3:=Ki (Z.o.below a2).drew;have a4:=Ki (Q.o.trans (a2.mono Q.o.size)).drew;have r0:=cr0 E;have r1:=cr1 E;have r2:=cr2 E;have c1:=cr1 a3.o.box;have aV:p<D:=a3.o.lt;have aX:wr.heap.size<D.heap.size:=(Q5.1 E).1;obtain⟨w7,av,aA,aH⟩:=a3.o.put_live (by unfold maxLen;omega) x;have ac:=Ki aA;have a8:=Ki (a4.o.trans (aH.below a4.o.size (λx hx e=>by have:=a3.o.base_le.2.2.1;omega)));unfold Qa at av;clear a1 a2 E q0 q1 q2 aA aH;go_region;go_wp2;go_roundw;case rel=>exact⟨j+1,by omega,by go_num,by rw[a6.o,LB];exact ac.o,a8.o⟩
    case measure=>simp[intOf];omega
   have aE:I.take j=I:=Zk (by omega);obtain rfl:j=I.length:=by omega
   rw[aE] at O;have ak:¬((I.length:Int)<(I.length:Int)):=(by omega);have Z:=Ki O;have Q:=Ki hb;clear O hb aE;go_wp2;go_ret;exact⟨p,mo,ml,ms,ma,no,by omega,rfl,Z.o,Q.o⟩
end
section
open Go Go.RowKit Go.Maps Go.Shelf
attribute [local go_sem] Oper.semAt_some
theorem Q0i(h:Option Nat)(w:World):Calls Tryz.prog 95 #[.map h] w λe w'=>e=.returned (.func (.func 149) #[] #[.pointer (w.heap.size,0)])/\w'=w.alloc (.cells #[.map h] 185):=by go_enter Tryz.func95,Tryz.ntmps95;go_wp2;go_ret;exact⟨rfl,rfl⟩
theorem Q0j(F:Fence)(n:Nat)(a5:F.fn 149)(ak:F.round=none)(hn:1<=n)(l Bm b I:Nat)(j:DataW HH)(J Z:List Id->World->Prop)(hY:∀E x W,J E W->E.length<Maps.size j->YieldAt F (n-1) Tryz.prog l #[Qa x] W λe D=>(e=.returned (.bool true)/\J (E++[x]) D/\KeepsWalks W D)\/(e=.returned (.bool false)/\Z (E++[x]) D))(W:World)(U:AbidesFrom W J)(hm:W.cell? (Bm,0)=some (.map (some b)))(ah:W.ownsMap Tryz.prog 60 (unitElem (H:=HH)) b I j)(h0:J [] W):CallsIn F n Tryz.prog 149 #[.func (.yield l) #[] #[],.pointer (Bm,0)] W λe D=>(∃v,e=.returned v)/\((∃h:List Id,(h.Nodup/\∀x,x∈h↔has j (Ze x)=true)/\J h D)\/(∃E:List Id,True/\Z E D)):=by
 refine callsIn_of_wp Tryz.func149 rfl a5 ?_ ak;simp only[Tryz.ntmps149,Ke,Z4,Ub,Nat.reduceAdd,Nat.reduceSub,E0,FZ,Ea,E6,VN,JB]
 gi_wp2_with (first
  |(gi_at_range;refine wpListIn_range_own _ rfl _ 185 rfl 60 119 Xp Tryz.underlying185 _ b I _ rfl ah ?_;intro w0 ai ab aq)
  |gi_in)
 go_frame
 gi_loopw [3] (λ_ wr=>∃(left:Lit->Bool)(cnt:Nat)(h:List Id),wr.ranges Tryz.prog 60 (unitElem (H:=HH)) b W I j left cnt/\h.length+cnt<=Maps.size j/\Yo Ze j left h/\J h wr)
  (λ_ wr=>wr.rangeLeft b W)
 case atStart=>exact⟨_,_,[],ai,by simp,Yo.start Ze j,U [] W w0 none h0 ab (λr e=>by cases e)⟩
 case round=>
  obtain⟨left,cnt,h,Y,ap,Q,a0⟩:=hrel
  gi_wp2_with (first
   |(gi_at_next;refine wpListIn_next_ranges _ rfl _ rfl 60 Xp unitElem Qa (λ_:Unit=>.agg #[]) (λkey kl hk=>by obtain⟨a,a4,_⟩:=Va hk;exact⟨a,a4⟩) (λv y hv=>⟨(),(unitElem_inv hv).1⟩) b W I _ _ _ rfl Y ?_ ?_)
   |gi_in)
  ·intro ao ae;gi_wp2;go_end0;exact⟨⟨_,rfl⟩,.inl ⟨h,⟨Q.1,λx=>by rw[Q.2 x,ae];simp⟩,a0⟩⟩
  intro x kl yd yp O a3 a1 af hv a9 aj ag ac al aa;obtain⟨x',e1,rfl⟩:=Va a1;obtain rfl:=Ks e1;have a7:J h O:=U h wr O (some W.heap.size) a0 ac (λr e=>by cases e;exact⟨Q3 _,Y.iter_walk⟩);have X:J h (O.alloc (.cells x 60)):=U h O _ none a7 (World.grownBy_alloc _ _ _) (λr e=>by cases e);obtain⟨fn,tmps,am,an,hy,hR⟩:=hY h x _ X (by omega);have a6:=Q.step XJ af a9;clear al a1 e1;unfold Qa at aa hy |-;gi_wp2;refine hR.mono ?_;rintro e W3 (⟨rfl,X,ad⟩|⟨rfl,a8⟩)
  ·gi_wp2;have a2:=(aj.alloc _).of_walks ad;go_roundw;case rel=>exact⟨_,a3,h++[x],a2,by simp;omega,a6,X⟩
   case measure=>rw[a2.left_eq,Y.left_eq];exact ag
  gi_wp2;refine bodyPost_ret (results_none rfl _ _ _) rfl ?_;exact⟨⟨_,rfl⟩,.inr ⟨h++[x],trivial,a8⟩⟩
abbrev Cx(x:Id):Array Value:=#[.agg x]
theorem Q0k(F:Fence)(n:Nat)(Q:F.fn 149)(a2:F.round=none)(hn:1<=n)(Bm b D:Nat)(j:DataW HH)(w:World)(U:Bm<w)(hm:w.cell? (Bm,0)=some (.map (some b)))(a0:w.ownsMap Tryz.prog 60 (unitElem (H:=HH)) b D j):SeqStopsK F n Tryz.prog 149 #[.pointer (Bm,0)] Cx KeepsWalks (λE=>E.Nodup/\∀x,x∈E↔has j (Ze x)=true) (λ_=>True) (Maps.size j) w:=λl J I W h X _ Y O=>by have a1:=a0.kept (row:=none) ⟨h.os,h.tape,h.output,h.size,λk Z _=>h.block k Z⟩ (by simp);exact Q0j F n Q a2 hn l Bm b D j J I Y W X ((h.cell (p:=(Bm,0)) U).trans hm) a1 O
theorem Q0l(F:Fence)(n:Nat)(a6:F.fn 192)(a3:F.round=none)(hn:3<=n)(gf:Nat)(lb:Array Value)(a7:F.fn gf)(eg:∀args w,(callFunc gf args).run Tryz.prog w=.ok (.enter gf args) w)(S Sp:List Id->Prop)(N:Nat)(hN:N<=100000)(w:World)(aa:SeqStopsK F (n-1) Tryz.prog gf lb Cx KeepsWalks S Sp N w):CallsIn F n Tryz.prog 192 #[.slice none 0 0,.func (.func gf) #[] lb] w λe W'=>∃(v:Value)(L:List Id),e=.returned v/\S L/\L.length<=N/\W'.ownsRow w 60 3 v L.length (L.flatMap Qe)/\Below w w W':=by
 have U:1<=n:=by omega
 obtain⟨i0,hi,ac,ad,ae⟩:=Zc Ph;refine callsIn_of_wp_marks Tryz.func192 rfl a6 ?_ a3;simp only[Tryz.ntmps192,Ke,Z4,Ub,Nat.reduceAdd,Nat.reduceSub,E0,FZ,Ea,E6,VN,JB];gi_wp2;have a0:Below w w (w.alloc (.cells #[.slice none 0 0] 66)):=(Qc _ w).alloc (Q3 _) _
 refine wpIn_rangeFunc_ownH a3 U (gf:=gf) (lb:=lb) rfl a7 eg aa walksK_t walksK_b a0 (λ_=>rfl)
  (λh W=>((∃v,Boxed W w 66 v/\W.ownsRow w 60 3 v h.length (h.flatMap Qe)/\True)/\Below w w W)/\h.length<=N)
  (λ_ _ _=>False)
  (OwnFrom.and (OwnFrom.and (Own.from (holdsRow_own w w 66 60 3 (λh:List Id=>h.length) (λh:List Id=>h.flatMap Qe) (λ_ _=>True)) _) (ownFrom_below (Q3 _) (by simp))) (ownFrom_pure _ (λh:List Id=>h.length<=N)))
  (λ_ _ _ _ _ Z _ _=>Z)
  ⟨⟨⟨_,Boxed.new w 66 _,J8 _ _ _ _,trivial⟩,a0⟩,Qh _⟩
  (λx Q W=>∃j,w.heap.size<j/\W.heap[j]?=some (.cells #[x.s.T,x.s.R,x.I] 60 (0,0))/\Q={ tmps:=#[.slice none 0 0,.func (.func gf) #[] lb,.pointer (some ⟨w.heap.size,0,none⟩),undef,.slice none 0 0,.pointer (some ⟨j,0,none⟩),.func (.func gf) #[] lb,.agg #[x.s.T,x.s.R,x.I],undef,undef,undef,undef,undef],defers:=[] })
  (λx Q _ af ag row Z hg hr=>by
   obtain⟨j,U,X,h3⟩:=Z;refine⟨j,U,(hg.block j (Q5.1 X).1 (λe=>?_)).trans X,h3⟩;obtain⟨_,o,ho,hc⟩:=hr j e.symm
   rw[X] at ho;cases ho;cases hc)
  ?assign ?body ?done ?stop
 case assign=>rintro l h x W K ⟨⟨⟨v,hv,I,_⟩,E⟩,O⟩ J;gi_wp2;exact J _ _ ((KeepsOthers.alloc _ _).from _) (KeepsWalks.alloc _ _) ⟨⟨⟨v,hv.alloc _,I.alloc _,trivial⟩,E.alloc E.size _⟩,O⟩ ⟨W.heap.size,hv.lt,Qi W _,rfl⟩
 case body=>rintro l h x Q W hl ⟨r,hr⟩ ⟨⟨⟨v,hv,I,_⟩,E⟩,O⟩ ⟨j,ai,Y,rfl⟩ al;have c0:=cr0 Y;have c1:=cr1 Y;have c2:=cr2 Y;have cv:=hv.cell;gi_wp2_with (gi_at_builtin;refine wpListIn_append_own _ rfl _ _ 66 rfl w 60 i0 _ 3 24 V0 hi ac ad ae rfl (by decide) _ _ _ rfl (I.alloc _) ⟨W.heap.size,0,none⟩ 1 1 (Qe x) rfl rfl (Zd W (Qe x) 60) (Vb x) (by unfold maxLen;omega) (by omega) (by have:=E.size;simp;omega) ?_;intro v' w1 a2 a8 _;obtain⟨g',ah,rfl⟩:=ownsRow_succ a2;obtain⟨a4,ab,a9,a1,hb2⟩:=hv.appended (by decide) I E.size (Q3 _) a2 a8;have aj:=a4.cell;have ak:=a4.frozen);exact⟨a1.from _,a1.walks,⟨⟨_,ab,by simpa using a9,trivial⟩,E.trans hb2⟩,by simp;omega⟩
 case done=>rintro D ys W hD hS ⟨⟨⟨v,hv,I,_⟩,E⟩,O⟩ J;have hc:=hv.cell;gi_wp2;refine⟨by simp,.inl ⟨_,_,rfl,run_takeDeferred J,?_⟩⟩;exact⟨_,results_tmp rfl _ _ _,v,ys,rfl,hS,O,ownsRow_putObj I _ J rfl,E.trans (belowK_b (w:=w) (Q3 _) W D _ _ (by simp at hD;omega) J rfl rfl)⟩
 case stop=>rintro D c h W _ _ a5 _;exact a5.elim
theorem Q0m(F:Fence)(n:Nat)(I:F.fn 148)(J:F.fn 192)(D:F.round=none)(hn:4<=n)(gf:Nat)(lb:Array Value)(O:F.fn gf)(E:∀args w,(callFunc gf args).run Tryz.prog w=.ok (.enter gf args) w)(S h:List Id->Prop)(N:Nat)(U:N<=100000)(w:World)(Y:SeqStopsK F (n-1-1) Tryz.prog gf lb Cx KeepsWalks S h N w):CallsIn F n Tryz.prog 148 #[.func (.func gf) #[] lb] w λe j=>∃(v:Value)(L:List Id),e=.returned v/\S L/\L.length<=N/\j.ownsRow w 60 3 v L.length (L.flatMap Qe)/\Below w w j:=by
 have Z:1<=n:=by omega
 refine callsIn_of_wp Tryz.func148 rfl I ?_ D;simp only[Tryz.ntmps148,Ke,Z4,Ub,Nat.reduceAdd,Nat.reduceSub,E0,FZ,Ea,E6,VN,JB];gi_wp2_with (gi_at_call 192;refine(Q0l F (n-1) J D (by omega) gf lb O E S h N U _ Y).mono ?_;rintro e w' ⟨v,L,rfl,W,Q,X,hb⟩);go_ret;exact⟨v,L,rfl,W,Q,X,hb⟩
theorem Q0n(gf:Nat)(lb:Array Value)(eg:∀args w,(callFunc gf args).run Tryz.prog w=.ok (.enter gf args) w)(S E:List Id->Prop)(N:Nat)(hN:N<=100000)(w:World)(a1:SeqStopsK Fence.wide 2 Tryz.prog gf lb Cx KeepsWalks S E N w):Calls Tryz.prog 94 #[.func (.func gf) #[] lb,.func (.func 43) #[] #[]] w λe I=>∃(v:Value)(L h:List Id),e=.returned v/\S L/\h.Perm L/\h.Pairwise (λa b=>¬b.cmp a<0)/\I.ownsRow w 60 3 v h.length (h.flatMap Qe)/\Below w w I:=by have J:=callsIn_wide.1 (Q0m Fence.wide 4 trivial trivial rfl (Q3 _) gf lb trivial eg S E N hN w a1);go_enter Tryz.func94,Tryz.ntmps94;go_wp2_with fail;refine J.mono ?_;rintro e W ⟨v,L,rfl,hS,hL,j,hb⟩;have D:=Ki j;obtain⟨Av,cv,rfl,_,_⟩:=(Rd.of_own j).form;clear j J;go_wp2_with fail;refine(BU L _ w W D.o (by omega)).mono ?_;rintro e W2 ⟨rfl,h,Q,U,O,hb2⟩;have Z:=Ki U;have Y:=Ki Q;have X:=Ki O;have a0:=hb.trans hb2;clear U Q O hb hb2 D;go_wp2;go_ret;exact⟨_,rfl,L,hS,h,Y.o,Z.o.imp (λ{a b} a2=>by omega),X.o,a0⟩
end
section
open Go Go.RowKit Go.Maps Go.Shelf
def Q0o(D:DataW HH)(w:World)(bm r E:Nat)(wr:World):Prop:=
 ∃(left:Lit->Bool)(cnt:Nat)(h:List QP)(j:DataW HH),wr.ranges Tryz.prog 171 (unitElem (H:=HH)) bm r E D left cnt/\h.length+cnt<=E/\Yo VR D left h/\wr.ownsMap Tryz.prog 60 (unitElem (H:=HH)) w h.length j/\(∀y,has j (Ze y)=true↔∃d∈h,d.n=y)/\Below w w wr
theorem Q0p(j gone:List QP)(A A':Option Addr)(n c n' c' B:Nat)(w:World)(hR:Rd w B 5 (.slice A n c) n (j.flatMap QR))(ah:Rd w B 5 (.slice A' n' c') n' (gone.flatMap QR))(hB:B<=w)(hn:n<=100000):Calls Tryz.prog 50 #[.slice A n c,.slice A' n' c'] w (Pc j gone w):=by
 obtain rfl:=QL QR 5 (λ_=>rfl) (by decide) hR.1;have ab:=Ki hR;have ac:=Ki ah;clear hR ah;have aL:=@Ue Tryz.prog;go_enter Tryz.func50,Tryz.ntmps50;go_wp2_with fail;obtain⟨W,J⟩:∃aF,w.alloc (.map #[] 0)=aF:=⟨_,rfl⟩;have Z:=bl J;have ap:W.ownsMap Tryz.prog 60 (unitElem (H:=HH)) w 0 (.map []):=by rw[<-J];exact Yg w _ _ _
 have aN:w.heap.size+1=W.heap.size:=by rw[<-J,Qy]
 rw[J];clear J aL;refine(SU j gone A A' j.length c n' c' B W (ab.o.below' Z hB) (ac.o.below' Z hB) (by omega) hn).mono ?_;rintro e W2 ⟨rfl,⟨a2,a0,hD⟩,hb2⟩;have a3:=Z.trans (hb2.mono (by omega));have E:=ap.kept (row:=none) ⟨hb2.os,hb2.tape,hb2.output,hb2.size,λk hk _=>hb2.block k hk⟩ (by simp);have HD:=Ki hD;have aC:=Ki a0.size_le;obtain⟨bm,al⟩:∃b,W.heap.size=b:=⟨_,rfl⟩;have aP:w<bm:=by omega
 rw[al] at a0 |-;clear hD aN Z ap hb2 al ab ac;go_wp2_with (at_range;refine wpList_range_own _ rfl _ 194 rfl 171 119 F7 Tryz.underlying194 unitElem bm j.length a2 rfl a0 ?_;intro W3 a8 a5 aM);go_frame;have aj:=a3.grown a5 a3.size (λax O=>by cases O);have aq:=E.kept a5 (by simp);obtain⟨r,hr⟩:=ex (W2.heap.size);have aS:w<r:=by have:=E.lt;omega
 rw[hr] at a8 |-;clear a5 aM a3 E a0 hr;go_loopw [6] (λ_ wr=>Q0o a2 w bm r j.length wr) (λ_ wr=>wr.rangeLeft bm r);case atStart=>refine⟨_,_,[],.map [],a8,?_,Yo.start _ a2,aq,λy=>by simp[has],aj⟩;simpa using aC.o
 case round=>
  clear a8 aq aj;obtain⟨left,cnt,ss,D2,a1,aR,hC,hM,ag,hb⟩:=hrel;have Q:=Ki hC;have U:=Ki hM;have aa:=Ki ag;have ad:=Ki a1;obtain⟨I,rfl⟩:∃I:World,I=wr:=⟨_,rfl⟩;clear hC hM ag;go_wp2_with (at_next;refine wpList_next_ranges _ rfl _ rfl 171 F7 unitElem JH (λ_:Unit=>.agg #[]) (λkey kl hk=>by obtain⟨a,h,_⟩:=Bv hk;exact⟨a,h⟩) (λv y hv=>⟨(),(unitElem_inv hv).1⟩) bm r j.length _ _ _ rfl a1 ?_ ?_)
  ·intro aQ an;have HL:=Ki an;clear a1 ad an;go_wp2_with fail;refine(Q0i (some w.heap.size) I).mono ?_;rintro e W4 ⟨rfl,rfl⟩;have hK:=Ki (Q0k Fence.wide 2 trivial rfl (by omega) I w ss.length D2 (I.alloc (.cells #[.map (some w.heap.size)] 185)) (by simp) (cR 0 (Qi I _)) (U.o.alloc _));have a4:=hb.alloc hb.size (.cells #[.map (some w.heap.size)] 185);have hN:Maps.size D2<=100000:=(by have:=U.o.size_le;omega);go_wp2_with fail;refine(Q0n 149 _ (G6 Tryz.func149 (by kernel_rfl) rfl) _ _ _ hN _ hK.out).mono ?_;rintro e W5 ⟨v,L,ys,rfl,hS,hP,aw,ho,ak⟩;have HS:=Ki hS;have HP:=Ki hP;have aE:=Ki aw;have HO:=Ki ho;have a9:=a4.size;have aH:=Ki (a4.trans (ak.mono a9));have aD:=Ki a9;clear hS hP aw ho ak a9 a4 hb hK;go_wp2;go_ret;refine⟨v,ys,rfl,Yp HO.o aD.o,Zv.strict (aE.o.imp λ{a b} D h2=>absurd ((XV b a).2 h2) (by omega)) (HP.o.nodup_iff.2 HS.o.1),λy=>?_,aH.o⟩;rw[HP.o.mem_iff,HS.o.2 y,aa.o y];unfold Yb;rw[X6];constructor;·rintro⟨d,hd,D⟩;have Y:=(HD.o d).1 ((Q.o.2 d).1 hd).1;exact⟨d,Y.1,Y.2,D⟩
   rintro⟨d,hd,Y,D⟩;exact⟨d,(Q.o.2 d).2 ⟨(HD.o d).2 ⟨hd,Y⟩,HL.o _⟩,D⟩
  intro d kl y yp w2 af am ao hv ai au aK a6 aO aJ;obtain⟨X,e1,rfl⟩:=Bv am;obtain rfl:=Bw e1;have hb2:Below w w w2:=hb.grown a6 hb.size (λax O=>by cases O;omega);have E:=U.o.kept a6 (by simp;omega);have ay:=Ki (Q.o.step Bz ao ai);have aB:=Ki au;have az:=Ki aK;have aI:(ss++[d]).length+af<=j.length:=(by simp;omega);clear am ao hv ai au a1 a6 aO e1 Q hb;unfold JH at aJ |-;go_wp2_with (at_mapUpdate;refine Oa _ rfl _ _ _ 185 rfl 60 119 Xp Tryz.underlying185 unitElem w ss.length D2 rfl (E.alloc _) (by unfold maxLen;omega) (Qa d.n) (.agg #[]) (Ze d.n) rfl rfl (YM d.n) (.agg []) [] unitElem_mk ?_;intro w3 ar a7);have aG:Below w w w3:=(hb2.alloc hb2.size _).grown a7 (by have:=hb2.size;simp;omega) (λax O=>by cases O;exact Q3 _);have av:=(aB.o.alloc (.cells #[d.n.s.T,d.n.s.R,d.n.I,d.b.T,d.b.R] 171)).kept a7 (by simp;omega) (by simp;omega);have ae:=Ki av;have aA:=Ki ar;clear a7 av ar E hb2;go_wp2;go_frame;go_roundw
  case rel=>
   refine⟨_,af,ss++[d],_,ae.o,aI,ay.o,by simpa using aA.o,λy=>?_,aG⟩;rw[XJ.has_put U.o.isMap];have D:=aa.o y;simp only[G4,XD,D,Qq,Qw];constructor
   ·rintro(rfl|⟨X,h,e⟩);·exact⟨d,.inr rfl,rfl⟩
    exact⟨X,.inl h,e⟩
   rintro⟨X,h|rfl,e⟩;·exact .inr ⟨X,h,e⟩
   exact .inl e.symm
  case measure=>rw[ae.o.left_eq,ad.o.left_eq];exact az.o
end
section
open Go Go.RowKit Go.Maps
theorem FA{H:Type}{P:Program}{k:TypeId}{R:Value->Option (DataW H×List MemPlace)}{w W:World}{b r n:Nat}{D:DataW H}{left:Lit->Bool}{cnt:Nat}{F:Nat->Prop}(h:w.ranges P k R b r n D left cnt)(t:Qd F w W)(X:¬F b)(Z:¬F r):W.ranges P k R b r n D left cnt:=by have O:=h.owns.lt;have Q:=h.lt;obtain⟨J,I,a1,a0,E,hb,j,hs,U,Y,rest⟩:=h;exact⟨J,I,a1,a0,E,(t.block b O X).trans hb,j,hs,U,(t.block r Q Z).trans Y,rest⟩
def KG(fo:Id->Option Q2)(j h:List Id):Prop:=h.Nodup/\(∀y∈h,(fo y).isSome=true)/\∀y,y∈h↔∃x∈j,∃l,XY fo x l/\y∈l
theorem FB{f:Id->Option Q2}{x:Id}{l m:List Id}(h:XY f x l)(k:XY f x m):l=m:=h.way.one k.way
theorem Q0q{fo:Id->Option Q2}{J I:List Id}{x:Id}(h:KG fo J I)(O:∀l,¬XY fo x l):KG fo (J++[x]) I:=by
 refine⟨h.1,h.2.1,λy=>(h.2.2 y).trans ⟨λ⟨z,E,r⟩=>⟨z,Qq.2 (.inl E),r⟩,λ⟨z,E,l,D,Q⟩=>?_⟩⟩;rcases Qq.1 E with j|j;·exact⟨z,j,l,D,Q⟩
 rw[Qw.1 j] at D;exact absurd D (O l)
theorem LP{fo:Id->Option Q2}{ss W:List Id}{x:Id}{l:List Id}(h:KG fo ss W)(J:XY fo x l){j:Nat}(hj:j<=l.length)(a2:(W++l.take j).Nodup)(a1:∀O:j<l.length,l[j]∈W):KG fo (ss++[x]) (W++l.take j):=by
 have a0:∀y∈l,y∈W++l.take j:=λy E=>by
  by_cases O:j<l.length
  ·rw[<-XU j l] at E;rcases Qq.1 E with D|D;·exact Qq.2 (.inr D)
   obtain⟨z,U,m,hm,a3⟩:=(h.2.2 _).1 (a1 O);obtain⟨m1,h2,h3⟩:=hm.from _ a3;obtain⟨Z,h4,h5⟩:=J.from _ (Zt O);have e:=FB h2 h4
   have hd:l.drop j=Z:=by
    obtain⟨t,Y⟩:=h5;obtain⟨u,Q⟩:∃u,Z=l[j]::u:=by obtain⟨u,Q⟩:=h4.way.head;exact⟨u,Q⟩
    have X:t.length<l.length:=(by rw[<-Y,Qj,Q,Z4];omega);have e1:l[t.length]=l[j]:=(by obtain⟨c,hc⟩:=ex (l[j]);rw[hc] at Q |-;have h7:(t++Z)[t.length]?=some c:=(by rw[Q];simp);rw[Y,X3 X] at h7;exact Jr h7)
    have e2:t.length=j:=by
     have hn:=De.1 J.nodup;rcases Nat.lt_trichotomy t.length j with I|I|I;·exact absurd e1 (hn _ _ X O I)
     ·exact I
     exact absurd e1.symm (hn _ _ O X I)
    rw[<-Y,<-e2,List.drop_left]
   refine Qq.2 (.inl ((h.2.2 y).2 ⟨z,U,m,hm,?_⟩));rw[hd,<-e] at D;exact h3.subset D
  exact Qq.2 (.inr (by rw[Zk (by omega)];exact E))
 refine⟨a2,λy E=>?_,λy=>⟨λE=>?_,λ⟨z,U,m,hm,E⟩=>?_⟩⟩
 ·rcases Qq.1 E with D|D;·exact h.2.1 y D
  exact J.all_has y (U8 D)
 ·rcases Qq.1 E with D|D;·obtain⟨z,U,r⟩:=(h.2.2 y).1 D;exact⟨z,Qq.2 (.inl U),r⟩
  exact⟨x,by simp,l,J,U8 D⟩
 rcases Qq.1 U with D|D;·exact Qq.2 (.inl ((h.2.2 y).2 ⟨z,D,m,hm,E⟩))
 rw[Qw.1 D] at hm;rw[FB hm J] at E;exact a0 y E
def LQ(w:World)(base p W j E U Y I X:Nat)(fo:Id->Option Q2)(Q:Id->Option Unit)(O:Id->Option ByteArray)(D:DataW Unit)(r:Nat)(wr:World):Prop:=
 ∃left cnt J h,wr.ranges Tryz.prog 60 (Z7 XN) j r I D left cnt/\Yo Ze D left J/\KG fo J h/\Tr wr base p W j E U Y I h.length X fo Q (Xk h) O/\Qd (λb=>b=E) w wr
def Q0r(w:World)(base p W I h U Y J X:Nat)(fo:Id->Option Q2)(Q:Id->Option Unit)(O:Id->Option ByteArray)(D:DataW Unit)(r:Nat)(left:Lit->Bool)(cnt:Nat)(E l:List Id)(Z:World)(i:Value)(wr:World):Prop:=
 ∃j:Nat,j<=l.length/\i=j/\wr.ranges Tryz.prog 60 (Z7 XN) I r J D left cnt/\(E++l.take j).Nodup/\Tr wr base p W I h U Y J (E++l.take j).length X fo Q (Xk (E++l.take j)) O/\Qd (λb=>b=h) w wr/\Qd (λb=>b=h) Z wr
def Q0s(base p O J D I W U Q:Nat)(fo:Id->Option Q2)(j:List Id)(E:Id->Option ByteArray)(w:World)(e:Ending)(w':World):Prop:=
 ∃h,e=.returned (.tuple #[])/\KG fo j h/\Tr w' base p O J D I W U h.length Q fo (Xk j) (Xk h) E/\Qd (λb=>b=D) w w'
theorem Q0t(lv:List Id){w:World}{base p mo D E ma no nl na:Nat}{fo:Id->Option Q2}{fa:Id->Option ByteArray}(Z:Tr w base p mo D E ma no nl 0 na fo (Xk lv) (Xk []) fa)(bv:no<=100000):Calls Tryz.prog 87 #[.pointer (some ⟨p,0,none⟩)] w (Q0s base p mo D E ma no nl na fo lv fa w):=by
 obtain⟨a8,hD,hF⟩:=Z.live;have HF:=Ki hF;have HT:=Ki Z;have bc:=Ki Z.ne;have c1:=cR 1 Z.box;have lp:p<w:=Z.lt;have bD:=Kj (E<w/\D<w) ⟨Z.seen.lt,Z.live.lt⟩;clear hF Z;go_enter Tryz.func87,Tryz.ntmps87;go_wp2;go_step3;go_wp2;go_step3;go_wp2_with (at_range;refine wpList_range_own _ rfl _ 185 rfl 60 119 Xp UA (Z7 XN) D nl a8 rfl hD ?_;intro W3 aG J bz);go_frame;have aU:=HT.o.below ⟨J.os,J.tape,J.output,J.size,λk hk=>J.block k hk (by simp)⟩;have b9:Qd (λb=>b=E) w W3:=⟨J.os,J.tape,J.output,J.size,λk hk _=>J.block k hk (by simp)⟩;obtain⟨r,hr⟩:∃r,w.heap.size=r:=⟨_,rfl⟩;have aL:=Kj (p<r/\mo<r/\D<r/\E<r/\ma<r/\w.heap.size=r) (by rw[<-hr];exact⟨HT.o.lt,HT.o.of.lt,HT.o.live.lt,HT.o.seen.lt,HT.o.as_.lt,rfl⟩);rw[hr] at aG |-;have aO:=Kj (LQ w base p mo D E ma no nl na fo (Xk lv) fa a8 r W3) ⟨_,_,[],[],aG,Yo.start _ a8,(⟨Du,(λy (hy:y∈[])=>by cases hy),λy=>⟨λh=>(by cases h),λ⟨x,hx,_⟩=>(by cases hx)⟩⟩:KG fo [] []),aU,b9⟩;clear aG J bz aU b9 hr lp c1 hD;go_loopw [14] (λ_ wr=>LQ w base p mo D E ma no nl na fo (Xk lv) fa a8 r wr) (λ_ wr=>wr.rangeLeft D r);case atStart=>exact aO.o
 case round=>
  clear aO;obtain⟨left,cnt,ss,sl,O,hC,hS,Q,ht⟩:=hrel;have HC:=Ki hC;have X:=Ki hS;have Y:=Ki Q;have a1:=Ki ht;have a4:=Ki O;obtain⟨wo,rfl⟩:∃wo:World,wo=wr:=⟨_,rfl⟩;clear hC hS Q ht;go_wp2_with (at_next;refine wpList_next_ranges _ rfl _ rfl 60 Xp (Z7 XN) Qa (λ_:Unit=>.agg #[]) (λkey kl hk=>by obtain⟨a,h,_⟩:=Va hk;exact⟨a,h⟩) (λv y hv=>⟨(),by obtain⟨a,rfl,_⟩:=Kt hv;rfl⟩) D r nl _ _ _ rfl O ?_ ?_)
  ·intro bG b3;have HL:=Ki b3;clear O a4 b3;go_wp2;rw[Exit.noGoto_normal];go_end0;refine⟨sl,rfl,?_,Y.o,a1.o⟩;have hm:∀x,x∈ss↔x∈lv:=λx=>by rw[HC.o.2 x,HF.o.has x,Fz,HL.o];simp
   refine⟨X.o.1,X.o.2.1,λy=>(X.o.2.2 y).trans ⟨λ⟨x,hx,h⟩=>⟨x,(hm x).1 hx,h⟩,λ⟨x,hx,h⟩=>⟨x,(hm x).2 hx,h⟩⟩⟩
  intro d kl y yp U a5 aZ a7 hv aW aH ah a6 bA bs;obtain⟨x,e1,rfl⟩:=Va aZ;obtain rfl:=Ks e1;have aI:Qd (λb=>b=r) wo U:=⟨a6.os,a6.tape,a6.output,a6.size,λk hk hn=>a6.block k hk (λe=>hn (by cases e;rfl))⟩;have hl:=aL.o;have aP:=Ki (Y.o.apart aI (by omega) (by omega) (by omega) (by omega) (by omega));have aQ:=Kj (Qd (λb=>b=E) w U) (a1.o.trans aI (λx hx e=>by omega));have ax:=Ki (HC.o.step XJ a7 aW);have aN:=Ki aH;have bq:U.rangeLeft D r=a5:=aH.left_eq;have br:wo.rangeLeft D r=cnt:=O.left_eq;have ay:=Ki (show a5<wo.rangeLeft D r by omega);clear aZ a7 hv aW aH O a6 bA e1 HC Y a1 aI bq br ah a4;unfold Qa at bs |-;go_upto_region 3 with(fail);obtain⟨W4,al⟩:∃a2,U.alloc (.cells d 60)=a2:=⟨_,rfl⟩;have an:Below U U W4:=(by rw[<-al];exact(Qc _ U).alloc (Q3 _) _);have h4:W4.heap[U.heap.size]?=some (.cells d 60 (0,0)):=(by rw[<-al];exact Qi U _);rw[al];have aA:=Ki (aP.o.below an);have bl:=Ki (aQ.o.trans (Below.touch an (λ_=>False)) (λ_ _ h=>h.elim));have bh:=Ki (FA aN.o (Below.touch an (λ_=>False)) (λh=>h) (λh=>h));have d0:=cR 0 h4;have d1:=cR 1 h4;have d2:W4.cell? (U.heap.size,2)=d.I:=cR 2 h4;have aT:=Ki (LN d aA.o bv);unfold Qa at aT;clear al an h4 aP aQ aN;go_wp2_with fail;refine aT.o.mono ?_;rintro e5 W5 ⟨bw,ae⟩;have aj:=Ki (aA.o.below ae);have ac:=Ki (bl.o.trans (Below.touch ae (λ_=>False)) (λ_ _ h=>h.elim));have ai:=Ki (FA bh.o (Below.touch ae (λ_=>False)) (λh=>h) (λh=>h));have bC:=Ki ae.size;clear ae d0 d1 d2
  rcases bw with⟨l,v,hl,rfl,ar⟩|⟨b5,rfl⟩
  ·obtain⟨Av,cv,rfl,_,_⟩:=(Rd.of_own ar).form;have bu:=aA.o.seen.lt;have bf:=Ki (λa2 (t:Qd (λb=>b=E) W5 a2)=>Rd.of_own (Yn ar t (λg hg e=>by have:=(UG ar g hg).1;omega)));have HL:=Ki hl;have bI:l.length<=100000:=(by obtain⟨Do,ad,aB⟩:=aj.o.of;have h1:=EQ ad aB hl.nodup hl.all_has;have h2:=Gt ad;omega);have be:=Ki X.o.1;clear ar hl bu;go_wp2;go_loopw [28] (λi wr=>Q0r w base p mo D E ma no nl na fo (Xk lv) fa a8 r (λz=>left z&&!z.sameKey (Ze d)) a5 sl l W5 i wr) (λi _=>l.length-(intOf i).toNat);case atStart=>exact⟨0,Qh _,rfl,ai.o,by simpa using be.o,by simpa using aj.o,ac.o,Qd.refl _ _⟩
   case round=>
    clear aj ac ai;obtain⟨j,hj,rfl,O,a3,Q,av,aw⟩:=hrel;by_cases ah:j<l.length
    ·obtain⟨bg,og,e1,bE,af⟩:=Qr Qe 3 (λ_=>rfl) (by decide) (bf.o wr aw) ah;obtain⟨I,a0⟩:∃q,l[j]=q:=⟨_,rfl⟩;rw[a0] at af;have q0:wr.cell? ⟨bg,og+j*3,none⟩=some (.int .i64 I.s.T):=af 0 _ rfl;have q1:wr.cell? ⟨bg,og+j*3+1,none⟩=some (.int .i64 I.s.R):=af 1 _ rfl;have q2:wr.cell? ⟨bg,og+j*3+2,none⟩=some (.int .i64 I.I):=af 2 _ rfl;have bk:=Ki (show l.take (j+1)=l.take j++[I] by rw[QQ ah,a0]);have aS:=Ki a0;obtain⟨S,aC⟩:∃S,sl++l.take j=S:=⟨_,rfl⟩;rw[aC] at a3 Q;have aa:=Ki aC
     have bF:S.length<=200000:=by
      obtain⟨Do,ad,aB⟩:=Q.of
      have h1:=EQ ad aB a3 (λy hy=>by
       rw[<-aa.o] at hy;rcases Qq.1 hy with h2|h2;·exact X.o.2.1 y h2
       exact HL.o.all_has y (U8 h2))
      have h2:=Gt ad;omega
     have Y:=Ki Q;have a1:=Ki av;have ac:=Ki aw;have a4:=Ki O;have aM:=Ki a3;have bH:(0:Int)<=(j:Int):=(by omega);have bt:(j:Int)<(l.length:Int):=(by omega);subst e1;clear af a0 aC Q av aw O a3;go_upto_region 8 with(fail);obtain⟨W,am⟩:∃a2,wr.alloc (.cells I 60)=a2:=⟨_,rfl⟩;have aE:Below wr wr W:=(by rw[<-am];exact(Qc _ wr).alloc (Q3 _) _);have h6:W.heap[wr.heap.size]?=some (.cells I 60 (0,0)):=(by rw[<-am];exact Qi wr _);rw[am];obtain⟨b6,aX⟩:∃b,wr.heap.size=b:=⟨_,rfl⟩;have ab:=Ki (Y.o.below aE);have bb:=Ki aE;rw[aX] at h6 |-;have H6:=Ki h6;have u0:=cR 0 h6;have u1:=cR 1 h6;have u2:=cR 2 h6;have c2:=cR 2 ab.o.box;have bB:p<W:=ab.o.lt;have ba:b6<W:=(Q5.1 h6).1;have a7:=(ab.o.drew.seen.look UR UA () Fp I).2;have aF:=((ab.o.below ((Qc _ W).alloc (Q3 _) (.cells #[] 119))).drew.seen.look UR UA () Fp I).2;obtain⟨had,aq⟩:∃b,(Xk S I).isSome=b:=⟨_,rfl⟩;rw[aq] at a7 aF;rw[Fz] at aq;have aK:=Ki aq;unfold Qa XN at a7 aF;clear q0 q1 q2 am aE h6 aX aq Y;go_region
     all_goals
      obtain⟨W7,aD⟩:∃a2,(W.alloc (.cells #[] 119)).drew=a2:=⟨_,rfl⟩;have ao:Below W W W7:=(by rw[<-aD];exact((Qc _ W).alloc (Q3 _) _).drew);rw[aD];have ak:=Ki (ab.o.below ao);have ap:Qd (λ_=>False) wr W7:=(Below.touch bb.o (λ_=>False)).trans (Below.touch ao (λ_=>False)) (λ_ _ h=>h);have aR:=Ki (a1.o.trans ap (λ_ _ h=>h.elim));have bn:=Ki (ac.o.trans ap (λ_ _ h=>h.elim));have az:=Ki (FA a4.o ap (λh=>h) (λh=>h));have H7:=Ki ((ao.block b6 ba).trans H6.o);clear aD ao ap a7 aF u0 u1 u2 c2 bB ba;rcases had with _|_
      ·have b7:=UC aK.o;have u0:=cR 0 H7.o;have u1:=cR 1 H7.o;have u2:=cR 2 H7.o;have c2:=cR 2 ak.o.box;have bK:p<W7:=ak.o.lt;have bJ:b6<W7:=(Q5.1 H7.o).1;obtain⟨W8,bx,aV,au⟩:=ak.o.drew.put_seen (by unfold maxLen;omega) I;have b4:D≠E:=bc.o.2.2.2.2.2.2.2.1;have b8:r≠E:=(by have:=aL.o;omega);have bi:=Ki (FA az.o ((Qd.refl (λb=>b=E) W7).drew.trans au (λ_ _ h=>h)) b4 b8);have bp:=Ki (aR.o.drew.trans au (λ_ _ h=>h));have bo:=Ki (bn.o.drew.trans au (λ_ _ h=>h));have e9:sl++l.take (j+1)=S++[I]:=(by rw[bk.o,<-Y7,aa.o]);have aJ:=Ki e9;have bd:=Kj ((S++[I]).Nodup) (Dr.2 ⟨aM.o,by simp,λa ha b hb e=>by rw[Qw.1 hb] at e;exact b7 (e▸ha)⟩);have bj:=Kj (Tr W8 base p mo D E ma no nl (S++[I]).length na fo (Xk lv) (Xk (S++[I])) fa) (by rw[LB,Qj];exact aV);unfold Qa at bx;clear b7 aV au b4 b8 e9;go_wp2;go_region;go_wp2;go_roundw;case rel=>exact⟨j+1,by omega,by go_num,bi.o,by rw[aJ.o];exact bd.o,by rw[aJ.o];exact bj.o,bp.o,bo.o⟩
       case measure=>simp[intOf];omega
      ·have a0:=Y0 aK.o
       have HQ:=Ki (show KG fo (ss++[d]) S from by
        rw[<-aa.o];refine LP X.o HL.o hj (by rw[aa.o];exact aM.o) (λh=>?_);rw[aS.o];rw[<-aa.o] at a0;rcases Qq.1 a0 with h1|h1;·exact h1
        obtain⟨i,hi,e⟩:=U9.1 h1;rw[Zi] at hi;rw[List.getElem_take] at e
        exact absurd (e.trans aS.o.symm) (De.1 HL.o.nodup i j (by omega) h (by omega)))
       have ag:=az.o.left_eq;have a9:=Ki (show W7.rangeLeft D r<wo.rangeLeft D r by have:=ay.o;omega);clear a0 ag;go_wp2;go_roundw;case rel=>exact⟨_,a5,ss++[d],S,az.o,ax.o,HQ.o,ak.o,aR.o⟩
       case measure=>exact a9.o
    have aY:l.take j=l:=Zk (by omega);have HQ:=Ki (LP X.o HL.o hj a3 (λh=>absurd h ah));rw[aY] at a3 Q HQ;have bt:¬((j:Int)<(l.length:Int)):=(by omega);have Y:=Ki Q;have a1:=Ki av;have a4:=Ki O;have ag:=O.left_eq;have a9:=Ki (show wr.rangeLeft D r<wo.rangeLeft D r by have:=ay.o;omega);clear aY a3 Q av aw O ag;go_wp2;go_roundw;case rel=>exact⟨_,a5,ss++[d],sl++l,a4.o,ax.o,HQ.o,Y.o,a1.o⟩
    case measure=>exact a9.o
  have HQ:=Ki (Q0q X.o b5);have ag:=ai.o.left_eq;have a9:=Ki (show W5.rangeLeft D r<wo.rangeLeft D r by have:=ay.o;omega);clear b5 ag;go_wp2;go_roundw;case rel=>exact⟨_,a5,ss++[d],sl,ai.o,ax.o,HQ.o,aj.o,ac.o⟩
  case measure=>exact a9.o
theorem Cy{H:Type}{P:Program}{k:TypeId}{R:Value->Option (DataW H×List MemPlace)}{w:World}{b r n:Nat}{D:DataW H}{left:Lit->Bool}{cnt:Nat}(h:w.ranges P k R b r n D left cnt){base:Nat}{e:TypeId}{K m:Nat}{v:Value}{xs:List Value}(U:w.ownsRow base e K v m xs):v.ownBlock≠some b/\v.ownBlock≠some r:=by
 obtain⟨Z,Y,a1,a0,X,hb,_,_,_,W,_⟩:=h
 have key:∀(g:Nat)(o:Obj),w.heap[g]?=some o->(∀j I,o≠.cells j e I)->v.ownBlock≠some g:=by
  intro g o O Q hv;rcases U.2 with⟨rfl,_⟩|⟨J,cap,j,rfl,_,E,_⟩;·cases hv
  have:J=g:=(by simpa [Value.ownBlock] using hv);subst this;rw[O] at E;exact Q _ _ (Jr E)
 exact⟨key b _ hb (λ_ _ h=>by cases h),key r _ W (λ_ _ h=>by cases h)⟩
def LR(w:World)(E r j:Nat)(D:DataW Unit)(v:Value)(wr:World):Prop:=
 ∃left cnt h,wr.ranges Tryz.prog 60 (Z7 XN) E r j D left cnt/\Yo Ze D left h/\h.length+cnt<=j/\wr.ownsRow w 60 3 v h.length (h.flatMap Qe)/\Below w w wr
def Q0u(h:List Id)(w:World)(e:Ending)(w':World):Prop:=
 ∃(v:Value)(L:List Id),e=.returned v/\w'.ownsRow w 60 3 v L.length (L.flatMap Qe)/\L.Pairwise Id.Lt/\(∀y,y∈L↔y∈h)/\Below w w w'
theorem Q0v(sl:List Id){w:World}{base p mo ml j ma no nl E na:Nat}{fo:Id->Option Q2}{fl:Id->Option Unit}{fa:Id->Option ByteArray}(O:Tr w base p mo ml j ma no nl E na fo fl (Xk sl) fa)(aW:E<=100000):Calls Tryz.prog 143 #[.pointer (p,0)] w (Q0u sl w):=by
 obtain⟨D,hD,hF⟩:=O.seen;have HF:=Ki hF;have hN:=Gt hD;have c2:=cr2 O.box;have lp:=O.lt;have HT:=Ki (λa6 (hW:Below w w a6)=>O.below hW);have aV:=O.seen.lt;obtain⟨N,a8⟩:=ex (Maps.size D);have ai:=Ki a8;rw[a8] at hN;obtain⟨i0,hi,z0,z1,z2⟩:=Zc UZ;clear hF O a8;go_enter Tryz.func143,Tryz.ntmps143;go_upto_region 2 with(first|(at_len;refine wpList_len_own _ rfl _ 185 rfl 60 119 UA _ j E D rfl hD ?_;rw[ai.o])|(at_make;refine wpList_make_own _ rfl _ _ 66 rfl w 60 i0 _ 3 V0 hi z0 z1 .i64 .i64 _ N rfl rfl rfl (by rw[z2];omega) (by unfold maxLen;omega) (Q3 _) ?_;intro U av I));have W:Below w w U:=⟨I.os,I.tape,I.output,I.size,λk X=>I.block k X (by simp)⟩;have al:=hD.kept I (by simp);have a9:=HT.o U W;have d2:=cr2 a9.box;have aS:=a9.lt;have aj:=Ki av;clear I a9 av c2 lp hD;go_wp2_with (at_range;refine wpList_range_own _ rfl _ 185 rfl 60 119 Xp UA (Z7 XN) j E D rfl al ?_;intro W3 aw Q aQ);(try go_frame);have aa:Below U U W3:=⟨Q.os,Q.tape,Q.output,Q.size,λk X=>Q.block k X (by simp)⟩;have a5:=Kj (LR w j U E D (.slice (w.heap.size,0) 0 N) W3) ⟨_,_,[],aw,Yo.start _ D,by rw[ai.o];simpa using hN,QB aj.o aa,W.trans (aa.mono W.size)⟩;obtain⟨r,hr⟩:=ex (U.heap.size);have aI:=Ki (hr▸W.size);rw[hr] at a5 |-;clear aw Q aQ aa hr W al d2 aS aj;go_loopw [3] (λv wr=>LR w j r E D v wr) (λ_ wr=>wr.rangeLeft j r);case atStart=>exact a5.o
 case round=>
  clear a5;obtain⟨left,cnt,J,Y,hC,aU,hO,hb⟩:=hrel;obtain⟨Av,cv,rfl,aK,aL⟩:=(Rd.of_own hO).form;have HC:=Ki hC;have HO:=Ki hO;have HB:=Ki hb;have ao:=Y.left_eq;have a4:=Ki Y;obtain⟨Z,rfl⟩:∃Z:World,Z=wr:=⟨_,rfl⟩;clear hC hO hb aK aL;go_wp2_with (at_next;refine wpList_next_ranges _ rfl _ rfl 60 Xp (Z7 XN) Qa (λ_:Unit=>.agg #[]) (λkey kl X=>by obtain⟨a,h,_⟩:=Va X;exact⟨a,h⟩) (λv y hv=>⟨(),by obtain⟨a,rfl,_⟩:=Kt hv;rfl⟩) j r E _ _ _ rfl Y ?_ ?_);·intro aT ar;have HL:=Ki ar;have aJ:=Ki (BU J _ w Z HO.o (by omega));clear Y a4 ar ao;go_wp2_with fail;refine aJ.o.mono ?_;rintro e5 W5 ⟨rfl,ys,hp,hs,ho,an⟩;have HP:=Ki hp;have HS:=Ki hs;have aE:=Ki ho;have ay:=Ki (HB.o.trans an);clear hp hs ho an;go_wp2;go_ret;refine⟨_,ys,rfl,aE.o,Zv.strict (HS.o.imp λ{a b} h1 h2=>absurd ((XV b a).2 h2) (by omega)) (HP.o.nodup_iff.2 HC.o.1),λy=>?_,ay.o⟩;rw[HP.o.mem_iff,HC.o.2 y,HF.o.has y,Fz,HL.o];simp
  intro d kl y yp w2 a7 aq au hv am ag aP ab aR ap;obtain⟨x,e1,rfl⟩:=Va aq;obtain rfl:=Ks e1;have aX:=aI.o;have hb2:Below w w w2:=HB.o.grown ab HB.o.size (λax hj=>by cases hj;omega)
  have aD:=Ki (HO.o.kept ab (by
   have:=(Cy a4.o HO.o).2
   cases h:(Value.slice Av J.length cv).ownBlock with
   |none=>exact .inl rfl
   |some c=>exact .inr (λe=>this (by rw[h];exact e))))
  have aA:=Ki (HC.o.step XJ au am);have aG:=Ki ag;have aN:=ag.left_eq;have aC:=Ki (show a7<Z.rangeLeft j r by omega);have aM:(J++[d]).length+a7<=E:=(by simp;omega);have ah:=Ki hb2;clear aq au hv am ag Y ab aR e1 HC HB ao aP a4 hb2 aN HO;unfold Qa at ap |-;go_upto_region 5 with(fail);obtain⟨W4,a1⟩:∃a6,w2.alloc (.cells d 60)=a6:=⟨_,rfl⟩;have a2:=bl a1;have h4:=bn a1;rw[a1];have d0:=cr0 h4;have d1:=cr1 h4;have d2:=cr2 h4;have a0:=Ki (ah.o.trans (a2.mono ah.o.size));have aH:=Ki (FA aG.o (Below.touch a2 (λ_=>False)) (λh=>h) (λh=>h));have a3:=Ki (QB aD.o a2);clear a1 a2 h4 ap;go_wp2_with (at_builtin;refine Yf _ rfl _ _ 66 rfl w 60 i0 _ 3 24 V0 hi z0 z1 z2 rfl (by decide) _ J.length _ rfl (a3.o.alloc _) ⟨W4.heap.size,0,none⟩ 1 1 (Qe d) rfl rfl (Zd W4 (Qe d) 60) (Vb d) (by unfold maxLen;omega) (by omega) (by have:=a0.o.size;simp;omega) ?_);intro v8 W8 ae ac _;have af:=aH.o.alloc (.cells (Qe d).toArray 60);have ad:=Cy af (a3.o.alloc (.cells (Qe d).toArray 60));have ak:=Ki (af.kept ac (λe=>ad.1 e.symm) (λe=>ad.2 e.symm));have az:=Ki ((a0.o.alloc a0.o.size (.cells (Qe d).toArray 60)).grown ac (by have:=a0.o.size;simp;omega) (λax hj=>((a3.o.alloc (.cells (Qe d).toArray 60)).lt ax hj).1));have aF:=Ki (show W8.ownsRow w 60 3 v8 (J++[d]).length ((J++[d]).flatMap Qe) by simpa using ae);have aO:=ak.o.left_eq;have aB:=Ki (show W8.rangeLeft j r<Z.rangeLeft j r by have:=aC.o;omega);obtain⟨A8,c8,rfl,_,_⟩:=(Rd.of_own ae).form;clear ae ac af ad aO d0 d1 d2;go_wp2;(try go_frame)
  go_roundw;case rel=>exact⟨_,a7,J++[d],ak.o,aA.o,aM,aF.o,az.o⟩
  case measure=>exact aB.o
end
end Go.Proofs.YtfpafikfjjckeaaGreatDoor
namespace Go.Proofs.TopTree
open Go.Lib
theorem byte_of{k:Nat}(h:k<256):(UInt8.ofNat k).toNat=k:=by rw[UInt8.toNat_ofNat'];exact Nat.mod_eq_of_lt h
theorem dec_mem:∀(u:Nat),∀b∈decDigits u,48<=b.toNat/\b.toNat<=57:=by
 intro u
 induction u using Nat.strongRecOn with
 |ind u ih=>
  intro b hb;rw[decDigits] at hb;split at hb;·rw[List.mem_singleton] at hb;subst hb;rw[byte_of (by omega)];omega
  rcases List.mem_append.1 hb with h|h;·exact ih (u / 10) (by omega) b h
  rw[List.mem_singleton] at h;subst h;rw[byte_of (by omega)];omega
theorem dec_val:∀(u:Nat),(decDigits u).foldl (λa b=>a*10+(b.toNat-48)) 0=u:=by
 intro u
 induction u using Nat.strongRecOn with
 |ind u ih=>
  rw[decDigits];split;·rw[List.foldl_cons,List.foldl_nil,byte_of (by omega)];omega
  rw[List.foldl_append,ih (u / 10) (by omega),List.foldl_cons,List.foldl_nil,byte_of (by omega)];omega
theorem dec_inj{u v:Nat}(h:decDigits u=decDigits v):u=v:=by rw[<-dec_val u,<-dec_val v,h]
theorem dec_no{u:Nat}{c:UInt8}(h:c.toNat<48\/57<c.toNat):c∉decDigits u:=λhm=>by have:=dec_mem u c hm;omega
theorem cut_at{c:UInt8}{a b r s:List UInt8}(ha:c∉a)(hb:c∉b)(h:a++c::r=b++c::s):a=b/\r=s:=by
 induction a generalizing b with
 |nil=>
  cases b with
  |nil=>exact⟨rfl,(List.cons.inj h).2⟩
  |cons y b=>exact absurd (List.mem_cons.2 (.inl (List.cons.inj h).1)) hb
 |cons x a ih=>
  cases b with
  |nil=>exact absurd (List.mem_cons.2 (.inl (List.cons.inj h).1.symm)) ha
  |cons y b=>obtain⟨h1,h2⟩:=List.cons.inj h;obtain⟨h3,h4⟩:=ih (λhm=>ha (List.mem_cons_of_mem _ hm)) (λhm=>hb (List.mem_cons_of_mem _ hm)) h2;exact⟨by rw[h1,h3],h4⟩
def idText(t r i:Nat):List UInt8:=decDigits t++46::(decDigits r++46::decDigits i)
theorem idText_inj{t r i t' r' i':Nat}(h:idText t r i=idText t' r' i'):t=t'/\r=r'/\i=i':=by unfold idText at h;obtain⟨h1,h2⟩:=cut_at (dec_no (.inl (by decide))) (dec_no (.inl (by decide))) h;obtain⟨h3,h4⟩:=cut_at (dec_no (.inl (by decide))) (dec_no (.inl (by decide))) h2;exact⟨dec_inj h1,dec_inj h3,dec_inj h4⟩
theorem idText_no{t r i:Nat}{c:UInt8}(h:c.toNat<46\/c.toNat=47\/57<c.toNat):c∉idText t r i:=λhm=>by
 have hd:c.toNat<48\/57<c.toNat:=by omega
 have h46:c≠46:=λe=>by subst e;have:(46:UInt8).toNat=46:=rfl;omega
 unfold idText at hm;rcases List.mem_append.1 hm with h1|h1;·exact dec_no hd h1
 rcases List.mem_cons.1 h1 with h2|h2;·exact h46 h2
 rcases List.mem_append.1 h2 with h3|h3;·exact dec_no hd h3
 rcases List.mem_cons.1 h3 with h4|h4;·exact h46 h4
 exact dec_no hd h4
end Go.Proofs.TopTree
namespace Go.Proofs.YtfpafikfjjckeaaGreatDoor
section
open Go Go.RowKit
open Go.Proofs.TopTree (idText)
def YA(x:Id):Prop:=1<=x.s.T/\x.s.T<100/\1<=x.s.R/\x.s.R<=16/\0<=x.I/\x.I<100
def YG(x:Id):List UInt8:=idText x.s.T.toNat x.s.R.toNat x.I.toNat
theorem Q0w{x:Id}(h:YA x):ZS x=true:=by unfold YA at h;unfold ZS right;simp only[ZJ,XD];omega
theorem Q0x:∀i:Fin 100,(Lib.decDigits i.val).length<=3:=by decide +kernel
theorem FC{i:Nat}(h:i<100):(Lib.decDigits i).length<=3:=Q0x ⟨i,h⟩
theorem Q0y(x:Id)(hx:YA x)(w:World):Calls Tryz.prog 182 #[Qa x] w λe w'=>e=.returned (.string (Q8 (YG x)))/\Q0 w w':=by
 have hr:=Q0w hx;have D:=Ki (λW=>Ax x W);rw[hr] at D;obtain⟨a1,a2,a3,a4,a5,a6⟩:=hx;obtain⟨t,X⟩:∃t:Nat,x.s.T=t:=⟨x.s.T.toNat,by omega⟩;obtain⟨r,J⟩:∃r:Nat,x.s.R=r:=⟨x.s.R.toNat,by omega⟩;obtain⟨i,I⟩:∃i:Nat,x.I=i:=⟨x.I.toNat,by omega⟩
 have h:=Ki (show Q8 (YG x)=(⟨(Lib.decDigits t).toArray⟩:ByteArray)++⟨#[46]⟩++⟨(Lib.decDigits r).toArray⟩++⟨#[46]⟩++⟨(Lib.decDigits i).toArray⟩ by
  unfold YG idText;rw[X,J,I,Int.toNat_natCast,Int.toNat_natCast,Int.toNat_natCast];show _=Q8 (Lib.decDigits t)++Q8 [46]++Q8 (Lib.decDigits r)++Q8 [46]++Q8 (Lib.decDigits i);rw[G8,G8,G8,G8];congr 1
  simp)
 have Y:=Ki (λW=>Tryz.strconv_Itoa_small t (by omega) W);have Z:=Ki (λW=>Tryz.strconv_Itoa_small r (by omega) W);have I3:=Ki (λW=>Tryz.strconv_Itoa_small i (by omega) W);have a0:=FC (i:=t) (by omega);have a7:=FC (i:=r) (by omega);have a8:=FC (i:=i) (by omega);unfold Qa at *;rw[X,J,I] at D |-;clear a1 a2 a3 a4 a5 a6 hr X J I;obtain⟨sa,O⟩:∃s:ByteArray,(⟨(Lib.decDigits t).toArray⟩:ByteArray)=s:=⟨_,rfl⟩;obtain⟨sb,Q⟩:∃s:ByteArray,(⟨(Lib.decDigits r).toArray⟩:ByteArray)=s:=⟨_,rfl⟩;obtain⟨sc,U⟩:∃s:ByteArray,(⟨(Lib.decDigits i).toArray⟩:ByteArray)=s:=⟨_,rfl⟩;have za:sa.size<=3:=by rw[<-O];exact a0
 have zb:sb.size<=3:=by rw[<-Q];exact a7
 have zc:sc.size<=3:=by rw[<-U];exact a8
 rw[O] at Y h;rw[Q] at Z h;rw[U] at I3 h;clear O Q U a0 a7 a8;go_enter Tryz.func182,Tryz.ntmps182;go_wp2_with fail;refine(D.o _).mono ?_;rintro e w1 ⟨rfl,E⟩;have a9:=((Q0.refl w).alloc _).trans E;have j:=(E.below.block w (by simp)).trans (Qi w _);have c0:=cr0 j;have c1:=cr1 j;have c2:=cr2 j;clear E j;go_wp2;go_quiet (first|(go_at_call_of 230 (Value.int IntKind.i64 (t:Int));exact Calls.quiet_of_same (Y.o _))|(go_at_call_of 230 (Value.int IntKind.i64 (r:Int));exact Calls.quiet_of_same (Z.o _))|(go_at_call_of 230 (Value.int IntKind.i64 (i:Int));exact Calls.quiet_of_same (I3.o _)));go_wp2;go_ret;exact⟨by rw[h.o];rfl,a9.drewN nq⟩
def KH(h:List UInt8)(x:Id):List UInt8:=h++126::YG x
theorem LS{x:Id}(h:YA x):(YG x).length<=20:=by unfold YA at h;have j:=FC (i:=x.s.T.toNat) (by omega);have D:=FC (i:=x.s.R.toNat) (by omega);have E:=FC (i:=x.I.toNat) (by omega);unfold YG idText;simp only[Qj,Z4];omega
theorem Q0z(x:Id):YG x≠[]:=by unfold YG idText;simp
theorem Q0A(s:ByteArray)(x:Id)(j:YA x)(h:XI s.data.toList=true)(X:s.size<=9223372036854775807)(w:World):Calls Tryz.prog 144 #[.string s,Qa x] w λe w'=>e=.returned (.tuple #[.string (Q8 (KH s.data.toList x)),(0:Int)])/\Q0 w w':=by
 have E:=Ki (λW=>Q0y x j W);have D:=Ki (λW=>Cf s W X);have Y:=h;rw[h] at D
 have I:=Ki (show Q8 (KH s.data.toList x)=s++⟨#[126]⟩++Q8 (YG x) by
  unfold KH;show _=s++Q8 [126]++Q8 (YG x);conv=>rhs;rw[<-UK s]
  rw[G8,G8];congr 1
  simp)
 have a1:(Q8 (YG x)).size<=20:=by rw[Y8];exact LS j
 have a0:s.size<=32:=by unfold XI at h;simp only[ZJ,XD] at h;rw[Jc];exact h.1.1.1.2
 have U:¬(Q8 (YG x)).toList=[]:=by rw[Jb,Yw];exact Q0z x
 have Z:(Q8 (YG x)).toList.isEmpty=false:=by
  cases Q:(Q8 (YG x)).toList with
  |nil=>exact absurd Q U
  |cons=>rfl
 generalize Q8 (YG x)=t at *;unfold Qa at *;clear h j;go_enter Tryz.func144,Tryz.ntmps144;go_wp2_with fail;refine(E.o _).mono ?_;rintro e w1 ⟨rfl,J⟩;go_wp2_with fail;refine(D.o _).mono ?_;rintro e w2 ⟨rfl,O⟩;go_wp2;go_ret2;exact⟨by rw[I.o];rfl,(((Q0.refl w).alloc _).trans J).trans O⟩
end
section
open Go Go.RowKit Go.Maps
theorem E8:type_of% @Tryz.underlying256:=@Tryz.underlying256
structure Vd where
 pa:Id
 nm:ByteArray
 h:nm.size<=maxLen
deriving DecidableEq
def K2(s:Vd):Value:=.agg #[s.pa.s.T,s.pa.s.R,s.pa.I,.string s.nm]
def FD(s:Vd):Lit:=.string (keyBytes [.int .i64 s.pa.s.T,.int .i64 s.pa.s.R,.int .i64 s.pa.I,.string s.nm.data.toList])
theorem LT:(256:TypeId)<Tryz.prog.types.size:=Y0 (by kernel_rfl)
theorem LU:Tryz.prog.keyTypeAt 5 256=true:=by kernel_rfl
theorem LV:Keyed Tryz.prog 256:=Eh (Ee Ge (m:=5) (by omega) LT LU (by rw[E8]))
theorem Q0B:WideMaps.KeyLaw Tryz.prog 256:=Ee Ge (m:=5) (by omega) LT LU (by rw[E8])
theorem Q0C:Tryz.prog.keyType 256=true:=by kernel_rfl
theorem Cz:Tryz.prog.cellsOf 256=4:=by kernel_rfl
theorem LW:Tryz.prog.cellsOf 9=1:=by kernel_rfl
theorem Q0D(m:Nat){s:ByteArray}(h:s.size<=maxLen):Tryz.prog.keyLits (m+1) 9 [.string s]=some [.string s.data.toList]:=by unfold Program.keyLits;simp[h]
theorem Q0E{m:Nat}{c:Value}{j:List Lit}(h:Tryz.prog.keyLits (m+1) 9 [c]=some j):∃s,c=.string s/\s.size<=maxLen/\j=[.string s.data.toList]:=by unfold Program.keyLits at h;cases c<;>simp at h;obtain⟨D,rfl⟩:=h;exact⟨_,rfl,D,rfl⟩
theorem Q0F(m:Nat){a b c:Int}{s:ByteArray}(D:Qu a)(hb:Qu b)(E:Qu c)(I:s.size<=maxLen):Tryz.prog.keyLits (m+4) 256 [.int .i64 a,.int .i64 b,.int .i64 c,.string s]=some [.int .i64 a,.int .i64 b,.int .i64 c,.string s.data.toList]:=by have h:=Bp m D hb E;have j:=Q0D (m+2) I;unfold Program.keyLits;simp only[E8];simp[Cz,Kp,LW,h,j]
theorem Q0G{m:Nat}{j D E I:Value}{X:List Lit}(h:Tryz.prog.keyLits (m+4) 256 [j,D,E,I]=some X):∃a b c s,j=.int .i64 a/\D=.int .i64 b/\E=.int .i64 c/\I=.string s/\Qu a/\Qu b/\Qu c/\s.size<=maxLen:=by unfold Program.keyLits at h;simp only[E8] at h;simp[Cz,Kp,LW,CV] at h;obtain⟨Y,J,_,⟨Z,O,_⟩,_⟩:=h;obtain⟨a,b,c,rfl,rfl,rfl,Q,hb,U⟩:=Bt J;obtain⟨s,rfl,W,_⟩:=Q0E O;exact⟨a,b,c,s,rfl,rfl,rfl,rfl,Q,hb,U,W⟩
theorem CA(s:Vd):keyOf Tryz.prog 256 (K2 s)=some (FD s):=by obtain⟨m,hm⟩:=Kq;unfold keyOf K2;simp only[E8];rw[Q7 (by simp[Q0C,Value.formed,Cz]),hm,show m+6+1=m+3+4 from rfl];simp only[Value.cells];rw[Q0F _ s.pa.s.hT s.pa.s.hR s.pa.hI s.h];rfl
theorem Q0H{j:Type}{l:List j}(h:l.length=4):∃a b c d,l=[a,b,c,d]:=by
 match l,h with
 |[a,b,c,d],_=>exact⟨a,b,c,d,rfl⟩
theorem Q0I{v:Value}{l:Lit}(h:keyOf Tryz.prog 256 v=some l):∃x:Vd,v=K2 x/\l=FD x:=by obtain⟨cs,rfl,hs,ls,hl⟩:=DU E8 h;obtain⟨m,hm⟩:=Kq;rw[Cz] at hs;obtain⟨cs⟩:=cs;obtain⟨c0,c1,c2,c3,rfl⟩:=Q0H (hs);rw[hm,show m+6+1=m+3+4 from rfl] at hl;obtain⟨a,b,c,s,rfl,rfl,rfl,rfl,ha,hb,hc,hs2⟩:=Q0G hl;refine⟨⟨⟨⟨a,b,ha,hb⟩,c,hc⟩,s,hs2⟩,rfl,?_⟩;have:=CA ⟨⟨⟨a,b,ha,hb⟩,c,hc⟩,s,hs2⟩;exact Jr (h.symm.trans this)
theorem LX{a b:Vd}(h:K2 a=K2 b):a=b:=by obtain⟨⟨⟨j,D,_,_⟩,E,_⟩,I,_⟩:=a;obtain⟨⟨⟨b1,b2,_,_⟩,J,_⟩,O,_⟩:=b;simpa [K2,and_assoc] using h
theorem I3:YN 256 K2 FD:=⟨LV,CA,Q0I,λ{a b} h=>LX (LV.inj (CA a) (h▸CA b)),LX⟩
def JS(fo:Id->Option Q2)(x:Id):Option (Id×ByteArray):=(fo x).map (λq=>(q.pa,q.nm))
def JT(fo:Id->Option Q2)(L:List Id)(x:Id):ByteArray:=match fo x with|none=>⟨#[]⟩|some q=>if L.any (λy=>decide (JS fo y=some (q.pa,q.nm))) then Q8 (KH q.nm.data.toList x) else q.nm
def K3(fo:Id->Option Q2):List Id->List Id->Id->Option ByteArray|_,[],_=>none|P,x::t,y=>if y=x then some (JT fo P x) else K3 fo (P++[x]) t y
def Jy(fo:Id->Option Q2)(L:List Id)(x:Id):Option ByteArray:=K3 fo [] L x
theorem LY(fo:Id->Option Q2):∀(L P:List Id)(x y:Id),x∉L->K3 fo P (L++[x]) y=if y=x then some (JT fo (P++L) x) else K3 fo P L y
 |[],P,x,y,_=>by rw[VN,ZB,K3];rfl
 |a::L,P,x,y,D=>by
  rw[JB,K3,K3,LY fo L (P++[a]) x y (λh=>D (X2 _ h))];by_cases j:y=a;·rw[Q7 j,Q7 j,Q6 (λE=>D (by rw[<-E,j];exact XT ..))]
  rw[Q6 j,Q6 j,Y7];rfl
theorem LZ{fo:Id->Option Q2}{L:List Id}{x:Id}(h:x∉L):Jy fo (L++[x])=λy=>if y=x then some (JT fo L x) else Jy fo L y:=by funext y;unfold Jy;rw[LY fo L [] x y h,VN]
end
end Go.Proofs.YtfpafikfjjckeaaGreatDoor
