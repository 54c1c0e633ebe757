import Derived.Test.YtfpafikfjjckeaaGreatDoorZ6
set_option maxRecDepth 100000
set_option maxHeartbeats 200000000
namespace Go.Proofs.YtfpafikfjjckeaaGreatDoor
open Go Go.RowKit
theorem L6{s:Q4}{k n:Nat}{o:Qt}(h:Z8 s k o=some n):k<=n/\n<=k+2000:=by
 unfold Z8 at h;split at h
 ·split at h
  ·split at h;·cases h;omega
   cases h
  split at h
  ·split at h;·cases h;omega
   cases h
  split at h
  ·split at h;·cases h;omega
   cases h
  split at h
  ·split at h;·cases h
   split at h;·rename_i m _ j;cases h;simp only[ZJ,XD] at j;omega
   cases h
  split at h
  ·split at h;·cases h;omega
   cases h
  cases h
 cases h
theorem Hp{s:Q4}{l:List Qt}{k n:Nat}(j:k<l.length)(h:Y9 s 0 (l.take k)=some n):Y9 s 0 (l.take (k+1))=Z8 s n l[k]:=by rw[QQ j,DR,h];show Y9 s n [l[k]]=_;rw[Gc];cases Z8 s n l[k]<;>rfl
theorem Hq{s:Q4}{l:List Qt}{k n:Nat}(E:k<l.length)(h:Y9 s 0 (l.take k)=some n)(j:Z8 s n l[k]=none):Y9 s 0 l=none:=by
 have e:l=l.take k++l[k]::l.drop (k+1):=by rw[List.getElem_cons_drop,XU]
 have D:Y9 s 0 (l.take k++l[k]::l.drop (k+1))=none:=by rw[DR,h];show Y9 s n (l[k]::l.drop (k+1))=none;rw[Gc,j]
 rwa [<-e] at D
def Fo(b:Bool):Int:=if b then 0 else 80
def Hr(g:Q1)(h:Nat)(w:World)(i:Value)(wr:World):Prop:=
 ∃k:Nat,k<=g.ops.length/\i=k/\(∃n:Nat,Y9 g.s 0 (g.ops.take k)=some n/\n<=2000*k/\Xc wr h g (n:Nat))/\Below w w wr
theorem L7(x:Q4):Kg x.T x.R 0 0=decide (x.T=0/\x.R=0):=by unfold Kg;rw[Js];simp
theorem AI(g:Q1)(B:Nat)(w:World)(Q:X4 w B g)(X:B<=w)(hT:ZD w)(aD:∀o∈g.ops,o.tx.size<=1000000000):Calls Tryz.prog 27 #[Z2 g] w λe w'=>e=.returned (.int .i64 (Fo (ZG g)))/\Below w w w':=by
 have aA:=(Rd.len Q.o).1;have HG:=Ki Q;have HB:=Ki X;have HT:=Ki hT;have aO:=Ki aD;have H1:=Ki (λW (h:Below w w W)=>H9 g B W ((Q.more X).below h |> λaU=>⟨Q.d.below' h X,Q.i,Q.o.below' h X,λo ho=>⟨(Q.a o ho).d.below' h X,(Q.a o ho).e.below' h X⟩⟩) (Q9 X h.size));have H2:=Ki (λW=>Ca g.un W);have H3:=Ki (λW=>Eo g.un g.s W);have hE:=L7 g.un;have D:=Kj (ZG g=(Gb g&&if g.un.T=0/\g.un.R=0 then decide (1<=g.ops.length)&&decide (g.ops.length<=200)&&(Y9 g.s 0 g.ops).isSome else right g.un&&decide (g.un.cmp g.s<0)&&decide (g.ops.length=0))) rfl;obtain⟨t1,aB⟩:∃b,Gb g=b:=⟨_,rfl⟩;rw[aB] at H1 D;clear aB;obtain⟨t2,aC⟩:∃b,right g.un=b:=⟨_,rfl⟩;rw[aC] at H2 D;clear aC;obtain⟨z,I⟩:∃b,g.un.cmp g.s=b:=⟨_,rfl⟩;rw[I] at H3 D;clear I;have a2:=Ki aA;clear Q X hT aD aA;have hq:=OA;have aQ:=Kh;unfold Z2 Qg Sl.v at *;unfold QU at H2 H3;go_enter Tryz.func27,Tryz.ntmps27;go_upto_region 1 with(fail);obtain⟨W1,a7⟩:∃W,w.alloc (.cells g 31)=W:=⟨_,rfl⟩;have au:=bl a7;have E:=bn a7;rw[a7];clear a7;obtain⟨b0,aj⟩:∃b,w.heap.size=b:=⟨_,rfl⟩;have aS:=Ki aj;rw[aj] at E |-;clear aj;have a0:=(Q5.1 E).1;have c0:=cr0 E;have c1:=cr1 E;have c2:=cr2 E;have c3:=cr3 E;have c4:=cr4 E;have c5:=cr5 E;have Z:=cr6 E;have ae:=Ki au;have H0:=Ki E;have ar:=Ki a0;clear au E a0;go_wp2_with fail;refine(H1.o W1 ae.o).mono ?_;rintro e1 W2 ⟨rfl,ac⟩;have J:=Ki ((ac.below.block b0 ar.o).trans H0.o);have U:=Ki (ae.o.trans (ac.below.mono ae.o.size))
 have ah:=Ki (Z1 ar.o ac.below.size);clear ac c0 c1 c2 c3 c4 c5 Z;have c0:=cr0 J.o;have c1:=cr1 J.o;have c2:=cr2 J.o;have c3:=cr3 J.o;have c4:=cr4 J.o;have c5:=cr5 J.o;have Z:=cr6 J.o;rcases t1 with _|_
 ·go_wp2;go_ret;refine⟨?_,U.o⟩;have j:ZG g=false:=by rw[D.o];simp
  rw[j];rfl
 by_cases Y:g.un.T=0/\g.un.R=0
 ·rw[Q7 Y] at D;rw[QF Y] at hE;have HU:=Ki Y;clear Y;have a6:=Ki (show ZG g=(decide (1<=g.ops.length)&&decide (g.ops.length<=200)&&(Y9 g.s 0 g.ops).isSome) by rw[D.o];rfl);by_cases l1:(g.ov.n:Int)<1;·go_wp2;go_ret;refine⟨?_,U.o⟩;have j:ZG g=false:=(by rw[a6.o,<-a2.o];simp;omega);rw[j];rfl
  by_cases l2:(g.ov.n:Int)>200;·go_wp2;go_ret;refine⟨?_,U.o⟩;have j:ZG g=false:=(by rw[a6.o,<-a2.o];simp;omega);rw[j];rfl
  have aq:=Ki (show ZG g=(Y9 g.s 0 g.ops).isSome by rw[a6.o,<-a2.o];simp;omega);go_upto_region 10 with(fail);obtain⟨W3,a8⟩:∃W,W2.alloc (.cells #[g.s.T,g.s.R,g.n,.slice g.dv.A g.dv.n g.dv.c,g.un.T,g.un.R,.slice g.ov.A g.ov.n g.ov.c,(0:Int)] 139)=W:=⟨_,rfl⟩;have am:Xc W3 W2 g (0:Nat):=(by rw[<-a8];exact Qi W2 _);have ak:=bl a8;rw[a8];clear a8;have aT:=(ak.cell (p:=(b0,6)) ah.o).trans Z;have a3:=Ki (U.o.trans (ak.mono U.o.size));have ag:=Ki (U.o.size);obtain⟨cb,aw⟩:∃b,W2.heap.size=b:=⟨_,rfl⟩;rw[aw] at am ag |-;have aF:=Ki am;clear c0 c1 c2 c3 c4 c5 Z ak aw am hq aQ hE H1 H2 H3 H0 J D a6;have aN:=Ki (λW (h:Below w w W)=>Rd.below' HG.o.o h HB.o);have aL:=Ki (λn o (ho:o∈g.ops) W (h:Below w w W) (hc:Xc W cb g (n:Nat)) (hn:n<=1000000)=>Ho g n o cb B W hc ⟨(HG.o.a o ho).d.below' h HB.o,(HG.o.a o ho).e.below' h HB.o⟩ (Q9 HB.o h.size) hn (HT.o.below h) (aO.o o ho));have l3:(g.ov.n:Int)<=200:=(by omega);have L3:=Ki l3;clear l1 l2 l3;go_wp2;go_loopw [50] (λi wr=>Hr g cb w i wr) (λi _=>g.ops.length-(intOf i).toNat);case atStart=>exact⟨0,Qh _,rfl,⟨0,by rw[List.take_zero];rfl,by omega,aF.o⟩,a3.o⟩
  case round=>
   obtain⟨k,hk,rfl,⟨n,hn,az,ay⟩,aa⟩:=hrel;have ao:=a2.o;by_cases a0:k<g.ops.length
   ·have hR:=aN.o wr aa;obtain⟨b,o,e1,aV,ax⟩:=Qr Qp 18 (λ_=>rfl) (by decide) (by unfold Sl.v at hR;rw[<-ao] at hR;exact hR) a0;have aP:=Ki ax;have HN:=Ki hn;have aK:=Ki az;have aH:=Ki ay;have ap:=Ki aa;have aM:=Ki (λW h hc=>aL.o n g.ops[k] (Zt a0) W h hc (by have:=L3.o;omega));rw[e1];clear ax hR hn az ay aa;have aR:(k:Int)<(g.ov.n:Int):=(by omega);have aW:(0:Int)<=(k:Int):=(by omega);clear ao;go_upto_region 13 with(first|((with_reducible refine Ql 72 ?_);refine QA rfl 72 _ rfl _ _ _ rfl aP.o (by kernel_rfl) (Z6 _) ?_)|((with_reducible refine Zm 72 ?_);refine Zp rfl 72 _ _ rfl _ _ rfl rfl _ _ (Qi _ _) (by kernel_rfl) rfl (by kernel_rfl) ?_;rw[Xm,Zn]));obtain⟨W4,a9⟩:∃W,wr.alloc (.cells (Qp g.ops[k]).toArray 72)=W:=⟨_,rfl⟩;have h4:=bn a9;have al:=bl a9;rw[a9];clear a9;obtain⟨b4,av⟩:∃b,wr.heap.size=b:=⟨_,rfl⟩;have ai:=Ki (Zz h4);have O:=Ki (ap.o.trans (al.mono ap.o.size));have aG:=Ki (aH.o.grows al);rw[av] at ai |-;clear h4 al av;have a4:=Ki (aM.o W4 O.o aG.o);unfold Qz KA at a4;rcases I:Z8 g.s n g.ops[k] with _|n';·have HX:=Ki (show ZG g=false by rw[aq.o,Hq a0 HN.o I];rfl);rw[I] at a4;clear I;go_wp2_with (((with_reducible refine Ql 72 ?_);refine QA rfl 72 _ rfl _ _ _ rfl ai.o (by kernel_rfl) (Z6 _) ?_));refine a4.o.mono ?_;rintro e5 W5 ⟨rfl,ab,a5⟩;have af:=Ki (O.o.trans (a5.below O.o.size (λx hx e=>by have:=ag.o;omega)));clear ab a5;go_wp2;go_ret;exact⟨by rw[HX.o];rfl,af.o⟩
    have HX:=Ki (show Y9 g.s 0 (g.ops.take (k+1))=some n' by rw[Hp a0 HN.o,I]);have aI:=Ki (L6 I);rw[I] at a4;clear I;go_wp2_with (((with_reducible refine Ql 72 ?_);refine QA rfl 72 _ rfl _ _ _ rfl ai.o (by kernel_rfl) (Z6 _) ?_));refine a4.o.mono ?_;rintro e5 W5 ⟨rfl,ab,a5⟩;have aE:=Ki (ab n' rfl);have af:=Ki (O.o.trans (a5.below O.o.size (λx hx e=>by have:=ag.o;omega)));clear ab a5;go_wp2;go_roundw;case rel=>exact⟨k+1,by omega,by go_num,⟨n',HX.o,by have:=aI.o;have:=aK.o;omega,aE.o⟩,af.o⟩
    case measure=>simp[intOf];omega
   have HX:=Ki (show ZG g=true by rw[aq.o];rw[Zk (by omega)] at hn;rw[hn];rfl);have aR:¬((k:Int)<(g.ov.n:Int)):=(by omega);clear hn ao;go_wp2;go_ret;exact⟨by rw[HX.o];rfl,aa⟩
 rw[Q6 Y] at D;rw[Zo Y] at hE;have HU:=Ki Y;clear Y;go_wp2_with fail;refine(H2.o W2).mono ?_;rintro e2 W3 ⟨rfl,ad⟩;have a3:=Ki (U.o.trans (ad.below.mono U.o.size));have aJ:=Ki (Z1 ah.o ad.below.size);have a1:=Ki ((ad.below.block b0 ah.o).trans J.o);clear c0 c1 c2 c3 c4 c5 Z ad;have c0:=cr0 a1.o;have c1:=cr1 a1.o;have c4:=cr4 a1.o;have c5:=cr5 a1.o;have Z:=cr6 a1.o;rcases t2 with _|_;·go_wp2;go_ret;refine⟨?_,a3.o⟩;have j:ZG g=false:=(by rw[D.o];simp);rw[j];rfl
 go_wp2_with fail;refine(H3.o W3).mono ?_;rintro e3 W4 ⟨rfl,an⟩;have O:=Ki (a3.o.trans (an.below.mono a3.o.size));have Z:=(an.below.cell (p:=(b0,6)) aJ.o).trans (cR 6 a1.o);clear an;by_cases z1:z>=0;·go_wp2;go_ret;refine⟨?_,O.o⟩;have j:ZG g=false:=(by rw[D.o];simp;omega);rw[j];rfl
 by_cases l1:(g.ov.n:Int)>0;·go_wp2;go_ret;refine⟨?_,O.o⟩;have j:ZG g=false:=(by rw[D.o,<-a2.o];simp;omega);rw[j];rfl
 go_wp2;go_ret;refine⟨?_,O.o⟩;have j:ZG g=true:=(by rw[D.o,<-a2.o];simp;omega);rw[j];rfl
end Go.Proofs.YtfpafikfjjckeaaGreatDoor
