import Derived.Test.YtfpafikfjjckeaaGreatDoorZ4
import Derived.Test.YtfpafikfjjckeaaGreatDoorZ7
set_option maxRecDepth 100000
set_option maxHeartbeats 200000000
namespace Go.Proofs.YtfpafikfjjckeaaGreatDoor
open Go Go.RowKit Go.Maps
def Q3A(w:World)(e:Ending)(w':World):Prop:=(∃z:Int,e=.returned z)/\Below w w w'
def Q3B(N:Nat)(h:World)(j i:Value)(wr:World):Prop:=∃(k:Nat)(z:Int),k<=N/\i=k/\j=z/\0<=z/\z<=(k:Int)*1000000000/\Below h h wr
theorem Q3C(g:Q1)(B:Nat)(w:World)(hg:X4 w B g)(hB:B<=w)(ad:∀o∈g.ops,o.tx.size<=1000000000/\o.name.size<=1000000)(hn:g.ops.length<=1000):Calls Tryz.prog 156 #[Z2 g] w (Q3A w):=by
 have ac:g.ov.n=g.ops.length:=(Rd.len hg.o).1;have a5:g.dv.n=g.deps.length:=(Rd.len hg.d).1;have a0:=Ki (λW=>Cb g.s W);have a8:=Ki (λW=>Cb g.un W);have HV:=Ki (λW (I:Below w w W)=>TR g.deps g.dv.A g.dv.n g.dv.c B W (by have h:=hg.d.below' I hB;rw[<-a5] at h;exact h) (Q9 hB I.size));have HA:=Ki (λW (I:Below w w W)=>Fj g.deps g.s.R g.dv.A g.dv.n g.dv.c B W (by have h:=hg.d.below' I hB;rw[<-a5] at h;exact h) g.s.hR);have a7:=Ki (λW=>G9 g.un g.s W);have ag:=Ki (λ(q:Qt)(hq:q∈g.ops)(k:Int)(hk:Qu k) W (I:Below w w W)=>Q3u g q k hk B W ⟨(hg.a q hq).d.below' I hB,(hg.a q hq).e.below' I hB⟩ (Q9 hB I.size) (ad q hq).1 (ad q hq).2);have HO:=Ki (λW (I:Below w w W)=>(show Rd W B 18 (.slice g.ov.A g.ops.length g.ov.c) g.ops.length (g.ops.flatMap Qp) from by have h:=hg.o.below' I hB;unfold Sl.v at h;rw[ac] at h;exact h));obtain⟨y1,U⟩:∃y,right g.s=y:=⟨_,rfl⟩;rw[U] at a0;clear U;obtain⟨y2,U⟩:∃y,Jf g.deps=y:=⟨_,rfl⟩;rw[U] at HV;clear U;obtain⟨z1,U⟩:∃y,Zw g.deps g.s.R=y:=⟨_,rfl⟩;rw[U] at HA;clear U;obtain⟨y3,U⟩:∃y,right g.un=y:=⟨_,rfl⟩;rw[U] at a8;clear U;obtain⟨y4,U⟩:∃y,g.un.lt g.s=y:=⟨_,rfl⟩;rw[U] at a7;clear U;have aq:=Ki g.hn;have av:=OA;have au:=Kh;have hE:=L7 g.un;obtain⟨y5,U⟩:∃y,decide (g.un.T=0/\g.un.R=0)=y:=⟨_,rfl⟩;rw[U] at hE;unfold Z2 Qg Sl.v at *;unfold QU at *;rw[ac,a5] at *;obtain⟨A6,ai⟩:∃a,g.ov.A=a:=⟨_,rfl⟩;rw[ai] at ag HO |-;clear ai hg ad U ac a5;go_enter Tryz.func156,Tryz.ntmps156
 go_upto_region 1 with fail;obtain⟨X,a4⟩:∃W,w.alloc (.cells #[g.s.T,g.s.R,g.n,.slice g.dv.A g.deps.length g.dv.c,g.un.T,g.un.R,.slice A6 g.ops.length g.ov.c] 31)=W:=⟨_,rfl⟩;have O:=Kj (Below w w X) (by rw[<-a4];exact((Q0.refl w).alloc _).below);have j:=bn a4;rw[a4];obtain⟨b0,aj⟩:∃b,w.heap.size=b:=⟨_,rfl⟩;rw[aj] at j |-;have l0:=(Q5.1 j).1;have HX:=Ki (λW (I:Below X X W)=>(I.block b0 l0).trans j);have Y:=Kj (∀n os,Below w w (Sort.grow (X.drewN n) os)) (λn os=>O.o.trans ((Q0.below ⟨n,os,rfl⟩).mono O.o.size));have f0:∀n os,(Sort.grow (X.drewN n) os).cell? (b0,0)=g.s.T:=λn os=>QC l0 (cR 0 j) n os;have f1:∀n os,(Sort.grow (X.drewN n) os).cell? (b0,1)=g.s.R:=λn os=>QC l0 (cR 1 j) n os;have f2:∀n os,(Sort.grow (X.drewN n) os).cell? (b0,2)=g.n:=λn os=>QC l0 (cR 2 j) n os;have f3:∀n os,(Sort.grow (X.drewN n) os).cell? (b0,3)=some (.slice g.dv.A g.deps.length g.dv.c):=λn os=>QC l0 (cR 3 j) n os;have an:=aq.o;unfold Qu at an
 have ae:IntKind.i64.wrap (g.n-1)=g.n-1\/g.n<1:=by
  by_cases h:g.n<1;·exact .inr h
  exact .inl (QO _ (by omega))
 clear a4 aj j;go_cut [37] from 6 (λv wx=>(∃t:Bool,v=.bool t)/\Below X X wx)
 case first=>as_aux_lemma=>
  cases y1
  ·refine QK (by kernel_rfl) (by kernel_rfl) ?_;iterate 32 (first|go_big_quiet_skip|quiet_step (first|(go_at_call 203;exact Qk (a0.o _))|(go_at_call 204;exact Qk (HV.o _ (Y.o _ _)))|(go_at_call 35;exact JI (HA.o _ (Y.o _ _)))))
   refine QN ?_;rintro W ⟨⟨n,os⟩,I⟩;have Z:=(Z9 I).below;clear I;go_wp2;go_meet;case rel=>exact⟨⟨_,rfl⟩,Z⟩
  by_cases n1:g.n<1
  ·refine QK (by kernel_rfl) (by kernel_rfl) ?_;iterate 32 (first|go_big_quiet_skip|quiet_step (first|(go_at_call 203;exact Qk (a0.o _))|(go_at_call 204;exact Qk (HV.o _ (Y.o _ _)))|(go_at_call 35;exact JI (HA.o _ (Y.o _ _)))))
   refine QN ?_;rintro W ⟨⟨n,os⟩,I⟩;have Z:=(Z9 I).below;clear I;go_wp2;go_meet;case rel=>exact⟨⟨_,rfl⟩,Z⟩
  have ae:=ae.resolve_right n1;by_cases n2:g.n>1099511627776
  ·refine QK (by kernel_rfl) (by kernel_rfl) ?_;iterate 32 (first|go_big_quiet_skip|quiet_step (first|(go_at_call 203;exact Qk (a0.o _))|(go_at_call 204;exact Qk (HV.o _ (Y.o _ _)))|(go_at_call 35;exact JI (HA.o _ (Y.o _ _)))))
   refine QN ?_;rintro W ⟨⟨n,os⟩,I⟩;have Z:=(Z9 I).below;clear I;go_wp2;go_meet;case rel=>exact⟨⟨_,rfl⟩,Z⟩
  cases y2
  ·refine QK (by kernel_rfl) (by kernel_rfl) ?_;iterate 32 (first|go_big_quiet_skip|quiet_step (first|(go_at_call 203;exact Qk (a0.o _))|(go_at_call 204;exact Qk (HV.o _ (Y.o _ _)))|(go_at_call 35;exact JI (HA.o _ (Y.o _ _)))))
   refine QN ?_;rintro W ⟨⟨n,os⟩,I⟩;have Z:=(Z9 I).below;clear I;go_wp2;go_meet;case rel=>exact⟨⟨_,rfl⟩,Z⟩
  by_cases n3:z1=g.n-1
  ·subst n3;refine QK (by kernel_rfl) (by kernel_rfl) ?_;iterate 32 (first|go_big_quiet_skip|quiet_step (first|(go_at_call 203;exact Qk (a0.o _))|(go_at_call 204;exact Qk (HV.o _ (Y.o _ _)))|(go_at_call 35;exact JI (HA.o _ (Y.o _ _)))))
   refine QN ?_;rintro W ⟨⟨n,os⟩,I⟩;have Z:=(Z9 I).below;clear I;go_wp2;go_meet;case rel=>exact⟨⟨_,rfl⟩,Z⟩
  have n4:(z1 != g.n-1)=true:=(by simp[n3]);refine QK (by kernel_rfl) (by kernel_rfl) ?_;iterate 32 (first|go_big_quiet_skip|quiet_step (first|(go_at_call 203;exact Qk (a0.o _))|(go_at_call 204;exact Qk (HV.o _ (Y.o _ _)))|(go_at_call 35;exact JI (HA.o _ (Y.o _ _)))))
  refine QN ?_;rintro W ⟨⟨n,os⟩,I⟩;have Z:=(Z9 I).below;clear I;go_wp2;go_meet;case rel=>exact⟨⟨_,rfl⟩,Z⟩
 case rest=>
  obtain⟨⟨t,rfl⟩,a9⟩:=hcut;have HC:=Ki a9;have j:=HX.o wc a9;clear f0 f1 f2 f3 ae a9 an;have g0:wc.cell? (b0,0)=g.s.T:=cR 0 j;have g1:wc.cell? (b0,1)=g.s.R:=cR 1 j;have g2:wc.cell? (b0,2)=g.n:=cR 2 j;have g3:wc.cell? (b0,3)=some (.slice g.dv.A g.deps.length g.dv.c):=cR 3 j;have g4:wc.cell? (b0,4)=g.un.T:=cR 4 j;have g5:wc.cell? (b0,5)=g.un.R:=cR 5 j;have g6:wc.cell? (b0,6)=some (.slice A6 g.ops.length g.ov.c):=cR 6 j;cases t
  ·cases y5
   ·go_wp2_with fail;refine(a8.o _).mono ?_;rintro e w3 ⟨rfl,al⟩;have a2:=Ki (HC.o.trans (al.below.mono HC.o.size));clear al g0 g1 g2 g3 g4 g5 g6 j;have j:=HX.o w3 a2.o;have g0:w3.cell? (b0,0)=g.s.T:=cR 0 j;have g1:w3.cell? (b0,1)=g.s.R:=cR 1 j;have g2:w3.cell? (b0,2)=g.n:=cR 2 j;have g3:w3.cell? (b0,3)=some (.slice g.dv.A g.deps.length g.dv.c):=cR 3 j;have g4:w3.cell? (b0,4)=g.un.T:=cR 4 j;have g5:w3.cell? (b0,5)=g.un.R:=cR 5 j;have g6:w3.cell? (b0,6)=some (.slice A6 g.ops.length g.ov.c):=cR 6 j;cases y3;·go_wp2;go_ret;exact⟨⟨_,rfl⟩,O.o.trans (a2.o.mono O.o.size)⟩
    go_wp2_with fail;refine(a7.o _).mono ?_;rintro e w4 ⟨rfl,am⟩;have a3:=Ki (a2.o.trans (am.below.mono a2.o.size));clear am g0 g1 g2 g3 g4 g5 g6 j;have j:=HX.o w4 a3.o;have g0:w4.cell? (b0,0)=g.s.T:=cR 0 j;have g1:w4.cell? (b0,1)=g.s.R:=cR 1 j;have g2:w4.cell? (b0,2)=g.n:=cR 2 j;have g3:w4.cell? (b0,3)=some (.slice g.dv.A g.deps.length g.dv.c):=cR 3 j;have g4:w4.cell? (b0,4)=g.un.T:=cR 4 j;have g5:w4.cell? (b0,5)=g.un.R:=cR 5 j;have g6:w4.cell? (b0,6)=some (.slice A6 g.ops.length g.ov.c):=cR 6 j;cases y4;·go_wp2;go_ret;exact⟨⟨_,rfl⟩,O.o.trans (a3.o.mono O.o.size)⟩
    by_cases hl:(g.ops.length:Int)>0;·go_wp2;go_ret;exact⟨⟨_,rfl⟩,O.o.trans (a3.o.mono O.o.size)⟩
    go_wp2;go_ret;exact⟨⟨_,rfl⟩,O.o.trans (a3.o.mono O.o.size)⟩
   by_cases hl:(g.ops.length:Int)<1;·go_wp2;go_ret;exact⟨⟨_,rfl⟩,O.o.trans (HC.o.mono O.o.size)⟩
   by_cases aA:(g.ops.length:Int)>200;·go_wp2;go_ret;exact⟨⟨_,rfl⟩,O.o.trans (HC.o.mono O.o.size)⟩
   go_wp2;clear a0 a8 HV HA a7 av au hE;go_loopw [3,4,5] (λkv i _ wr=>Q3B g.ops.length X kv i wr) (λ_ i _ _=>g.ops.length-(intOf i).toNat);case atStart=>exact⟨0,0,Qh _,rfl,rfl,Ei _,by decide,HC.o⟩
   case round=>
    clear g0 g1 g2 g3 g4 g5 g6 j;obtain⟨k,z,hk,rfl,rfl,aC,aD,hb⟩:=hrel;have j:=HX.o wr hb;have aw:=Ki hb;have aa:=O.o.trans (hb.mono O.o.size);by_cases ab:k<g.ops.length
    ·obtain⟨D,E,rfl,ax,ar⟩:=Qr Qp 18 (λ_=>rfl) (by decide) (HO.o _ aa) ab;obtain⟨q,hq⟩:=ex (g.ops[k]);have ao:q∈g.ops:=(by rw[<-hq];exact Zt ab);have ap:Qu z:=(by unfold Qu;omega);have ah:=Ki (ag.o q ao z ap);unfold Qz Qp Sl.v at ah
     have af:=Ki (λW (I:Below X X W)=>(show W.cell? (b0,0)=g.s.T/\W.cell? (b0,1)=g.s.R/\W.cell? (b0,2)=g.n/\W.cell? (b0,3)=some (.slice g.dv.A g.deps.length g.dv.c)/\W.cell? (b0,4)=g.un.T/\W.cell? (b0,5)=g.un.R/\W.cell? (b0,6)=some (.slice (D,E) g.ops.length g.ov.c)/\W.cell? (D,E+k*18)=q.k/\W.cell? (D,E+k*18+1)=q.node.s.T/\W.cell? (D,E+k*18+2)=q.node.s.R/\W.cell? (D,E+k*18+3)=q.node.I/\W.cell? (D,E+k*18+4)=q.up.s.T/\W.cell? (D,E+k*18+5)=q.up.s.R/\W.cell? (D,E+k*18+6)=q.up.I/\W.cell? (D,E+k*18+7)=q.name/\W.cell? (D,E+k*18+8)=some (.bool q.dir)/\W.cell? (D,E+k*18+9)=some (.slice q.dv.A q.dv.n q.dv.c)/\W.cell? (D,E+k*18+10)=q.af.s.T/\W.cell? (D,E+k*18+11)=q.af.s.R/\W.cell? (D,E+k*18+12)=q.af.I/\W.cell? (D,E+k*18+13)=q.el.s.T/\W.cell? (D,E+k*18+14)=q.el.s.R/\W.cell? (D,E+k*18+15)=q.el.I/\W.cell? (D,E+k*18+16)=q.tx/\W.cell? (D,E+k*18+17)=some (.slice q.ev.A q.ev.n q.ev.c) from by
      have j:=HX.o W I;obtain⟨b2,o2,e2,_,Q⟩:=Qr Qp 18 (λ_=>rfl) (by decide) (HO.o _ (O.o.trans (I.mono O.o.size))) ab;injection e2 with e2;injection e2 with e2 e3;subst e2 e3;rw[hq] at Q
      exact⟨cR 0 j,cR 1 j,cR 2 j,cR 3 j,cR 4 j,cR 5 j,cR 6 j,Q 0 _ rfl,Q 1 _ rfl,Q 2 _ rfl,Q 3 _ rfl,Q 4 _ rfl,Q 5 _ rfl,Q 6 _ rfl,Q 7 _ rfl,Q 8 _ rfl,Q 9 _ rfl,Q 10 _ rfl,Q 11 _ rfl,Q 12 _ rfl,Q 13 _ rfl,Q 14 _ rfl,Q 15 _ rfl,Q 16 _ rfl,Q 17 _ rfl⟩))
     have ay:(0:Int)<=(k:Int):=(by omega);have az:(k:Int)<(g.ops.length:Int):=(by omega);have a1:=Kj (Below X X wr.drew) hb.drew;have g0:wr.cell? (b0,0)=g.s.T:=cR 0 j;have g1:wr.cell? (b0,1)=g.s.R:=cR 1 j;have g2:wr.cell? (b0,2)=g.n:=cR 2 j;have g3:wr.cell? (b0,3)=some (.slice g.dv.A g.deps.length g.dv.c):=cR 3 j;have g4:wr.cell? (b0,4)=g.un.T:=cR 4 j;have g5:wr.cell? (b0,5)=g.un.R:=cR 5 j;have g6:wr.cell? (b0,6)=some (.slice (D,E) g.ops.length g.ov.c):=cR 6 j;clear ar hq hb aa ao ap
     as_aux_lemma=>
     go_upto_region 13 with fail
     go_region_held3 (λJ=>J.cell? (b0,0)=g.s.T/\J.cell? (b0,1)=g.s.R/\J.cell? (b0,2)=g.n/\J.cell? (b0,3)=some (.slice g.dv.A g.deps.length g.dv.c)/\J.cell? (b0,4)=g.un.T/\J.cell? (b0,5)=g.un.R/\J.cell? (b0,6)=some (.slice (D,E) g.ops.length g.ov.c)/\J.cell? (D,E+k*18)=q.k/\J.cell? (D,E+k*18+1)=q.node.s.T/\J.cell? (D,E+k*18+2)=q.node.s.R/\J.cell? (D,E+k*18+3)=q.node.I/\J.cell? (D,E+k*18+4)=q.up.s.T/\J.cell? (D,E+k*18+5)=q.up.s.R/\J.cell? (D,E+k*18+6)=q.up.I/\J.cell? (D,E+k*18+7)=q.name/\J.cell? (D,E+k*18+8)=some (.bool q.dir)/\J.cell? (D,E+k*18+9)=some (.slice q.dv.A q.dv.n q.dv.c)/\J.cell? (D,E+k*18+10)=q.af.s.T/\J.cell? (D,E+k*18+11)=q.af.s.R/\J.cell? (D,E+k*18+12)=q.af.I/\J.cell? (D,E+k*18+13)=q.el.s.T/\J.cell? (D,E+k*18+14)=q.el.s.R/\J.cell? (D,E+k*18+15)=q.el.I/\J.cell? (D,E+k*18+16)=q.tx/\J.cell? (D,E+k*18+17)=some (.slice q.ev.A q.ev.n q.ev.c)) (first|exact af.o _ a1.o|exact af.o _ a6.o|go_keep)
      (first
       |(go_at_call 205;refine(ah.o _ (O.o.trans (a1.o.mono O.o.size))).mono ?_;rintro e9 W9 ⟨⟨z2,rfl,aE,aF⟩,ak⟩;have a6:=Ki (a1.o.trans (ak.mono a1.o.size));clear ak))
     all_goals
      clear j g0 g1 g2 g3 g4 g5 g6
      as_aux_lemma=>
       by_cases aB:z2<0;·go_wp2;go_ret;exact⟨⟨_,rfl⟩,O.o.trans (a6.o.mono O.o.size)⟩
       have hw:IntKind.i64.wrap (z+z2)=z+z2:=QO _ (by omega);go_wp2;go_roundw;case rel=>exact⟨k+1,z+z2,by omega,by go_num,rfl,by omega,by omega,a6.o⟩
       case measure=>simp[intOf];omega
    clear hb;have g0:wr.cell? (b0,0)=g.s.T:=cR 0 j;have g1:wr.cell? (b0,1)=g.s.R:=cR 1 j;have g2:wr.cell? (b0,2)=g.n:=cR 2 j;have g3:wr.cell? (b0,3)=some (.slice g.dv.A g.deps.length g.dv.c):=cR 3 j;have g4:wr.cell? (b0,4)=g.un.T:=cR 4 j;have g5:wr.cell? (b0,5)=g.un.R:=cR 5 j;have g6:wr.cell? (b0,6)=some (.slice A6 g.ops.length g.ov.c):=cR 6 j;go_wp2;go_ret;exact⟨⟨_,rfl⟩,aa⟩
  go_wp2;go_ret;exact⟨⟨_,rfl⟩,O.o.trans (HC.o.mono O.o.size)⟩
end Go.Proofs.YtfpafikfjjckeaaGreatDoor
