import Derived.Test.YtfpafikfjjckeaaGreatDoorZ3
set_option maxRecDepth 100000
set_option maxHeartbeats 200000000
namespace Go.Proofs.YtfpafikfjjckeaaGreatDoor
open Go Go.RowKit
theorem Ce(x:Id):Xs x.s.T x.s.R x.I x.s.T x.s.R x.I=true:=by rw[F4];simp
theorem JM(x:Id):Xs Qf.s.T Qf.s.R Qf.I x.s.T x.s.R x.I=ZX x:=by
 unfold Xs ZX;rw[Js];have E:Qf.s.T=0:=rfl;have I:Qf.s.R=0:=rfl;have J:Qf.I=0:=rfl;rw[E,I,J];simp only[ZJ,beq_iff_eq,XD];constructor;·rintro⟨⟨h,j⟩,D⟩;exact⟨h.symm,j.symm,D.symm⟩
 rintro⟨h,j,D⟩;exact⟨⟨h.symm,j.symm⟩,D.symm⟩
theorem AH(s:ByteArray):(s.toList==s.toList)=true:=beq_self_eq_true _
theorem UQ(s:ByteArray):((⟨#[]⟩:ByteArray).toList==s.toList)=decide (s.size=0):=by rw[Jb,Jb,Jc];cases s.data.toList<;>rfl
theorem H6(o:Qt)(D:o.dv.n=o.dots.length)(E:o.ev.n=o.els.length):∃(u:Id)(O:ByteArray)(d:Bool)(I:Sl)(a e:Id)(t:ByteArray)(J:Sl),XB o=[.int .i64 o.k,.int .i64 o.node.s.T,.int .i64 o.node.s.R,.int .i64 o.node.I,.int .i64 u.s.T,.int .i64 u.s.R,.int .i64 u.I,.string O,.bool d,.slice I.A I.n I.c,.int .i64 a.s.T,.int .i64 a.s.R,.int .i64 a.I,.int .i64 e.s.T,.int .i64 e.s.R,.int .i64 e.I,.string t,.slice J.A J.n J.c]/\Y2 o=(Xs u.s.T u.s.R u.I o.up.s.T o.up.s.R o.up.I&&(O.toList==o.name.toList)&&(d==o.dir)&&Xs a.s.T a.s.R a.I o.af.s.T o.af.s.R o.af.I&&Xs e.s.T e.s.R e.I o.el.s.T o.el.s.R o.el.I&&(t.toList==o.tx.toList)&&((I.n:Int)==(o.dv.n:Int))&&((J.n:Int)==(o.ev.n:Int))):=by
 have j:∀n:Nat,(((0:Nat):Int)==(n:Int))=decide (n=0):=λn=>by rw[Js];simp;omega
 have b0:∀b:Bool,(false==b)=!b:=λb=>by cases b<;>rfl
 rcases V8 (o.k=0) with h|Q
 ·exact⟨o.up,o.name,o.dir,⟨none,0,0⟩,Qf,Qf,⟨#[]⟩,⟨none,0,0⟩,by unfold XB;rw[h];rfl,by
   unfold Y2;rw[Ce,AH,JM,JM,UQ,j,j,h,D,E];simp[Dv]⟩
 rcases V8 (o.k=1) with h|U
 ·exact⟨o.up,o.name,false,⟨none,0,0⟩,Qf,Qf,⟨#[]⟩,⟨none,0,0⟩,by unfold XB;rw[h];rfl,by
   unfold Y2;rw[Ce,AH,JM,JM,UQ,b0,j,j,h,D,E];simp[Dv]⟩
 rcases V8 (o.k=2) with h|W
 ·exact⟨Qf,⟨#[]⟩,false,o.dv,Qf,Qf,⟨#[]⟩,⟨none,0,0⟩,by unfold XB;rw[h];rfl,by
   unfold Y2;rw[JM,JM,JM,UQ,UQ,b0,j,h,E];simp[Dv]⟩
 rcases V8 (o.k=3) with h|X
 ·exact⟨Qf,⟨#[]⟩,false,⟨none,0,0⟩,o.af,o.el,o.tx,⟨none,0,0⟩,by unfold XB;rw[h];rfl,by
   unfold Y2;rw[JM,Ce,Ce,UQ,AH,b0,j,j,h,D,E];simp[Dv]⟩
 rcases V8 (o.k=4) with h|Y
 ·exact⟨Qf,⟨#[]⟩,false,⟨none,0,0⟩,Qf,Qf,⟨#[]⟩,o.ev,by unfold XB;rw[h];rfl,by
   unfold Y2;rw[JM,JM,JM,UQ,UQ,b0,j,h,D];simp[Dv]⟩
 exact⟨Qf,⟨#[]⟩,false,⟨none,0,0⟩,Qf,Qf,⟨#[]⟩,⟨none,0,0⟩,by unfold XB;rw[Q6 (by omega),Q6 (by omega),Q6 (by omega),Q6 (by omega),Q6 (by omega)];rfl,by
  unfold Y2;rw[JM,JM,JM,UQ,UQ,b0,j,j,D,E];simp[Dv,Q,U,W,X,Y]⟩
theorem H7(o:Qt)(w:World):Calls Tryz.prog 153 #[Qz o] w λe w'=>e=.returned (.agg (XB o).toArray)/\Below w w w':=by
 rcases V8 (o.k=0) with h|j;·exact H0 o h w
 rcases V8 (o.k=1) with h|D;·exact H1 o h w
 rcases V8 (o.k=2) with h|E;·exact H2 o h w
 rcases V8 (o.k=3) with h|I;·exact H3 o h w
 rcases V8 (o.k=4) with h|J;·exact H4 o h w
 exact H5 o ⟨j,D,E,I,J⟩ w
theorem Fn(o:Qt)(hd:o.dv.n=o.dots.length)(he:o.ev.n=o.els.length)(w:World):Calls Tryz.prog 102 #[Qz o] w λe w'=>e=.returned (.bool (Y2 o))/\Below w w w':=by
 obtain⟨u,nm,d,Q,a,e,t,U,a1,a0⟩:=H6 o hd he;have H:=Ki (λW=>H7 o W);rw[a1] at H;have a2:=Ki a0;clear a1 a0 hd he;have hq:=Xt;have au:=ZR;unfold Qz Qp Sl.v at *;go_enter Tryz.func102,Tryz.ntmps102;go_upto_region 1 with(fail);obtain⟨W1,J⟩:∃W,w.alloc (.cells o 72)=W:=⟨_,rfl⟩;have h:=bn J;have Y:=Kj (Below w w W1) (by rw[<-J];exact(Qc _ w).alloc (Q3 _) _);rw[J];clear J;obtain⟨b0,X⟩:∃k,w.heap.size=k:=⟨_,rfl⟩;have ab:=Ki X;rw[X] at h |-;clear X;have Z:=Ki (Q5.1 h).1;have LD:=Ki (Zz (cs:=o) h);have H0:=Ki h;clear h;go_wp2_with (((with_reducible refine Ql 72 ?_);refine QA rfl 72 _ rfl _ _ _ rfl LD.o (by kernel_rfl) (Z6 _) ?_));refine(H.o _).mono ?_;rintro e1 W2 ⟨rfl,hb2⟩;go_upto_region 2 with(((with_reducible refine Zm 72 ?_);refine Zp rfl 72 _ _ rfl _ _ rfl rfl _ _ (Qi _ _) (by kernel_rfl) rfl (by kernel_rfl) ?_;rw[Xm,Zn]));obtain⟨W3,O⟩:∃W,W2.alloc (.cells #[o.k,o.node.s.T,o.node.s.R,o.node.I,u.s.T,u.s.R,u.I,.string nm,.bool d,.slice Q.A Q.n Q.c,a.s.T,a.s.R,a.I,e.s.T,e.s.R,e.I,.string t,.slice U.A U.n U.c] 72)=W:=⟨_,rfl⟩;have j:=bn O;have I:=bl O;have h:=(I.block b0 (Z1 Z.o hb2.size)).trans ((hb2.block b0 Z.o).trans H0.o);have D:=Ki (Y.o.trans ((hb2.trans (I.mono hb2.size)).mono Y.o.size));rw[O];clear O I hb2;obtain⟨b3,I⟩:∃k,W2.heap.size=k:=⟨_,rfl⟩;rw[I] at j |-;clear I;have c4:=cr4 h;have d4:=cr4 j;have c5:=cr5 h;have d5:=cr5 j;have c6:=cr6 h;have d6:=cr6 j;have c7:=cr7 h;have d7:=cr7 j;have c8:=cr8 h;have d8:=cr8 j;have c9:=cr9 h
 have d9:=cr9 j;have ac:=cr10 h;have ak:=cr10 j;have ad:=cr11 h;have al:=cr11 j;have ae:=cr12 h;have am:=cr12 j;have af:=cr13 h;have an:=cr13 j;have ag:=cr14 h;have ao:=cr14 j;have ah:=cr15 h;have ap:=cr15 j;have ai:=cr16 h;have aq:=cr16 j;have aj:=cr17 h;have ar:=cr17 j;clear h j;obtain⟨t1,a3⟩:∃b,Xs u.s.T u.s.R u.I o.up.s.T o.up.s.R o.up.I=b:=⟨_,rfl⟩;obtain⟨t2,a4⟩:∃b,(nm.toList==o.name.toList)=b:=⟨_,rfl⟩;obtain⟨t3,a5⟩:∃b,(d==o.dir)=b:=⟨_,rfl⟩;obtain⟨t4,a6⟩:∃b,Xs a.s.T a.s.R a.I o.af.s.T o.af.s.R o.af.I=b:=⟨_,rfl⟩;obtain⟨t5,a7⟩:∃b,Xs e.s.T e.s.R e.I o.el.s.T o.el.s.R o.el.I=b:=⟨_,rfl⟩;obtain⟨t6,a8⟩:∃b,(t.toList==o.tx.toList)=b:=⟨_,rfl⟩;obtain⟨t7,a9⟩:∃b,((Q.n:Int)==(o.dv.n:Int))=b:=⟨_,rfl⟩;obtain⟨t8,aa⟩:∃b,((U.n:Int)==(o.ev.n:Int))=b:=⟨_,rfl⟩;have E:=Ki (show Y2 o=(t1&&t2&&t3&&t4&&t5&&t6&&t7&&t8) by rw[a2.o,a3,a4,a5,a6,a7,a8,a9,aa]);rcases t1 with _|_;·go_wp2;go_ret;exact⟨Qo (by rw[E.o];simp),D.o⟩
 rcases t2 with _|_;·go_wp2;go_ret;exact⟨Qo (by rw[E.o];simp),D.o⟩
 rcases t3 with _|_;·go_wp2;go_ret;exact⟨Qo (by rw[E.o];simp),D.o⟩
 rcases t4 with _|_;·go_wp2;go_ret;exact⟨Qo (by rw[E.o];simp),D.o⟩
 rcases t5 with _|_;·go_wp2;go_ret;exact⟨Qo (by rw[E.o];simp),D.o⟩
 rcases t6 with _|_;·go_wp2;go_ret;exact⟨Qo (by rw[E.o];simp),D.o⟩
 rcases t7 with _|_;·go_wp2;go_ret;exact⟨Qo (by rw[E.o];simp),D.o⟩
 rcases t8 with _|_;·go_wp2;go_ret;exact⟨Qo (by rw[E.o];simp),D.o⟩
 go_wp2;go_ret;exact⟨Qo (by rw[E.o];simp),D.o⟩
theorem Dy:type_of% @Tryz.ntmps105:=@Tryz.ntmps105
theorem DC:type_of% @Tryz.func105:=@Tryz.func105
theorem H8(s:ByteArray)(w:World)(j:0<s.size)(E:s.size<=9223372036854775807):Calls Tryz.prog 154 #[.string s,.string ⟨F6.toArray⟩] w λe w'=>e=.returned (.string ⟨(Lib.trimS s.data.toList F6).toArray⟩)/\Q0 w w':=by have h:=zero_of_info (P:=Tryz.prog) (t:=Tryz.lays160_ren.t 116) (v:=.agg (Array.replicate 256 (.bool false))) (n:=256) (by kernel_rfl);refine(Any.strings_Trim_set Tryz.lays160 h.1 h.2 s ⟨F6.toArray⟩ w (by decide) j E (by decide) (ascii_of_all (by decide))).mono ?_;rintro e w' ⟨D,q,rfl⟩;exact⟨D,(((Q0.refl w).alloc _).alloc _).drewN q⟩
theorem Cf(s:ByteArray)(w:World)(hs:s.size<=9223372036854775807):Calls Tryz.prog 105 #[.string s] w λe w'=>e=.returned (.bool (XI s.data.toList))/\Q0 w w':=by
 obtain⟨tb,O⟩:=ex ((⟨(Lib.trimS s.data.toList F6).toArray⟩:ByteArray));have Z:tb.toList=Lib.trimS s.data.toList F6:=by rw[<-O,Jb]
 have j:=(Jb s).symm
 have h:=Ki (show XI s.data.toList=(decide (s.toList≠[])&&decide (s.size<=32)&&decide (s.toList≠[46])&&decide (s.toList≠[46,46])&&decide (tb.toList=[])) by
  rw[Z,j,Jc,j]
  rfl)
 have D:=Ki (λW (a0:¬s.toList=[])=>H8 s W (by rw[Jc,j];exact Kc.2 a0) hs);rw[O] at D;clear O Z j;by_cases E:s.toList=[];·go_enter DC,Dy;go_wp2;go_ret;exact⟨Qo (by rw[h.o];simp[E]),Q0.refl w⟩
 have Q:=Ki E;by_cases h2:(s.size:Int)<=32
 ·have I:s.size<=32:=(by omega);by_cases U:s.toList=[46];·go_enter DC,Dy;go_wp2;go_ret;exact⟨Qo (by rw[h.o];simp[U]),Q0.refl w⟩
  by_cases X:s.toList=[46,46];·go_enter DC,Dy;go_wp2;go_ret;exact⟨Qo (by rw[h.o];simp[X]),Q0.refl w⟩
  by_cases Y:tb.toList=[];·go_enter DC,Dy;go_wp2_with fail;refine(D.o _ Q.o).mono ?_;rintro e W ⟨rfl,J⟩;go_wp2;go_ret;exact⟨Qo (by rw[h.o];simp[E,I,U,X,Y]),J⟩
  go_enter DC,Dy;go_wp2_with fail;refine(D.o _ Q.o).mono ?_;rintro e W ⟨rfl,J⟩;go_wp2;go_ret;exact⟨Qo (by rw[h.o];simp[Y]),J⟩
 have I:¬s.size<=32:=(by omega);go_enter DC,Dy;go_wp2;go_ret;exact⟨Qo (by rw[h.o];simp[I]),Q0.refl w⟩
theorem H9(g:Q1)(B:Nat)(w:World)(hg:X4 w B g)(hB:B<=w):Calls Tryz.prog 55 #[Z2 g] w λe w'=>e=.returned (.bool (Gb g))/\Q0 w w':=by
 have a1:g.dv.n=g.deps.length:=(Rd.len hg.d).1;have a0:Rd w B 1 (.slice g.dv.A g.dv.n g.dv.c) g.dv.n (g.deps.flatMap QS):=by have:=hg.d;rw[<-a1] at this;exact this
 have hn:=g.hn;unfold Qu at hn;have E:=Kj (Gb g=(right g.s&&decide (1<=g.n)&&decide (g.n<=1099511627776)&&Jf g.deps&&decide (Zw g.deps g.s.R=g.n-1))) rfl;have I:=Ki (λW=>Ca g.s W);have J:=Ki (λW (h:Q0 w W)=>TO g.deps g.dv.A g.dv.n g.dv.c B W (a0.below' h.below hB) (Q9 hB h.below.size));have O:=Ki (λW (h:Q0 w W)=>PJ g.deps g.s.R g.dv.A g.dv.n g.dv.c B W (a0.below' h.below hB) g.s.hR);obtain⟨t1,a2⟩:∃b,right g.s=b:=⟨_,rfl⟩;rw[a2] at I E;clear a2;obtain⟨t2,a3⟩:∃b,Jf g.deps=b:=⟨_,rfl⟩;rw[a3] at J E;clear a3;obtain⟨z,hz⟩:∃b,Zw g.deps g.s.R=b:=⟨_,rfl⟩;rw[hz] at O E;clear hz a1 a0 hg;unfold Z2 Qg Sl.v;unfold QU at I;go_enter Tryz.func55,Tryz.ntmps55;go_wp2;obtain⟨W0,Y⟩:∃W,w.alloc (.cells g 31)=W:=⟨_,rfl⟩;have j:Q0 w W0:=by rw[<-Y];exact(Q0.refl w).alloc _
 have U:W0.heap[w.heap.size]?=some (.cells g 31 (0,0)):=by rw[<-Y];exact Qi w _
 rw[Y];clear Y;have f0:=λn os=>Ym U n os 0;have f1:=λn os=>Ym U n os 1;have f2:=λn os=>Ym U n os 2;have f3:=λn os=>Ym U n os 3;clear U;rcases t1 with _|_
 ·refine QK (by kernel_rfl) (by kernel_rfl) ?_;iterate 31 (first|go_big_quiet_skip|quiet_step (first|(go_at_call 56;exact Qk (I.o _))|(go_at_call 101;exact Qk (J.o _ (j.trans ⟨_,_,rfl⟩)))|(go_at_call 17;exact JI (O.o _ (j.trans ⟨_,_,rfl⟩)))))
  refine QN ?_;rintro W ⟨⟨nq,X⟩,h⟩;have D:=j.trans (Z9 h);clear h;go_wp2;go_ret;exact⟨Qo (by rw[E.o];simp),D⟩
 by_cases h1:1<=g.n
 ·have hw:IntKind.i64.wrap (g.n-1)=g.n-1:=QO _ (by omega);by_cases h2:g.n<=1099511627776
  ·rcases t2 with _|_
   ·refine QK (by kernel_rfl) (by kernel_rfl) ?_;iterate 31 (first|go_big_quiet_skip|quiet_step (first|(go_at_call 56;exact Qk (I.o _))|(go_at_call 101;exact Qk (J.o _ (j.trans ⟨_,_,rfl⟩)))|(go_at_call 17;exact JI (O.o _ (j.trans ⟨_,_,rfl⟩)))))
    refine QN ?_;rintro W ⟨⟨nq,X⟩,h⟩;have D:=j.trans (Z9 h);clear h;go_wp2;go_ret;exact⟨Qo (by rw[E.o];simp),D⟩
   by_cases Q:z=g.n-1
   ·have h4:(z==g.n-1)=true:=(by simp[Q]);have Z:=Ki Q;clear Q;refine QK (by kernel_rfl) (by kernel_rfl) ?_;iterate 31 (first|go_big_quiet_skip|quiet_step (first|(go_at_call 56;exact Qk (I.o _))|(go_at_call 101;exact Qk (J.o _ (j.trans ⟨_,_,rfl⟩)))|(go_at_call 17;exact JI (O.o _ (j.trans ⟨_,_,rfl⟩)))))
    refine QN ?_;rintro W ⟨⟨nq,X⟩,h⟩;have D:=j.trans (Z9 h);clear h;go_wp2;go_ret;exact⟨Qo (by rw[E.o];simp[h1,h2,Z.o]),D⟩
   have h4:(z==g.n-1)=false:=(by simp[Q]);have Z:=Ki Q;clear Q;refine QK (by kernel_rfl) (by kernel_rfl) ?_;iterate 31 (first|go_big_quiet_skip|quiet_step (first|(go_at_call 56;exact Qk (I.o _))|(go_at_call 101;exact Qk (J.o _ (j.trans ⟨_,_,rfl⟩)))|(go_at_call 17;exact JI (O.o _ (j.trans ⟨_,_,rfl⟩)))))
   refine QN ?_;rintro W ⟨⟨nq,X⟩,h⟩;have D:=j.trans (Z9 h);clear h;go_wp2;go_ret;exact⟨Qo (by rw[E.o];simp[Z.o]),D⟩
  refine QK (by kernel_rfl) (by kernel_rfl) ?_;iterate 31 (first|go_big_quiet_skip|quiet_step (first|(go_at_call 56;exact Qk (I.o _))|(go_at_call 101;exact Qk (J.o _ (j.trans ⟨_,_,rfl⟩)))|(go_at_call 17;exact JI (O.o _ (j.trans ⟨_,_,rfl⟩)))))
  refine QN ?_;rintro W ⟨⟨nq,X⟩,h⟩;have D:=j.trans (Z9 h);clear h;go_wp2;go_ret;exact⟨Qo (by rw[E.o];simp;omega),D⟩
 refine QK (by kernel_rfl) (by kernel_rfl) ?_;iterate 31 (first|go_big_quiet_skip|quiet_step (first|(go_at_call 56;exact Qk (I.o _))|(go_at_call 101;exact Qk (J.o _ (j.trans ⟨_,_,rfl⟩)))|(go_at_call 17;exact JI (O.o _ (j.trans ⟨_,_,rfl⟩)))))
 refine QN ?_;rintro W ⟨⟨nq,X⟩,h⟩;have D:=j.trans (Z9 h);clear h;go_wp2;go_ret;exact⟨Qo (by rw[E.o];simp;omega),D⟩
end Go.Proofs.YtfpafikfjjckeaaGreatDoor
