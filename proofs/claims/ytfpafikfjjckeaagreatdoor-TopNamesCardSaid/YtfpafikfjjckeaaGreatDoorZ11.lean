import Derived.Test.YtfpafikfjjckeaaGreatDoorZ0
set_option maxRecDepth 100000
set_option maxHeartbeats 200000000
namespace Go.Proofs.YtfpafikfjjckeaaGreatDoor
open Go Go.RowKit
theorem G1:type_of% @Tryz.underlying70:=@Tryz.underlying70
def Vc(h gone:List QP)(x:Id)(k:Nat)(y:Q4):Prop:=∃d∈h.take k,d.n=x/\d∉gone/\d.b=y
def L9(h gone:List QP)(x:Id)(w:World)(j i:Value)(wr:World):Prop:=
 ∃k:Nat,k<=h.length/\i=k/\∃L:List Q4,wr.ownsRow w 27 2 j L.length (L.flatMap Qv)/\L.Pairwise Q4.Lt/\(∀y,y∈L↔Vc h gone x k y)/\L.length<=k/\Below w w wr
theorem Hs(j gone:List QP)(x:Id)(y:Q4):¬Vc j gone x 0 y:=by rintro⟨d,h,_⟩;simp at h
theorem Ht{j gone:List QP}{x:Id}{k:Nat}(h:k<j.length)(O:j[k].n=x->j[k]∈gone)(y:Q4):Vc j gone x (k+1) y↔Vc j gone x k y:=by
 unfold Vc;constructor
 ·rintro⟨d,D,J,E,I⟩;rcases (Vx h d).1 D with D|rfl;·exact⟨d,D,J,E,I⟩
  exact absurd (O J) E
 rintro⟨d,D,E,I⟩;exact⟨d,(Vx h d).2 (.inl D),E,I⟩
theorem Hu{j gone:List QP}{x:Id}{k:Nat}(h:k<j.length)(Q:j[k].n=x)(O:j[k]∉gone)(y:Q4):Vc j gone x (k+1) y↔y=j[k].b\/Vc j gone x k y:=by
 unfold Vc;constructor
 ·rintro⟨d,D,J,I,E⟩;rcases (Vx h d).1 D with D|rfl;·exact .inr ⟨d,D,J,I,E⟩
  exact .inl E.symm
 rintro(rfl|⟨d,D,I,E⟩);·exact⟨_,(Vx h _).2 (.inr rfl),Q,O,rfl⟩
 exact⟨d,(Vx h d).2 (.inl D),I,E⟩
def La(h gone:List QP)(x:Id)(w:World)(e:Ending)(w':World):Prop:=
 ∃(v:Value)(L:List Q4),e=.returned v/\w'.ownsRow w 27 2 v L.length (L.flatMap Qv)/\L.Pairwise Q4.Lt/\(∀y,y∈L↔Vc h gone x h.length y)/\Below w w w'
def Hv(L:List Q4)(x:Q4)(n:Nat)(w:World)(v:Value)(i:Value)(wr:World):Prop:=
 ∃P S,L=P++S/\i=.int .i64 (P.length:Nat)/\(∀y∈S,x.Lt y)/\wr.ownsRow w 27 2 v n ((P++x::S).flatMap Qv)/\Below w w wr
def EE(w:World)(g j:Nat)(y x:Q4):World:=
 ((((w.setCell (g,j*2+2) y.T).setCell (g,j*2+2+1) y.R).setCell (g,j*2) x.T).setCell (g,j*2+1) x.R).drew
theorem Lb(w:World)(g j:Nat)(y x:Q4):EE w g j y x=((w.setCells g (j*2+2) (Qv y)).setCells g (j*2) (Qv x)).drew:=rfl
theorem Hw{w:World}{base:Nat}{n g cap j:Nat}{P S:List Q4}{y x:Q4}(D:P.length=j)(h:w.ownsRow base 27 2 (.slice (g,0) n cap) n ((P++y::x::S).flatMap Qv))(E:0<n):(EE w g j y x).ownsRow base 27 2 (.slice (g,0) n cap) n ((P++x::y::S).flatMap Qv):=by have:=F5 (enc:=Qv) (k:=2) (λ_=>rfl) h E;rw[D] at this;rw[Lb];exact ZY this
theorem Hx{B:Nat}{a w:World}(h:Below B a w){g:Nat}(D:B<=g)(j:Nat)(y x:Q4):Below B a (EE w g j y x):=by rw[Lb];exact(Jd (Jd h D _ _) D _ _).drew
theorem Lc{h gone:List QP}{x:Id}{k n:Nat}{w wr:World}{v:Value}{L P S:List Q4}{d:QP}(Q:k<h.length)(Y:∀y,Vc h gone x (k+1) y↔y=d.b\/Vc h gone x k y)(I:L.Pairwise Q4.Lt)(D:∀y,y∈L↔Vc h gone x k y)(Z:L.length<=k)(U:L.length+1=n)(W:d.b∉L)(j:L=P++S)(J:∀y∈S,d.b.Lt y)(E:∀z,P.getLast?=some z->¬d.b.Lt z)(X:wr.ownsRow w 27 2 v n ((P++d.b::S).flatMap Qv))(hb:Below w w wr):L9 h gone x w v (.int .i64 ((k:Int)+1)) wr:=by
 have O:(P++d.b::S).length=n:=by rw[<-U,j];simp;omega
 refine⟨k+1,Q,by rfl,P++d.b::S,by rw[O];exact X,?_,λy=>?_,by omega,hb⟩;·exact Er YE (j▸I) (j▸W) J E
 rw[DP,Y y,<-j,D y]
theorem AK:(Tryz.prog.info? 27).map (λi=>(i.zero,i.size,i.bytes))=some (some (.agg #[(0:Int),(0:Int)]),2,16):=by kernel_rfl
theorem Yp{w:World}{b j:Nat}{e:TypeId}{K n:Nat}{v:Value}{xs:List Value}(h:w.ownsRow b e K v n xs)(hb:j<=b):w.ownsRow j e K v n xs:=
 ⟨h.1,h.2.imp id λ⟨g,cap,D,E,I,r⟩=>⟨g,cap,D,E,Q9 hb I,r⟩⟩
theorem Hy(x:Q4):∀u∈Qv x,u.oneCell'=true:=by intro u h;simp[Qv] at h;rcases h with rfl|rfl<;>rfl
theorem Hz(Z gone:List QP)(x:Id)(A A':Option Addr)(n c n' c' B:Nat)(w:World)(hR:Rd w B 5 (.slice A n c) n (Z.flatMap QR))(aD:Rd w B 5 (.slice A' n' c') n' (gone.flatMap QR))(hB:B<=w)(hn:n<=100000):Calls Tryz.prog 69 #[.slice A n c,.slice A' n' c',Qa x] w (La Z gone x w):=by
 obtain⟨_,bc,aP⟩:=hR.len;unfold maxLen at aP;obtain rfl:=QL QR 5 (λ_=>rfl) (by decide) hR.1;have ay:=Ki hR;have az:=Ki aD;clear hR aD;obtain⟨i0,hi,aZ,b3,b4⟩:=Zc AK;unfold Qa;go_enter Tryz.func69,Tryz.ntmps69;go_wp2;obtain⟨O,ab⟩:∃W,w.alloc (.cells x 60)=W:=⟨_,rfl⟩;have ai:Q0 w O:=by rw[<-ab];exact(Q0.refl w).alloc _
 have aG:=bn ab;have aX:O.heap.size=w.heap.size+1:=by rw[<-ab,Qy]
 rw[ab];have HW:=Ki ai.below;have HR:=Ki (ay.o.below' ai.below hB);have aL:=Ki (az.o.below' ai.below hB);have aA:B<=O:=by omega
 have aB:w.heap.size<O.heap.size:=by omega
 have aw:=Ki aG;clear ab ai aG ay az aX;obtain⟨bx,aO⟩:=ex (w.heap.size);rw[aO] at aw aB |-;go_loopw [7,8] (λb5 i wr=>L9 Z gone x O b5 i wr) (λ_ i _=>Z.length-(intOf i).toNat);case atStart=>exact⟨0,Qh _,rfl,[],J8 _ _ _ _,List.Pairwise.nil,λy=>by simp[Hs],Q3 _,Qc _ _⟩
 case round=>
  obtain⟨k,hk,rfl,L,hO,hS,hM,hL,hb⟩:=hrel;obtain⟨Av,cv,rfl,b7,b8⟩:=(Rd.of_own hO).form;have X:=Ki hO;have HS:=Ki hS;have HM:=Ki hM;clear hO hS hM;obtain⟨I,rfl⟩:∃I:World,I=wr:=⟨_,rfl⟩;by_cases aa:k<Z.length
  ·obtain⟨b,o,rfl,b6,aH⟩:=Qr QR 5 (λ_=>rfl) (by decide) HR.o aa;have aN:b<O:=(by omega);have a2:∀j u,(QR Z[k])[j]?=some u->I.cell? ⟨b,o+k*5+j,none⟩=some u:=λj u hu=>(hb.cell (p:=⟨b,o+k*5+j,none⟩) aN).trans (aH j u hu);have aY:=aB;have ad:=(hb.block _ aY).trans aw.o;have am:=Ki (λh=>Ht (gone:=gone) (x:=x) aa h);have ag:=Ki (λh=>Hu (gone:=gone) (x:=x) aa h);obtain⟨d,hd⟩:=ex (Z[k]);rw[hd] at a2 am ag;clear hd;have ac:=hb.size;have a9:b<I.heap.size:=(by omega);have d0:∀n os,(Sort.grow (I.drewN n) os).cell? ⟨b,o+k*5,none⟩=some (.int .i64 d.n.s.T):=λn os=>QG a9 (a2 0 _ rfl) n os;have d1:∀n os,(Sort.grow (I.drewN n) os).cell? (b,o+k*5+1)=d.n.s.R:=λn os=>QG a9 (a2 1 _ rfl) n os;have d2:∀n os,(Sort.grow (I.drewN n) os).cell? (b,o+k*5+2)=d.n.I:=λn os=>QG a9 (a2 2 _ rfl) n os;have d3:∀n os,(Sort.grow (I.drewN n) os).cell? (b,o+k*5+3)=d.b.T:=λn os=>QG a9 (a2 3 _ rfl) n os;have d4:∀n os,(Sort.grow (I.drewN n) os).cell? (b,o+k*5+4)=d.b.R:=λn os=>QG a9 (a2 4 _ rfl) n os;have x0:∀n os,(Sort.grow (I.drewN n) os).cell? (bx,0)=x.s.T:=λn os=>Ym ad n os 0;have x1:∀n os,(Sort.grow (I.drewN n) os).cell? (bx,1)=x.s.R:=λn os=>Ym ad n os 1;have x2:∀n os,(Sort.grow (I.drewN n) os).cell? (bx,2)=x.I:=λn os=>Ym ad n os 2;have aq:∀n os,Below O O (Sort.grow (I.drewN n) os):=λn os=>hb.trans ((Q0.below (show Q0 I _ from⟨n,os,rfl⟩)).mono ac)
   have U:=Ki (λn os=>OG gone d A' n' c' B (Sort.grow (I.drewN n) os) (aL.o.below' (aq n os) aA) (Q9 aA (aq n os).size));have HH:=Ki (λn os=>OF L d.b Av L.length cv I (Sort.grow (I.drewN n) os) ((Rd.of_own X.o).below' (Q0.below (show Q0 I _ from⟨n,os,rfl⟩)) (Q3 _)) (Q0.below (show Q0 I _ from⟨n,os,rfl⟩)).size);unfold JH at U;unfold QU at HH;have Q:=Ki (λj u (hu:(QR d)[j]?=some u)=>a2 j u hu);have af:=Ki ad;have hE:=F4 d.n x;have hq:=F1;have aT:=ZR;have i1:(0:Int)<=(k:Int):=(by omega);have i2:(k:Int)<(Z.length:Int):=(by omega);have hw:IntKind.i64.wrap (k:Int)=k:=QO _ (by omega);clear aH a2 ad aq;by_cases hx:d.n=x
   ·rw[QF hx] at hE;have HX:=Ki hx;clear hx;by_cases a6:d∈gone
    ·have HG:=Ki a6;rw[QF a6] at U;clear a6;go_wp2;refine QK (by kernel_rfl) (by kernel_rfl) ?_;repeat (quiet_step ((go_at_call 119;exact Qk (U.o _ _))))
     refine QN ?_;rintro W ⟨⟨nq,J⟩,D⟩;have E:Q0 I W:=⟨nq,J,D⟩;have a4:=Ki (hb.trans (E.below.mono ac));have Y:=Ki (QB X.o E.below);clear D E d0 d1 d2 d3 d4 x0 x1 x2 hb X U HH af Q;go_wp2;go_roundw;case rel=>exact⟨k+1,by omega,by go_num,L,Y.o,HS.o,λy=>by rw[am.o λ_=>HG.o];exact HM.o y,by omega,a4.o⟩
     case measure=>simp[intOf];omega
    have HG:=Ki a6;rw[Zo a6] at U;clear a6;by_cases a7:d.b∈L
    ·have HI:=Ki a7;rw[QF a7] at HH;clear a7;go_wp2;refine QK (by kernel_rfl) (by kernel_rfl) ?_;repeat (quiet_step (first|(go_at_call 119;exact Qk (U.o _ _))|(go_at_call 114;exact Qk (HH.o _ _))))
     refine QN ?_;rintro W ⟨⟨nq,J⟩,D⟩;have E:Q0 I W:=⟨nq,J,D⟩;have a4:=Ki (hb.trans (E.below.mono ac));have Y:=Ki (QB X.o E.below);clear D E d0 d1 d2 d3 d4 x0 x1 x2 hb X U HH af Q;go_wp2;go_roundw
     case rel=>exact⟨k+1,by omega,by go_num,L,Y.o,HS.o,λy=>by
      rw[ag.o HX.o HG.o,HM.o y];constructor;·exact .inr
      rintro(rfl|h);·exact(HM.o _).1 HI.o
      exact h,by omega,a4.o⟩
     case measure=>simp[intOf];omega
    have HI:=Ki a7;rw[Zo a7] at HH;clear a7;go_wp2;refine QK (by kernel_rfl) (by kernel_rfl) ?_;repeat (quiet_step (first|(go_at_call 119;exact Qk (U.o _ _))|(go_at_call 114;exact Qk (HH.o _ _))))
    refine QN ?_;rintro W ⟨⟨nq,J⟩,D⟩;have E:Q0 I W:=⟨nq,J,D⟩;have a8:=hb.trans (E.below.mono ac);have ao:=Ki (QB X.o E.below);have e3:=D▸d3 nq J;have e4:=D▸d4 nq J;clear D E d0 d1 d2 d3 d4 x0 x1 x2 hb X U HH af Q hE hq aT;go_wp2_with (at_builtin;refine Yf _ rfl _ _ 70 rfl O 27 i0 _ 2 16 G1 hi aZ b3 b4 rfl (by decide) _ _ _ rfl (ao.o.alloc _) ⟨W.heap.size,0,none⟩ 1 1 (Qv d.b) rfl rfl ?qc2 (Hy d.b) ?qc4 ?qc5 ?qc6 ?_);case qc2=>exact Zd W (Qv d.b) 27
    case qc4=>unfold maxLen;omega
    case qc5=>omega
    case qc6=>have:=a8.size;simp;omega
    intro v' W4 aK aI _;obtain⟨g,cap,rfl,aR,aS,aU,au⟩:=Ui aK
    have aF:Below O O W4:=(a8.alloc a8.size _).grown aI (by have:=a8.size;simp;omega) (λj hj=>by
     rcases (ao.o).lt j hj with⟨h1,_⟩
     exact h1)
    clear aK;obtain⟨n1,ar⟩:=ex (L.length+1);have ba:L.length<n1:=(by omega);have bb:n1<=k+1:=(by omega);rw[ar] at au aS |-;have al:=Ki ar;have ax:=Ki au;unfold maxLen at aU;clear aI au ao a8 ar e3 e4;go_wp2;go_loopw [9] (λi wr=>Hv L d.b n1 O (.slice (g,0) n1 cap) i wr) (λi _=>(intOf i).toNat);case atStart=>exact⟨L,[],by simp,by have:=al.o;congr 1;omega,by simp,ax.o,aF⟩
    case round=>
     obtain⟨P,S,aC,rfl,aE,ap,a3⟩:=hrel;have ae:=Ki aC;have an:=Ki aE;have a5:=Ki ap;have aj:=(ap.lt g rfl).2;clear aC aE ap aF ax;rcases Ky P with rfl|⟨P',y,rfl⟩;·go_wp2;go_quiet (fail);go_wp2;exact⟨Lc aa (ag.o HX.o HG.o) HS.o HM.o hL al.o HI.o ae.o an.o (by simp) (QB a5.o ((Q0.refl wr).drewN nq).below) (a3.trans (((Q0.refl wr).drewN nq).below.mono a3.size)),by simp[intOf];omega⟩
     obtain⟨j,hj⟩:=ex (P'.length);have aJ:((P'++[y]).length:Int)=(j:Int)+1:=(by rw[Qj,hj];rfl);rw[aJ];have hM:(P'++[y])++d.b::S=P'++y::d.b::S:=(by simp);rw[hM] at a5;have b9:j+1<n1:=(by have:=Xz List.length ae.o;simp at this;omega);have cy:∀r u,(Qv y)[r]?=some u->wr.cell? (g,j*2+r)=some u:=λr u hu=>(X8 a5.o _ u (hj▸YJ Qv 2 (λ_=>rfl) P' (d.b::S) y r u hu)).1
     have cx:∀r u,(Qv d.b)[r]?=some u->wr.cell? (g,(j+1)*2+r)=some u:=λr u hu=>(X8 a5.o _ u (by
      have:=YJ Qv 2 (λ_=>rfl) (P'++[y]) S d.b r u hu;rw[Qj,hj] at this
      simpa using this)).1
     have aV:(j+1)*2=j*2+2:=(by omega);rw[aV] at cx;have HJ:=Ki hj;have Q:=Ki (λw=>G9 d.b y w);unfold QU at Q;have a0:∀n os,(Sort.grow (wr.drewN n) os).cell? (g,j*2)=y.T:=λn os=>QG aj (cy 0 _ rfl) n os;have a1:∀n os,(Sort.grow (wr.drewN n) os).cell? (g,j*2+1)=y.R:=λn os=>QG aj (cy 1 _ rfl) n os;have b0:∀n os,(Sort.grow (wr.drewN n) os).cell? (g,j*2+2)=d.b.T:=λn os=>QG aj (cx 0 _ rfl) n os;have b1:∀n os,(Sort.grow (wr.drewN n) os).cell? (g,j*2+3)=d.b.R:=λn os=>QG aj (cx 1 _ rfl) n os;have i1:(0:Int)<=(j:Int)+1:=(by omega);have i2:(j:Int)+1<(n1:Int):=(by omega);have i3:(0:Int)<=(j:Int):=(by omega);have i4:(j:Int)<(n1:Int):=(by omega);clear hj aJ hM cx cy;by_cases hc:d.b.lt y=true
     ·have ak:=Ki hc;rw[hc] at Q;clear hc;have hw:IntKind.i64.wrap (j:Int)=j:=QO _ (by omega);go_wp2;refine QK (by kernel_rfl) (by kernel_rfl) ?_;repeat (quiet_step ((go_at_call 120;exact Qk (Q.o _))))
      refine QN ?_;rintro W ⟨⟨nq,J⟩,D⟩;have E:Q0 wr W:=⟨nq,J,D⟩;have ah:=a3.trans (E.below.mono a3.size);have av:=QB a5.o E.below;have A0:=D▸a0 nq J;have A1:=D▸a1 nq J;have B0:=D▸b0 nq J;have B1:=D▸b1 nq J;have aQ:=YY av (by omega);have Y:=Ki av;clear D E a3 av a0 a1 b0 b1;go_wp2;go_region;have aM:=Ki (Hw HJ.o Y.o (by omega));have a4:=Ki (Hx ah aR j y d.b);change Exit.inBlock _ _ _ _ (EE W g j y d.b);generalize EE W g j y d.b=W5 at *;clear A0 A1 B0 B1 aQ Y ah;go_wp2;go_roundw
      case rel=>
       refine⟨P',y::S,?_,?_,?_,?_,?_⟩;·rw[ae.o];simp
       ·rw[HJ.o]
       ·intro z hz;rcases QI.1 hz with rfl|hz;·exact(Kk _ _).1 ak.o
        exact an.o z hz
       ·exact aM.o
       exact a4.o
      case measure=>simp[intOf]
     have ak:=Ki hc;rw[show d.b.lt y=false from by simpa using hc] at Q;clear hc;have hw:IntKind.i64.wrap (j:Int)=j:=QO _ (by omega);go_wp2;refine QK (by kernel_rfl) (by kernel_rfl) ?_;repeat (quiet_step ((go_at_call 120;exact Qk (Q.o _))))
     refine QN ?_;rintro W ⟨⟨nq,J⟩,D⟩;have E:Q0 wr W:=⟨nq,J,D⟩;have ah:=a3.trans (E.below.mono a3.size);have Y:=Ki (QB a5.o E.below);clear D E a3 a0 a1 b0 b1;go_wp2
     exact⟨Lc (P:=P'++[y]) (S:=S) aa (ag.o HX.o HG.o) HS.o HM.o hL al.o HI.o ae.o an.o (by
      intro z hz;have:y=z:=(by simpa using hz);subst this;intro h
      exact ak.o ((Kk _ _).2 h)) (by simpa using Y.o) ah,by simp[intOf];omega⟩
   rw[Zo hx] at hE;have HX:=Ki hx;clear hx;go_wp2;refine QK (by kernel_rfl) (by kernel_rfl) ?_;repeat (quiet_step (fail))
   refine QN ?_;rintro W ⟨⟨nq,J⟩,D⟩;have E:Q0 I W:=⟨nq,J,D⟩;have a4:=Ki (hb.trans (E.below.mono ac));have Y:=Ki (QB X.o E.below);clear D E d0 d1 d2 d3 d4 x0 x1 x2 hb X U HH af Q;go_wp2;go_roundw;case rel=>exact⟨k+1,by omega,by go_num,L,Y.o,HS.o,λy=>by rw[am.o λh=>absurd h HX.o];exact HM.o y,by omega,a4.o⟩
   case measure=>simp[intOf];omega
  have aW:k=Z.length:=(by omega);subst aW;go_wp2;go_ret;exact⟨_,L,rfl,Yp X.o (by omega),HS.o,HM.o,HW.o.trans (hb.mono (by omega))⟩
end Go.Proofs.YtfpafikfjjckeaaGreatDoor
