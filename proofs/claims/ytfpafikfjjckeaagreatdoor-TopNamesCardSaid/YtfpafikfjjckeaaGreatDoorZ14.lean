import Derived.Test.YtfpafikfjjckeaaGreatDoorZ13
set_option maxRecDepth 100000
set_option maxHeartbeats 200000000
namespace Go.Proofs.YtfpafikfjjckeaaGreatDoor
open Go Go.RowKit Go.Maps
theorem Yi:type_of% @AllReady.cons:=@AllReady.cons
theorem Yj:type_of% @AllReady.nil:=@AllReady.nil
theorem Yk:type_of% @wpAny_ready:=@wpAny_ready
def UY(s:Q4)(k:Nat):Id:=if h:Qu (k:Int) then ⟨s,k,h⟩ else Qf
theorem Co{s:Q4}{k:Nat}(h:k<=1000000):UY s k=⟨s,k,by unfold Qu;omega⟩:=by unfold UY;rw[dif_pos]
def VB(o:Qt):Q2:=⟨o.node,o.up,o.name,o.dir⟩
def Z0(s:Q4)(h:Bool)(k:Nat)(o:Qt)(S:VS):VS:=
 { at_:=S.at_++(if o.k=0\/(o.k=1/\h=true) then [UY s k] else []),td:=S.td++(if o.k=0\/(o.k=1/\h=true) then [VB o] else []),hv:=S.hv++(if h=true/\o.k≠2 then [⟨o.node,s⟩] else []),gn:=S.gn++(if h=true then o.dots.map (λd=>⟨o.node,d⟩) else []),fd:=if o.k=0 then λy=>if y=o.node then some o.dir else S.fd y else S.fd }
def X0(s:Q4)(h:Bool):Nat->List Qt->VS->VS|_,[],S=>S|k,o::t,S=>X0 s h (k+1) t (Z0 s h k o S)
theorem Lp(s:Q4)(h:Bool):∀(a b:List Qt)(k:Nat)(S:VS),X0 s h k (a++b) S=X0 s h (k+a.length) b (X0 s h k a S)|[],b,k,S=>rfl|o::a,b,k,S=>by rw[JB,X0,X0,Lp s h a b (k+1) _,Z4];congr 1;omega
theorem Wb{s:Q4}{j:Bool}{l:List Qt}{k:Nat}{S:VS}(h:k<l.length):X0 s j 0 (l.take (k+1)) S=Z0 s j k l[k] (X0 s j 0 (l.take k) S):=by rw[QQ h,Lp,Zi,JC (by omega),V7];rfl
theorem Wc(s:Q4)(h:Bool)(k:Nat)(o:Qt)(S:VS):(Z0 s h k o S).at_.length<=S.at_.length+1:=by unfold Z0;dsimp only;rw[Qj];split<;>simp
theorem Wd(s:Q4)(h:Bool)(k:Nat)(o:Qt)(S:VS):(Z0 s h k o S).td.length<=S.td.length+1:=by unfold Z0;dsimp only;rw[Qj];split<;>simp
theorem We(s:Q4)(h:Bool)(k:Nat)(o:Qt)(S:VS):(Z0 s h k o S).hv.length<=S.hv.length+1:=by unfold Z0;dsimp only;rw[Qj];split<;>simp
theorem Wf(s:Q4)(h:Bool)(k:Nat)(o:Qt)(S:VS):(Z0 s h k o S).gn.length<=S.gn.length+o.dots.length:=by unfold Z0;dsimp only;rw[Qj];split<;>simp
def Sz(S:VS)(a d:Nat):Prop:=S.at_.length<=a/\S.td.length<=a/\S.hv.length<=a/\S.gn.length<=d
theorem Sz.step{S:VS}{a d:Nat}(h:Sz S a d)(s:Q4)(j:Bool)(k:Nat)(o:Qt):Sz (Z0 s j k o S) (a+1) (d+o.dots.length):=by obtain⟨D,E,I,J⟩:=h;have:=Wc s j k o S;have:=Wd s j k o S;have:=We s j k o S;have:=Wf s j k o S;exact⟨by omega,by omega,by omega,by omega⟩
def AS(base p I J O N:Nat)(fo:Q4->Option Unit)(E Q:Z3)(D:Nat)(g:Q1)(h:Bool)(S:VS)(a d:Nat)(w:World)(i:Value)(wr:World):Prop:=
 ∃k:Nat,k<=g.ops.length/\i=.int .i64 k/\Sz (X0 g.s h 0 (g.ops.take k) S) (a+k) (d+1000*k)/\(∃U Y X W j,j<=N+k/\Vw wr base p I J O j fo (X0 g.s h 0 (g.ops.take k) S).fd E Q (ZH U (X0 g.s h 0 (g.ops.take k) S).at_) (ZI Y (X0 g.s h 0 (g.ops.take k) S).td) (QV X (X0 g.s h 0 (g.ops.take k) S).hv) (J3 W (X0 g.s h 0 (g.ops.take k) S).gn)) /\
  wr.heap[D]?=some (.cells (Qg g).toArray 31 (0,0))/\Below base w wr
def Wg(base p E I J N:Nat)(fo:Q4->Option Unit)(D O:Z3)(h:VS)(w:World)(e:Ending)(w':World):Prop:=
 e=.returned (.tuple #[])/\(∃Q X W U j,j<=N/\Vw w' base p E I J j fo h.fd D O (ZH Q h.at_) (ZI X h.td) (QV W h.hv) (J3 U h.gn))/\Below base w w'
theorem Ga.mono{w0 w:World}{base p J O Q N j:Nat}{fo:Q4->Option Unit}{I U:Z3}{D E:Nat}{g:Q1}{o:Qt}{S:VS}{W Z Y X:Value}(h:Ga w0 base p J O Q N fo I U D E g o S W Z Y X w)(hN:N<=j):Ga w0 base p J O Q j fo I U D E g o S W Z Y X w:=by obtain⟨n2,hn,hv⟩:=h.vw;exact⟨⟨n2,Q9 hn hN,hv⟩,h.c3,h.c6,h.bel,h.bl⟩
theorem Cp(x:QP):∀u∈QR x,u.oneCell'=true:=by intro u h;simp[QR] at h;rcases h with rfl|rfl|rfl|rfl|rfl<;>rfl
def Lq(w0:World)(base p I J O N:Nat)(fo:Q4->Option Unit)(E Q:Z3)(h D:Nat)(g:Q1)(o:Qt)(U:Bool)(T:VS)(gn:List QP)(W Z Y:Value)(i:Value)(wr:World):Prop:=
 ∃j:Nat,j<=o.dots.length/\i=.int .i64 j/\∃X,Ga w0 base p I J O N fo E Q h D g o { T with gn:=gn++if U=true then (o.dots.take j).map (λd=>(⟨o.node,d⟩:QP)) else [] } W Z Y X wr
theorem EL:(Tryz.prog.info? 124).map (λi=>(i.zero,i.size,i.bytes))=some (some (.agg #[.int .i64 0,.int .i64 0,.int .i64 0,.int .i64 0,.int .i64 0,.int .i64 0,.string ⟨#[]⟩,.bool false]),8,72):=by kernel_rfl
theorem Lr:(Tryz.prog.info? 171).map (λi=>(i.zero,i.size,i.bytes))=some (some (.agg #[.int .i64 0,.int .i64 0,.int .i64 0,.int .i64 0,.int .i64 0]),5,40):=by kernel_rfl
theorem UZ:(Tryz.prog.info? 60).map (λi=>(i.zero,i.size,i.bytes))=some (some (.agg #[.int .i64 0,.int .i64 0,.int .i64 0]),3,24):=by kernel_rfl
theorem Wh(g:Q1)(B a d:Nat){w:World}{base p m1 m2 n1 N:Nat}{fo:Q4->Option Unit}{gr nm:Z3}{S:VS}{va vt vh vg:Value}(hv:∃n2,n2<=N/\Vw w base p m1 m2 n1 n2 fo S.fd gr nm (ZH va S.at_) (ZI vt S.td) (QV vh S.hv) (J3 vg S.gn))(hg:X4 w B g)(hB:B<=base)(bp:base<=w.heap.size)(hS:Sz S a d)(ha:a+g.ops.length<=1000000)(hd:d+1000*g.ops.length<=1000000)(hN:N+g.ops.length<=1000000)(bq:∀o∈g.ops,o.dots.length<=1000):Calls Tryz.prog 45 #[.pointer (some ⟨p,0,none⟩),Z2 g] w (Wg base p m1 m2 n1 (N+g.ops.length) fo gr nm (X0 g.s (fo g.s).isSome 0 g.ops S) w):=by
 obtain⟨n2,ah,hV⟩:=hv;have aW:=Kj (g.ov.n=g.ops.length) ((Rd.len hg.o).1);have HR:=Ki (λW (hW:Below base w W)=>(show X4 W B g from⟨hg.d.keep (λp hp=>hW.cell (by omega)),hg.i,hg.o.keep (λp hp=>hW.cell (by omega)),λo ho=>⟨(hg.a o ho).d.keep (λp hp=>hW.cell (by omega)),(hg.a o ho).e.keep (λp hp=>hW.cell (by omega))⟩⟩));obtain⟨J,bb⟩:∃b,(fo g.s).isSome=b:=⟨_,rfl⟩;have HI:=Ki (λW (hW:Below w.heap.size w W)=>L8 (hV.below hW) g.s);rw[bb] at HI;rw[bb];have HV:=Ki hV;have aF:=Ki bp;have bg:=Ki hS;have aS:=Ki bq;clear hg bb hV hS bq bp;obtain⟨bY,bS,ca,cb,cc⟩:=Zc UZ;obtain⟨bX,bR,c5,c7,c8⟩:=Zc EL;obtain⟨bx,br,bC,bD,bE⟩:=Zc Lr;unfold Z2;go_enter Tryz.func45,Tryz.ntmps45;go_upto_region 1 with(fail);obtain⟨W1,aJ⟩:∃W,w.alloc (.cells (Qg g).toArray 31)=W:=⟨_,rfl⟩;have aM:Below w.heap.size w W1:=by rw[<-aJ];exact(Qc _ w).alloc (Q3 _) _
 have h3:W1.heap[w.heap.size]?=some (.cells (Qg g).toArray 31 (0,0)):=by rw[<-aJ];exact Qi w _
 rw[aJ];clear aJ;obtain⟨I,b4⟩:∃b,w.heap.size=b:=⟨_,rfl⟩;have cd:=Ki b4;have aV:=Ki (HI.o W1 aM);have bh:=Ki (HV.o.below aM);have aQ:=Ki (aM.mono aF.o);rw[b4] at h3 |-;have c0:W1.cell? ⟨I,0,none⟩=some (.int .i64 g.s.T):=cell_of_row W1 I 0 _ _ _ h3;have c1:W1.cell? ⟨I,1,none⟩=some (.int .i64 g.s.R):=cell_of_row W1 I 1 _ _ _ h3;have H3:=Ki h3;have bt:I<W1.heap.size:=(Q5.1 h3).1;clear h3 aM b4 HI HV;unfold QU at aV;go_wp2_with fail;refine aV.o.mono ?_;rintro e2 W2 ⟨rfl,aP⟩;have aH:=(aP.below.block I bt).trans H3.o;have bP:W2.cell? ⟨I,6,none⟩=some (.slice g.ov.A g.ov.n g.ov.c):=cell_of_row W2 I 6 _ _ _ aH;have bi:=Ki (bh.o.below aP.below);have bF:=Ki aH;have be:=Ki (aQ.o.trans (aP.below.mono (Q9 aF.o aQ.o.size)));have ax:=Kj (AS base p m1 m2 n1 N fo gr nm I g J S a d w (.int .i64 (0:Nat)) W2) ⟨0,Qh _,rfl,bg.o,⟨va,vt,vh,vg,n2,by omega,bi.o⟩,aH,be.o⟩;clear aH aP c0 c1 bt aV bh aQ bi be bg H3 bF ah;go_wp2;go_loopw [16] (λi wr=>AS base p m1 m2 n1 N fo gr nm I g J S a d w i wr) (λi _=>g.ops.length-(intOf i).toNat);case atStart=>exact ax.o
 case round=>
  clear ax bP;obtain⟨k,hk,rfl,aD,⟨va,vt,vh,vg,n2,ah,hV⟩,h3,aB⟩:=hrel;obtain⟨D,ao⟩:∃T,X0 g.s J 0 (g.ops.take k) S=T:=⟨_,rfl⟩;rw[ao] at aD hV;by_cases ba:k<g.ops.length
  ·obtain⟨bo,oo,e1,cf,b5⟩:=Qr Qp 18 (λ_=>rfl) (by decide) (by have h:=(HR.o wr aB).o;unfold Sl.v at h;rw[<-aW.o] at h;exact h) ba;obtain⟨o,ho⟩:∃o,g.ops[k]=o:=⟨_,rfl⟩;rw[ho] at b5;have bO:=Ki b5;have aw:=Kj (o∈g.ops) (ho▸Zt ba);have bf:=Ki (show X0 g.s J 0 (g.ops.take (k+1)) S=Z0 g.s J k o D by rw[Wb ba,ho,ao]);have ch:(0:Int)<=(k:Int):=(by omega);have bQ:(k:Int)<(g.ov.n:Int):=(by have:=aW.o;omega);rw[e1];have HV:=Ki hV;have H3:=Ki h3;have au:=Ki aB;have HZ:=Ki aD;have bN:=Ki (aD.step g.s J k o);clear b5 hV h3 aB ho ao aD;go_upto_region 5 with(first|((with_reducible refine Ql 72 ?_);refine QA rfl 72 _ rfl _ _ _ rfl bO.o (by kernel_rfl) (Z6 _) ?_)|((with_reducible refine Zm 72 ?_);refine Zp rfl 72 _ _ rfl _ _ rfl rfl _ _ (Qi _ _) (by kernel_rfl) rfl (by kernel_rfl) ?_;rw[Xm,Zn]));obtain⟨W4,aK⟩:∃W,wr.alloc (.cells (Qp o).toArray 72)=W:=⟨_,rfl⟩;have h6:W4.heap[wr.heap.size]?=some (.cells (Qp o).toArray 72 (0,0)):=(by rw[<-aK];exact Qi wr _);have aN:Below wr.heap.size wr W4:=(by rw[<-aK];exact(Qc _ wr).alloc (Q3 _) _);rw[aK];clear aK;have af:=Kj (Ga w base p m1 m2 n1 (N+k) fo gr nm I wr.heap.size g o D va vt vh vg W4) ⟨⟨n2,ah,HV.o.below aN⟩,(aN.block I (Q5.1 H3.o).1).trans H3.o,h6,au.o.trans (aN.mono (Q9 aF.o au.o.size)),aF.o⟩;obtain⟨j,bk⟩:∃b,wr.heap.size=b:=⟨_,rfl⟩;rw[bk] at af |-;clear bk h6 aN HV H3 au ah;have ck:W4.cell? ⟨j,0,none⟩=some (.int .i64 o.k):=cell_of_row W4 j 0 _ _ _ af.o.c6;go_upto_if 23 with(fail)
   go_cut [] from 24 to 31 (λwx=>Ga w base p m1 m2 n1 (N+k+1) fo gr nm I j g o { D with fd:=(Z0 g.s J k o D).fd } va vt vh vg wx)
   case first=>
    by_cases h0:o.k=0
    ·have hx:(o.k==0)=true:=(by rw[h0];rfl);obtain⟨w6,bU,bj⟩:=af.o.drew.dir (by unfold maxLen;omega) o.node o.dir
     have aX:=Ki (show Ga w base p m1 m2 n1 (N+k+1) fo gr nm I j g o { D with fd:=(Z0 g.s J k o D).fd } va vt vh vg w6 by
      have e:(Z0 g.s J k o D).fd=λy=>if y=o.node then some o.dir else D.fd y:=by unfold Z0;rw[Q7 h0]
      rw[e]
      exact bj)
     obtain⟨n2,_,a0⟩:=af.o.vw;have k5:W4.cell? ⟨p,5,none⟩=some (.map (some m2)):=cell_of_row W4 p 5 _ _ _ a0.box;have k1:W4.cell? ⟨j,1,none⟩=some (.int .i64 o.node.s.T):=cell_of_row W4 j 1 _ _ _ af.o.c6;have k2:W4.cell? ⟨j,2,none⟩=some (.int .i64 o.node.s.R):=cell_of_row W4 j 2 _ _ _ af.o.c6;have k3:W4.cell? ⟨j,3,none⟩=some (.int .i64 o.node.I):=cell_of_row W4 j 3 _ _ _ af.o.c6;have k8:W4.cell? ⟨j,8,none⟩=some (.bool o.dir):=cell_of_row W4 j 8 _ _ _ af.o.c6;unfold Qa at bU;clear a0 bj h0;go_wp2;go_region;go_wp2;go_meet;case rel=>exact aX.o
    have hx:(o.k==0)=false:=Xg.2 h0
    have aX:=Ki (show Ga w base p m1 m2 n1 (N+k+1) fo gr nm I j g o { D with fd:=(Z0 g.s J k o D).fd } va vt vh vg W4 by
     have e:(Z0 g.s J k o D).fd=D.fd:=(by unfold Z0;rw[Q6 h0]);rw[e]
     exact af.o.mono (by omega))
    clear h0;go_wp2;go_meet;case rel=>exact aX.o
   case rest=>
    have aa:=Ki hcut;clear hcut ck af;obtain⟨tb,bv⟩:∃b,decide (o.k=0\/(o.k=1/\J=true))=b:=⟨_,rfl⟩;have aY:=Ki bv;obtain⟨wb,rfl⟩:∃wb:World,wb=wc:=⟨_,rfl⟩;have ck:wb.cell? ⟨j,0,none⟩=some (.int .i64 o.k):=cell_of_row wb j 0 _ _ _ aa.o.c6;clear bv;go_upto_region 7 with(fail);go_cut [42] from 32 to 41 (λv wx=>v=.bool tb/\wx=wb)
    case first=>
     have ht:=aY.o;by_cases h0:o.k=0;·have hx:(o.k==0)=true:=(by rw[h0];rfl);rw[QF (.inl h0)] at ht;subst ht;clear h0;go_wp2;go_meet;case rel=>exact⟨rfl,rfl⟩
     have hx:(o.k==0)=false:=Xg.2 h0;by_cases h1:o.k=1;·have bW:(o.k==1)=true:=(by rw[h1];rfl);have e:tb=J:=(by rw[<-ht,Js];simp[h1]);subst e;clear h0 h1 ht;go_wp2;go_meet;case rel=>exact⟨rfl,rfl⟩
     have bW:(o.k==1)=false:=Xg.2 h1;have e:tb=false:=(by rw[<-ht,Js];simp[h0,h1]);subst e;clear h0 h1 ht;go_wp2;go_meet;case rel=>exact⟨rfl,rfl⟩
    case rest=>
     obtain⟨rfl,rfl⟩:=hcut;clear ck;go_upto_if 42 with(fail);go_cut [] from 43 to 73 (λwx=>∃ar bc,Ga w base p m1 m2 n1 (N+k+1) fo gr nm I j g o { D with fd:=(Z0 g.s J k o D).fd,at_:=(Z0 g.s J k o D).at_,td:=(Z0 g.s J k o D).td } ar bc vh vg wx)
     case first=>
      rcases tb with _|_
      ·have ap:=UC aY.o
       have HP:=Ki (show ∃ar bc,Ga w base p m1 m2 n1 (N+k+1) fo gr nm I j g o { D with fd:=(Z0 g.s J k o D).fd,at_:=(Z0 g.s J k o D).at_,td:=(Z0 g.s J k o D).td } ar bc vh vg wc by
        have e1:(Z0 g.s J k o D).at_=D.at_:=(by show D.at_++(if o.k=0\/(o.k=1/\J=true) then [UY g.s k] else [])=_;rw[Q6 ap,ZB]);have e2:(Z0 g.s J k o D).td=D.td:=(by show D.td++(if o.k=0\/(o.k=1/\J=true) then [VB o] else [])=_;rw[Q6 ap,ZB]);rw[e1,e2]
        exact⟨va,vt,aa.o⟩)
       clear ap;go_wp2;go_meet;case rel=>exact HP.o
      have aq:=Y0 aY.o;have e1:(Z0 g.s J k o D).at_=D.at_++[UY g.s k]:=(by show D.at_++(if o.k=0\/(o.k=1/\J=true) then [UY g.s k] else [])=_;rw[Q7 aq]);have e2:(Z0 g.s J k o D).td=D.td++[VB o]:=(by show D.td++(if o.k=0\/(o.k=1/\J=true) then [VB o] else [])=_;rw[Q7 aq]);have cn:(k:Int)<=1000000:=(by omega);have HX:=Ki (show Qe (UY g.s k)=[.int .i64 g.s.T,.int .i64 g.s.R,.int .i64 k] by rw[Co (by omega)];rfl);have E1:=Ki e1;have E2:=Ki e2;have hZ:=HZ.o;unfold Sz at hZ;obtain⟨z1,z2,z3,z4⟩:=hZ;clear aq e1 e2;have bI:=Kj (∀u∈[Value.int .i64 g.s.T,.int .i64 g.s.R,.int .i64 (k:Int)],u.oneCell'=true) (by rw[<-HX.o];exact Vb _);go_upto_region 8 with(fail);go_cut [] from 43 to 55 (λwx=>∃ar,Ga w base p m1 m2 n1 (N+k+1) fo gr nm I j g o { D with fd:=(Z0 g.s J k o D).fd,at_:=(Z0 g.s J k o D).at_ } ar vt vh vg wx)
      case first=>
       obtain⟨n2,ah,a0⟩:=aa.o.vw;have kp:wc.cell? ⟨p,3,none⟩=some va:=cell_of_row wc p 3 _ _ _ a0.box;have bZ:wc.cell? ⟨I,0,none⟩=some (.int .i64 g.s.T):=cell_of_row wc I 0 _ _ _ aa.o.c3;have c2:wc.cell? ⟨I,1,none⟩=some (.int .i64 g.s.R):=cell_of_row wc I 1 _ _ _ aa.o.c3;have ae:wc.ownsRow base 60 3 va D.at_.length (D.at_.flatMap Qe):=a0.fam.own (ZH va D.at_) (by simp);have ak:=Ki ae;have O:=Ki (λE=>(aa.o.drew.below ((Qc _ wc.drew).alloc (Q3 _) E)))
       have HK:=Ki (show ∀E W,(wc.drew.alloc E).grownBy W (va).ownBlock->W.cell? ⟨p,3,none⟩=some va/\W.frozen? ⟨p,3,none⟩=false/\W.cell? ⟨I,0,none⟩=some (.int .i64 g.s.T)/\W.cell? ⟨I,1,none⟩=some (.int .i64 g.s.R) from λE W hg=>by
        obtain⟨n3,_,a2⟩:=(O.o E).vw;have hr:=a2.fam.own (ZH va D.at_) (by simp);have hb:=(hg.block p a2.lt (λe=>a2.fam.free (ZH va D.at_) (by simp) p e.symm (.inl rfl))).trans a2.box;have h3:=(hg.block I (Q5.1 (O.o E).c3).1 (λe=>ZN hr (O.o E).c3 (show(31:TypeId)≠60 by decide) e.symm)).trans (O.o E).c3;have h6:=(hg.block j (Q5.1 (O.o E).c6).1 (λe=>ZN hr (O.o E).c6 (show(72:TypeId)≠60 by decide) e.symm)).trans (O.o E).c6
        exact⟨cell_of_row W p 3 _ _ _ hb,by simp[World.frozen?,hb],cell_of_row W I 0 _ _ _ h3,cell_of_row W I 1 _ _ _ h3⟩)
       have aj:=Kj (base<=wc.heap.size) (Q9 aa.o.bl aa.o.bel.size);have lp:p<wc.heap.size:=a0.lt;have l3:I<wc.heap.size:=(Q5.1 aa.o.c3).1;have l6:j<wc.heap.size:=(Q5.1 aa.o.c6).1;clear a0 ae;go_region_law (refine Ja _ (by rfl) _ _ _ (by rfl) base 60 bY _ 3 24 V0 bS ca cb cc rfl (by omega) _ D.at_.length _ (by rfl) ((ZY ak.o).alloc _) ⟨wc.heap.size,0,none⟩ 1 1 ([.int .i64 g.s.T,.int .i64 g.s.R,.int .i64 (k:Int)]) (by rfl) (by rfl) (Zd wc.drew ([.int .i64 g.s.T,.int .i64 g.s.R,.int .i64 (k:Int)]) 60) (bI.o) (by omega) (by unfold maxLen;omega) (by omega) (by have:=aj.o;simp;omega) _ (by rfl) ?_;intro g4 cap W5 ad a7 ac al;obtain⟨q0,q1,q2,q3⟩:=HK.o _ W5 a7);all_goals have HP:=Ki ((O.o _).push_at_ (UY g.s k) (by rw[HX.o];exact ad) a7 ac);rw[<-E1.o] at HP;clear ad a7 ac al;go_wp2;go_meet;exact⟨_,HP.o⟩
      case rest=>
       obtain⟨ar,hcut⟩:=hcut;have a4:=Ki hcut;have bJ:=Kj (∀u∈([Value.int .i64 o.node.s.T,.int .i64 o.node.s.R,.int .i64 o.node.I,.int .i64 o.up.s.T,.int .i64 o.up.s.R,.int .i64 o.up.I,.string o.name,.bool o.dir]:List Value),u.oneCell'=true) (KB (VB o));obtain⟨Q,rfl⟩:∃Q:World,Q=wc:=⟨_,rfl⟩;clear hcut;go_upto_region 9 with(fail);obtain⟨n2,ah,a0⟩:=a4.o.vw;have kp:Q.cell? ⟨p,4,none⟩=some vt:=cell_of_row Q p 4 _ _ _ a0.box;have bz:Q.cell? ⟨j,1,none⟩=some (.int .i64 o.node.s.T):=cell_of_row Q j 1 _ _ _ a4.o.c6;have bA:Q.cell? ⟨j,2,none⟩=some (.int .i64 o.node.s.R):=cell_of_row Q j 2 _ _ _ a4.o.c6;have bB:Q.cell? ⟨j,3,none⟩=some (.int .i64 o.node.I):=cell_of_row Q j 3 _ _ _ a4.o.c6;have cp:Q.cell? ⟨j,4,none⟩=some (.int .i64 o.up.s.T):=cell_of_row Q j 4 _ _ _ a4.o.c6;have cq:Q.cell? ⟨j,5,none⟩=some (.int .i64 o.up.s.R):=cell_of_row Q j 5 _ _ _ a4.o.c6;have cr:Q.cell? ⟨j,6,none⟩=some (.int .i64 o.up.I):=cell_of_row Q j 6 _ _ _ a4.o.c6;have cu:Q.cell? ⟨j,7,none⟩=some (.string o.name):=cell_of_row Q j 7 _ _ _ a4.o.c6;have cv:Q.cell? ⟨j,8,none⟩=some (.bool o.dir):=cell_of_row Q j 8 _ _ _ a4.o.c6;have ae:Q.ownsRow base 124 8 vt D.td.length (D.td.flatMap Qb):=a0.fam.own (ZI vt D.td) (by simp);have ak:=Ki ae;have O:=Ki (λE=>(a4.o.drew.below ((Qc _ Q.drew).alloc (Q3 _) E)))
       have HK:=Ki (show ∀E W,(Q.drew.alloc E).grownBy W (vt).ownBlock->W.cell? ⟨p,4,none⟩=some vt/\W.frozen? ⟨p,4,none⟩=false/\W.cell? ⟨j,1,none⟩=some (.int .i64 o.node.s.T)/\W.cell? ⟨j,2,none⟩=some (.int .i64 o.node.s.R)/\W.cell? ⟨j,3,none⟩=some (.int .i64 o.node.I)/\W.cell? ⟨j,4,none⟩=some (.int .i64 o.up.s.T)/\W.cell? ⟨j,5,none⟩=some (.int .i64 o.up.s.R)/\W.cell? ⟨j,6,none⟩=some (.int .i64 o.up.I)/\W.cell? ⟨j,7,none⟩=some (.string o.name)/\W.cell? ⟨j,8,none⟩=some (.bool o.dir) from λE W hg=>by
        obtain⟨n3,_,a2⟩:=(O.o E).vw;have hr:=a2.fam.own (ZI vt D.td) (by simp);have hb:=(hg.block p a2.lt (λe=>a2.fam.free (ZI vt D.td) (by simp) p e.symm (.inl rfl))).trans a2.box;have h3:=(hg.block I (Q5.1 (O.o E).c3).1 (λe=>ZN hr (O.o E).c3 (show(31:TypeId)≠124 by decide) e.symm)).trans (O.o E).c3;have h6:=(hg.block j (Q5.1 (O.o E).c6).1 (λe=>ZN hr (O.o E).c6 (show(72:TypeId)≠124 by decide) e.symm)).trans (O.o E).c6
        exact⟨cell_of_row W p 4 _ _ _ hb,by simp[World.frozen?,hb],cell_of_row W j 1 _ _ _ h6,cell_of_row W j 2 _ _ _ h6,cell_of_row W j 3 _ _ _ h6,cell_of_row W j 4 _ _ _ h6,cell_of_row W j 5 _ _ _ h6,cell_of_row W j 6 _ _ _ h6,cell_of_row W j 7 _ _ _ h6,cell_of_row W j 8 _ _ _ h6⟩)
       have aj:=Kj (base<=Q.heap.size) (Q9 a4.o.bl a4.o.bel.size);have lp:p<Q.heap.size:=a0.lt;have l3:I<Q.heap.size:=(Q5.1 a4.o.c3).1;have l6:j<Q.heap.size:=(Q5.1 a4.o.c6).1;clear a0 ae;obtain⟨n3,bu,ai⟩:=a4.o.vw;obtain⟨ab,aA⟩:∃c,Q.heap[p]?=some (.cells c 117 (0,0))/\c[4]?=some vt:=⟨_,ai.box,rfl⟩;obtain⟨ag,aC⟩:=aA;have a1:=Ki (λW (h:W.heap[p]?=some (.cells ab 117 (0,0))/\W.heap[I]?=some (.cells (Qg g).toArray 31 (0,0))/\W.heap[j]?=some (.cells (Qp o).toArray 72 (0,0)))=>(show(λW=>W.cell? ⟨p,4,none⟩=some vt/\W.cell? ⟨j,1,none⟩=some (.int .i64 o.node.s.T)/\W.cell? ⟨j,2,none⟩=some (.int .i64 o.node.s.R)/\W.cell? ⟨j,3,none⟩=some (.int .i64 o.node.I)/\W.cell? ⟨j,4,none⟩=some (.int .i64 o.up.s.T)/\W.cell? ⟨j,5,none⟩=some (.int .i64 o.up.s.R)/\W.cell? ⟨j,6,none⟩=some (.int .i64 o.up.I)/\W.cell? ⟨j,7,none⟩=some (.string o.name)/\W.cell? ⟨j,8,none⟩=some (.bool o.dir)) W from⟨(cell_of_row W p 4 _ _ _ h.1).trans aC,cell_of_row W j 1 _ _ _ h.2.2,cell_of_row W j 2 _ _ _ h.2.2,cell_of_row W j 3 _ _ _ h.2.2,cell_of_row W j 4 _ _ _ h.2.2,cell_of_row W j 5 _ _ _ h.2.2,cell_of_row W j 6 _ _ _ h.2.2,cell_of_row W j 7 _ _ _ h.2.2,cell_of_row W j 8 _ _ _ h.2.2⟩));have a5:Q.drew.heap[p]?=some (.cells ab 117 (0,0))/\Q.drew.heap[I]?=some (.cells (Qg g).toArray 31 (0,0))/\Q.drew.heap[j]?=some (.cells (Qp o).toArray 72 (0,0)):=⟨ag,a4.o.c3,a4.o.c6⟩
       have az:∀E,(Q.drew.alloc E).heap[p]?=some (.cells ab 117 (0,0))/\(Q.drew.alloc E).heap[I]?=some (.cells (Qg g).toArray 31 (0,0))/\(Q.drew.alloc E).heap[j]?=some (.cells (Qp o).toArray 72 (0,0)):=λE=>⟨(Z5 Q.drew E p lp).trans ag,(O.o E).c3,(O.o E).c6⟩;clear ai;refine Jt rfl ?_;change wpAny _ _ _ _ 19 #[false,false,false,false,false,false,false,false,false,false,false,false,false,false,false,false,false,false,false] _ (World.drew _);refine' T0 0 ?_;try simp only[Act.put,PS]
       refine' T0 1 ?_;try simp only[Act.put,PS]
       refine' T0 2 ?_;try simp only[Act.put,PS]
       refine' T0 3 ?_;try simp only[Act.put,PS]
       refine' T0 5 ?_;try simp only[Act.put,PS]
       refine' T0 7 ?_;try simp only[Act.put,PS]
       refine' T0 9 ?_;try simp only[Act.put,PS]
       refine' T0 11 ?_;try simp only[Act.put,PS]
       refine Qn.of (n:=15) (g:=4) (S:=(λW=>W.cell? ⟨p,4,none⟩=some vt/\W.cell? ⟨j,1,none⟩=some (.int .i64 o.node.s.T)/\W.cell? ⟨j,2,none⟩=some (.int .i64 o.node.s.R)/\W.cell? ⟨j,3,none⟩=some (.int .i64 o.node.I)/\W.cell? ⟨j,4,none⟩=some (.int .i64 o.up.s.T)/\W.cell? ⟨j,5,none⟩=some (.int .i64 o.up.s.R)/\W.cell? ⟨j,6,none⟩=some (.int .i64 o.up.I)/\W.cell? ⟨j,7,none⟩=some (.string o.name)/\W.cell? ⟨j,8,none⟩=some (.bool o.dir))) 7 _ _ _ ?_;refine' Qn.take2 (i:=4) (v:=_) rfl (by kernel_rfl) rfl (by kernel_rfl) (by kernel_rfl) (by kernel_rfl) (λ_ _ _ h=>h) (.inl ⟨by rfl,?y9⟩) ?S9 ?_;case y9=>(intro w' X;(try dsimp only at X);go_simp;(try with_reducible rfl))
       case S9=>exact a1.o _ a5
       try simp only[Act.put,PS]
       refine' Qn.take2 (i:=6) (v:=_) rfl (by kernel_rfl) rfl (by kernel_rfl) (by kernel_rfl) (by kernel_rfl) (λ_ _ _ h=>h) (.inl ⟨by rfl,?y10⟩) ?S10 ?_;case y10=>(intro w' X;(try dsimp only at X);go_simp;(try with_reducible rfl))
       case S10=>exact a1.o _ a5
       try simp only[Act.put,PS]
       refine' Qn.take2 (i:=8) (v:=_) rfl (by kernel_rfl) rfl (by kernel_rfl) (by kernel_rfl) (by kernel_rfl) (λ_ _ _ h=>h) (.inl ⟨by rfl,?y11⟩) ?S11 ?_;case y11=>(intro w' X;(try dsimp only at X);go_simp;(try with_reducible rfl))
       case S11=>exact a1.o _ a5
       try simp only[Act.put,PS]
       refine' Qn.take2 (i:=10) (v:=_) rfl (by kernel_rfl) rfl (by kernel_rfl) (by kernel_rfl) (by kernel_rfl) (λ_ _ _ h=>h) (.inl ⟨by rfl,?y12⟩) ?S12 ?_;case y12=>(intro w' X;(try dsimp only at X);go_simp;(try with_reducible rfl))
       case S12=>exact a1.o _ a5
       try simp only[Act.put,PS]
       refine' Qn.take2 (i:=12) (v:=_) rfl (by kernel_rfl) rfl (by kernel_rfl) (by kernel_rfl) (by kernel_rfl) (λ_ _ _ h=>h) (.inl ⟨by rfl,?y13⟩) ?S13 ?_;case y13=>(intro w' X;(try dsimp only at X);go_simp;(try with_reducible rfl))
       case S13=>exact a1.o _ a5
       try simp only[Act.put,PS]
       refine' Qn.take2 (i:=13) (v:=_) rfl (by kernel_rfl) rfl (by kernel_rfl) (by kernel_rfl) (by kernel_rfl) (λ_ _ _ h=>h) (.inl ⟨by rfl,?y14⟩) ?S14 ?_;case y14=>(intro w' X;(try dsimp only at X);go_simp;(try with_reducible rfl))
       case S14=>exact a1.o _ a5
       try simp only[Act.put,PS]
       refine Qn.all (rs:=[14]) (by kernel_rfl) rfl ?_;refine QH.cons rfl (by kernel_rfl) (λK Y=>?_) QH.nil;go_simp;refine Y.out _ _ (a1.o _ (az _)) (λay=>?_);clear Y K ay;try simp only[PS]
       refine Qn.done (by kernel_rfl) ?_;refine Yk (rs:=[15]) (by kernel_rfl) (by simp) (Yi rfl (λK Y=>?_) Yj);refine Ja _ (by rfl) _ _ _ (by rfl) base 124 bX _ 8 72 Tryz.underlying114 bR c5 c7 c8 rfl (by omega) _ D.td.length _ (by rfl) ((ZY ak.o).alloc _) ⟨Q.heap.size,0,none⟩ 1 1 ([.int .i64 o.node.s.T,.int .i64 o.node.s.R,.int .i64 o.node.I,.int .i64 o.up.s.T,.int .i64 o.up.s.R,.int .i64 o.up.I,.string o.name,.bool o.dir]) (by rfl) (by rfl) (Zd Q.drew ([.int .i64 o.node.s.T,.int .i64 o.node.s.R,.int .i64 o.node.I,.int .i64 o.up.s.T,.int .i64 o.up.s.R,.int .i64 o.up.I,.string o.name,.bool o.dir]) 124) (bJ.o) (by omega) (by unfold maxLen;omega) (by omega) (by have:=aj.o;simp;omega) _ (by rfl) ?_;intro g4 cap W5 ad a7 ac al;obtain⟨q0,q1,q2,q3,q4,q5,q6,q7,q8,q9⟩:=HK.o _ W5 a7;refine Y _ _ ?_;clear Y K;try simp only[Act.put,PS]
       refine' T0 16 ?_;try simp only[Act.put,PS]
       refine' T0 17 ?_;try simp only[Act.put,PS]
       refine Yk (rs:=[18]) (by kernel_rfl) (by simp) (Yi rfl (λK Y=>?_) Yj);go_simp;refine Y _ _ ?_;clear Y K;try simp only[PS]
       refine YD (by kernel_rfl) ?_ _;all_goals have HP:=Ki ((O.o _).push_td (VB o) ad a7 ac);rw[show(D.td++[VB o])=(Z0 g.s J k o D).td from E2.o.symm] at HP;clear ad a7 ac al;go_wp2;go_meet;exact⟨_,_,HP.o⟩
     case rest=>
      obtain⟨am,an,hcut⟩:=hcut;have a3:=Ki hcut;clear hcut aa;obtain⟨th,bw⟩:∃b,decide (J=true/\o.k≠2)=b:=⟨_,rfl⟩;have aZ:=Ki bw;obtain⟨w9,rfl⟩:∃w9:World,w9=wc:=⟨_,rfl⟩;have ck:w9.cell? ⟨j,0,none⟩=some (.int .i64 o.k):=cell_of_row w9 j 0 _ _ _ a3.o.c6;clear bw;go_upto_region 10 with(fail);go_cut [79] from 74 to 78 (λv wx=>v=.bool th/\wx=w9)
      case first=>
       have ht:=aZ.o;rcases J with _|_
       ·obtain rfl:th=false:=by rw[<-ht];simp
        clear ht;go_wp2;go_meet;case rel=>exact⟨rfl,rfl⟩
       by_cases h2:o.k=2
       ·have hx:(o.k != 2)=false:=(by rw[h2];rfl);obtain rfl:th=false:=by rw[<-ht];simp[h2]
        clear ht h2;go_wp2;go_meet;case rel=>exact⟨rfl,rfl⟩
       have hx:(o.k != 2)=true:=(by simpa using h2);obtain rfl:th=true:=by rw[<-ht];simp[h2]
       clear ht h2;go_wp2;go_meet;case rel=>exact⟨rfl,rfl⟩
      case rest=>
       obtain⟨rfl,rfl⟩:=hcut;clear ck;go_upto_if 79 with(fail);go_cut [] from 80 to 93 (λwx=>∃c4,Ga w base p m1 m2 n1 (N+k+1) fo gr nm I j g o { Z0 g.s J k o D with gn:=D.gn } am an c4 vg wx)
       case first=>
        rcases th with _|_
        ·have ap:=UC aZ.o
         have HP:=Ki (show Ga w base p m1 m2 n1 (N+k+1) fo gr nm I j g o { Z0 g.s J k o D with gn:=D.gn } am an vh vg wc by
          have e1:(Z0 g.s J k o D).hv=D.hv:=(by show D.hv++(if J=true/\o.k≠2 then _ else _)=_;rw[Q6 ap,ZB]);have e2:({ Z0 g.s J k o D with gn:=D.gn }:VS)={ D with fd:=(Z0 g.s J k o D).fd,at_:=(Z0 g.s J k o D).at_,td:=(Z0 g.s J k o D).td }:=(by rw[show({ Z0 g.s J k o D with gn:=D.gn }:VS)=⟨(Z0 g.s J k o D).at_,(Z0 g.s J k o D).td,(Z0 g.s J k o D).hv,D.gn,(Z0 g.s J k o D).fd⟩ from rfl,e1]);rw[e2]
          exact a3.o)
         clear ap;go_wp2;go_meet;case rel=>exact⟨_,HP.o⟩
        have aq:=Y0 aZ.o;have E1:=Ki (show(Z0 g.s J k o D).hv=D.hv++[(⟨o.node,g.s⟩:QP)] by show D.hv++(if J=true/\o.k≠2 then _ else _)=_;rw[Q7 aq]);have hZ:=HZ.o;unfold Sz at hZ;obtain⟨z1,z2,z3,z4⟩:=hZ;have bK:=Kj (∀u∈([Value.int .i64 o.node.s.T,.int .i64 o.node.s.R,.int .i64 o.node.I,.int .i64 g.s.T,.int .i64 g.s.R]:List Value),u.oneCell'=true) (Cp ⟨o.node,g.s⟩);clear aq;obtain⟨U,rfl⟩:∃U:World,U=wc:=⟨_,rfl⟩;go_upto_region 11 with(fail);obtain⟨n2,ah,a0⟩:=a3.o.vw;have kp:U.cell? ⟨p,6,none⟩=some vh:=cell_of_row U p 6 _ _ _ a0.box;have bZ:U.cell? ⟨I,0,none⟩=some (.int .i64 g.s.T):=cell_of_row U I 0 _ _ _ a3.o.c3;have c2:U.cell? ⟨I,1,none⟩=some (.int .i64 g.s.R):=cell_of_row U I 1 _ _ _ a3.o.c3;have bz:U.cell? ⟨j,1,none⟩=some (.int .i64 o.node.s.T):=cell_of_row U j 1 _ _ _ a3.o.c6;have bA:U.cell? ⟨j,2,none⟩=some (.int .i64 o.node.s.R):=cell_of_row U j 2 _ _ _ a3.o.c6;have bB:U.cell? ⟨j,3,none⟩=some (.int .i64 o.node.I):=cell_of_row U j 3 _ _ _ a3.o.c6;have ae:U.ownsRow base 171 5 vh D.hv.length (D.hv.flatMap QR):=a0.fam.own (QV vh D.hv) (by simp);have ak:=Ki ae;have O:=Ki (λE=>(a3.o.drew.below ((Qc _ U.drew).alloc (Q3 _) E)))
        have HK:=Ki (show ∀E W,(U.drew.alloc E).grownBy W (vh).ownBlock->W.cell? ⟨p,6,none⟩=some vh/\W.frozen? ⟨p,6,none⟩=false/\W.cell? ⟨I,0,none⟩=some (.int .i64 g.s.T)/\W.cell? ⟨I,1,none⟩=some (.int .i64 g.s.R)/\W.cell? ⟨j,1,none⟩=some (.int .i64 o.node.s.T)/\W.cell? ⟨j,2,none⟩=some (.int .i64 o.node.s.R)/\W.cell? ⟨j,3,none⟩=some (.int .i64 o.node.I) from λE W hg=>by
         obtain⟨n3,_,a2⟩:=(O.o E).vw;have hr:=a2.fam.own (QV vh D.hv) (by simp);have hb:=(hg.block p a2.lt (λe=>a2.fam.free (QV vh D.hv) (by simp) p e.symm (.inl rfl))).trans a2.box;have h3:=(hg.block I (Q5.1 (O.o E).c3).1 (λe=>ZN hr (O.o E).c3 (show(31:TypeId)≠171 by decide) e.symm)).trans (O.o E).c3;have h6:=(hg.block j (Q5.1 (O.o E).c6).1 (λe=>ZN hr (O.o E).c6 (show(72:TypeId)≠171 by decide) e.symm)).trans (O.o E).c6
         exact⟨cell_of_row W p 6 _ _ _ hb,by simp[World.frozen?,hb],cell_of_row W I 0 _ _ _ h3,cell_of_row W I 1 _ _ _ h3,cell_of_row W j 1 _ _ _ h6,cell_of_row W j 2 _ _ _ h6,cell_of_row W j 3 _ _ _ h6⟩)
        have aj:=Kj (base<=U.heap.size) (Q9 a3.o.bl a3.o.bel.size);have lp:p<U.heap.size:=a0.lt;have l3:I<U.heap.size:=(Q5.1 a3.o.c3).1;have l6:j<U.heap.size:=(Q5.1 a3.o.c6).1;clear a0 ae;obtain⟨n3,bu,ai⟩:=a3.o.vw;obtain⟨ab,aA⟩:∃c,U.heap[p]?=some (.cells c 117 (0,0))/\c[6]?=some vh:=⟨_,ai.box,rfl⟩;obtain⟨ag,aC⟩:=aA;have a1:=Ki (λW (h:W.heap[p]?=some (.cells ab 117 (0,0))/\W.heap[I]?=some (.cells (Qg g).toArray 31 (0,0))/\W.heap[j]?=some (.cells (Qp o).toArray 72 (0,0)))=>(show(λW=>W.cell? ⟨p,6,none⟩=some vh/\W.cell? ⟨I,0,none⟩=some (.int .i64 g.s.T)/\W.cell? ⟨I,1,none⟩=some (.int .i64 g.s.R)/\W.cell? ⟨j,1,none⟩=some (.int .i64 o.node.s.T)/\W.cell? ⟨j,2,none⟩=some (.int .i64 o.node.s.R)/\W.cell? ⟨j,3,none⟩=some (.int .i64 o.node.I)) W from⟨(cell_of_row W p 6 _ _ _ h.1).trans aC,cell_of_row W I 0 _ _ _ h.2.1,cell_of_row W I 1 _ _ _ h.2.1,cell_of_row W j 1 _ _ _ h.2.2,cell_of_row W j 2 _ _ _ h.2.2,cell_of_row W j 3 _ _ _ h.2.2⟩));have a5:U.drew.heap[p]?=some (.cells ab 117 (0,0))/\U.drew.heap[I]?=some (.cells (Qg g).toArray 31 (0,0))/\U.drew.heap[j]?=some (.cells (Qp o).toArray 72 (0,0)):=⟨ag,a3.o.c3,a3.o.c6⟩;have az:∀E,(U.drew.alloc E).heap[p]?=some (.cells ab 117 (0,0))/\(U.drew.alloc E).heap[I]?=some (.cells (Qg g).toArray 31 (0,0))/\(U.drew.alloc E).heap[j]?=some (.cells (Qp o).toArray 72 (0,0)):=λE=>⟨(Z5 U.drew E p lp).trans ag,(O.o E).c3,(O.o E).c6⟩;clear ai;refine Jt rfl ?_
        change wpAny _ _ _ _ 15 #[false,false,false,false,false,false,false,false,false,false,false,false,false,false,false] _ (World.drew _);refine' T0 0 ?_;try simp only[Act.put,PS]
        refine' T0 1 ?_;try simp only[Act.put,PS]
        refine' T0 2 ?_;try simp only[Act.put,PS]
        refine' T0 3 ?_;try simp only[Act.put,PS]
        refine' T0 5 ?_;try simp only[Act.put,PS]
        refine' T0 7 ?_;try simp only[Act.put,PS]
        refine Qn.of (n:=11) (g:=4) (S:=(λW=>W.cell? ⟨p,6,none⟩=some vh/\W.cell? ⟨I,0,none⟩=some (.int .i64 g.s.T)/\W.cell? ⟨I,1,none⟩=some (.int .i64 g.s.R)/\W.cell? ⟨j,1,none⟩=some (.int .i64 o.node.s.T)/\W.cell? ⟨j,2,none⟩=some (.int .i64 o.node.s.R)/\W.cell? ⟨j,3,none⟩=some (.int .i64 o.node.I))) 5 _ _ _ ?_;refine' Qn.take2 (i:=4) (v:=_) rfl (by kernel_rfl) rfl (by kernel_rfl) (by kernel_rfl) (by kernel_rfl) (λ_ _ _ h=>h) (.inl ⟨by rfl,?y23⟩) ?S23 ?_;case y23=>(intro w' X;(try dsimp only at X);go_simp;(try with_reducible rfl))
        case S23=>exact a1.o _ a5
        try simp only[Act.put,PS]
        refine' Qn.take2 (i:=6) (v:=_) rfl (by kernel_rfl) rfl (by kernel_rfl) (by kernel_rfl) (by kernel_rfl) (λ_ _ _ h=>h) (.inl ⟨by rfl,?y24⟩) ?S24 ?_;case y24=>(intro w' X;(try dsimp only at X);go_simp;(try with_reducible rfl))
        case S24=>exact a1.o _ a5
        try simp only[Act.put,PS]
        refine' Qn.take2 (i:=8) (v:=_) rfl (by kernel_rfl) rfl (by kernel_rfl) (by kernel_rfl) (by kernel_rfl) (λ_ _ _ h=>h) (.inl ⟨by rfl,?y25⟩) ?S25 ?_;case y25=>(intro w' X;(try dsimp only at X);go_simp;(try with_reducible rfl))
        case S25=>exact a1.o _ a5
        try simp only[Act.put,PS]
        refine' Qn.take2 (i:=9) (v:=_) rfl (by kernel_rfl) rfl (by kernel_rfl) (by kernel_rfl) (by kernel_rfl) (λ_ _ _ h=>h) (.inl ⟨by rfl,?y26⟩) ?S26 ?_;case y26=>(intro w' X;(try dsimp only at X);go_simp;(try with_reducible rfl))
        case S26=>exact a1.o _ a5
        try simp only[Act.put,PS]
        refine Qn.all (rs:=[10]) (by kernel_rfl) rfl ?_;refine QH.cons rfl (by kernel_rfl) (λK Y=>?_) QH.nil;go_simp;refine Y.out _ _ (a1.o _ (az _)) (λay=>?_);clear Y K ay;try simp only[PS]
        refine Qn.done (by kernel_rfl) ?_;refine Yk (rs:=[11]) (by kernel_rfl) (by simp) (Yi rfl (λK Y=>?_) Yj);refine Ja _ (by rfl) _ _ _ (by rfl) base 171 bx _ 5 40 Tryz.underlying115 br bC bD bE rfl (by omega) _ D.hv.length _ (by rfl) ((ZY ak.o).alloc _) ⟨U.heap.size,0,none⟩ 1 1 ([.int .i64 o.node.s.T,.int .i64 o.node.s.R,.int .i64 o.node.I,.int .i64 g.s.T,.int .i64 g.s.R]) (by rfl) (by rfl) (Zd U.drew ([.int .i64 o.node.s.T,.int .i64 o.node.s.R,.int .i64 o.node.I,.int .i64 g.s.T,.int .i64 g.s.R]) 171) (bK.o) (by omega) (by unfold maxLen;omega) (by omega) (by have:=aj.o;simp;omega) _ (by rfl) ?_;intro g4 cap W5 ad a7 ac al;obtain⟨q0,q1,q2,q3,q4,q5,q6⟩:=HK.o _ W5 a7;refine Y _ _ ?_;clear Y K;try simp only[Act.put,PS]
        refine' T0 12 ?_;try simp only[Act.put,PS]
        refine' T0 13 ?_;try simp only[Act.put,PS]
        refine Yk (rs:=[14]) (by kernel_rfl) (by simp) (Yi rfl (λK Y=>?_) Yj);go_simp;refine Y _ _ ?_;clear Y K;try simp only[PS]
        refine YD (by kernel_rfl) ?_ _;have HP:=Ki ((O.o _).push_hv ⟨o.node,g.s⟩ ad a7 ac);rw[show(D.hv++[(⟨o.node,g.s⟩:QP)])=(Z0 g.s J k o D).hv from E1.o.symm] at HP;clear ad a7 ac al;go_wp2;go_meet;exact⟨_,HP.o⟩
       case rest=>
        obtain⟨aE,hcut⟩:=hcut;have aT:=Ki hcut;clear hcut a3;obtain⟨wi,rfl⟩:∃wi:World,wi=wc:=⟨_,rfl⟩;have c9:wi.cell? ⟨j,9,none⟩=some (.slice o.dv.A o.dv.n o.dv.c):=cell_of_row wi j 9 _ _ _ aT.o.c6;have aR:=Kj (o.dv.n=o.dots.length) ((Rd.len ((HR.o wi aT.o.bel).a o aw.o).d).1)
        have ax:=Ki (show Lq w base p m1 m2 n1 (N+k+1) fo gr nm I j g o J (Z0 g.s J k o D) D.gn am an aE (.int .i64 (0:Nat)) wi from⟨0,Qh _,rfl,vg,by
         have e:(D.gn++if J=true then (o.dots.take 0).map (λd=>(⟨o.node,d⟩:QP)) else [])=D.gn:=(by split<;>simp);rw[e]
         exact aT.o⟩)
        go_wp2;go_loopw [97] (λi wr=>Lq w base p m1 m2 n1 (N+k+1) fo gr nm I j g o J (Z0 g.s J k o D) D.gn am an aE i wr) (λi _=>o.dots.length-(intOf i).toNat);case atStart=>exact ax.o
        case round=>
         clear ax c9;obtain⟨a6,hj,rfl,a8,hG⟩:=hrel;have av:=Ki hG;clear hG;by_cases b9:a6<o.dots.length
         ·obtain⟨bd,od,e5,ce,aO⟩:=Qr Qv 2 (λ_=>rfl) (by decide) (by have h:=((HR.o wr av.o.bel).a o aw.o).d;unfold Sl.v at h;rw[<-aR.o] at h;exact h) b9;obtain⟨Z,b7⟩:=ex (o.dots[a6]);rw[b7] at aO;have k0:wr.cell? ⟨bd,od+a6*2,none⟩=some (.int .i64 Z.T):=aO 0 _ rfl;have k1:wr.cell? ⟨bd,od+a6*2+1,none⟩=some (.int .i64 Z.R):=aO 1 _ rfl;have bM:=Ki (show o.dots.take (a6+1)=o.dots.take a6++[Z] by rw[QQ b9,b7]);have ci:(0:Int)<=(a6:Int):=(by omega);have cl:(a6:Int)<=1000:=(by have:=aS.o o aw.o;omega);have aG:=Ki b9;have cj:(a6:Int)<(o.dv.n:Int):=(by have:=aR.o;omega);rw[e5];clear aO b7;go_upto_region 15 with(fail);obtain⟨W7,aL⟩:∃W,wr.alloc (.cells #[.int .i64 Z.T,.int .i64 Z.R] 27)=W:=⟨_,rfl⟩;have h8:=bn aL;have aU:=Ki (av.o.below (show Below wr.heap.size wr W7 by rw[<-aL];exact(Qc _ wr).alloc (Q3 _) _));rw[aL];clear aL;obtain⟨b8,bl⟩:∃b,wr.heap.size=b:=⟨_,rfl⟩;rw[bl] at h8 |-;clear bl av k0 k1;rcases J with _|_
          ·have HP:=Kj (Ga w base p m1 m2 n1 (N+k+1) fo gr nm I j g o { Z0 g.s false k o D with gn:=D.gn++if false=true then (o.dots.take (a6+1)).map (λd=>(⟨o.node,d⟩:QP)) else [] } am an aE a8 W7) aU.o;clear h8;go_wp2;go_roundw;case rel=>exact⟨a6+1,by have:=aG.o;omega,by go_num,a8,HP.o⟩
           case measure=>simp[intOf];have:=aG.o;omega
          obtain⟨GN,aI⟩:∃G,D.gn++(o.dots.take a6).map (λd=>(⟨o.node,d⟩:QP))=G:=⟨_,rfl⟩;have a9:=Ki (show Ga w base p m1 m2 n1 (N+k+1) fo gr nm I j g o { Z0 g.s true k o D with gn:=GN } am an aE a8 W7 by rw[<-aI];exact aU.o);have bG:=Ki (show GN++[(⟨o.node,Z⟩:QP)]=D.gn++if true=true then (o.dots.take (a6+1)).map (λd=>(⟨o.node,d⟩:QP)) else [] by rw[bM.o,<-aI,Q7 rfl,ZC,Y7];rfl);have cg:GN.length<=999999:=(by have h1:=HZ.o;have h2:=aS.o o aw.o;unfold Sz at h1;rw[<-aI,Qj,Xh,Zi];omega);have bL:=Kj (∀u∈([Value.int .i64 o.node.s.T,.int .i64 o.node.s.R,.int .i64 o.node.I,.int .i64 Z.T,.int .i64 Z.R]:List Value),u.oneCell'=true) (Cp ⟨o.node,Z⟩);clear aI aU;go_upto_region 16 with(fail);obtain⟨n2,ah,a0⟩:=a9.o.vw;have kp:=cr7 a0.box;have bz:=cr1 a9.o.c6;have bA:=cr2 a9.o.c6;have bB:=cr3 a9.o.c6;have ae:W7.ownsRow base 171 5 a8 GN.length (GN.flatMap QR):=a0.fam.own (J3 a8 GN) (by simp);have ak:=Ki ae;have O:=Ki (λE=>(a9.o.drew.below ((Qc _ W7.drew).alloc (Q3 _) E)))
          have HK:=Ki (show ∀E W,(W7.drew.alloc E).grownBy W (a8).ownBlock->W.cell? ⟨p,7,none⟩=some a8/\W.frozen? ⟨p,7,none⟩=false/\W.cell? ⟨j,1,none⟩=some (.int .i64 o.node.s.T)/\W.cell? ⟨j,2,none⟩=some (.int .i64 o.node.s.R)/\W.cell? ⟨j,3,none⟩=some (.int .i64 o.node.I) from λE W hg=>by
           obtain⟨n3,_,a2⟩:=(O.o E).vw;have hr:=a2.fam.own (J3 a8 GN) (by simp);have hb:=(hg.block p a2.lt (λe=>a2.fam.free (J3 a8 GN) (by simp) p e.symm (.inl rfl))).trans a2.box;have h3:=(hg.block I (Q5.1 (O.o E).c3).1 (λe=>ZN hr (O.o E).c3 (show(31:TypeId)≠171 by decide) e.symm)).trans (O.o E).c3;have h6:=(hg.block j (Q5.1 (O.o E).c6).1 (λe=>ZN hr (O.o E).c6 (show(72:TypeId)≠171 by decide) e.symm)).trans (O.o E).c6
           exact⟨cell_of_row W p 7 _ _ _ hb,by simp[World.frozen?,hb],cell_of_row W j 1 _ _ _ h6,cell_of_row W j 2 _ _ _ h6,cell_of_row W j 3 _ _ _ h6⟩)
          have aj:=Kj (base<=W7.heap.size) (Q9 a9.o.bl a9.o.bel.size);have lp:p<W7.heap.size:=a0.lt;have l3:I<W7.heap.size:=(Q5.1 a9.o.c3).1;have l6:j<W7.heap.size:=(Q5.1 a9.o.c6).1;clear a0 ae;obtain⟨n3,bu,ai⟩:=a9.o.vw;obtain⟨ab,aA⟩:∃c,W7.heap[p]?=some (.cells c 117 (0,0))/\c[7]?=some a8:=⟨_,ai.box,rfl⟩;obtain⟨ag,aC⟩:=aA;have a1:=Ki (λW (h:W.heap[p]?=some (.cells ab 117 (0,0))/\W.heap[I]?=some (.cells (Qg g).toArray 31 (0,0))/\W.heap[j]?=some (.cells (Qp o).toArray 72 (0,0))/\W.heap[b8]?=some (.cells #[.int .i64 Z.T,.int .i64 Z.R] 27 (0,0)))=>(show(λW=>W.cell? ⟨p,7,none⟩=some a8/\W.cell? ⟨j,1,none⟩=some (.int .i64 o.node.s.T)/\W.cell? ⟨j,2,none⟩=some (.int .i64 o.node.s.R)/\W.cell? ⟨j,3,none⟩=some (.int .i64 o.node.I)/\W.cell? ⟨b8,0,none⟩=some (.int .i64 Z.T)/\W.cell? ⟨b8,1,none⟩=some (.int .i64 Z.R)) W from⟨(cell_of_row W p 7 _ _ _ h.1).trans aC,cell_of_row W j 1 _ _ _ h.2.2.1,cell_of_row W j 2 _ _ _ h.2.2.1,cell_of_row W j 3 _ _ _ h.2.2.1,cell_of_row W b8 0 _ _ _ h.2.2.2,cell_of_row W b8 1 _ _ _ h.2.2.2⟩));have a5:W7.drew.heap[p]?=some (.cells ab 117 (0,0))/\W7.drew.heap[I]?=some (.cells (Qg g).toArray 31 (0,0))/\W7.drew.heap[j]?=some (.cells (Qp o).toArray 72 (0,0))/\W7.drew.heap[b8]?=some (.cells #[.int .i64 Z.T,.int .i64 Z.R] 27 (0,0)):=⟨ag,a9.o.c3,a9.o.c6,h8⟩
          have az:∀E,(W7.drew.alloc E).heap[p]?=some (.cells ab 117 (0,0))/\(W7.drew.alloc E).heap[I]?=some (.cells (Qg g).toArray 31 (0,0))/\(W7.drew.alloc E).heap[j]?=some (.cells (Qp o).toArray 72 (0,0))/\(W7.drew.alloc E).heap[b8]?=some (.cells #[.int .i64 Z.T,.int .i64 Z.R] 27 (0,0)):=λE=>⟨(Z5 W7.drew E p lp).trans ag,(O.o E).c3,(O.o E).c6,(Z5 W7.drew E b8 (Q5.1 h8).1).trans h8⟩;clear ai;refine Jt rfl ?_;change wpAny _ _ _ _ 14 #[false,false,false,false,false,false,false,false,false,false,false,false,false,false] _ (World.drew _);refine' T0 0 ?_;try simp only[Act.put,PS]
          refine' T0 1 ?_;try simp only[Act.put,PS]
          refine' T0 2 ?_;try simp only[Act.put,PS]
          refine' T0 3 ?_;try simp only[Act.put,PS]
          refine' T0 5 ?_;try simp only[Act.put,PS]
          refine Qn.of (n:=10) (g:=4) (S:=(λW=>W.cell? ⟨p,7,none⟩=some a8/\W.cell? ⟨j,1,none⟩=some (.int .i64 o.node.s.T)/\W.cell? ⟨j,2,none⟩=some (.int .i64 o.node.s.R)/\W.cell? ⟨j,3,none⟩=some (.int .i64 o.node.I)/\W.cell? ⟨b8,0,none⟩=some (.int .i64 Z.T)/\W.cell? ⟨b8,1,none⟩=some (.int .i64 Z.R))) 5 _ _ _ ?_;refine' Qn.take2 (i:=4) (v:=_) rfl (by kernel_rfl) rfl (by kernel_rfl) (by kernel_rfl) (by kernel_rfl) (λ_ _ _ h=>h) (.inl ⟨by rfl,?y34⟩) ?S34 ?_;case y34=>(intro w' X;(try dsimp only at X);go_simp;(try with_reducible rfl))
          case S34=>exact a1.o _ a5
          try simp only[Act.put,PS]
          refine' Qn.take2 (i:=6) (v:=_) rfl (by kernel_rfl) rfl (by kernel_rfl) (by kernel_rfl) (by kernel_rfl) (λ_ _ _ h=>h) (.inl ⟨by rfl,?y35⟩) ?S35 ?_;case y35=>(intro w' X;(try dsimp only at X);go_simp;(try with_reducible rfl))
          case S35=>exact a1.o _ a5
          try simp only[Act.put,PS]
          refine' Qn.take2 (i:=7) (v:=_) rfl (by kernel_rfl) rfl (by kernel_rfl) (by kernel_rfl) (by kernel_rfl) (λ_ _ _ h=>h) (.inl ⟨by rfl,?y36⟩) ?S36 ?_;case y36=>(intro w' X;(try dsimp only at X);go_simp;(try with_reducible rfl))
          case S36=>exact a1.o _ a5
          try simp only[Act.put,PS]
          refine' Qn.take2 (i:=8) (v:=_) rfl (by kernel_rfl) rfl (by kernel_rfl) (by kernel_rfl) (by kernel_rfl) (λ_ _ _ h=>h) (.inl ⟨by rfl,?y37⟩) ?S37 ?_;case y37=>(intro w' X;(try dsimp only at X);go_simp;(try with_reducible rfl))
          case S37=>exact a1.o _ a5
          try simp only[Act.put,PS]
          refine Qn.all (rs:=[9]) (by kernel_rfl) rfl ?_;refine QH.cons rfl (by kernel_rfl) (λK Y=>?_) QH.nil;go_simp;refine Y.out _ _ (a1.o _ (az _)) (λay=>?_);clear Y K ay;try simp only[PS]
          refine Qn.done (by kernel_rfl) ?_;refine Yk (rs:=[10]) (by kernel_rfl) (by simp) (Yi rfl (λK Y=>?_) Yj);refine Ja _ (by rfl) _ _ _ (by rfl) base 171 bx _ 5 40 Tryz.underlying115 br bC bD bE rfl (by omega) _ GN.length _ (by rfl) ((ZY ak.o).alloc _) ⟨W7.heap.size,0,none⟩ 1 1 ([.int .i64 o.node.s.T,.int .i64 o.node.s.R,.int .i64 o.node.I,.int .i64 Z.T,.int .i64 Z.R]) (by rfl) (by rfl) (Zd W7.drew ([.int .i64 o.node.s.T,.int .i64 o.node.s.R,.int .i64 o.node.I,.int .i64 Z.T,.int .i64 Z.R]) 171) (bL.o) (by omega) (by unfold maxLen;omega) (by omega) (by have:=aj.o;simp;omega) _ (by rfl) ?_;intro g4 cap W5 ad a7 ac al;obtain⟨q0,q1,q2,q3,q4⟩:=HK.o _ W5 a7;refine Y _ _ ?_;clear Y K;try simp only[Act.put,PS]
          refine' T0 11 ?_;try simp only[Act.put,PS]
          refine' T0 12 ?_;try simp only[Act.put,PS]
          refine Yk (rs:=[13]) (by kernel_rfl) (by simp) (Yi rfl (λK Y=>?_) Yj);go_simp;refine Y _ _ ?_;clear Y K;try simp only[PS]
          refine YD (by kernel_rfl) ?_ _;have HP:=Ki ((O.o _).push_gn ⟨o.node,Z⟩ ad a7 ac);rw[bG.o] at HP;clear ad a7 ac al;go_wp2;go_roundw;case rel=>exact⟨a6+1,by have:=aG.o;omega,by go_num,_,HP.o⟩
          case measure=>simp[intOf];have:=aG.o;omega
         have cm:¬((a6:Int)<(o.dv.n:Int)):=(by have:=aR.o;omega)
         have bH:=Ki (show AS base p m1 m2 n1 N fo gr nm I g J S a d w (.int .i64 ((k+1:Nat):Int)) wr from by
          have e:(D.gn++if J=true then (o.dots.take a6).map (λd=>(⟨o.node,d⟩:QP)) else [])=(Z0 g.s J k o D).gn:=(by rw[Zk (by omega)];rfl);have hG:=av.o;rw[e] at hG;obtain⟨n5,co,bV⟩:=hG.vw;refine⟨k+1,by omega,rfl,?_,?_,hG.c3,hG.bel⟩;·rw[bf.o];have h1:=bN.o;have h2:=aS.o o aw.o;unfold Sz at h1 |-;omega
          rw[bf.o]
          exact⟨am,an,aE,a8,n5,by omega,bV⟩)
         clear av;go_wp2;go_roundw;case rel=>exact bH.o
         case measure=>simp[intOf];omega
  have bs:g.ops.take k=g.ops:=Zk (by omega);rw[bs] at ao;have bT:k=g.ops.length:=(by omega);have bQ:¬((k:Int)<(g.ov.n:Int)):=(by have:=aW.o;omega);have HF:=Kj (∃va vt vh vg n2,n2<=N+g.ops.length/\Vw wr base p m1 m2 n1 n2 fo (X0 g.s J 0 g.ops S).fd gr nm (ZH va (X0 g.s J 0 g.ops S).at_) (ZI vt (X0 g.s J 0 g.ops S).td) (QV vh (X0 g.s J 0 g.ops S).hv) (J3 vg (X0 g.s J 0 g.ops S).gn)) ⟨va,vt,vh,vg,n2,by omega,ao▸hV⟩;have au:=Ki aB;clear ao hV aB h3 bs bT aD;go_wp2;go_end0;exact⟨rfl,HF.o,au.o⟩
end Go.Proofs.YtfpafikfjjckeaaGreatDoor
