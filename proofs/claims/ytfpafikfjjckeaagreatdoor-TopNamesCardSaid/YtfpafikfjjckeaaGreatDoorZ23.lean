import Derived.Test.YtfpafikfjjckeaaGreatDoorZ22
set_option maxRecDepth 100000
set_option maxHeartbeats 200000000
namespace Go.Proofs.YtfpafikfjjckeaaGreatDoor
section
open Go Go.RowKit Go.Maps
theorem It(x:Id):∀l:List Qt,(l.flatMap (Zu x)).length<=l.length
 |[]=>Q3 _
 |o::l=>by
  rw[XA,Qj,Z4];have h:=It x l;have j:(Zu x o).length<=1:=by unfold Zu;split<;>simp
  omega
theorem N5(x:Id):∀C:List Q1,(Za C x).length<=QW C
 |[]=>Q3 _
 |g::C=>by
  have h:=N5 x C;have j:=It x g.ops;unfold Za at h |-;rw[XA,Qj];have e:QW (g::C)=g.ops.length+QW C:=by unfold QW;rw[ZW,VO]
  omega
theorem Iu{l:List Q1}{g:Q1}(h:g∈l):g.ops.length<=QW l:=by
 unfold QW
 induction l with
 |nil=>cases h
 |cons a l j=>
  rw[ZW,VO];rcases QI.1 h with rfl|h;·omega
  have:=j h;omega
theorem Iv(l:List Q1)(k:Nat):QW (l.take k)<=QW l:=Fx (List.take_sublist k l)
def RuR(l:List Q1)(x:Id)(h:World)(v i:Value)(wr:World):Prop:=∃k:Nat,k<=l.length/\i=k/\wr.ownsRow h 131 7 v (Za (l.take k) x).length ((Za (l.take k) x).flatMap XL)/\Below h h wr
def Q2j(R:List Rn)(os:List Qt)(x:Id)(h:World)(v i:Value)(wr:World):Prop:=∃k:Nat,k<=os.length/\i=k/\wr.ownsRow h 131 7 v (R++(os.take k).flatMap (Zu x)).length ((R++(os.take k).flatMap (Zu x)).flatMap XL)/\Below h h wr
theorem Q2k(l:List Q1)(x:Id)(A:Option Addr)(n c B:Nat)(w:World)(hG:Xi w B (.slice A n c) l)(hB:B<=w)(hs:QW l<=1000)(hn:n<=1000):Calls Tryz.prog 122 #[.slice A n c,Qa x] w λe w'=>(∃v,e=.returned v/\w'.ownsRow w 131 7 v (Za l x).length ((Za l x).flatMap XL))/\Below w w w':=by
 obtain rfl:n=l.length:=(Rd.len hG.r).1;obtain⟨i0,hi,z0,z1,z2⟩:=Zc LJ;have HR:=Ki (λW (D:Below w w W)=>hG.r.below' D hB);have am:=Ki (λg (Y:g∈l) W (D:Below w w W)=>(hG.a g Y).o.below' D hB);have HS:=Ki hs;clear hG;unfold Qa;go_enter Tryz.func122,Tryz.ntmps122;go_upto_region 1 with fail;obtain⟨U,a8⟩:∃W,w.alloc (.cells x 60)=W:=⟨_,rfl⟩;have I:=Kj (Below w w U) (by rw[<-a8];exact(Qc _ w).alloc (Q3 _) _);have h3:=bn a8;rw[a8];obtain⟨b3,aq⟩:∃b,w.heap.size=b:=⟨_,rfl⟩;rw[aq] at h3 |-;have HX:=Ki (λW (D:Below U U W)=>(D.block b3 (Q5.1 h3).1).trans h3);clear a8 aq h3;go_wp2;go_loopw [5,6,7,8] (λv i _ _ wr=>RuR l x U v i wr) (λ_ i _ _ _=>l.length-(intOf i).toNat);case atStart=>exact⟨0,Qh _,rfl,⟨rfl,.inl ⟨rfl,rfl⟩⟩,Qc _ _⟩
 case round=>
  rename World=>wo
  obtain⟨k,hk,rfl,h,hb⟩:=hrel;obtain⟨Ao,co,rfl,_,_⟩:=(Rd.of_own h).form;have HO:=Ki h;have HB:=Ki hb;by_cases ah:k<l.length
  ·obtain⟨g,Y⟩:=ex (l[k]);have ao:=Ki (show Za (l.take (k+1)) x=Za (l.take k) x++g.ops.flatMap (Zu x) by rw[QQ ah,Cw,Y]);have a7:g∈l:=(by rw[<-Y];exact Zt ah);have aK:=Q9 (Iu a7) HS.o;have an:=Ki (Q9 (N5 x _) (Q9 (Iv l k) HS.o));obtain⟨R,hR⟩:=ex (Za (l.take k) x);rw[hR] at HO ao an |-;have ai:=(Rd.len (am.o g a7 w (Qc _ w))).1;have ad:=Ki (λW (D:Below w w W)=>am.o g a7 W D)
   have ak:=Ki (λW (D:Below w w W)=>(show ∃b o,A=some ⟨b,o,none⟩/\W.cell? (b,o+k*7+6)=some (.slice g.ov.A g.ops.length g.ov.c) from by
    obtain⟨b2,o2,O,_,h2⟩:=Qr Qg 7 (λ_=>rfl) (by decide) (HR.o _ D) ah;rw[Y] at h2
    exact⟨b2,o2,O,by rw[<-ai];exact h2 6 _ rfl⟩))
   unfold Sl.v at ad;rw[ai] at ad;have aL:(0:Int)<=(k:Int):=(by omega);have aM:(k:Int)<(l.length:Int):=(by omega);have au:=I.o.trans (hb.mono I.o.size);obtain⟨bg,og,rfl,_⟩:=ak.o wo au;clear Y h hb hR ai au a7;go_wp2;go_loopw [5,7,8] (λv i _ wr=>Q2j R g.ops x U v i wr) (λ_ i _ _=>g.ops.length-(intOf i).toNat);case atStart=>exact⟨0,Qh _,rfl,by simpa using HO.o,HB.o⟩
   case round=>
    obtain⟨j,hj,rfl,h,hb⟩:=hrel;obtain⟨Ai,ci,rfl,_,_⟩:=(Rd.of_own h).form;have a2:=Ki h;have ab:=Ki hb;have a6:=I.o.trans (hb.mono I.o.size);have hx:=HX.o wr hb;obtain⟨aI,aQ,O,c6⟩:=ak.o wr a6;injection O with O;injection O with O e3;subst O e3;by_cases aw:j<g.ops.length
    ·obtain⟨bo,oo,eo,aG,ag⟩:=Qr Qp 18 (λ_=>rfl) (by decide) (ad.o _ a6) aw;rw[eo] at c6;obtain⟨q,hq⟩:=ex (g.ops[j]);rw[hq] at ag;have a3:=Ki (show R++(g.ops.take (j+1)).flatMap (Zu x)=(R++(g.ops.take j).flatMap (Zu x))++Zu x q by rw[QQ aw,Zb,Xf,hq,Y7])
     have al:=Ki (show(R++(g.ops.take j).flatMap (Zu x)).length<=2000 from by
      rw[Qj];have h1:=an.o;have h2:=It x (g.ops.take j);rw[Zi] at h2
      omega)
     obtain⟨M,hM⟩:∃M,R++(g.ops.take j).flatMap (Zu x)=M:=⟨_,rfl⟩;rw[hM] at a3 al a2 |-;have ay:=Kj (∀(j':Nat)(v:Value),(q:List Value)[j']?=some v->wr.cell? (bo,oo+j*18+j')=some v) ag;have aN:(0:Int)<=(j:Int):=(by omega);have aO:(j:Int)<(g.ops.length:Int):=(by omega);have ap:=Ki hx;clear ag hq hM h hb aG a6 eo hx;go_upto_region 9 with(first|((with_reducible refine Ql 72 ?_);refine QA rfl 72 _ rfl _ _ _ rfl ay.o (by kernel_rfl) (Z6 _) ?_)|((with_reducible refine Zm 72 ?_);refine Zp rfl 72 _ _ rfl _ _ rfl rfl _ _ (Qi _ _) (by kernel_rfl) rfl (by kernel_rfl) ?_;rw[Xm,Zn]));obtain⟨W8,a4⟩:∃W,wr.alloc (.cells ([.int .i64 q.k,.int .i64 q.node.s.T,.int .i64 q.node.s.R,.int .i64 q.node.I,.int .i64 q.up.s.T,.int .i64 q.up.s.R,.int .i64 q.up.I,.string q.name,.bool q.dir,.slice q.dv.A q.dv.n q.dv.c,.int .i64 q.af.s.T,.int .i64 q.af.s.R,.int .i64 q.af.I,.int .i64 q.el.s.T,.int .i64 q.el.s.R,.int .i64 q.el.I,.string q.tx,.slice q.ev.A q.ev.n q.ev.c]).toArray 72)=W:=⟨_,rfl⟩;have Q:W8.heap[wr.heap.size]?=some (.cells ([.int .i64 q.k,.int .i64 q.node.s.T,.int .i64 q.node.s.R,.int .i64 q.node.I,.int .i64 q.up.s.T,.int .i64 q.up.s.R,.int .i64 q.up.I,.string q.name,.bool q.dir,.slice q.dv.A q.dv.n q.dv.c,.int .i64 q.af.s.T,.int .i64 q.af.s.R,.int .i64 q.af.I,.int .i64 q.el.s.T,.int .i64 q.el.s.R,.int .i64 q.el.I,.string q.tx,.slice q.ev.A q.ev.n q.ev.c]).toArray 72 (0,0)):=(by rw[<-a4];exact Qi wr _);have a5:Below wr wr W8:=(by rw[<-a4];exact(Qc _ wr).alloc (Q3 _) _);rw[a4]
     have X:=Ki (ab.o.trans (a5.mono ab.o.size));have a1:=Ki (QB a2.o a5);have a9:=(a5.block b3 (Q5.1 ap.o).1).trans ap.o;obtain⟨b8,ar⟩:∃b,wr.heap.size=b:=⟨_,rfl⟩;rw[ar] at Q |-;have d0:=cr0 Q;have d1:=cr1 Q;have d2:=cr2 Q;have d3:=cr3 Q;have x0:=cr0 a9;have x1:=cr1 a9;have x2:=cr2 a9;have aP:=Xt;have aJ:=ZR;have hE:=F4 q.node x;have E:=Ki Q;clear a4 Q a5 a9 ar;have ae:=Kj (Zu x q=if q.node=x/\q.k=3 then [⟨q.af,q.el,q.tx⟩] else []) rfl;by_cases Z:q.k=3
     ·have ek:(q.k==3)=true:=(by simp[Z]);have ax:=Ki Z;clear Z;by_cases a0:q.node=x
      ·have J:=Ki (show R++(g.ops.take (j+1)).flatMap (Zu x)=M++[⟨q.af,q.el,q.tx⟩] by rw[a3.o,ae.o,Q7 ⟨a0,ax.o⟩]);rw[QF a0] at hE;have az:=cr10 E.o;have aA:=cr11 E.o;have aB:=cr12 E.o;have aC:=cr13 E.o;have aD:=cr14 E.o;have aE:=cr15 E.o;have aF:=cr16 E.o;have aH:=al.o;clear a0;go_wp2_with (at_builtin;refine Yf _ rfl _ _ 129 rfl U 131 i0 _ 7 64 Tryz.underlying129 hi z0 z1 z2 rfl (by decide) _ M.length _ rfl (a1.o.alloc _) ⟨W8.heap.size,0,none⟩ 1 1 [q.af.s.T,q.af.s.R,q.af.I,q.el.s.T,q.el.s.R,q.el.I,.string q.tx] rfl rfl (Zd W8 [q.af.s.T,q.af.s.R,q.af.I,q.el.s.T,q.el.s.R,q.el.I,.string q.tx] 131) (P5 ⟨q.af,q.el,q.tx⟩) (by unfold maxLen;omega) (by omega) (by have:=X.o.size;simp;omega) ?_);intro v9 W9 aj av _;have aa:=Ki ((X.o.alloc X.o.size (.cells ([.int .i64 q.af.s.T,.int .i64 q.af.s.R,.int .i64 q.af.I,.int .i64 q.el.s.T,.int .i64 q.el.s.R,.int .i64 q.el.I,.string q.tx]).toArray 131)).grown av (by have:=X.o.size;simp;omega) (λj hj=>(a1.o.lt j hj).1));have ac:=Ki (show W9.ownsRow U 131 7 v9 (M++[(⟨q.af,q.el,q.tx⟩:Rn)]).length ((M++[(⟨q.af,q.el,q.tx⟩:Rn)]).flatMap XL) by rw[Qj,Zb,Xf];exact aj);obtain⟨A9,c9,rfl,_,_⟩:=(Rd.of_own aj).form;clear aj av aH az aA aB aC aD aE aF;go_wp2;go_roundw;case rel=>exact⟨j+1,by omega,by go_num,by rw[J.o];exact ac.o,aa.o⟩
       case measure=>simp[intOf];omega
      have J:=Ki (show R++(g.ops.take (j+1)).flatMap (Zu x)=M by rw[a3.o,ae.o,Q6 (λaf=>a0 af.1),ZB]);rw[Zo a0] at hE;clear a0;go_wp2;go_roundw;case rel=>exact⟨j+1,by omega,by go_num,by rw[J.o];exact a1.o,X.o⟩
      case measure=>simp[intOf];omega
     have ek:(q.k==3)=false:=(by simp[Z]);have J:=Ki (show R++(g.ops.take (j+1)).flatMap (Zu x)=M by rw[a3.o,ae.o,Q6 (λaf=>Z af.2),ZB]);clear Z;go_wp2;go_roundw;case rel=>exact⟨j+1,by omega,by go_num,by rw[J.o];exact a1.o,X.o⟩
     case measure=>simp[intOf];omega
    have J:=Kj (R++(g.ops.take j).flatMap (Zu x)=Za (l.take (k+1)) x) (by rw[Zk (by omega),ao.o]);rw[J.o] at a2 |-;clear h hb a6 hx;go_wp2;go_roundw;case rel=>exact⟨k+1,by omega,by go_num,a2.o,ab.o⟩
    case measure=>simp[intOf];omega
  rw[Zk (show l.length<=k by omega)] at HO |-;have aa:=Ki (I.o.trans (hb.mono I.o.size));have ac:=Ki (Yp HO.o I.o.size);clear h hb;go_wp2;go_ret;exact⟨⟨_,rfl,ac.o⟩,aa.o⟩
def YS(d:Bool)(o:Qt):List Id:=if o.k=0/\o.dir=d then [o.node] else []
def Jp(l:List Q1)(d:Bool):List Id:=l.flatMap (λg=>g.ops.flatMap (YS d))
theorem Iw(d:Bool):∀l:List Qt,(l.flatMap (YS d)).length<=l.length
 |[]=>Q3 _
 |o::l=>by
  rw[XA,Qj,Z4];have h:=Iw d l;have j:(YS d o).length<=1:=by unfold YS;split<;>simp
  omega
theorem Ix(d:Bool):∀C:List Q1,(Jp C d).length<=QW C
 |[]=>Q3 _
 |g::C=>by
  have h:=Ix d C;have j:=Iw d g.ops;unfold Jp at h |-;rw[XA,Qj];have e:QW (g::C)=g.ops.length+QW C:=by unfold QW;rw[ZW,VO]
  omega
theorem Q2l(C:List Q1)(g:Q1)(d:Bool):Jp (C++[g]) d=Jp C d++g.ops.flatMap (YS d):=by unfold Jp;rw[Zb,Xf]
def NoR(l:List Q1)(d:Bool)(h:World)(v i:Value)(wr:World):Prop:=∃k:Nat,k<=l.length/\i=k/\wr.ownsRow h 60 3 v (Jp (l.take k) d).length ((Jp (l.take k) d).flatMap Qe)/\Below h h wr
def Q2m(R:List Id)(os:List Qt)(d:Bool)(h:World)(v i:Value)(wr:World):Prop:=∃k:Nat,k<=os.length/\i=k/\wr.ownsRow h 60 3 v (R++(os.take k).flatMap (YS d)).length ((R++(os.take k).flatMap (YS d)).flatMap Qe)/\Below h h wr
theorem Q2n(l:List Q1)(d:Bool)(A:Option Addr)(n c B:Nat)(h:World)(hG:Xi h B (.slice A n c) l)(hB:B<=h)(hs:QW l<=1000)(hn:n<=1000):Calls Tryz.prog 65 #[.slice A n c,.bool d] h λe w'=>(∃v,e=.returned v/\w'.ownsRow h 60 3 v (Jp l d).length ((Jp l d).flatMap Qe))/\Below h h w':=by
 obtain rfl:n=l.length:=(Rd.len hG.r).1;obtain⟨i0,hi,z0,z1,z2⟩:=Zc UZ;have HR:=Ki (λW (Q:Below h h W)=>hG.r.below' Q hB);have aa:=Ki (λg (X:g∈l) W (Q:Below h h W)=>(hG.a g X).o.below' Q hB);have HS:=Ki hs;clear hG;go_enter Tryz.func65,Tryz.ntmps65;go_wp2;go_loopw [5,6,7] (λv i _ wr=>NoR l d h v i wr) (λ_ i _ _=>l.length-(intOf i).toNat);case atStart=>exact⟨0,Qh _,rfl,⟨rfl,.inl ⟨rfl,rfl⟩⟩,Qc _ _⟩
 case round=>
  rename World=>wo
  obtain⟨k,hk,rfl,D,hb⟩:=hrel;obtain⟨Ao,co,rfl,_,_⟩:=(Rd.of_own D).form;have HO:=Ki D;have HB:=Ki hb;by_cases a5:k<l.length
  ·obtain⟨g,X⟩:∃g,l[k]=g:=⟨_,rfl⟩;have ac:=Ki (show Jp (l.take (k+1)) d=Jp (l.take k) d++g.ops.flatMap (YS d) by rw[QQ a5,Q2l,X]);have a1:g∈l:=(by rw[<-X];exact Zt a5);have al:g.ops.length<=1000:=Q9 (Iu a1) HS.o;have ab:=Kj ((Jp (l.take k) d).length<=1000) (Q9 (Ix d _) (Q9 (Iv l k) HS.o));obtain⟨R,hR⟩:∃R,Jp (l.take k) d=R:=⟨_,rfl⟩;rw[hR] at HO ac ab |-;have a6:g.ov.n=g.ops.length:=(Rd.len (aa.o g a1 h (Qc _ h))).1;have a2:=Ki (λW (Q:Below h h W)=>aa.o g a1 W Q)
   have a8:=Ki (λW (Q:Below h h W)=>(show ∃b o,A=some ⟨b,o,none⟩/\W.cell? ⟨b,o+k*7+6,none⟩=some (.slice g.ov.A g.ops.length g.ov.c) from by
    obtain⟨b2,o2,O,_,h2⟩:=Qr Qg 7 (λ_=>rfl) (by decide) (HR.o _ Q) a5;rw[X] at h2
    exact⟨b2,o2,O,by rw[<-a6];exact h2 6 _ rfl⟩))
   unfold Sl.v at a2;rw[a6] at a2;have am:(0:Int)<=(k:Int):=(by omega);have an:(k:Int)<(l.length:Int):=(by omega);obtain⟨bg,og,rfl,_⟩:=a8.o wo hb;clear X D hb hR a6 a1;go_wp2;go_loopw [5,7] (λv i wr=>Q2m R g.ops d h v i wr) (λ_ i _=>g.ops.length-(intOf i).toNat);case atStart=>exact⟨0,Qh _,rfl,by simpa using HO.o,HB.o⟩
   case round=>
    obtain⟨j,hj,rfl,D,hb⟩:=hrel;obtain⟨Ai,ci,rfl,_,_⟩:=(Rd.of_own D).form;have I:=Ki D;have E:=Ki hb;obtain⟨ak,aq,O,c6⟩:=a8.o wr hb;injection O with O;injection O with O e3;subst O e3;by_cases ae:j<g.ops.length
    ·obtain⟨bo,oo,eo,ai,U⟩:=Qr Qp 18 (λ_=>rfl) (by decide) (a2.o _ hb) ae;rw[eo] at c6;obtain⟨q,hq⟩:∃q,g.ops[j]=q:=⟨_,rfl⟩;rw[hq] at U;have a0:=Ki (show R++(g.ops.take (j+1)).flatMap (YS d)=(R++(g.ops.take j).flatMap (YS d))++YS d q by rw[QQ ae,Zb,Xf,hq,Y7])
     have a9:=Ki (show(R++(g.ops.take j).flatMap (YS d)).length<=2000 from by
      rw[Qj];have h1:=ab.o;have h2:=Iw d (g.ops.take j);rw[Zi] at h2
      omega)
     obtain⟨M,hM⟩:∃M,R++(g.ops.take j).flatMap (YS d)=M:=⟨_,rfl⟩;rw[hM] at a0 a9 I |-;have d0:wr.cell? (bo,oo+j*18)=q.k:=U 0 _ rfl;have d1:wr.cell? ⟨bo,oo+j*18+1,none⟩=some (.int .i64 q.node.s.T):=U 1 _ rfl;have d2:wr.cell? ⟨bo,oo+j*18+2,none⟩=some (.int .i64 q.node.s.R):=U 2 _ rfl;have d3:wr.cell? ⟨bo,oo+j*18+3,none⟩=some (.int .i64 q.node.I):=U 3 _ rfl;have d8:wr.cell? ⟨bo,oo+j*18+8,none⟩=some (.bool q.dir):=U 8 _ rfl;have ao:(0:Int)<=(j:Int):=(by omega);have ap:(j:Int)<(g.ops.length:Int):=(by omega);have a3:=Kj (YS d q=if q.k=0/\q.dir=d then [q.node] else []) rfl;clear U hq hM D hb ai eo;by_cases Y:q.k=0
     ·have ek:(q.k==0)=true:=(by simp[Y]);have ag:=Ki Y;clear Y;by_cases Z:q.dir=d
      ·have J:=Ki (show R++(g.ops.take (j+1)).flatMap (YS d)=M++[q.node] by rw[a0.o,a3.o,Q7 ⟨ag.o,Z⟩]);have ed:(q.dir==d)=true:=(by simp[Z]);have aj:=a9.o;clear Z;go_wp2_with (at_builtin;refine Yf _ rfl _ _ 66 rfl h 60 i0 _ 3 24 V0 hi z0 z1 z2 rfl (by decide) _ M.length _ rfl (I.o.alloc _) ⟨wr.heap.size,0,none⟩ 1 1 (Qe q.node) rfl rfl (Zd wr (Qe q.node) 60) (Vb q.node) (by unfold maxLen;omega) (by omega) (by have:=E.o.size;simp;omega) ?_);intro v9 W9 a7 ad _;have af:=Ki ((E.o.alloc E.o.size (.cells (Qe q.node).toArray 60)).grown ad (by have:=E.o.size;simp;omega) (λj hj=>(I.o.lt j hj).1));have ah:=Ki (show W9.ownsRow h 60 3 v9 (M++[q.node]).length ((M++[q.node]).flatMap Qe) by rw[Qj,Zb,Xf];exact a7);obtain⟨A9,c9,rfl,_,_⟩:=(Rd.of_own a7).form;clear a7 ad aj;go_wp2;go_roundw;case rel=>exact⟨j+1,by omega,by go_num,by rw[J.o];exact ah.o,af.o⟩
       case measure=>simp[intOf];omega
      have J:=Ki (show R++(g.ops.take (j+1)).flatMap (YS d)=M by rw[a0.o,a3.o,Q6 (λa4=>Z a4.2),ZB]);have ed:(q.dir==d)=false:=(by simp[Z]);clear Z;go_wp2;go_roundw;case rel=>exact⟨j+1,by omega,by go_num,by rw[J.o];exact I.o,E.o⟩
      case measure=>simp[intOf];omega
     have ek:(q.k==0)=false:=(by simp[Y]);have J:=Ki (show R++(g.ops.take (j+1)).flatMap (YS d)=M by rw[a0.o,a3.o,Q6 (λa4=>Y a4.1),ZB]);clear Y;go_wp2;go_roundw;case rel=>exact⟨j+1,by omega,by go_num,by rw[J.o];exact I.o,E.o⟩
     case measure=>simp[intOf];omega
    have J:=Kj (R++(g.ops.take j).flatMap (YS d)=Jp (l.take (k+1)) d) (by rw[Zk (by omega),ac.o]);rw[J.o] at I |-;clear D hb;go_wp2;go_roundw;case rel=>exact⟨k+1,by omega,by go_num,I.o,E.o⟩
    case measure=>simp[intOf];omega
  rw[Zk (show l.length<=k by omega)] at HO |-;clear D hb;go_wp2;go_ret;exact⟨⟨_,rfl,HO.o⟩,HB.o⟩
theorem Q2o(l:List Id)(z:Nat)(hz:z<=255)(A:Option Addr)(n c B:Nat)(w:World)(O:Rd w B 3 (.slice A n c) n (l.flatMap Qe))(hB:B<=w)(hn:n<=100000):Calls Tryz.prog 66 #[.slice A n c,.int .u8 (z:Int)] w λe w'=>(∃x:Id,e=.returned (Qa x)/\(x=Qf\/x∈l))/\Below w w w':=by
 obtain rfl:=QL Qe 3 (λ_=>rfl) (by decide) O.1;obtain⟨k,Y⟩:=ex (z % (l.length+1));have a5:k<=l.length:=by have:=Ug z (show 0<l.length+1 by omega);omega
 have h1:Int.tmod (z:Int) ((l.length:Int)+1)=(k:Int):=by rw[<-Y];exact(Ud z (l.length+1)).symm
 have h2:IntKind.i64.wrap ((l.length:Int)+1)=(l.length:Int)+1:=QO _ (by omega);have h3:¬(l.length:Int)+1=0:=by omega
 have HR:=Ki (λW (hW:Below w w W)=>O.below' hW hB);clear O Y;go_enter Tryz.func66,Tryz.ntmps66;go_upto_region 1 with fail;obtain⟨h,J⟩:∃W,w.alloc (.cells #[(0:Int),(0:Int),(0:Int)] 60)=W:=⟨_,rfl⟩;have E:=Kj (Below w w h) (by rw[<-J];exact(Qc _ w).alloc (Q3 _) _);have D:=Kj (h.heap[w.heap.size]?=some (.cells #[(0:Int),(0:Int),(0:Int)] 60 (0,0))) (by rw[<-J];exact Qi w _);rw[J];obtain⟨j,Q⟩:∃b,w.heap.size=b:=⟨_,rfl⟩;have X:=Ki Q;rw[Q] at D |-;clear J Q;rcases UH k l.length with Z|a2
 ·obtain⟨b,o,rfl,a1,I⟩:=Qr Qe 3 (λ_=>rfl) (by decide) (HR.o h E.o) Z;obtain⟨x,U⟩:∃x,l[k]=x:=⟨_,rfl⟩;rw[U] at I;have a0:=Ki (show x∈l by rw[<-U];exact Zt Z);have d0:h.cell? (b,o+k*3)=x.s.T:=I 0 _ rfl;have d1:h.cell? (b,o+k*3+1)=x.s.R:=I 1 _ rfl;have d2:h.cell? (b,o+k*3+2)=x.I:=I 2 _ rfl;have e1:((k:Int)==(l.length:Int))=false:=by simp;omega
  have e2:¬(k:Int)=(l.length:Int):=by omega
  have a3:(0:Int)<=(k:Int):=by omega
  have a4:(k:Int)<(l.length:Int):=by omega
  clear I U a1;go_wp2_with (((with_reducible refine Zm 60 ?_);refine Zp rfl 60 _ _ rfl _ _ rfl rfl 60 _ D.o (by kernel_rfl) rfl (by kernel_rfl) ?_;rw[Zn]));refine XE (V2 rfl _ _ j 60 #[x.s.T,x.s.R,x.I] (0,0) _ rfl (X7 h j _ _ 60 _ D.o) UB rfl (by kernel_rfl)) rfl ?_;exact⟨⟨x,rfl,.inr a0.o⟩,E.o.trans ((Y6 h j _).below E.o.size (λy hy e=>by have:=X.o;omega))⟩
 obtain rfl:k=l.length:=by omega
 go_wp2_with (((with_reducible refine Zm 60 ?_);refine Zp rfl 60 _ _ rfl _ _ rfl rfl 60 _ D.o (by kernel_rfl) rfl (by kernel_rfl) ?_;rw[Zn]));refine XE (V2 rfl _ _ j 60 #[(0:Int),(0:Int),(0:Int)] (0,0) _ rfl (X7 h j _ _ 60 _ D.o) UB rfl (by kernel_rfl)) rfl ?_;exact⟨⟨Qf,rfl,.inl rfl⟩,E.o.trans ((Y6 h j _).below E.o.size (λy hy e=>by have:=X.o;omega))⟩
theorem N6(a b:List Id)(A W:Option Addr)(n c E c' B:Nat)(w:World)(J:Rd w B 3 (.slice A n c) n (a.flatMap Qe))(O:Rd w B 3 (.slice W E c') E (b.flatMap Qe))(hB:B<=w)(hn:n<=100000)(a7:E<=100000):Calls Tryz.prog 67 #[.slice A n c,.slice W E c'] w λe w'=>(∃v,e=.returned v/\w'.ownsRow w 60 3 v (a++b).length ((a++b).flatMap Qe))/\Below w w w':=by
 obtain rfl:=QL Qe 3 (λ_=>rfl) (by decide) J.1;obtain rfl:=QL Qe 3 (λ_=>rfl) (by decide) O.1;obtain⟨Z,Y,z0,z1,z2⟩:=Zc UZ;have HR:=Ki J;have a3:=Ki (λa6 (hW:Below w w a6)=>O.below' hW hB);have HO:=Kj (w.ownsRow w 60 3 (.slice none 0 0) 0 []) ⟨rfl,.inl ⟨rfl,rfl⟩⟩;clear J O;go_enter Tryz.func67,Tryz.ntmps67;go_wp2_with (at_builtin;refine KE rfl _ _ 66 rfl w 60 Z _ 3 24 V0 Y z0 z1 z2 rfl (by decide) _ 0 [] rfl HO.o _ B a.length _ rfl HR.o (Kn Vb _) (by unfold maxLen;omega) (by omega) (Q3 _) ?_);intro v1 X j h Q;have D:=Ki ((Qc w w).grown h (Q3 _) (λa0 U=>by cases U));have I:=Ki (show X.ownsRow w 60 3 v1 a.length (a.flatMap Qe) by simpa using j);have a4:=Ki (a3.o X D.o);have a5:=Ki D.o.size;obtain⟨A1,c1,rfl,_,_⟩:=(Rd.of_own I.o).form;clear j h Q;go_wp2_with (at_builtin;refine KE rfl _ _ 66 rfl w 60 Z _ 3 24 V0 Y z0 z1 z2 rfl (by decide) _ a.length _ rfl I.o _ B b.length _ rfl a4.o (Kn Vb _) (by unfold maxLen;omega) (by omega) a5.o ?_);intro v2 W2 j h Q;have a1:=Ki (D.o.grown h D.o.size (λa0 U=>(I.o.lt a0 U).1));have a2:=Ki (show W2.ownsRow w 60 3 v2 (a++b).length ((a++b).flatMap Qe) by rw[Qj,Zb];exact j);clear j h Q;go_wp2;go_ret;exact⟨⟨_,rfl,a2.o⟩,a1.o⟩
def J5:Q4:=⟨1,1,by unfold Qu;omega,by unfold Qu;omega⟩
def Uw:Qt:=⟨0,⟨J5,0,by unfold Qu;omega⟩,Qf,⟨#[97]⟩,true,⟨none,0,0⟩,[],Qf,Qf,⟨#[]⟩,⟨none,0,0⟩,[],by unfold Qu;omega,by decide,by decide⟩
theorem Iy:Qp Uw=[.int .i64 0,.int .i64 1,.int .i64 1,.int .i64 0,.int .i64 0,.int .i64 0,.int .i64 0,.string ⟨#[97]⟩,.bool true,.slice none 0 0,.int .i64 0,.int .i64 0,.int .i64 0,.int .i64 0,.int .i64 0,.int .i64 0,.string ⟨#[]⟩,.slice none 0 0]:=rfl
def Yu(A:Option Addr)(c:Nat):Q1:=⟨J5,1,⟨none,0,0⟩,[],Qf.s,⟨A,1,c⟩,[Uw],by unfold Qu;omega⟩
theorem Q2p(w:World):Calls Tryz.prog 12 #[] w λe w'=>(∃A c,e=.returned (Z2 (Yu A c))/\X4 w' w' (Yu A c))/\Below w w w':=by
 go_enter Tryz.func12,Tryz.ntmps12;go_upto_region 1 with fail;obtain⟨X,J⟩:∃W,w.alloc (.cells #[(0:Int),(0:Int),(0:Int),.slice none 0 0,(0:Int),(0:Int),.slice none 0 0] 31)=W:=⟨_,rfl⟩;have D:=bn J;have Z:=Kj (Below w w X) (by rw[<-J];exact(Qc _ w).alloc (Q3 _) _);rw[J];obtain⟨b0,Y⟩:∃b,w.heap.size=b:=⟨_,rfl⟩;have HE:=Ki Y;rw[Y] at D |-;have l0:=(Q5.1 D).1;clear J Y;go_upto_region 2 with(((with_reducible refine Zm 27 ?_);refine Zp rfl 27 _ _ rfl _ _ rfl rfl _ _ (Qi _ _) (by kernel_rfl) rfl (by kernel_rfl) ?_;rw[Xm,Zn]));obtain⟨j,O⟩:∃W,X.alloc (.cells #[(1:Int),(1:Int)] 27)=W:=⟨_,rfl⟩;have I:=bn O;have hb2:=bl O;rw[O];have E:=(hb2.block b0 l0).trans D;have U:=Ki (Z.o.trans (hb2.mono Z.o.size));obtain⟨b1,a1⟩:∃b,X.heap.size=b:=⟨_,rfl⟩;rw[a1] at I |-;have x0:=cr0 I;have x1:=cr1 I;have Q:=Ki (show(j.alloc (.cells [.int .i64 0,.int .i64 1,.int .i64 1,.int .i64 0,.int .i64 0,.int .i64 0,.int .i64 0,.string ⟨#[97]⟩,.bool true,.slice none 0 0,.int .i64 0,.int .i64 0,.int .i64 0,.int .i64 0,.int .i64 0,.int .i64 0,.string ⟨#[]⟩,.slice none 0 0].toArray 72)).heap[b0]?=some (.cells #[.int .i64 0,.int .i64 0,.int .i64 0,.slice none 0 0,.int .i64 0,.int .i64 0,.slice none 0 0] 31 (0,0)) from(((Qc _ j).alloc (Q3 _) _).block b0 (Q5.1 E).1).trans E);have a2:=(Q5.1 E).1;have a3:=Ki a2;clear O hb2 a1 D I E l0 a2;go_wp2_with (first|((with_reducible refine Zm 31 ?_);refine Zp rfl 31 _ _ rfl _ _ rfl rfl 31 _ Q.o (by kernel_rfl) rfl (by kernel_rfl) ?_;rw[Zn]))
 have hg:=Q.o;have hO:(j.alloc (.cells [.int .i64 0,.int .i64 1,.int .i64 1,.int .i64 0,.int .i64 0,.int .i64 0,.int .i64 0,.string ⟨#[97]⟩,.bool true,.slice none 0 0,.int .i64 0,.int .i64 0,.int .i64 0,.int .i64 0,.int .i64 0,.int .i64 0,.string ⟨#[]⟩,.slice none 0 0].toArray 72)).ownsRow w.heap.size 72 18 (.slice (some ⟨j.heap.size,0,none⟩) 1 1) 1 [.int .i64 0,.int .i64 1,.int .i64 1,.int .i64 0,.int .i64 0,.int .i64 0,.int .i64 0,.string ⟨#[97]⟩,.bool true,.slice none 0 0,.int .i64 0,.int .i64 0,.int .i64 0,.int .i64 0,.int .i64 0,.int .i64 0,.string ⟨#[]⟩,.slice none 0 0]:=⟨rfl,.inr ⟨j.heap.size,1,[.int .i64 0,.int .i64 1,.int .i64 1,.int .i64 0,.int .i64 0,.int .i64 0,.int .i64 0,.string ⟨#[97]⟩,.bool true,.slice none 0 0,.int .i64 0,.int .i64 0,.int .i64 0,.int .i64 0,.int .i64 0,.int .i64 0,.string ⟨#[]⟩,.slice none 0 0].toArray,rfl,U.o.size,Qi j _,Q3 _,by decide,rfl,rfl⟩⟩;have a0:Below w.heap.size w (j.alloc (.cells [.int .i64 0,.int .i64 1,.int .i64 1,.int .i64 0,.int .i64 0,.int .i64 0,.int .i64 0,.string ⟨#[97]⟩,.bool true,.slice none 0 0,.int .i64 0,.int .i64 0,.int .i64 0,.int .i64 0,.int .i64 0,.int .i64 0,.string ⟨#[]⟩,.slice none 0 0].toArray 72)):=U.o.trans (((Qc _ j).alloc (Q3 _) _).mono U.o.size);have a5:=Nat.ne_of_lt a3.o;refine XE (V2 rfl _ _ b0 31 #[(1:Int),(1:Int),(1:Int),.slice none 0 0,(0:Int),(0:Int),.slice (j.heap.size,0) 1 1] (0,0) _ rfl (X7 _ b0 _ _ 31 _ Q.o) Tryz.underlying31 rfl (by kernel_rfl)) rfl ?_
 have ht:=Y6 (j.alloc (.cells [.int .i64 0,.int .i64 1,.int .i64 1,.int .i64 0,.int .i64 0,.int .i64 0,.int .i64 0,.string ⟨#[97]⟩,.bool true,.slice none 0 0,.int .i64 0,.int .i64 0,.int .i64 0,.int .i64 0,.int .i64 0,.int .i64 0,.string ⟨#[]⟩,.slice none 0 0].toArray 72)) b0 #[.int .i64 1,.int .i64 1,.int .i64 1,.slice none 0 0,.int .i64 0,.int .i64 0,.slice (some ⟨j.heap.size,0,none⟩) 1 1]
 have a4:=Yn hO ht (λg hg hf=>by
  have e:j.heap.size=g:=by simpa [Value.ownBlock] using hg
  exact a5 (by rw[e];exact hf.symm))
 refine⟨⟨some ⟨j.heap.size,0,none⟩,1,rfl,⟨Rd.nil _ _ _,λx h=>(by cases h),?_,λo ho=>?_⟩⟩,a0.trans (ht.below a0.size (λy hy e=>by have D:=HE.o;omega))⟩;·have h:=Rd.of_own a4;exact h
 rw[Qw.1 (ho)];exact⟨Rd.nil _ _ _,Rd.nil _ _ _⟩
structure Wr(b n:Nat)(w W:World):Prop where
 bl:Vz b n W
 be:Below b w W
 ok:Lib.OthersKept 5 (some b) w W
theorem Wr.below{b n:Nat}{w W V:World}(h:Wr b n w W)(hb:Below W W V)(j:b<=w):Wr b n w V:=
 ⟨h.bl.below hb,h.be.trans (hb.mono (Q9 j h.be.size)),h.ok.trans (AC hb)⟩
theorem Wr.next{b n m:Nat}{w W V:World}(h:Wr b n w W)(j:Vz b m V)(D:Below b W V)(E:Lib.OthersKept 5 (some b) W V):Wr b m w V:=⟨j,h.be.trans D,h.ok.trans E⟩
theorem Wr.blk{b n k:Nat}{w W:World}{cs:Array Value}{t:TypeId}(h:Wr b n w W)(j:w.heap[k]?=some (.cells cs t (0,0)))(E:t≠5)(D:k≠b):W.heap[k]?=some (.cells cs t (0,0)):=
 h.ok k _ j (λe=>D (Jr e)) (λc I e=>by injection e with _ e _;exact absurd e E)
theorem CJ{b m:Nat}{w W:World}(h:Wr b m w W)(U:b<w)(xs:List Int)(X:∀x∈xs,0<=x/\x<128)(hm:m<=1000)(O:xs.length<=1000)(n c:Nat)(Q:n=xs.length)(cs:Array Value)(J:cs=(xs.map (λx=>Value.int .i64 x)).toArray):Calls Tryz.prog 28 #[.pointer (b,0),.slice (W.heap.size,0) n c] (W.alloc (.cells cs 3)) λe w'=>e=.returned (.tuple #[])/\Wr b (m+xs.length) w w':=by subst J Q;have hb:=(Qc W W).alloc (Q3 _) (.cells (xs.map (λx=>Value.int .i64 x)).toArray 3);have Y:=h.be.size;have j:=h.below hb (Xn U);refine(PN b m xs X W c _ j.bl hm O (Qi W _) (by omega) (by have:=hb.size;omega)).mono ?_;rintro e w' ⟨rfl,D,E,I⟩;exact⟨rfl,j.next D E I⟩
theorem N7{b m:Nat}{w W:World}(h:Wr b m w W)(O:b<w)(x:Id)(D:0<=x.s.T/\x.s.T<128)(E:0<=x.s.R/\x.s.R<128)(j:0<=x.I/\x.I<128)(hm:m<=1000):Calls Tryz.prog 62 #[.pointer (b,0),Qa x] W λe w'=>e=.returned (.tuple #[])/\Wr b (m+3) w w':=by refine(TJ b m x D E j W h.bl hm (Z1 O h.be.size)).mono ?_;rintro e w' ⟨rfl,j,I,J⟩;exact⟨rfl,h.next j I J⟩
theorem Iz{b m:Nat}{w W:World}(h:Wr b m w W)(J:b<w)(s:ByteArray)(Q:s.size<=1000)(hm:m<=1000):Calls Tryz.prog 30 #[.pointer (b,0),.string s] W λe w'=>e=.returned (.tuple #[s.size,.nilIface])/\Wr b (m+s.size) w w':=by
 obtain⟨l,I,hb⟩:=h.bl;have O:(Lib.byteCells l).length=l.length:=by simp[Lib.byteCells]
 refine(PK b b (Lib.byteCells l) s W hb (by omega) (Xn (Z1 J h.be.size))).mono ?_;rintro e w' ⟨rfl,j,D,E⟩;refine⟨rfl,h.next ⟨l++s.data.toList,?_,by rw[Aq];exact .inr j⟩ D E⟩;rw[Qj,I];rfl
theorem Q2q{b m:Nat}{w W:World}(h:Wr b m w W)(D:b<w)(s:ByteArray)(j:s.size<128):Calls Tryz.prog 63 #[.string s] W λe w'=>(∃t:ByteArray,e=.returned t/\t.size=s.size+1)/\Wr b m w w':=by refine(TK s j W).mono ?_;rintro e w' ⟨rfl,hb⟩;refine⟨⟨_,rfl,?_⟩,h.below hb (Xn D)⟩;rw[KZ];show 1+s.size=s.size+1;omega
theorem Q2r(b m:Nat)(w0 w:World)(a9:Wr b m w0 w)(hm:m<=900)(hw:b<w0):Calls Tryz.prog 31 #[.pointer (b,0),Qz Uw] w λe w'=>e=.returned (.tuple #[])/\Wr b (m+10) w0 w':=by
 unfold Qz;rw[Iy];have HH:=Ki a9;have HW:=Ki hw;have ab:=Z1 hw a9.be.size;have aj:=Ki ab;clear a9 hw;go_enter Tryz.func31,Tryz.ntmps31;go_upto_region 1 with fail;obtain⟨E,U⟩:∃W,w.alloc (.cells #[(0:Int),(1:Int),(1:Int),(0:Int),(0:Int),(0:Int),(0:Int),.string ⟨#[97]⟩,.bool true,.slice none 0 0,(0:Int),(0:Int),(0:Int),(0:Int),(0:Int),(0:Int),.string ⟨#[]⟩,.slice none 0 0] 72)=W:=⟨_,rfl⟩;have Q:=bn U;have aa:=bl U;rw[U];obtain⟨b3,af⟩:∃b,w.heap.size=b:=⟨_,rfl⟩;rw[af] at Q ab |-;have D:=Kj (b<E) (by have:=aa.size;omega);have O:=Ki (λn W (hW:Wr b n E W)=>hW.blk Q (by decide) (by omega));have ae:=Ki (HH.o.below aa (Xn HW.o));have HR:=Kj (Wr b m E E) ⟨ae.o.bl,Qc _ _,E7 _ _ _⟩;have c0:=cr0 Q;clear U Q aa af ab;go_wp2_with fail;refine(CJ HR.o D.o [0] (by decide) (by omega) (by decide) _ _ rfl _ rfl).mono ?_;rintro e w2 ⟨rfl,h⟩;have ag:=Ki h;have j:=O.o _ _ h;have I:=cr0 j;have a1:=cr1 j;have a2:=cr2 j;have a3:=cr3 j;have Z:=Ki (N7 h D.o ⟨J5,0,by unfold Qu;omega⟩ (by show(0:Int)<=1/\(1:Int)<128;decide) (by show(0:Int)<=1/\(1:Int)<128;decide) (by show(0:Int)<=0/\(0:Int)<128;decide) (by show m+1<=1000;omega));unfold Qa at Z;clear h j c0;go_wp2_with fail;refine Z.o.mono ?_;rintro e w3 ⟨rfl,h⟩;have ah:=Ki h;have j:=O.o _ _ h;clear I a1 a2 a3;have I:=cr0 j;have a4:=cr4 j;have a5:=cr5 j;have a6:=cr6 j;have a7:=Ki (N7 h D.o Qf (by decide) (by decide) (by decide) (by show m+1+3<=1000;omega));unfold Qa at a7
 clear h j Z ag;go_wp2_with fail;refine a7.o.mono ?_;rintro e w4 ⟨rfl,h⟩;have Y:=Ki (λn W (hW:Wr b n E W)=>(cR 7 (O.o _ _ hW)));have ac:=h.below (Qc _ w4).drew (Xn D.o);clear I a4 a5 a6 a7 h ah;go_upto_region 7 with fail
 go_region_held3 (λW'=>W'.cell? (b3,7)=some (.string ⟨#[97]⟩)) (first|exact Y.o _ _ ac|exact Y.o _ _ ad|exact Y.o _ _ J|go_keep)
  (first
   |(go_at_call 30;refine(Iz ad D.o st (by omega) (by show m+1+3+3<=1000;omega)).mono ?_;rintro e6 w6 ⟨rfl,J⟩)
   |(go_at_call 63;refine(Q2q ac D.o ⟨#[97]⟩ (by decide)).mono ?_;rintro e5 w5 ⟨⟨st,rfl,X⟩,ad⟩;have X:st.size=2:=X))
 rw[X] at J;have ai:=Ki J;have j:=O.o _ _ J;have I:=cr0 j;have a8:=cr8 j;clear j ac ad J X;go_wp2_with fail;refine(CJ ai.o D.o [1] (by decide) (by show m+1+3+3+2<=1000;omega) (by decide) _ _ rfl _ rfl).mono ?_;rintro e w7 ⟨rfl,h⟩;have HF:=Ki (ae.o.next h.bl h.be h.ok);clear h I a8;go_wp2;go_end0;exact⟨rfl,HF.o⟩
theorem Q2s(w:World):Calls Tryz.prog 29 #[.slice none 0 0] w λe w'=>e=.returned (.tuple #[.string (strOfNums [0]),(0:Int)])/\Below w w w':=by
 have I:=Ki (AB 0 (by omega) (by omega) w);obtain⟨U,h⟩:∃t,strOfNums [0]=t:=⟨_,rfl⟩;rw[h];have J:=Ki h;clear h;go_enter Tryz.func29,Tryz.ntmps29;go_wp2_with fail;refine I.o.mono ?_;rintro e D ⟨⟨g,c,rfl,j⟩,hb⟩;have E:=Ki hb
 have O:=CW (P:=Tryz.prog) D 85 5 Dc CR g 0 1 c [0] rfl (λi Q=>by
  obtain rfl:i=0:=by omega
  exact j) 9 GH
 rw[J.o] at O;clear hb j;go_wp2;go_loopw [4,13] (λa i wr=>a=.slice (g,0) 1 c/\i=.int .i64 0/\wr=D) (λ_ _ _=>0);case atStart=>exact⟨rfl,rfl,rfl⟩
 case round=>obtain⟨rfl,rfl,rfl⟩:=hrel;go_wp2;go_ret2;exact⟨rfl,E.o⟩
theorem IA(A:Option Addr)(c:Nat):Z2 (Yu A c)=.agg #[(1:Int),(1:Int),(1:Int),.slice none 0 0,(0:Int),(0:Int),.slice A 1 c]:=rfl
theorem Q2t(w:World):Wr w 0 (w.alloc (.cells #[.pointer none,.slice none 0 0] 89)) (w.alloc (.cells #[.pointer none,.slice none 0 0] 89)):=
 ⟨⟨[],rfl,Lib.IsBuilderF.of (Lib.fresh_isBuilder 89 5 w)⟩,Qc _ _,E7 _ _ _⟩
theorem Q2u(A:Option Addr)(c B:Nat)(w:World)(hg:X4 w B (Yu A c))(hB:B<=w)(hT:ZD w):Calls Tryz.prog 13 #[Z2 (Yu A c)] w λe w'=>(∃J:ByteArray,e=.returned (.tuple #[.string J,(0:Int)])/\J.size=17)/\Below w w w':=by
 have HC:=Ki (λW (I:Below w w W)=>AI (Yu A c) B W (hg.below (I.mono hB)) (Q9 hB I.size) (hT.below I) (λo ho=>by rw[Qw.1 (ho)];decide));rw[show Fo (ZG (Yu A c))=0 from rfl] at HC;have HO:=Ki (λW (I:Below w w W)=>(hg.below (I.mono hB)).o);rw[IA] at HC |-;clear hg hT;go_enter Tryz.func13,Tryz.ntmps13;go_upto_region 1 with fail;obtain⟨W1,ab⟩:∃W,w.alloc (.cells #[(1:Int),(1:Int),(1:Int),.slice none 0 0,(0:Int),(0:Int),.slice A 1 c] 31)=W:=⟨_,rfl⟩;have h1:=bn ab;have aw:=bl ab;rw[ab];obtain⟨b1,ai⟩:∃b,w.heap.size=b:=⟨_,rfl⟩;have aN:=Ki ai;rw[ai] at h1 |-;have H1:=Ki h1;have a8:=Ki aw;have h:=h1;have a0:=cr0 h;have a1:=cr1 h;have a2:=cr2 h;have U:=cr3 h;have X:=cr4 h;have Y:=cr5 h;have O:=cr6 h;clear ab h1 aw ai h;go_wp2_with fail;refine(HC.o W1 a8.o).mono ?_;rintro e w2 ⟨rfl,hb2⟩;have aa:=Ki ((hb2.block b1 (Q5.1 H1.o).1).trans H1.o);have ae:=Ki (a8.o.trans (hb2.mono a8.o.size));clear a0 a1 a2 U X Y O hb2 a8 H1;go_upto_region 5 with fail;obtain⟨E,Z⟩:∃W,w2.alloc (.cells #[.pointer none,.slice none 0 0] 89)=W:=⟨_,rfl⟩;have ah:=bl Z;have j:Wr w2 0 E E:=by rw[<-Z];exact Q2t w2
 have hl:w2.heap.size<E.heap.size:=by rw[<-Z,Qy];omega
 rw[Z];obtain⟨b,hb⟩:=ex (w2.heap.size);have h:=(ah.block b1 (Q5.1 aa.o).1).trans aa.o;have aC:b1≠b:=by have:=(Q5.1 aa.o).1;omega
 rw[hb] at j hl |-;have HR:=Ki j;have D:=Ki hl;have HX:=Ki (λn W (I:Wr b n E W)=>I.blk h (by decide) aC);have an:=Ki (ae.o.trans (ah.mono ae.o.size));have ao:=Kj (w<=b) (by have:=ae.o.size;omega);have a0:=cr0 h;have a1:=cr1 h;have a2:=cr2 h;have U:=cr3 h;have X:=cr4 h;have Y:=cr5 h;have O:=cr6 h;clear Z ah j hl hb h aC aa;go_wp2_with fail;refine(CJ HR.o D.o [1,1,1] (by decide) (by omega) (by decide) _ _ rfl _ rfl).mono ?_;rintro e w4 ⟨rfl,ak⟩;have h:=HX.o _ _ ak;have ap:=Ki ak;clear a0 a1 a2 U X Y O ak;have U:=cr3 h;clear h;obtain⟨J,Q⟩:∃t,strOfNums [0]=t:=⟨_,rfl⟩;have am:J.size=1:=by rw[<-Q];rfl
 have af:=Ki (Q2s w4);rw[Q] at af;clear Q;go_wp2_with fail;refine af.o.mono ?_;rintro e w5 ⟨rfl,ax⟩;have ag:=Ki (ap.o.below ax (Xn D.o));have ar:=Ki (Iz ag.o D.o J (by omega) (by decide));rw[am] at ar;have av:=Ki am;clear ax U af am ap;go_wp2_with fail;refine(Iz ag.o D.o J (by have:=av.o;omega) (by decide)).mono ?_;rintro e w6 ⟨rfl,ad⟩;rw[av.o] at ad;have h:=HX.o _ _ ad;have aq:=Ki ad;clear ad ar ag;have X:=cr4 h;have Y:=cr5 h;have O:=cR 6 h;clear h;go_wp2_with fail;refine(CJ aq.o D.o [0,0,1] (by decide) (by decide) (by decide) _ _ rfl _ rfl).mono ?_;rintro e w7 ⟨rfl,al⟩;have h:=HX.o _ _ al;have aF:=Kj (Wr b 7 E w7) al;clear al aq X Y O;have O:=cR 6 h;clear h;go_wp2;go_loopw [9,54] (λ_ i wr=>∃k:Nat,k<=1/\i=k/\Wr b (7+10*k) E wr) (λ_ i _=>1-(intOf i).toNat);case atStart=>exact⟨0,Qh _,rfl,aF.o⟩
 case round=>
  obtain⟨k,hk,rfl,j⟩:=hrel;have aI:=Ki j;by_cases aM:k<1
  ·obtain⟨bo,oo,rfl,aL,aj⟩:=Qr Qp 18 (λ_=>rfl) (by decide) (show Rd wr B 18 (.slice A 1 c) [Uw].length ([Uw].flatMap Qp) from HO.o wr (an.o.trans (j.be.mono ao.o))) aM;have hq:[Uw][k]=Uw:=(by have:k=0:=(by omega);subst this;rfl);rw[hq,Iy] at aj;have LD:=Ki aj;have aO:(0:Int)<=(k:Int):=(by omega);have aP:(k:Int)<1:=(by omega);clear j aj hq aL;go_upto_region 12 with(first|((with_reducible refine Ql 72 ?_);refine QA rfl 72 _ rfl _ _ _ rfl LD.o (by kernel_rfl) (Z6 _) ?_)|((with_reducible refine Zm 72 ?_);refine Zp rfl 72 _ _ rfl _ _ rfl rfl _ _ (Qi _ _) (by kernel_rfl) rfl (by kernel_rfl) ?_;rw[Xm,Zn]));obtain⟨W8,ac⟩:∃W,wr.alloc (.cells #[(0:Int),(1:Int),(1:Int),(0:Int),(0:Int),(0:Int),(0:Int),.string ⟨#[97]⟩,.bool true,.slice none 0 0,(0:Int),(0:Int),(0:Int),(0:Int),(0:Int),(0:Int),.string ⟨#[]⟩,.slice none 0 0] 72)=W:=⟨_,rfl⟩;have h8:=bn ac;have ay:=bl ac;rw[ac];have aG:=Ki (aI.o.below ay (Xn D.o));obtain⟨b8,az⟩:∃b,wr.heap.size=b:=⟨_,rfl⟩;rw[az] at h8 |-;have aK:=Ki (Zz (cs:=[(0:Int),(1:Int),(1:Int),(0:Int),(0:Int),(0:Int),(0:Int),.string ⟨#[97]⟩,.bool true,.slice none 0 0,(0:Int),(0:Int),(0:Int),(0:Int),(0:Int),(0:Int),.string ⟨#[]⟩,.slice none 0 0]) h8);have a9:=Ki (Q2r b (7+10*k) E W8 aG.o (by omega) D.o);unfold Qz at a9;rw[Iy] at a9;clear ac h8 ay az;go_wp2_with (first|((with_reducible refine Ql 72 ?_);refine QA rfl 72 _ rfl _ _ _ rfl aK.o (by kernel_rfl) (Z6 _) ?_));refine a9.o.mono ?_
   rintro e w9 ⟨rfl,aD⟩;have aH:=Ki aD;clear aD a9;go_wp2;go_roundw;case rel=>exact⟨k+1,by omega,by go_num,by rw[show 7+10*(k+1)=7+10*k+10 by omega];exact aH.o⟩
   case measure=>simp[intOf];omega
  obtain⟨l,a7,aB⟩:=j.bl;have a7:l.length=17:=(by omega);have aJ:=Ki (TI b b l wr aB (λe=>by rw[e] at a7;cases a7));have HE:=Ki j.be;have aE:=Ki a7;clear j aB a7;go_wp2_with fail;refine aJ.o.mono ?_;rintro e w9 ⟨rfl,aA⟩;have HF:=Ki (an.o.trans ((HE.o.trans aA).mono ao.o));have au:=Kj ((⟨l.toArray⟩:ByteArray).size=17) (by show l.toArray.size=17;simpa using aE.o);obtain⟨J,Q⟩:∃s,(⟨l.toArray⟩:ByteArray)=s:=⟨_,rfl⟩;rw[Q] at au |-;clear aA Q;go_wp2;go_ret2;exact⟨⟨_,rfl,au.o⟩,HF.o⟩
def Yv:Id:=⟨J5,0,by unfold Qu;omega⟩
def Vj:Q2:=⟨Yv,Qf,⟨#[97]⟩,true⟩
def FJ:QE:=⟨Yv,Q8 [47,97],true,false⟩
theorem N8{j D:Type}[DecidableEq D](key:j->D)(x h:j):h∈[x]↔[x].find? (λg=>decide (key g=key h))=some h:=by
 constructor;·intro hm;rw[Qw.1 hm];simp
 exact Df
theorem Q2v(A:Option Addr)(c:Nat):ZG (Yu A c)=true:=by rfl
theorem N9(A:Option Addr)(c:Nat):Qs [Yu A c]=[Yu A c]:=by have h:=Gm [] (Yu A c);rw[Q7 ⟨Q2v A c,λh=>by cases h⟩] at h;exact h
theorem Q2w(A:Option Addr)(c:Nat):Jx ([Yu A c].map Y4) [J5]:=
 ⟨[⟨J5,Qf.s⟩],⟨GI _ _,λh=>N8 Qm.nm ⟨J5,Qf.s⟩ h⟩,rfl⟩
theorem Q2x(A:Option Addr)(c:Nat):Yr [J5] [Yu A c] S0=⟨[Yv],[Vj],[⟨Yv,J5⟩],[],λy=>if y=Yv then some true else none⟩:=by
 have e:decide (J5∈[J5])=true:=by simp
 show X0 J5 (decide (J5∈[J5])) 0 [Uw] S0=_;rw[e];show Z0 J5 true 0 Uw S0=_;rfl
theorem Q2y:FG (λy=>if y=Yv then some true else none) [⟨Yv,Vj⟩]=[Vj]:=by rfl
theorem Q2z:Yz [Vj]=λy=>if y=Yv then some Vj else none:=by show K1 (λ_=>none) Vj=_;unfold K1;rw[Q7 ⟨rfl,rfl,rfl⟩];rfl
theorem Q2A(A:Option Addr)(c:Nat):KP (Yr [J5] [Yu A c] S0) [FJ]:=by
 rw[Q2x];refine⟨[⟨Yv,Vj⟩],[Yv],⟨GI _ _,λh=>N8 QJ.at_ ⟨Yv,Vj⟩ h⟩,GI _ _,λy=>?_,?_⟩;·unfold Yb;simp[eq_comm]
 rw[show FG _ _=[Vj] from Q2y];have I:=Q2z;have D:Yz [Vj] Yv=some Vj:=by rw[I];rfl
 have E:XY (Yz [Vj]) Yv [Yv]:=.top (by unfold Gu;rw[D];rfl) (by unfold VE;rw[D];rfl);have J:KN (Yz [Vj]) [Yv] [Yv] FJ:=⟨[Yv],E,by unfold Jy;rw[I];rfl,by unfold Us;rw[show FJ.nd=Yv from rfl,D];rfl,by simp[FJ]⟩;refine⟨[Yv],⟨GI _ _,λy=>?_⟩,GI _ _,λX=>?_⟩
 ·constructor;·intro j;rw[Qw.1 j];exact⟨Yv,Qw.2 rfl,[Yv],E,Qw.2 rfl⟩
  rintro⟨x,W,l,O,j⟩;rw[Qw.1 W] at O;rw[FB O E] at j;exact j
 constructor;·intro h;rw[Qw.1 h];exact⟨Qw.2 rfl,J⟩
 rintro⟨Q,U⟩;rw[Ic U J (Qw.1 Q)];exact Qw.2 rfl
theorem Q2B(A:Option Addr)(c:Nat){I:List QE}{h:List XP}(O:YP [Yu A c] I)(J:Vf [Yu A c] I h):∃e,h=[e]/\e.path=Q8 [47,97]:=by
 have j:YP [Yu A c] [FJ]:=⟨[J5],by rw[N9];exact Q2w A c,by rw[N9];exact Q2A A c⟩
 obtain rfl:=CE O j
 obtain⟨D,E⟩:=J
 match h,D with
 |[e],_=>exact⟨e,rfl,(E 0 FJ e rfl rfl).1⟩
theorem Q2C(A:Option Addr)(c:Nat):Uv [Yu A c]:=by
 have hm:∀g∈[Yu A c],∀o∈g.ops,o=Uw:=λg j o h=>by rw[Qw.1 j] at h;exact Qw.1 h
 refine⟨by show 1<=1000;decide,λg j o h=>?_,λg j o h=>?_,λg j o h=>?_,by show 1<=900;decide,λg j o h=>?_,λg j o h _=>?_⟩;·rw[hm g j o h];decide
 ·rw[hm g j o h];decide
 ·rw[hm g j o h];decide
 ·rw[hm g j o h];decide
 rw[hm g (XC j) o h];unfold YA;decide
theorem Yd{w W:World}{b:Nat}{o:Obj}(h:w.heap[b]?=some o)(hb:Below w w W):W.heap[b]?=some o:=(hb.block b (Q5.1 h).1).trans h
theorem X4.below'{w w':World}{B:Nat}{g:Q1}(h:X4 w B g)(hb:Below w w w')(j:B<=w):X4 w' B g:=h.below (hb.mono j)
theorem Q2D(w:World)(hT:ZD w):Calls Tryz.prog 4 #[] w λe w'=>e=.returned (.bool true)/\Below w w w':=by
 have HF:=Ki (Q2p w);have a4:=Ki (λW (hW:Below w w W)=>hT.below hW);clear hT;go_enter Tryz.func4,Tryz.ntmps4;go_wp2_with fail;refine HF.o.mono ?_;rintro e w1 ⟨⟨A,c,rfl,Y⟩,a5⟩;rw[IA];have Z:=Ki a5;have a3:=Ki Y;clear a5 Y HF;go_upto_region 2 with fail;obtain⟨J,Q⟩:∃W,w1.alloc (.cells #[(1:Int),(1:Int),(1:Int),.slice none 0 0,(0:Int),(0:Int),.slice A 1 c] 31)=W:=⟨_,rfl⟩;have O:=bn Q;have hb2:=bl Q;rw[Q];have I:=Ki (a3.o.below hb2);have a0:=Ki (Z.o.trans (hb2.mono Z.o.size));have D:=Ki hb2.size;obtain⟨b1,a7⟩:∃b,w1.heap.size=b:=⟨_,rfl⟩;rw[a7] at O I D |-;have HX:=Ki (λW (hW:Below J J W)=>Yd O hW);have ah:=Ki (Zz (cs:=[(1:Int),(1:Int),(1:Int),.slice none 0 0,(0:Int),(0:Int),.slice A 1 c]) O);have HE:=Ki (Q2u A c b1 J I.o D.o (a4.o J a0.o));rw[IA] at HE;clear Q O hb2 a7 a3 Z;go_wp2_with (first|((with_reducible refine Ql 31 ?_);refine QA rfl 31 _ rfl _ _ _ rfl ah.o (by kernel_rfl) (Zl _) ?_));refine HE.o.mono ?_;rintro e h ⟨⟨st,rfl,ab⟩,j⟩;have ac:=HX.o h j;have ai:=Ki (Zz (cs:=[(1:Int),(1:Int),(1:Int),.slice none 0 0,(0:Int),(0:Int),.slice A 1 c]) ac);have a2:=Ki (a0.o.trans (j.mono a0.o.size));have a9:=I.o.below' j D.o;obtain⟨E,U⟩:∃W,h.alloc (.cells #[(1:Int),(1:Int),(1:Int),.slice none 0 0,(0:Int),(0:Int),.slice A 1 c] 31)=W:=⟨_,rfl⟩;have X:=bl U
 have h4:E.ownsRow h 31 7 (.slice (h.heap.size,0) 1 1) 1 [(1:Int),(1:Int),(1:Int),.slice none 0 0,(0:Int),(0:Int),.slice A 1 c]:=⟨rfl,.inr ⟨h.heap.size,1,#[(1:Int),(1:Int),(1:Int),.slice none 0 0,(0:Int),(0:Int),.slice A 1 c],rfl,Q3 _,by rw[<-U];exact Qi h _,Q3 _,by decide,rfl,rfl⟩⟩;have a1:=Ki (a2.o.trans (X.mono a2.o.size))
 have aa:Xi E E (.slice (h.heap.size,0) 1 1) [Yu A c]:=⟨Rd.of_own h4,λg Y=>by
  rw[Qw.1 Y]
  exact(a9.below' X (Q9 D.o j.size)).more (Q9 D.o (Q9 j.size X.size))⟩
 have ae:=Ki (Ii [Yu A c] (Q2C A c) _ _ _ _ E aa (Q3 _) (a4.o E a1.o));have af:=Ki ab;have ag:=Ki U;clear ac j a9 X h4 aa ab U HE I HX;go_wp2_with (first|((with_reducible refine Ql 31 ?_);refine QA rfl 31 _ rfl _ _ _ rfl ai.o (by kernel_rfl) (Zl _) ?_));rw[ag.o];refine ae.o.mono ?_;rintro e w5 ⟨v,aj,En,rfl,hO,hI,hE,_,a6⟩;obtain⟨en,rfl,hp⟩:=Q2B A c hI hE;obtain⟨Ae,ce,rfl,_,_⟩:=(Rd.of_own hO).form;have ad:=Ki (a1.o.trans (a6.mono a1.o.size));obtain⟨be,oe,rfl,_,a8⟩:=Qr YH 3 (λ_=>rfl) (by decide) (Rd.of_own hO) (show 0<1 by decide);have c0:w5.cell? (be,oe+0*3)=en.path:=a8 0 _ rfl;rw[Ef,UI,hp] at c0;have ak:(st.size:Int)=17:=by have:=af.o;omega
 have hs:((Q8 [47,97]).toList==[47,97])=true:=by rw[Jb];rfl
 clear hO hI hE a6 a8 hp;go_wp2;go_ret;exact⟨rfl,ad.o⟩
end
section
open Go Go.RowKit
def GC(L:List QJ):Prop:=(L.map QJ.at_).Pairwise Id.Lt
theorem Q2E{P S:List QJ}{x:QJ}(h:GC (P++S))(J:∀g∈P++S,g.at_≠x.at_)(I:∀y∈S,x.at_.Lt y.at_)(E:∀z,P.getLast?=some z->¬x.at_.Lt z.at_):GC (P++x::S):=by
 unfold GC at *;rw[ZC] at h;rw[ZC,ZW];refine Er Zv h ?_ ?_ ?_;·intro hm;rw[<-ZC,QZ] at hm;obtain⟨g,j,e⟩:=hm;exact J g j e
 ·intro y O;obtain⟨g,j,rfl⟩:=QZ.1 O;exact I g j
 intro z D;rw[List.getLast?_map] at D;obtain⟨g,j,rfl⟩:=FY.1 D;exact E g j
def KS(L:List QJ)(s:Id):Bool:=L.any (λg=>decide (g.at_=s))
theorem Q2F{L:List QJ}{s:Id}(h:KS L s=false):∀g∈L,g.at_≠s:=λg j e=>by have:=List.any_eq_false.1 h g j;simp[e] at this
theorem Q2G{L:List QJ}{s:Id}(h:KS L s=true):∃g∈L,g.at_=s:=by obtain⟨g,j,e⟩:=Ua.1 h;exact⟨g,j,by simpa using e⟩
theorem Q2H{L:List QJ}{j:Nat}(h:j<L.length)(s:Id):KS (L.take (j+1)) s=(KS (L.take j) s||decide (L[j].at_=s)):=by unfold KS;rw[QQ h,List.any_append];simp
def Na(l:List QJ)(w:World)(j i:Value)(wr:World):Prop:=
 ∃k:Nat,k<=l.length/\i=k/\∃L:List QJ,wr.ownsRow w 276 11 j L.length (L.flatMap ZQ)/\GC L/\(∀h,h∈L↔XK QJ.at_ (l.take k) h)/\L.length<=k/\Below w w wr
def Nb(l:List QJ)(w:World)(e:Ending)(w':World):Prop:=
 ∃(v:Value)(L:List QJ),e=.returned v/\w'.ownsRow w 276 11 v L.length (L.flatMap ZQ)/\GC L/\(∀h,h∈L↔XK QJ.at_ l h)/\L.length<=l.length/\Below w w w'
def Q2I(L:List QJ)(s:Id)(h:World)(had i:Value)(wr:World):Prop:=
 ∃j:Nat,j<=L.length/\i=j/\had=.bool (KS (L.take j) s)/\∃q,wr=h.drewN q
def Q2J(L:List QJ)(x:QJ)(n:Nat)(w:World)(v:Value)(i:Value)(wr:World):Prop:=
 ∃P S,L=P++S/\i=.int .i64 (P.length:Nat)/\(∀y∈S,x.at_.Lt y.at_)/\wr.ownsRow w 276 11 v n ((P++x::S).flatMap ZQ)/\Below w w wr
def EV(w:World)(g j:Nat)(y x:QJ):World:=
 ((((((((((((((((((((((w.setCell (g,j*11+11) y.at_.s.T).setCell (g,j*11+11+1) y.at_.s.R).setCell (g,j*11+11+2) y.at_.I).setCell (g,j*11+11+3) y.p.nd.s.T).setCell (g,j*11+11+4) y.p.nd.s.R).setCell (g,j*11+11+5) y.p.nd.I).setCell (g,j*11+11+6) y.p.pa.s.T).setCell (g,j*11+11+7) y.p.pa.s.R).setCell (g,j*11+11+8) y.p.pa.I).setCell (g,j*11+11+9) y.p.nm).setCell (g,j*11+11+10) (.bool y.p.dir)).setCell (g,j*11) x.at_.s.T).setCell (g,j*11+1) x.at_.s.R).setCell (g,j*11+2) x.at_.I).setCell (g,j*11+3) x.p.nd.s.T).setCell (g,j*11+4) x.p.nd.s.R).setCell (g,j*11+5) x.p.nd.I).setCell (g,j*11+6) x.p.pa.s.T).setCell (g,j*11+7) x.p.pa.s.R).setCell (g,j*11+8) x.p.pa.I).setCell (g,j*11+9) x.p.nm).setCell (g,j*11+10) (.bool x.p.dir)).drew
theorem Nc(w:World)(g j:Nat)(y x:QJ):EV w g j y x=((w.setCells g (j*11+11) (ZQ y)).setCells g (j*11) (ZQ x)).drew:=rfl
theorem Q2K{w:World}{base:Nat}{n g cap j:Nat}{P S:List QJ}{y x:QJ}(D:P.length=j)(h:w.ownsRow base 276 11 (.slice (g,0) n cap) n ((P++y::x::S).flatMap ZQ))(E:0<n):(EV w g j y x).ownsRow base 276 11 (.slice (g,0) n cap) n ((P++x::y::S).flatMap ZQ):=by have:=F5 (enc:=ZQ) (k:=11) (λ_=>rfl) h E;rw[D] at this;rw[Nc];exact ZY this
theorem Q2L{B:Nat}{a w:World}(h:Below B a w){g:Nat}(D:B<=g)(j:Nat)(y x:QJ):Below B a (EV w g j y x):=by rw[Nc];exact(Jd (Jd h D _ _) D _ _).drew
theorem Nf{l:List QJ}{k n:Nat}{w wr:World}{v:Value}{L P S:List QJ}{x:QJ}(W:k<l.length)(Z:∀h,XK QJ.at_ (l.take (k+1)) h↔XK QJ.at_ (l.take k) h\/h=x/\∀g∈l.take k,g.at_≠x.at_)(J:GC L)(D:∀h,h∈L↔XK QJ.at_ (l.take k) h)(hL:L.length<=k)(X:L.length+1=n)(E:∀g∈l.take k,g.at_≠x.at_)(j:L=P++S)(O:∀y∈S,x.at_.Lt y.at_)(I:∀z,P.getLast?=some z->¬x.at_.Lt z.at_)(Y:wr.ownsRow w 276 11 v n ((P++x::S).flatMap ZQ))(hb:Below w w wr):Na l w v (.int .i64 ((k:Int)+1)) wr:=by
 have U:(P++x::S).length=n:=by rw[<-X,j];simp;omega
 refine⟨k+1,W,by rfl,P++x::S,by rw[U];exact Y,?_,λy=>?_,by omega,hb⟩;·refine Q2E (j▸J) (λg Q=>?_) O I;exact E g (UN ((D g).1 (j▸Q)))
 rw[DP,Z y,<-j,D y];constructor
 ·rintro(h|h);·exact .inr ⟨h,E⟩
  exact .inl h
 rintro(h|⟨h,_⟩);·exact .inr h
 exact .inl h
theorem Q2M:(Tryz.prog.info? 276).map (λi=>(i.zero,i.size,i.bytes))=some (some (.agg #[(0:Int),(0:Int),(0:Int),(0:Int),(0:Int),(0:Int),(0:Int),(0:Int),(0:Int),.string ⟨#[]⟩,.bool false]),11,96):=by kernel_rfl
theorem Q2N(X:List Id)(bl:List Q2)(A A':Option Addr)(n c n' c' B:Nat)(w:World)(hR:Rd w B 3 (.slice A n c) n (X.flatMap Qe))(aC:Rd w B 8 (.slice A' n' c') n' (bl.flatMap Qb))(hB:B<=w)(hn:n<=100000):Calls Tryz.prog 159 #[.slice A n c,.slice A' n' c'] w (Nb (Y5 X bl) w):=by
 obtain rfl:=QL Qe 3 (λ_=>rfl) (by decide) hR.1;obtain rfl:=QL Qb 8 (λ_=>rfl) (by decide) aC.1;have HR:=Ki hR;have bh:=Ki aC;clear hR aC;obtain⟨l,hl⟩:∃l,Y5 X bl=l:=⟨_,rfl⟩;have aw:=Ki (show l.length=min X.length bl.length by rw[<-hl,Cr]);have bg:=Kj (∀k (h:k<l.length) (h1:k<X.length) (h2:k<bl.length),l[k]=⟨X[k],bl[k]⟩) (λk h h1 h2=>by subst hl;simp[Y5]);rw[hl];clear hl;obtain⟨i0,hi,bw,bx,bz⟩:=Zc Q2M;go_enter Tryz.func159,Tryz.ntmps159;go_wp2;go_loopw [5,6] (λbA i wr=>Na l w bA i wr) (λ_ i _=>l.length-(intOf i).toNat);case atStart=>exact⟨0,Qh _,rfl,[],J8 _ _ _ _,List.Pairwise.nil,λh=>by simp[XK],Q3 _,Qc _ _⟩
 case round=>
  obtain⟨k,hk,rfl,L,hO,hS,hM,hL,hb⟩:=hrel;obtain⟨Av,cv,rfl,bF,bn⟩:=(Rd.of_own hO).form;have HO:=Ki hO;have HS:=Ki hS;have HM:=Ki hM;clear hO hS hM;obtain⟨J,rfl⟩:∃J:World,J=wr:=⟨_,rfl⟩;by_cases ar:k<l.length
  ·have aF:k<X.length:=(by have:=aw.o;omega);have aW:k<bl.length:=(by have:=aw.o;omega);obtain⟨U,W,rfl,bC,aS⟩:=Qr Qe 3 (λ_=>rfl) (by decide) HR.o aF;obtain⟨D,E,rfl,bD,aT⟩:=Qr Qb 8 (λ_=>rfl) (by decide) bh.o aW;have ao:U<w:=(by omega);have ac:D<w:=(by omega);have aj:∀j u,(Qe X[k])[j]?=some u->J.cell? ⟨U,W+k*3+j,none⟩=some u:=λj u hu=>(hb.cell (p:=⟨U,W+k*3+j,none⟩) ao).trans (aS j u hu);have ab:∀j u,(Qb bl[k])[j]?=some u->J.cell? ⟨D,E+k*8+j,none⟩=some u:=λj u hu=>(hb.cell (p:=⟨D,E+k*8+j,none⟩) ac).trans (aT j u hu);have aq:=DW (key:=QJ.at_) (l.take k) l[k];rw[<-QQ ar] at aq;obtain⟨x,hx⟩:∃x,l[k]=x:=⟨_,rfl⟩;have aJ:x.at_=X[k]/\x.p=bl[k]:=(by rw[<-hx,bg.o k ar aF aW];exact⟨rfl,rfl⟩);rw[hx] at aq;rw[<-aJ.1] at aj;rw[<-aJ.2] at ab;have av:=Ki aq;clear hx aq aJ;have d0:J.cell? ⟨U,W+k*3,none⟩=some (.int .i64 x.at_.s.T):=aj 0 _ rfl;have d1:J.cell? ⟨U,W+k*3+1,none⟩=some (.int .i64 x.at_.s.R):=aj 1 _ rfl;have d2:J.cell? ⟨U,W+k*3+2,none⟩=some (.int .i64 x.at_.I):=aj 2 _ rfl;have d3:J.cell? ⟨D,E+k*8,none⟩=some (.int .i64 x.p.nd.s.T):=ab 0 _ rfl;have d4:J.cell? ⟨D,E+k*8+1,none⟩=some (.int .i64 x.p.nd.s.R):=ab 1 _ rfl;have d5:J.cell? ⟨D,E+k*8+2,none⟩=some (.int .i64 x.p.nd.I):=ab 2 _ rfl;have d6:J.cell? ⟨D,E+k*8+3,none⟩=some (.int .i64 x.p.pa.s.T):=ab 3 _ rfl;have d7:J.cell? ⟨D,E+k*8+4,none⟩=some (.int .i64 x.p.pa.s.R):=ab 4 _ rfl
   have d8:J.cell? ⟨D,E+k*8+5,none⟩=some (.int .i64 x.p.pa.I):=ab 5 _ rfl;have d9:J.cell? ⟨D,E+k*8+6,none⟩=some (.string x.p.nm):=ab 6 _ rfl;have aN:J.cell? ⟨D,E+k*8+7,none⟩=some (.bool x.p.dir):=ab 7 _ rfl;clear aS aT aj ab;have i1:(0:Int)<=(k:Int):=(by omega);have i2:(k:Int)<(X.length:Int):=(by omega);have bJ:(k:Int)<(bl.length:Int):=(by omega);go_wp2;go_loopw [7,8] (λhad i wr=>Q2I L x.at_ J had i wr) (λ_ i _=>L.length-(intOf i).toNat);case atStart=>exact⟨0,Qh _,rfl,rfl,0,rfl⟩
   case round=>
    obtain⟨j,hj,rfl,rfl,q,rfl⟩:=hrel;by_cases aE:j<L.length
    ·obtain⟨g,og,rfl,bE,ap⟩:=Qr ZQ 11 (λ_=>rfl) (by decide) (Rd.of_own HO.o) aE;have e0:J.cell? ⟨g,og+j*11,none⟩=some (.int .i64 L[j].at_.s.T):=ap 0 _ rfl;have e1:J.cell? ⟨g,og+j*11+1,none⟩=some (.int .i64 L[j].at_.s.R):=ap 1 _ rfl;have e2:J.cell? ⟨g,og+j*11+2,none⟩=some (.int .i64 L[j].at_.I):=ap 2 _ rfl;have hE:=UT L[j].at_ x.at_;have hN:=Q2H aE x.at_;obtain⟨y,hy⟩:∃y,L[j]=y:=⟨_,rfl⟩;rw[hy] at e0 e1 e2 hE hN;have HN:=Ki hN;have j1:(0:Int)<=(j:Int):=(by omega);have j2:(j:Int)<(L.length:Int):=(by omega);have hq:=Xt;have bG:=ZR;clear ap hy hN;rcases hh:KS (L.take j) x.at_ with _|_
     ·rw[hh] at HN;obtain⟨D,aR⟩:∃D,decide (y.at_=x.at_)=D:=⟨_,rfl⟩;rw[aR] at hE HN;clear hh aR;go_wp2;go_quiet (fail);go_wp2;go_roundw;case rel=>exact⟨j+1,by omega,by go_num,by rw[HN.o];simp,q+nq,rfl⟩
      case measure=>simp[intOf];omega
     rw[hh] at HN;clear hh;go_wp2;go_quiet (fail);go_wp2;go_roundw;case rel=>exact⟨j+1,by omega,by go_num,by rw[HN.o];simp,q+nq,rfl⟩
     case measure=>simp[intOf];omega
    obtain rfl:j=L.length:=by omega
    rw[X6];have ad:Below w w (J.drewN q):=hb.trans (((Q0.refl J).drewN q).below.mono hb.size);have ai:=Ki (QB HO.o ((Q0.refl J).drewN q).below);have q0:(J.drewN q).cell? (U,W+k*3)=x.at_.s.T:=d0;have q1:(J.drewN q).cell? (U,W+k*3+1)=x.at_.s.R:=d1;have q2:(J.drewN q).cell? (U,W+k*3+2)=x.at_.I:=d2;have q3:(J.drewN q).cell? (D,E+k*8)=x.p.nd.s.T:=d3;have q4:(J.drewN q).cell? (D,E+k*8+1)=x.p.nd.s.R:=d4;have q5:(J.drewN q).cell? (D,E+k*8+2)=x.p.nd.I:=d5;have q6:(J.drewN q).cell? (D,E+k*8+3)=x.p.pa.s.T:=d6;have q7:(J.drewN q).cell? (D,E+k*8+4)=x.p.pa.s.R:=d7;have q8:(J.drewN q).cell? (D,E+k*8+5)=x.p.pa.I:=d8;have q9:(J.drewN q).cell? (D,E+k*8+6)=x.p.nm:=d9;have bc:(J.drewN q).cell? (D,E+k*8+7)=some (.bool x.p.dir):=aN;generalize J.drewN q=W3 at *;clear d0 d1 d2 d3 d4 d5 d6 d7 d8 d9 aN hb HO bn;rcases hh:KS L x.at_ with _|_
    ·have al:=Ki (show ∀g∈l.take k,g.at_≠x.at_ from λg hg e=>by
      obtain⟨h,hf,he⟩:=BB (key:=QJ.at_) hg
      exact Q2F hh h ((HM.o h).2 hf) (he.trans e))
     clear hh;have HQ:=Ki (λZ (I:Below w W3 Z)=>(show Z.cell? ⟨U,W+k*3,none⟩=some (.int .i64 x.at_.s.T)/\Z.cell? ⟨U,W+k*3+1,none⟩=some (.int .i64 x.at_.s.R)/\Z.cell? ⟨U,W+k*3+2,none⟩=some (.int .i64 x.at_.I)/\Z.cell? ⟨D,E+k*8,none⟩=some (.int .i64 x.p.nd.s.T)/\Z.cell? ⟨D,E+k*8+1,none⟩=some (.int .i64 x.p.nd.s.R)/\Z.cell? ⟨D,E+k*8+2,none⟩=some (.int .i64 x.p.nd.I)/\Z.cell? ⟨D,E+k*8+3,none⟩=some (.int .i64 x.p.pa.s.T)/\Z.cell? ⟨D,E+k*8+4,none⟩=some (.int .i64 x.p.pa.s.R)/\Z.cell? ⟨D,E+k*8+5,none⟩=some (.int .i64 x.p.pa.I)/\Z.cell? ⟨D,E+k*8+6,none⟩=some (.string x.p.nm)/\Z.cell? ⟨D,E+k*8+7,none⟩=some (.bool x.p.dir) from⟨(I.cell (p:=⟨U,W+k*3,none⟩) ao).trans q0,(I.cell (p:=⟨U,W+k*3+1,none⟩) ao).trans q1,(I.cell (p:=⟨U,W+k*3+2,none⟩) ao).trans q2,(I.cell (p:=⟨D,E+k*8,none⟩) ac).trans q3,(I.cell (p:=⟨D,E+k*8+1,none⟩) ac).trans q4,(I.cell (p:=⟨D,E+k*8+2,none⟩) ac).trans q5,(I.cell (p:=⟨D,E+k*8+3,none⟩) ac).trans q6,(I.cell (p:=⟨D,E+k*8+4,none⟩) ac).trans q7,(I.cell (p:=⟨D,E+k*8+5,none⟩) ac).trans q8,(I.cell (p:=⟨D,E+k*8+6,none⟩) ac).trans q9,(I.cell (p:=⟨D,E+k*8+7,none⟩) ac).trans bc⟩));have k1:Below w W3 W3.drew:=(Qc _ W3).drew;go_wp2
     go_region_held3 (λw'=>w'.cell? (U,W+k*3)=x.at_.s.T/\w'.cell? (U,W+k*3+1)=x.at_.s.R/\w'.cell? (U,W+k*3+2)=x.at_.I/\w'.cell? (D,E+k*8)=x.p.nd.s.T/\w'.cell? (D,E+k*8+1)=x.p.nd.s.R/\w'.cell? (D,E+k*8+2)=x.p.nd.I/\w'.cell? (D,E+k*8+3)=x.p.pa.s.T/\w'.cell? (D,E+k*8+4)=x.p.pa.s.R/\w'.cell? (D,E+k*8+5)=x.p.pa.I/\w'.cell? (D,E+k*8+6)=x.p.nm/\w'.cell? (D,E+k*8+7)=some (.bool x.p.dir))
      (first|exact HQ.o _ (by assumption)|exact HQ.o _ (k1.alloc ad.size _)|go_keep)
      ((refine step_append_lies _ (by rfl) _ _ _ (by rfl) w 276 i0 _ 11 96 Tryz.underlying273 hi bw bx bz rfl (by omega) _ L.length _ (by rfl) ((ZY ai.o).alloc _) ⟨W3.heap.size,0,none⟩ 1 1 (ZQ x) (by rfl) (by rfl) (Zd W3.drew (ZQ x) 276) (AL _) (by omega) (by unfold maxLen;omega) (by omega) (by have:=ad.size;simp at this |-;omega) _ (by rfl) ?_;intro g cap W4 aZ aD bj bs;have bk:Below w W3 W4:=(k1.alloc ad.size _).grown aD (by have:=ad.size;simp at this |-;omega) (λj hj=>(ai.o.lt j hj).1)))
     clear k1 bj bs bk;obtain⟨g1,bB,br,bp,bq,bt,aH⟩:=Ui aZ;cases br
     have aQ:Below w w W4:=((ad.drew).alloc ad.size _).grown aD (by have:=ad.size;simp;omega) (λj hj=>by
      rcases (ai.o).lt j hj with⟨h1,_⟩
      exact h1)
     clear aZ;obtain⟨n1,aG⟩:=ex (L.length+1);have bH:L.length<n1:=(by omega);have bI:n1<=k+1:=(by omega);rw[aG] at aH bq |-;have ax:=Ki aG;have aL:=Ki aH;unfold maxLen at bt;clear aD aH ai ad aG HQ q0 q1 q2 q3 q4 q5 q6 q7 q8 q9 bc;go_wp2;go_loopw [9] (λi wr=>Q2J L x n1 w (.slice (g,0) n1 cap) i wr) (λi _=>(intOf i).toNat);case atStart=>exact⟨L,[],by simp,by have:=ax.o;congr 1;omega,by simp,aL.o,aQ⟩
     case round=>
      obtain⟨P,S,aO,rfl,aP,aB,ae⟩:=hrel;have ak:=Ki aO;have ay:=Ki aP;have ag:=Ki aB;have Q:=(aB.lt g rfl).2;clear aO aP aB aQ aL;rcases Ky P with rfl|⟨P',y,rfl⟩;·go_wp2;go_quiet (fail);go_wp2;exact⟨Nf ar av.o HS.o HM.o hL ax.o al.o ak.o ay.o (by simp) (QB ag.o ((Q0.refl wr).drewN nq).below) (ae.trans (((Q0.refl wr).drewN nq).below.mono ae.size)),by simp[intOf];omega⟩
      obtain⟨j,hj⟩:=ex (P'.length);have aX:((P'++[y]).length:Int)=(j:Int)+1:=(by rw[Qj,hj];rfl);rw[aX];have hM:(P'++[y])++x::S=P'++y::x::S:=(by simp);rw[hM] at ag;have aE:j+1<n1:=(by have:=Xz List.length ak.o;simp at this;omega);have cy:∀r u,(ZQ y)[r]?=some u->wr.cell? (g,j*11+r)=some u:=λr u hu=>(X8 ag.o _ u (hj▸YJ ZQ 11 (λ_=>rfl) P' (x::S) y r u hu)).1
      have Y:∀r u,(ZQ x)[r]?=some u->wr.cell? (g,(j+1)*11+r)=some u:=λr u hu=>(X8 ag.o _ u (by
       have:=YJ ZQ 11 (λ_=>rfl) (P'++[y]) S x r u hu;rw[Qj,hj] at this
       simpa using this)).1
      have bu:(j+1)*11=j*11+11:=(by omega);rw[bu] at Y;have HJ:=Ki hj;have HC:=Ki (λw=>GY x.at_ y.at_ w);unfold Qa at HC;obtain⟨r,hr⟩:=ex (x.at_.cmp y.at_);rw[hr] at HC;have aM:=Ki hr;clear hr;have a0:∀n os,(Sort.grow (wr.drewN n) os).cell? (g,j*11)=y.at_.s.T:=λn os=>QG Q (cy 0 _ rfl) n os;have a1:∀n os,(Sort.grow (wr.drewN n) os).cell? (g,j*11+1)=y.at_.s.R:=λn os=>QG Q (cy 1 _ rfl) n os;have a2:∀n os,(Sort.grow (wr.drewN n) os).cell? (g,j*11+2)=y.at_.I:=λn os=>QG Q (cy 2 _ rfl) n os;have a3:∀n os,(Sort.grow (wr.drewN n) os).cell? (g,j*11+3)=y.p.nd.s.T:=λn os=>QG Q (cy 3 _ rfl) n os;have a4:∀n os,(Sort.grow (wr.drewN n) os).cell? (g,j*11+4)=y.p.nd.s.R:=λn os=>QG Q (cy 4 _ rfl) n os;have a5:∀n os,(Sort.grow (wr.drewN n) os).cell? (g,j*11+5)=y.p.nd.I:=λn os=>QG Q (cy 5 _ rfl) n os;have a6:∀n os,(Sort.grow (wr.drewN n) os).cell? (g,j*11+6)=y.p.pa.s.T:=λn os=>QG Q (cy 6 _ rfl) n os;have a7:∀n os,(Sort.grow (wr.drewN n) os).cell? (g,j*11+7)=y.p.pa.s.R:=λn os=>QG Q (cy 7 _ rfl) n os;have a8:∀n os,(Sort.grow (wr.drewN n) os).cell? (g,j*11+8)=y.p.pa.I:=λn os=>QG Q (cy 8 _ rfl) n os;have a9:∀n os,(Sort.grow (wr.drewN n) os).cell? (g,j*11+9)=y.p.nm:=λn os=>QG Q (cy 9 _ rfl) n os;have az:∀n os,(Sort.grow (wr.drewN n) os).cell? (g,j*11+10)=some (.bool y.p.dir):=λn os=>QG Q (cy 10 _ rfl) n os
      have b0:∀n os,(Sort.grow (wr.drewN n) os).cell? (g,j*11+11)=x.at_.s.T:=λn os=>QG Q (Y 0 _ rfl) n os;have b1:∀n os,(Sort.grow (wr.drewN n) os).cell? (g,j*11+12)=x.at_.s.R:=λn os=>QG Q (Y 1 _ rfl) n os;have b2:∀n os,(Sort.grow (wr.drewN n) os).cell? (g,j*11+13)=x.at_.I:=λn os=>QG Q (Y 2 _ rfl) n os;have b3:∀n os,(Sort.grow (wr.drewN n) os).cell? (g,j*11+14)=x.p.nd.s.T:=λn os=>QG Q (Y 3 _ rfl) n os;have b4:∀n os,(Sort.grow (wr.drewN n) os).cell? (g,j*11+15)=x.p.nd.s.R:=λn os=>QG Q (Y 4 _ rfl) n os;have b5:∀n os,(Sort.grow (wr.drewN n) os).cell? (g,j*11+16)=x.p.nd.I:=λn os=>QG Q (Y 5 _ rfl) n os;have b6:∀n os,(Sort.grow (wr.drewN n) os).cell? (g,j*11+17)=x.p.pa.s.T:=λn os=>QG Q (Y 6 _ rfl) n os;have b7:∀n os,(Sort.grow (wr.drewN n) os).cell? (g,j*11+18)=x.p.pa.s.R:=λn os=>QG Q (Y 7 _ rfl) n os;have b8:∀n os,(Sort.grow (wr.drewN n) os).cell? (g,j*11+19)=x.p.pa.I:=λn os=>QG Q (Y 8 _ rfl) n os;have b9:∀n os,(Sort.grow (wr.drewN n) os).cell? (g,j*11+20)=x.p.nm:=λn os=>QG Q (Y 9 _ rfl) n os;have aA:∀n os,(Sort.grow (wr.drewN n) os).cell? (g,j*11+21)=some (.bool x.p.dir):=λn os=>QG Q (Y 10 _ rfl) n os;have i3:(0:Int)<=(j:Int)+1:=(by omega);have i4:(j:Int)+1<(n1:Int):=(by omega);have i5:(0:Int)<=(j:Int):=(by omega);have i6:(j:Int)<(n1:Int):=(by omega);have hw:IntKind.i64.wrap (j:Int)=j:=QO _ (by omega);clear hj aX hM Y cy
      rcases hc:decide (r<0) with _|_
      ·have au:=Ki hc;go_wp2;refine QK (by kernel_rfl) (by kernel_rfl) ?_;repeat (quiet_step ((go_at_call 123;exact Qk (HC.o _))))
       refine QN ?_;rintro ah ⟨⟨nq,O⟩,I⟩;have af:Q0 wr ah:=⟨nq,O,I⟩;have an:=ae.trans (af.below.mono ae.size);have am:=Ki (QB ag.o af.below);clear I af ae a0 a1 a2 a3 a4 a5 a6 a7 a8 a9 az b0 b1 b2 b3 b4 b5 b6 b7 b8 b9 aA;go_wp2
       exact⟨Nf (P:=P'++[y]) (S:=S) ar av.o HS.o HM.o hL ax.o al.o ak.o ay.o (by
        intro z hz;have:y=z:=(by simpa using hz);subst this;intro h;have h2:=(XV _ _).2 h;rw[aM.o] at h2;have:=au.o;simp at this
        omega) (by simpa using am.o) an,by simp[intOf];omega⟩
      have au:=Ki hc;go_wp2;refine QK (by kernel_rfl) (by kernel_rfl) ?_;repeat (quiet_step ((go_at_call 123;exact Qk (HC.o _))))
      refine QN ?_;rintro ah ⟨⟨nq,O⟩,I⟩;have af:Q0 wr ah:=⟨nq,O,I⟩;have an:=ae.trans (af.below.mono ae.size);have aI:=QB ag.o af.below;have A0:=I▸a0 nq O;have A1:=I▸a1 nq O;have A2:=I▸a2 nq O;have A3:=I▸a3 nq O;have A4:=I▸a4 nq O;have A5:=I▸a5 nq O;have A6:=I▸a6 nq O;have A7:=I▸a7 nq O;have A8:=I▸a8 nq O;have A9:=I▸a9 nq O;have bd:=I▸az nq O;have B0:=I▸b0 nq O;have B1:=I▸b1 nq O;have B2:=I▸b2 nq O;have B3:=I▸b3 nq O;have B4:=I▸b4 nq O;have B5:=I▸b5 nq O;have B6:=I▸b6 nq O;have B7:=I▸b7 nq O;have B8:=I▸b8 nq O;have B9:=I▸b9 nq O;have be:=I▸aA nq O;have bo:=YY aI (by omega);have am:=Ki aI;clear I af ae aI a0 a1 a2 a3 a4 a5 a6 a7 a8 a9 az b0 b1 b2 b3 b4 b5 b6 b7 b8 b9 aA;go_wp2;go_region;have bi:=Ki (Q2K HJ.o am.o (by omega));have bf:=Ki (Q2L an bp j y x);change Exit.inBlock _ _ _ _ (EV ah g j y x);generalize EV ah g j y x=W5 at *;clear A0 A1 A2 A3 A4 A5 A6 A7 A8 A9 bd B0 B1 B2 B3 B4 B5 B6 B7 B8 B9 be bo am an;go_wp2;go_roundw
      case rel=>
       refine⟨P',y::S,?_,?_,?_,?_,?_⟩;·rw[ak.o];simp
       ·rw[HJ.o]
       ·intro z hz;rcases QI.1 hz with rfl|hz;·exact(XV _ _).1 (by rw[aM.o];have:=au.o;simpa using this)
        exact ay.o z hz
       ·exact bi.o
       exact bf.o
      case measure=>simp[intOf]
    obtain⟨g0,aV,aU⟩:=Q2G hh;have al:=Kj (¬∀g∈l.take k,g.at_≠x.at_) (λh=>h g0 (UN ((HM.o g0).1 aV)) aU);clear hh aV aU;go_wp2;go_roundw
    case rel=>exact⟨k+1,by omega,by go_num,L,ai.o,HS.o,λh=>by
     rw[av.o h,HM.o h]
     exact⟨.inl,λh1=>h1.elim id λh2=>absurd h2.2 al.o⟩,by omega,ad⟩
    case measure=>simp[intOf];omega
  have bv:k=l.length:=(by omega);subst bv;have aK:=Kj (Nb l w (.returned (.slice Av L.length cv)) J) ⟨_,L,rfl,HO.o,HS.o,λh=>by rw[HM.o h,X6],hL,hb⟩;have aY:=aw.o;by_cases aF:l.length<X.length;·have i2:(l.length:Int)<(X.length:Int):=(by omega);have i3:¬(l.length:Int)<(bl.length:Int):=(by omega);clear aY;go_wp2;go_ret;exact aK.o
  have i2:¬(l.length:Int)<(X.length:Int):=(by omega);clear aY;go_wp2;go_ret;exact aK.o
end
section
theorem Ng{L M:List Q2}{p:Q2}(j:ZT L)(D:ZT M)(h:∀x,QD M x=if x=p.nd then some (UO (QD L p.nd) p) else QD L x):M=XW p L:=
 SC D (BD j) (λx=>(h x).trans (BE j x).symm)
theorem IB{P S:List Q2}{c:Q2}{x:Id}(h:c.nd≠x):QD (P++c::S) x=QD (P++S) x:=by unfold QD;rw[GR,GR,Ed];simp[h]
theorem IC{P S:List Q2}{c:Q2}(h:ZT (P++c::S)):QD (P++c::S) c.nd=some c:=(h.find c).2 (by simp)
theorem ID{L:List Q2}:ZT L↔(L.map Q2.nd).Pairwise Id.Lt:=by unfold ZT;rw[UE]
theorem Q2O{P S:List Q2}{q p:Q2}(h:ZT (P++q::S))(e:q.nd=p.nd):P++{ p with dir:=q.dir }::S=XW p (P++q::S):=by
 have E:ZT (P++({ p with dir:=q.dir }:Q2)::S):=by
  rw[ID] at h |-;have:(P++({ p with dir:=q.dir }:Q2)::S).map Q2.nd=(P++q::S).map Q2.nd:=by simp[e]
  rw[this];exact h
 have I:QD (P++q::S) p.nd=some q:=by rw[<-e];exact IC h
 refine Ng h E (λx=>?_);by_cases j:x=p.nd;·subst j;rw[Q7 rfl,I];exact IC (c:={ p with dir:=q.dir }) E
 rw[Q6 j,IB (c:={ p with dir:=q.dir }) (λD=>j D.symm),IB (λD=>j (D.symm.trans e))]
theorem Q2P{P S:List Q2}{x:Q2}(h:ZT (P++S))(J:∀g∈P++S,g.nd≠x.nd)(I:∀y∈S,x.nd.Lt y.nd)(E:∀z,P.getLast?=some z->¬x.nd.Lt z.nd):ZT (P++x::S):=by
 rw[ID,ZC] at h;rw[ID,ZC,ZW];refine Er Zv h ?_ ?_ ?_;·intro hm;rw[<-ZC,QZ] at hm;obtain⟨g,j,e⟩:=hm;exact J g j e
 ·intro y O;obtain⟨g,j,rfl⟩:=QZ.1 O;exact I g j
 intro z D;rw[List.getLast?_map] at D;obtain⟨g,j,rfl⟩:=FY.1 D;exact E g j
theorem Q2Q{P S:List Q2}{x:Q2}(h:ZT (P++S))(E:QD (P++S) x.nd=none)(O:∀y∈S,x.nd.Lt y.nd)(J:∀z,P.getLast?=some z->¬x.nd.Lt z.nd):P++x::S=XW x (P++S):=by
 have D:=Q2P h (Ku.1 E) O J;refine Ng h D (λy=>?_);by_cases j:y=x.nd;·subst j;rw[Q7 rfl,E];exact IC D
 rw[Q6 j,IB (λI=>j I.symm)]
theorem Q2R{L:List Q2}{p:Q2}(j:p.nd≠Qf)(D:Zx L (L.length+1) p.pa p.nd=false):Y3 L p=XW p L:=by unfold Y3;rw[Q6 (by rintro(h|h);exact j h;rw[D] at h;cases h)]
theorem Nh{L:List Q2}{p:Q2}(h:p.nd=Qf\/Zx L (L.length+1) p.pa p.nd=true):Y3 L p=L:=by unfold Y3;rw[Q7 h]
end
section
open Go Go.RowKit Go.Maps Go.Shelf
def IE(L:List Q2)(x:Id)(r:Int):Prop:=(∃(k:Nat)(h:k<L.length),r=(k:Int)/\L[k].nd=x/\QD L x=some L[k])\/(r = -1/\QD L x=none)
theorem Q2S{L:List Q2}{x:Id}{k:Nat}(h:k<L.length)(E:∀p∈L.take k,p.nd≠x)(J:L[k].nd=x):QD L x=some L[k]:=by
 have e:L=L.take k++L[k]::L.drop (k+1):=by rw[<-VL h,XU]
 unfold QD;have j:(L.take k).find? (λp=>decide (p.nd=x))=none:=by rw[GL];intro p I e;exact E p I (by simpa using e)
 have D:(L.take k++L[k]::L.drop (k+1)).find? (λp=>decide (p.nd=x))=some L[k]:=by rw[GR,j,Option.none_or,Ed,J];simp
 rwa [<-e] at D
theorem Q2T{L:List Q2}{x:Id}{k:Nat}(h:k<L.length)(D:∀p∈L.take k,p.nd≠x)(I:L[k].nd≠x):∀p∈L.take (k+1),p.nd≠x:=by
 rw[QQ h];intro p E;rcases Qq.1 E with j|j;·exact D p j
 rw[Qw] at j;rw[j];exact I
def Q2U(L:List Q2)(x:Id)(h:World)(i:Value)(wr:World):Prop:=∃k:Nat,k<=L.length/\i=k/\(∀p∈L.take k,p.nd≠x)/\∃q,wr=h.drewN q
theorem FK(L:List Q2)(x:Id)(A:Option Addr)(n c B:Nat)(w:World)(O:Rd w B 8 (.slice A n c) n (L.flatMap Qb))(hB:B<=w):Calls Tryz.prog 161 #[.slice A n c,Qa x] w λe w'=>(∃r,e=.returned (.int .i64 r)/\IE L x r)/\Q0 w w':=by
 obtain⟨_,a8,a5⟩:=O.len;unfold maxLen at a5;obtain rfl:=QL Qb 8 (λ_=>rfl) (by decide) O.1;have HR:=Ki O;clear O;unfold Qa;go_enter Tryz.func161,Tryz.ntmps161;go_wp2;obtain⟨I,Q⟩:∃a4,w.alloc (.cells x 60)=a4:=⟨_,rfl⟩;have Y:Q0 w I:=by rw[<-Q];exact(Q0.refl w).alloc _
 have U:=bn Q;rw[Q];have c0:=cr0 U;have c1:=cr1 U;have c2:=cr2 U;have a3:=Ki (HR.o.below' Y.below hB);clear Q U HR;go_loopw [5] (λi wr=>Q2U L x I i wr) (λi _=>L.length-(intOf i).toNat);case atStart=>exact⟨0,Qh _,rfl,by simp,0,rfl⟩
 case round=>
  obtain⟨k,hk,rfl,D,q,rfl⟩:=hrel;by_cases W:k<L.length
  ·obtain⟨b,o,rfl,a6,J⟩:=Qr Qb 8 (λ_=>rfl) (by decide) a3.o W;have X:=λh=>Q2S W D h;have Z:=λh=>Q2T W D h;obtain⟨p,hp⟩:∃p,L[k]=p:=⟨_,rfl⟩;have a0:=Ki hp;rw[hp] at J X Z;have a1:=Ki X;have a2:=Ki Z;have d0:I.cell? (b,o+k*8)=p.nd.s.T:=J 0 _ rfl;have d1:I.cell? (b,o+k*8+1)=p.nd.s.R:=J 1 _ rfl;have d2:I.cell? (b,o+k*8+2)=p.nd.I:=J 2 _ rfl;have i1:(0:Int)<=(k:Int):=(by omega);have i2:(k:Int)<(L.length:Int):=(by omega);clear J hp X Z D;have hq:=Xt;have a7:=ZR;have hE:=UT p.nd x;by_cases j:p.nd=x;·rw[QF j] at hE;have E:=Kj (IE L x (k:Int)) (.inl ⟨k,W,rfl,by rw[a0.o];exact j,by rw[a1.o j,a0.o]⟩);clear j;go_wp2;go_quiet (fail);go_wp2;go_ret;exact⟨⟨_,rfl,E.o⟩,(Y.drewN q).drewN nq⟩
   rw[Zo j] at hE;have E:=Ki (a2.o j);clear j;go_wp2;go_quiet (fail);go_wp2;go_roundw;case rel=>exact⟨k+1,by omega,by go_num,E.o,q+nq,rfl⟩
   case measure=>simp[intOf];omega
  have E:=Kj (IE L x (-1)) (.inr ⟨rfl,Ku.2 (by rw[Zk (by omega)] at D;exact D)⟩);clear D;go_wp2;go_ret;exact⟨⟨_,rfl,E.o⟩,Y.drewN q⟩
def Q2V(L:List Q2)(R:Bool)(h:Id)(D j:Nat)(w:World)(i:Value)(wr:World):Prop:=
 ∃(k:Nat)(y:Id),k<=L.length+1/\i=k/\Zx L (L.length+1-k) y h=R/\wr.heap[D]?=some (.cells y 60 (0,0))/\wr.heap[j]?=some (.cells h 60 (0,0))/\Below w w wr
theorem Q2W(L:List Q2)(x D:Id)(A:Option Addr)(n c B:Nat)(w:World)(hR:Rd w B 8 (.slice A n c) n (L.flatMap Qb))(hB:B<=w)(hn:n<=100000):Calls Tryz.prog 160 #[.slice A n c,Qa x,Qa D] w λe w'=>e=.returned (.bool (Zx L (L.length+1) x D))/\Below w w w':=by
 obtain rfl:=QL Qb 8 (λ_=>rfl) (by decide) hR.1;have HR:=Ki (λW (hW:Below w w W)=>hR.below' hW hB);have HF:=Ki (λW y (hW:Below w w W)=>FK L y A _ c B W (hR.below' hW hB) (Q9 hB hW.size));clear hR;unfold Qa at HF |-;go_enter Tryz.func160,Tryz.ntmps160;go_wp2;obtain⟨w0,a0⟩:∃W,(w.alloc (.cells x 60)).alloc (.cells D 60)=W:=⟨_,rfl⟩;have af:Q0 w w0:=by rw[<-a0];exact((Q0.refl w).alloc _).alloc _
 have a8:w0.heap[w.heap.size]?=some (.cells x 60 (0,0)):=by rw[<-a0];exact(Z5 _ _ _ (by simp)).trans (Qi w _)
 have a6:w0.heap[w.heap.size+1]?=some (.cells D 60 (0,0)):=by rw[<-a0];have:=Qi (w.alloc (.cells x 60)) (.cells D 60);rwa [Qy] at this
 rw[a0];obtain⟨E,ac⟩:∃k,w.heap.size=k:=⟨_,rfl⟩;obtain⟨Bu,ab⟩:∃k,w.heap.size+1=k:=⟨_,rfl⟩;rw[ab] at a6 |-;rw[ac] at a8 |-;have ae:=af.below;have a9:=Ki (show E=w.heap.size/\Bu=w.heap.size+1 by omega);obtain⟨R,ad⟩:∃R,Zx L (L.length+1) x D=R:=⟨_,rfl⟩;have a1:=Ki ad;clear a0 af ac ab;go_loopw [7] (λi wr=>Q2V L R D E Bu w i wr) (λi _=>L.length+1-(intOf i).toNat);case atStart=>exact⟨0,x,Qh _,rfl,a1.o,a8,a6,ae⟩
 case round=>
  clear a8 a6 ae ad;obtain⟨k,y,hk,rfl,h,O,J,Q⟩:=hrel;have HX:=Ki O;have HU:=Ki J;have aa:=Ki Q;have an:=(Q5.1 O).1;have am:=(Q5.1 J).1;have al:E≠Bu:=by have:=a9.o;omega
  have e0:=cR 0 O;have e1:=cR 1 O;have e2:=cR 2 O;have f0:=cR 0 J;have f1:=cR 1 J;have f2:=cR 2 J;by_cases aq:k<=L.length
  ·obtain⟨m',ak⟩:∃m',L.length+1-k=m'+1:=⟨L.length-k,by omega⟩;rw[ak,Zx] at h;have ar:(k:Int)<=(L.length:Int):=(by omega);have hq:=Xt;have ap:=ZR;have hE:=UT y D;clear O J;by_cases U:y=D;·rw[Q7 U] at h;rw[QF U] at hE;have j:=Ki h;clear U h;go_wp2;go_ret;exact⟨Qo (by rw[a1.o];exact j.o),aa.o⟩
   rw[Q6 U] at h;rw[Zo U] at hE;have j:=Ki h;clear U h;go_wp2_with fail;refine(HF.o wr y Q).mono ?_;rintro e w4 ⟨⟨r,rfl,hr⟩,a4⟩;have X:=a4.below;have a3:=Ki (Q.trans (X.mono Q.size));have I:=(X.block _ an).trans HX.o;have a7:=(X.block _ am).trans HU.o;rcases hr with⟨a2,hj,rfl,aj,Z⟩|⟨rfl,Z⟩
   ·rw[Z] at j;obtain⟨b,o,rfl,ao,Y⟩:=Qr Qb 8 (λ_=>rfl) (by decide) (HR.o w4 a3.o) hj;obtain⟨p,hp⟩:∃p,L[a2]=p:=⟨_,rfl⟩;rw[hp] at Y j;have c3:=Y 3 _ rfl;have c4:=Y 4 _ rfl;have c5:=Y 5 _ rfl;have z0:∀i,w4.frozen? ⟨E,i,none⟩=false:=λi=>by simp[World.frozen?,I]
    have i1:(0:Int)<=(a2:Int):=(by omega);have i2:(a2:Int)<(L.length:Int):=(by omega);have i3:¬(a2:Int)<0:=(by omega);have au:=(Q5.1 I).1;have x0:=cR 0 I;have x1:=cR 1 I;have x2:=cR 2 I;have ah:=Ki I;have ag:=Ki a7;clear Y hp Z aj I a7 e0 e1 e2 f0 f1 f2 hE X a4 Q;go_wp2;have q:=a9.o;have a5:w<=E:=(by omega);have ai:=((a3.o.setCell (p:=⟨E,0,none⟩) a5 p.pa.s.T).setCell (p:=⟨E,1,none⟩) a5 p.pa.s.R).setCell (p:=⟨E,2,none⟩) a5 p.pa.I;refine⟨⟨k+1,p.pa,by omega,by go_num,?_,Fq ah.o,(AM al.symm).trans ag.o,ai⟩,by simp[intOf];omega⟩;rw[show L.length+1-(k+1)=m' by omega];exact j.o
   rw[Z] at j;clear Z I a7 e0 e1 e2 f0 f1 f2 hE X a4 Q;go_wp2;go_ret;exact⟨Qo (by rw[a1.o];exact j.o),a3.o⟩
  obtain rfl:k=L.length+1:=by omega
  rw[GV,Zx] at h;have j:=Ki h;have i9:¬((L.length:Int)+1<=(L.length:Int)):=(by omega);clear h O J;go_wp2;go_ret;exact⟨Qo (by rw[a1.o];exact j.o),aa.o⟩
end
end Go.Proofs.YtfpafikfjjckeaaGreatDoor
