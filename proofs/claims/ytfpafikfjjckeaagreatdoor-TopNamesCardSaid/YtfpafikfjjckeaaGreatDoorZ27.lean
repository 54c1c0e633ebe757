import Derived.Lib.TrimAscii
import Derived.Deep.Slices
import Derived.OpenShut
import Derived.Laws.Cover2
import Derived.Test.YtfpafikfjjckeaaGreatDoorZ23
set_option maxRecDepth 100000
set_option maxHeartbeats 200000000
namespace Go.Proofs.YtfpafikfjjckeaaGreatDoor
section
open Go Go.RowKit Go.Maps
def U2(e:El):List Value:=[e.id.s.T,e.id.s.R,e.id.I,e.af.s.T,e.af.s.R,e.af.I,.string e.pc]
theorem Q3R(x:El):∀u∈U2 x,u.oneCell'=true:=by intro u h;simp[U2] at h;rcases h with rfl|rfl|rfl|rfl|rfl|rfl|rfl<;>rfl
theorem Q3S:(Tryz.prog.info? 232).map (λi=>(i.zero,i.size,i.bytes))=some (some (.agg #[(0:Int),(0:Int),(0:Int),(0:Int),(0:Int),(0:Int),.string ⟨#[]⟩]),7,64):=by kernel_rfl
theorem Nx{w:World}{base:Nat}{e:TypeId}{K n:Nat}{v:Value}{xs:List Value}(h:w.ownsRow base e K v n xs):w.drew.ownsRow base e K v n xs:=h
theorem Ny{w:World}{base:Nat}{e:TypeId}{K n:Nat}{v:Value}{xs:List Value}(h:w.ownsRow base e K v n xs)(q:Nat):(w.drewN q).ownsRow base e K v n xs:=h
def U3(M:List El)(e:El):List El:=if e.id=Qf\/e.id∈M.map El.id then M else M++[e]
def Ye(F:List El):List El:=F.foldl U3 []
theorem Nz(F:List El)(e:El):Ye (F++[e])=U3 (Ye F) e:=by unfold Ye;rw[Dj];rfl
theorem Q3T:∀(n:Nat)(F:List El),F.length=n->(∀e,e∈Ye F↔ZP F e)/\VT El.id (Ye F)/\(Ye F).length<=F.length:=by
 intro n
 induction n with
 |zero=>intro F U;rw[VM] at U;subst U;exact⟨λe=>⟨λh=>absurd h (by simp[Ye]),λh=>absurd (Vv h) (by simp)⟩,List.Pairwise.nil,Q3 _⟩
 |succ n ih=>
  intro Y W;rcases Ky Y with rfl|⟨F,x,rfl⟩;·cases W
  obtain⟨J,Q,h3⟩:=ih F (by simpa using W);rw[Nz]
  have X:(x.id=Qf\/x.id∈(Ye F).map El.id)↔had F x.id≠0:=by
   have hh:had F x.id≠0↔x.id=Qf\/∃g∈F,g.id=x.id:=by
    unfold had;by_cases j:x.id=Qf;·rw[Q7 j];exact⟨λ_=>.inl j,λ_=>by omega⟩
    rw[Q6 j,UI];constructor;·intro h;obtain⟨g,D⟩:=List.exists_mem_of_length_pos (Nat.pos_of_ne_zero h);obtain⟨E,O⟩:=V5.1 D;exact .inr ⟨g,E,by simpa using O⟩
    rintro(h|⟨g,D,h⟩);·exact absurd h j
    have:g∈F.filter (λe=>decide (e.id=x.id)):=V5.2 ⟨D,by simpa using h⟩;have:=List.length_pos_of_mem this;omega
   rw[hh];by_cases j:x.id=Qf;·exact⟨λ_=>.inl j,λ_=>.inl j⟩
   refine Iff.trans (or_iff_right j) (Iff.trans ?_ (or_iff_right j).symm);constructor;·intro h;obtain⟨g,D,E⟩:=QZ.1 h;exact⟨g,Vv ((J g).1 D),E⟩
   rintro⟨g,D,E⟩;obtain⟨f,hf,O⟩:=BB (key:=El.id) D;exact QZ.2 ⟨f,(J f).2 ⟨hf,by rw[O,E];exact j⟩,O.trans E⟩
  unfold U3;by_cases I:x.id=Qf\/x.id∈(Ye F).map El.id;·rw[Q7 I];refine⟨λe=>?_,Q,by rw[Qj];omega⟩;rw[J e,Ew];exact⟨.inl,λh=>h.elim id λh=>absurd h.2 (X.1 I)⟩
  rw[Q6 I];have Z:had F x.id=0:=O4 λh=>I (X.2 h);refine⟨λe=>?_,?_,by simp;exact h3⟩;·rw[Qq,Qw,J e,Ew];exact⟨λh=>h.imp id λh=>⟨h,Z⟩,λh=>h.imp id λh=>h.1⟩
  unfold VT;refine GJ.2 ⟨Q,GI _ _,λa ha b hb h=>?_⟩;rw[Qw.1 hb] at h;exact I (.inr (QZ.2 ⟨a,ha,h⟩))
theorem NA(F:List El):(∀e,e∈Ye F↔ZP F e)/\VT El.id (Ye F)/\(Ye F).length<=F.length:=Q3T _ F rfl
theorem NB(x:Id):∀m:Nat,x.I+m<9223372036854775807->(Ji x m).s=x.s/\(Ji x m).I=x.I+m|0,_=>⟨rfl,by simp[Ji]⟩|m+1,h=>by obtain⟨j,D⟩:=NB x m (by omega);refine⟨j,?_⟩;show(if (Ji x m).I=9223372036854775807 then _ else (Ji x m).I+1)=_;rw[Q6 (by omega),D];omega
def K8(M:List El)(s:Id):Bool:=M.any (λg=>decide (g.id=s))
theorem NC(M:List El)(s:Id):K8 M s=true↔s∈M.map El.id:=by unfold K8;rw[Ua,QZ];exact⟨λ⟨g,j,h⟩=>⟨g,j,by simpa using h⟩,λ⟨g,j,h⟩=>⟨g,j,by simpa using h⟩⟩
theorem Q3U{M:List El}{j:Nat}(h:j<M.length)(s:Id):K8 (M.take (j+1)) s=(K8 (M.take j) s||decide (M[j].id=s)):=by unfold K8;rw[QQ h,List.any_append];simp
theorem IO{w w':World}{base:Nat}{e:TypeId}{K n:Nat}{v:Value}{xs:List Value}(J:w.ownsRow base e K v n xs)(O:w.grownBy w' v.ownBlock){k:Nat}{D:Array Value}{t:TypeId}{E:Nat×Nat}(j:w.heap[k]?=some (.cells D t E))(Q:t≠e):w'.heap[k]?=some (.cells D t E):=by
 refine(O.block k (Q5.1 j).1 (λh=>?_)).trans j;rcases J.2 with⟨rfl,_⟩|⟨W,cap,U,rfl,_,I,_⟩;·cases h
 cases h;rw[j] at I;cases I;exact Q rfl
theorem Q3V(h:ByteArray)(w:World)(X:h.size<=1000000000):Calls Tryz.prog 165 #[.string h] w λe w'=>∃v J,e=.returned (.tuple #[v,.int .i64 J])/\w'.ownsRow w.heap.size 9 1 v (Yx h.data.toList).length ((Yx h.data.toList).map Xr)/\Below w.heap.size w w':=by
 have I:h=Q8 h.data.toList:=(UK h).symm;have W:h.data.toList.length=h.size:=(Jc h).symm;obtain⟨l,U⟩:=ex (h.data.toList);rw[U] at I W |-;rw[I];refine(Bd l w (by omega)).mono ?_;rintro e w' (⟨ps,v,j,D,E,O,Q⟩|⟨j,D,E⟩);·rw[D,Ev j];exact⟨v,0,E,O,Q⟩
 rw[P6 j];exact⟨_,60,D,J8 _ _ _ _,E⟩
def IP(R:List Rn)(w:World)(e:Ending)(w':World):Prop:=∃v,e=.returned v/\w'.ownsRow w 232 7 v (Ye (Qx R)).length ((Ye (Qx R)).flatMap U2)/\Below w w w'
def ND(R:List Rn)(w:World)(h i:Value)(wr:World):Prop:=∃k:Nat,k<=R.length/\i=k/\wr.ownsRow w 232 7 h (Ye (Qx (R.take k))).length ((Ye (Qx (R.take k))).flatMap U2)/\Below w w wr
def IQ(D:List El)(h j:Id)(ps:List (List UInt8))(w:World)(E:Nat)(p I i:Value)(wr:World):Prop:=
 ∃m:Nat,m<=ps.length/\i=m/\ZU wr E (Kw h j m)/\wr.ownsRow w 9 1 p ps.length (ps.map Xr) /\
  wr.ownsRow w 232 7 I (Ye (D++Zy h j (ps.take m))).length ((Ye (D++Zy h j (ps.take m))).flatMap U2)/\Below w w wr
def Q3W(M:List El)(s:Id)(D:Bool)(h:World)(had i:Value)(wr:World):Prop:=
 ∃j:Nat,j<=M.length/\i=j/\had=.bool (D||K8 (M.take j) s)/\∃q,wr=h.drewN q
theorem ZU.cells3{W:World}{b:Nat}{x:Id}(h:ZU W b x):W.cell? (b,0)=x.s.T/\W.cell? (b,1)=x.s.R/\W.cell? (b,2)=x.I:=
 ⟨cR 0 h,cR 1 h,cR 2 h⟩
theorem ZU.thaw{W:World}{b:Nat}{x:Id}(h:ZU W b x)(i:Nat):W.frozen? (b,i)=false:=by unfold ZU at h;simp[World.frozen?,h]
theorem NE(W:World)(b:Nat)(u v z:Value):Qd (λq=>q=b) W (((W.setCell (b,0) u).setCell (b,1) v).setCell (b,2) z):=
 Qd.setCell (F:=λq=>q=b) (Qd.setCell (F:=λq=>q=b) (Qd.setCell (F:=λq=>q=b) (Qd.refl _ _) (p:=(b,0)) (λ_=>rfl) u) (p:=(b,1)) (λ_=>rfl) v) (p:=(b,2)) (λ_=>rfl) z
theorem Q3X(R:List Rn)(A:Option Addr)(n c B:Nat)(w:World)(hR:Rd w B 7 (.slice A n c) n (R.flatMap XL))(hB:B<=w)(hF:(Qx R).length<=100000)(bC:∀r∈R,r.tx.size<=100000)(hI:∀r∈R,0<=r.el.I/\r.el.I<=1000000):Calls Tryz.prog 121 #[.slice A n c] w (IP R w):=by
 obtain rfl:=QL XL 7 (λ_=>rfl) (by decide) hR.1;have c3:=hR.len;unfold maxLen at c3;have HR:=Ki (λa0 (hW:Below w w a0)=>hR.below' hW hB);have HF:=Ki hF;have bO:=Ki bC;have HI:=Ki hI;clear hR hF bC hI;obtain⟨i0,hi,c8,c9,ca⟩:=Zc Q3S;go_enter Tryz.func121,Tryz.ntmps121;go_wp2;go_loopw [3,4] (λaM i wr=>ND R w aM i wr) (λ_ i _=>R.length-(intOf i).toNat);case atStart=>exact⟨0,Qh _,rfl,J8 _ _ _ _,Qc _ _⟩
 case round=>
  obtain⟨k,hk,rfl,hO,hb⟩:=hrel;obtain⟨M0,aA⟩:∃M,Ye (Qx (R.take k))=M:=⟨_,rfl⟩;rw[aA] at hO;obtain⟨Ao,co,rfl,_,_⟩:=(Rd.of_own hO).form;have HO:=Ki hO;have au:=Ki aA;have aB:=HR.o wr hb;obtain⟨wo,rfl⟩:∃wo:World,wo=wr:=⟨_,rfl⟩;clear aA;by_cases ad:k<R.length
  ·obtain⟨b,o,rfl,bV,an⟩:=Qr XL 7 (λ_=>rfl) (by decide) aB ad;have a9:=Pu R ad;have aJ:=bO.o R[k] (Zt ad);have b8:=HI.o R[k] (Zt ad);have ap:(Qx (R.take (k+1))).length<=100000:=(by have Z:Qx R=Qx (R.take (k+1))++Qx (R.drop (k+1)):=(by unfold Qx;rw[<-Zb,XU]);have:=HF.o;rw[Z,Qj] at this;omega);obtain⟨r,hr⟩:=ex (R[k]);rw[hr] at an a9 aJ b8;obtain⟨F0,b5⟩:∃F,Qx (R.take k)=F:=⟨_,rfl⟩;rw[b5] at a9 au;rw[a9] at ap;obtain⟨Y,W,tx⟩:=r;dsimp only at a9 ap aJ b8;have aI:=λa0=>Q3V tx a0 (by omega);have aH:=C1 tx.data.toList;rw[<-Jc] at aH;obtain⟨ps,bz⟩:=ex (Yx tx.data.toList);rw[bz] at a9 ap aI aH;have bI:=Ki a9;have aY:=Ki aI;have bk:b<w:=Z1 bV hB;have bo:∀a0,Below w w a0->∀j u,(XL ⟨Y,W,tx⟩)[j]?=some u->a0.cell? (b,o+k*7+j)=some u:=λa0 hW j u hu=>by have Z:wo.cell? (b,o+k*7+j)=some u:=an j u hu;rw[hb.cell (p:=(b,o+k*7+j)) bk] at Z;exact(hW.cell (p:=(b,o+k*7+j)) bk).trans Z
   have a3:=Ki bo;have d6:wo.cell? (b,o+k*7+6)=tx:=an 6 _ rfl;have i1:(0:Int)<=(k:Int):=(by omega);have i2:(k:Int)<(R.length:Int):=(by omega);have cj:ps.length<=100000:=(by omega);have HB:=Ki hb;have aK:w.heap.size<=wo.heap.size:=hb.size;clear an bo hr a9 aI aH bz aJ b5 aB hO hb;go_wp2_with fail;refine(aY.o wo).mono ?_;rintro e w2 ⟨vp,er,rfl,hp,hb2⟩;obtain⟨Ap,cp,rfl,ci,c5⟩:=(Rd.of_own hp).form;have aa:Below w w w2:=HB.o.trans (hb2.mono aK);have e0:w2.cell? (b,o+k*7)=Y.s.T:=a3.o w2 aa 0 _ rfl;have e1:w2.cell? (b,o+k*7+1)=Y.s.R:=a3.o w2 aa 1 _ rfl;have e2:w2.cell? (b,o+k*7+2)=Y.I:=a3.o w2 aa 2 _ rfl;have aU:=Ki (QB HO.o hb2);have bv:w2.ownsRow w 9 1 (.slice Ap ps.length cp) ps.length (ps.map Xr):=⟨hp.1,hp.2.imp id λ⟨g,cap,X,f1,hg,r⟩=>⟨g,cap,X,f1,Q9 aK hg,r⟩⟩;have HP:=Ki bv;have aP:=Ki aa;have bD:w.heap.size<=w2.heap.size:=aa.size;unfold maxLen at c5;clear hp bv hb2 aa d6 aY HO;go_wp2;obtain⟨W3,aj⟩:∃a0,w2.alloc (.cells Y 60)=a0:=⟨_,rfl⟩;have al:=bl aj;have bi:ZU W3 w2 Y:=(by rw[<-aj];exact Qi w2 _);rw[aj];obtain⟨D,aD⟩:∃z,w2.heap.size=z:=⟨_,rfl⟩;have bB:IQ F0 Y W ps w D (.slice Ap ps.length cp) (.slice Ao M0.length co) (0:Int) W3:=⟨0,Qh _,rfl,by rw[<-aD];exact bi,QB HP.o al,by rw[List.take_zero,Zy,ZB,au.o];exact QB aU.o al,aP.o.trans (al.mono bD)⟩;have aZ:=Ki bB;have ck:w<=D:=(by omega);have hz:(w2.heap.size:Nat)=D:=aD;simp only[hz];clear aj al bi aD bB hz e0 e1 e2 aU HP aP bD HB aK
   go_loopw [3,8] (λaM i wr=>IQ F0 Y W ps w D (.slice Ap ps.length cp) aM i wr) (λ_ i _=>ps.length-(intOf i).toNat);case atStart=>exact aZ.o
   case round=>
    clear aZ;obtain⟨m,hm,rfl,ai,hP,hO,a2⟩:=hrel;obtain⟨J,rfl⟩:∃J:World,J=wr:=⟨_,rfl⟩;obtain⟨F,a6⟩:=ex (F0++Zy Y W (ps.take m));have cd:F.length<=100000:=(by rw[<-a6,Qj,Gj,Zi];rw[Qj,Gj] at ap;omega);rw[a6] at hO;by_cases aG:m<ps.length
    ·have b6:=Pv Y W ps aG;have a7:=NB W m (by omega);obtain⟨y,hy⟩:=ex (Kw Y W m);obtain⟨x,hx⟩:=ex (Ji W m);obtain⟨p,hp⟩:=ex (ps[m]);have b7:F0++Zy Y W (ps.take (m+1))=F++[⟨x,y,Q8 p⟩]:=(by rw[b6,<-Y7,a6,hx,hy,hp]);have bf:Kw Y W (m+1)=x:=hx;rw[hy] at ai;rw[hx] at a7;have cl:(0:Int)<=W.I+m/\W.I+m<=9223372036854775807:=(by omega);have hw:IntKind.i64.wrap (W.I+(m:Int))=x.I:=(by rw[a7.2];exact QO _ (by omega));have d3:J.cell? (b,o+k*7+3)=x.s.T:=(by rw[a7.1];exact a3.o J a2 3 _ rfl);have d4:J.cell? (b,o+k*7+3+1)=x.s.R:=(by rw[a7.1];exact a3.o J a2 4 _ rfl);have d5:J.cell? (b,o+k*7+3+2)=W.I:=a3.o J a2 5 _ rfl;have am:=a2.alloc a2.size (.cells #[(0:Int),(0:Int),(0:Int)] 60);have f3:(J.alloc (.cells #[(0:Int),(0:Int),(0:Int)] 60)).cell? (b,o+k*7+3)=x.s.T:=(by rw[a7.1];exact a3.o _ am 3 _ rfl);have f4:(J.alloc (.cells #[(0:Int),(0:Int),(0:Int)] 60)).cell? (b,o+k*7+3+1)=x.s.R:=(by rw[a7.1];exact a3.o _ am 4 _ rfl);have f5:(J.alloc (.cells #[(0:Int),(0:Int),(0:Int)] 60)).cell? (b,o+k*7+3+2)=W.I:=a3.o _ am 5 _ rfl;obtain⟨Av,cv,rfl,bY,c1⟩:=(Rd.of_own hO).form;have c0:=(NA F).2.2;obtain⟨M,hM⟩:=ex (Ye F);have ay:=Nz F ⟨x,y,Q8 p⟩;rw[hM] at hO c0 ay bY |-;obtain⟨E,op,c7,ar,bn⟩:=(Rd.of_own hP).cells (show 0<ps.length by omega);subst c7;have dp:J.cell? (E,op+m)=some (Xr p):=bn m (Xr p) (by rw[B1,X3 aG,hp];rfl);unfold Xr at dp
     obtain⟨bU,cb,bT,bw,cg,bx,c6⟩:=hP.2.resolve_left (λh=>by have:=h.1;cases this);have c4:E=bU:=(by injection bw with Z;injection Z with Z;injection Z);subst c4;have HP:=Ki hP;have aW:=Ki bx;have HO:=Ki hO;have ae:=Ki ai;have bJ:=Ki b7;have bH:=Ki ay;have bP:=Ki bf;have i3:(0:Int)<=(m:Int):=(by omega);have i4:(m:Int)<(ps.length:Int):=(by omega);clear bn bw c6 bx hP hO ai b6 b7 ay bf a7 hx hy hp hM a6 c1;go_wp2;go_region;obtain⟨U,ak⟩:∃a0,(J.alloc (.cells x 60)).drew=a0:=⟨_,rfl⟩;have a4:Below J J U:=(by rw[<-ak];exact((Qc _ J).alloc (Q3 _) _).drew);have be:ZU U J x:=(by rw[<-ak];exact Qi J _);rw[ak];obtain⟨bX,aE⟩:∃z,J.heap.size=z:=⟨_,rfl⟩;have aw:=Kj (ZU U bX x) (by rw[<-aE];exact be);have aQ:=Ki (a2.trans (a4.mono a2.size));have av:=Ki (QB HO.o a4);have aV:=Ki (QB HP.o a4);have aX:=Ki ((a4.block E ar).trans aW.o);have aT:=Kj (ZU U D y) ((a4.block D (Q5.1 ae.o).1).trans ae.o);have b4:U.cell? (E,op+m)=some (.string (Q8 p)):=(a4.cell (p:=(E,op+m)) ar).trans dp;have br:E<U:=Z1 ar a4.size;have ch:bX≠D:=(by have:=(Q5.1 ae.o).1;omega);simp only[aE];clear ak a4 be aE HO HP aW ae dp d3 d4 d5 f3 f4 f5 am ar a2 hw;obtain⟨x0,x1,x2⟩:=aw.o.cells3;have bW:Xs x.s.T x.s.R x.I 0 0 0=decide (x=Qf):=UT x Qf;obtain⟨z0,aL⟩:∃z,decide (x=Qf)=z:=⟨_,rfl⟩;rw[aL] at bW;have b3:=Ki aL;have hq:=Xt;have cf:=ZR;clear aL;go_wp2;go_loopw [10,11] (λhad i wr=>Q3W M x z0 U had i wr) (λ_ i _=>M.length-(intOf i).toNat)
     case atStart=>exact⟨0,Qh _,rfl,by simp[K8],0,rfl⟩
     case round=>
      obtain⟨j,hj,rfl,rfl,q,rfl⟩:=hrel;by_cases bs:j<M.length
      ·obtain⟨g,og,rfl,cc,ao⟩:=Qr U2 7 (λ_=>rfl) (by decide) (Rd.of_own av.o) bs;have e0:U.cell? (g,og+j*7)=some (.int .i64 M[j].id.s.T):=ao 0 _ rfl;have e1:U.cell? (g,og+j*7+1)=some (.int .i64 M[j].id.s.R):=ao 1 _ rfl;have e2:U.cell? (g,og+j*7+2)=some (.int .i64 M[j].id.I):=ao 2 _ rfl;have hE:=UT M[j].id x;have hN:=Q3U bs x;obtain⟨f,hf⟩:=ex (M[j]);rw[hf] at e0 e1 e2 hE hN;have HN:=Ki hN;have j1:(0:Int)<=(j:Int):=(by omega);have j2:(j:Int)<(M.length:Int):=(by omega);clear ao hf hN;rcases hh:(z0||K8 (M.take j) x) with _|_
       ·have HH:=Ki hh;obtain⟨bb,bj⟩:=ex (decide (f.id=x));rw[bj] at hE HN;clear hh bj;go_wp2;go_quiet (fail);go_wp2;go_roundw;case rel=>exact⟨j+1,by omega,by go_num,by rw[HN.o,<-Bool.or_assoc,HH.o];simp,q+nq,rfl⟩
        case measure=>simp[intOf];omega
       have HH:=Ki hh;clear hh;go_wp2;go_quiet (fail);go_wp2;go_roundw;case rel=>exact⟨j+1,by omega,by go_num,by rw[HN.o,<-Bool.or_assoc,HH.o];simp,q+nq,rfl⟩
       case measure=>simp[intOf];omega
      obtain rfl:j=M.length:=by omega
      rw[X6];have a8:Below w w (U.drewN q):=Ry aQ.o q;have ab:=Ki (Ny av.o q);have ah:=Ki (Ny aV.o q);have a5:=Kj (ZU (U.drewN q) bX x) aw.o;have a1:=Kj (ZU (U.drewN q) D y) aT.o;have ag:=Kj ((U.drewN q).heap[E]?=_) aX.o;have ax:(U.drewN q).cell? (E,op+m)=some (.string (Q8 p)):=b4;have aq:E<(U.drewN q).heap.size:=br;clear x0 x1 x2 b4 br;generalize U.drewN q=O at *;clear av aV aw aT aX aQ;obtain⟨x0,x1,x2⟩:=a5.o.cells3;obtain⟨y0,y1,y2⟩:=a1.o.cells3;have bp:∀i,O.frozen? ⟨D,i,none⟩=false:=a1.o.thaw;have ce:M.length<=100000:=(by omega);have bg:∀I v6,(I.ownsRow w 232 7 v6 (U3 M ⟨x,y,Q8 p⟩).length ((U3 M ⟨x,y,Q8 p⟩).flatMap U2))->ZU I D x->I.ownsRow w 9 1 (.slice (E,op) ps.length cp) ps.length (ps.map Xr)->Below w w I->IQ F0 Y W ps w D (.slice (E,op) ps.length cp) v6 (.int .i64 ((m:Int)+1)) I:=λI v6 Z h2 h3 h4=>⟨m+1,aG,rfl,by rw[bP.o];exact h2,h3,by rw[bJ.o,bH.o];exact Z,h4⟩;have aO:=Ki bg;clear bg;rcases hh:(z0||K8 M x) with _|_
      ·have bt:U3 M ⟨x,y,Q8 p⟩=M++[⟨x,y,Q8 p⟩]:=by
        unfold U3;rw[Q6];rw[Bool.or_eq_false_iff] at hh;rintro(h|h);·rw[<-b3.o] at hh;exact absurd h (UC hh.1)
        rw[(NC M x).2 h] at hh;cases hh.2
       have bK:=Ki bt;have HQ:=Ki (λQ (hx:ZU Q bX x) (hy:ZU Q D y) (hp:Q.heap[E]?=O.heap[E]?)=>(show Q.cell? (bX,0)=x.s.T/\Q.cell? (bX,1)=x.s.R/\Q.cell? (bX,2)=x.I/\Q.cell? (D,0)=y.s.T/\Q.cell? (D,1)=y.s.R/\Q.cell? (D,2)=y.I/\Q.cell? (E,op+m)=some (.string (Q8 p)) from⟨hx.cells3.1,hx.cells3.2.1,hx.cells3.2.2,hy.cells3.1,hy.cells3.2.1,hy.cells3.2.2,(World.cell?_of_block (a:=⟨E,op+m,none⟩) hp).trans ax⟩))
       have HK:=Ki (show ∀o I,(O.drew.alloc o).grownBy I (Value.slice Av M.length cv).ownBlock->ZU I bX x/\ZU I D y/\I.heap[E]?=O.heap[E]? from λo I hg=>by
        have h0:(O.drew.alloc o).ownsRow w 232 7 (.slice Av M.length cv) M.length (M.flatMap U2):=(Nx ab.o).alloc _;have hX:ZU (O.drew.alloc o) bX x:=(Z5 _ _ _ (Q5.1 a5.o).1).trans a5.o;have hA:ZU (O.drew.alloc o) D y:=(Z5 _ _ _ (Q5.1 a1.o).1).trans a1.o;have hG:(O.drew.alloc o).heap[E]?=some (.cells bT 9 (0,0)):=(Z5 O.drew o E aq).trans ag.o
        exact⟨IO h0 hg hX (by decide),IO h0 hg hA (by decide),(IO h0 hg hG (by decide)).trans ag.o.symm⟩)
       have bc:=HQ.o O.drew a5.o a1.o rfl;have bE:∀o,ZU ((O.alloc o).drew) bX x:=λo=>(Z5 _ _ _ (Q5.1 a5.o).1).trans a5.o;have bF:∀o,ZU ((O.alloc o).drew) D y:=λo=>(Z5 _ _ _ (Q5.1 a1.o).1).trans a1.o;have bq:∀o,((O.alloc o).drew).heap[E]?=O.heap[E]?:=λo=>Z5 _ _ _ aq;have bN:=Ki (λo=>HQ.o _ (bE o) (bF o) (bq o));clear hh bt bp y0 y1 y2 x0 x1 x2 bE bF bq;go_wp2
       go_region_held3 (λQ=>Q.cell? (bX,0)=x.s.T/\Q.cell? (bX,1)=x.s.R/\Q.cell? (bX,2)=x.I/\Q.cell? (D,0)=y.s.T/\Q.cell? (D,1)=y.s.R/\Q.cell? (D,2)=y.I/\Q.cell? (E,op+m)=some (.string (Q8 p)))
        (first|exact bc|exact bN.o _|exact bd|go_keep)
        ((refine Ja _ (by rfl) _ _ _ (by rfl) w 232 i0 _ 7 64 Tryz.underlying228 hi c8 c9 ca rfl (by omega) _ M.length _ (by rfl) ((Nx ab.o).alloc _) ⟨O.heap.size,0,none⟩ 1 1 (U2 ⟨x,y,Q8 p⟩) (by rfl) (by rfl) (Zd O.drew (U2 ⟨x,y,Q8 p⟩) 232) (Q3R _) (by omega) (by unfold maxLen;omega) (by omega) (by have:=a8.size;simp at this |-;omega) _ (by rfl) ?_;intro g cap I bu aF bZ c2;obtain⟨aC,ac,az⟩:=HK.o _ _ aF;have bd:=HQ.o I aC ac az))
       have ba:I.ownsRow w 9 1 (.slice (E,op) ps.length cp) ps.length (ps.map Xr):=⟨ah.o.1,ah.o.2.imp id λ⟨g1,bR,bS,f1,f2,f3,f4⟩=>⟨g1,bR,bS,f1,f2,by
        have h9:E=g1:=(by injection f1 with Z;injection Z with Z;injection Z);subst h9
        exact az.trans f3,f4⟩⟩
       have bh:Below w w I:=((a8.drew).alloc a8.size _).grown aF (by have:=a8.size;simp;omega) (λj hj=>(ab.o.lt j hj).1);have b9:I.ownsRow w 232 7 (.slice (g,0) (M.length+1) cap) (U3 M ⟨x,y,Q8 p⟩).length ((U3 M ⟨x,y,Q8 p⟩).flatMap U2):=(by rw[bK.o,Qj,Zb];simpa using bu);have bL:=Ki b9;have bM:=Ki ba;have aN:=Ki ac;have aR:=Ki bh;obtain⟨x0,x1,x2⟩:=aC.cells3;obtain⟨y0,y1,y2⟩:=ac.cells3;have bp:∀i,I.frozen? ⟨D,i,none⟩=false:=ac.thaw;clear bu aF bZ c2 aC ac az bd bc ba bh b9 a8 ax aq ab ah a5 a1 ag;go_wp2;go_roundw
       case rel=>
        have tk:Qd (λq=>q=D) I (((I.setCell (D,0) x.s.T).setCell (D,1) x.s.R).setCell (D,2) x.I):=
         NE _ _ _ _ _
        have hk:∀(ty:TypeId) q X fr,ty≠60->q=D->I.heap[q]?≠some (.cells X ty fr):=λty q X fr ht hq h=>by have h2:=aN.o;unfold ZU at h2;rw[hq,h2] at h;cases h;exact ht rfl
        exact aO.o _ _ (Ul bL.o tk (λq X fr h=>hk 232 q X fr (by decide) h)) (Fq aN.o) (Ul bM.o tk (λq X fr h=>hk 9 q X fr (by decide) h)) (aR.o.trans (tk.below aR.o.size (λq hq h=>by omega)))
       case measure=>simp[intOf];omega
      have bG:U3 M ⟨x,y,Q8 p⟩=M:=by
       unfold U3;rw[Q7];rw[G4] at hh;rcases hh with h|h;·rw[<-b3.o] at h;exact .inl (Y0 h)
       exact .inr ((NC M x).1 h)
      have bQ:=Ki bG;clear hh bG ax aq ag;have aS:=Ki a8;clear a8;go_wp2;go_roundw
      case rel=>
       have tk:Qd (λq=>q=D) O (((O.setCell (D,0) x.s.T).setCell (D,1) x.s.R).setCell (D,2) x.I):=
        NE _ _ _ _ _
       have hk:∀(ty:TypeId) q X fr,ty≠60->q=D->O.heap[q]?≠some (.cells X ty fr):=λty q X fr ht hq h=>by have h2:=a1.o;unfold ZU at h2;rw[hq,h2] at h;cases h;exact ht rfl
       exact aO.o _ _ (by rw[bQ.o];exact Ul ab.o tk (λq X fr h=>hk 232 q X fr (by decide) h)) (Fq a1.o) (Ul ah.o tk (λq X fr h=>hk 9 q X fr (by decide) h)) (aS.o.trans (tk.below aS.o.size (λq hq h=>by omega)))
      case measure=>simp[intOf];omega
    obtain rfl:m=ps.length:=by omega
    rw[X6] at a6;obtain⟨Av,cv,rfl,_,_⟩:=(Rd.of_own hO).form;have HE:=Kj (ND R w (.slice Av (Ye F).length cv) (.int .i64 ((k:Int)+1)) J) ⟨k+1,ad,rfl,by rw[bI.o,a6];exact hO,a2⟩;clear hP hO ai a2 a6;go_wp2;go_roundw;case rel=>exact HE.o
    case measure=>simp[intOf];omega
  obtain rfl:k=R.length:=by omega
  have HE:=Kj (IP R w (.returned (.slice Ao M0.length co)) wo) ⟨_,rfl,by have:=au.o;rw[X6] at this;rw[this];exact HO.o,hb⟩;clear hb aB hO;go_wp2;go_ret;exact HE.o
def ElI(n:Nat)(h:World)(v i:Value)(wr:World):Prop:=∃(P S:List Id)(x:Id),(P++x::S).length=n/\i=.int .i64 (P.length:Nat)/\wr.ownsRow h 60 3 v n ((P++x::S).flatMap Qe)/\Below h h wr
def ElR(N:Nat)(h:World)(v i:Value)(wr:World):Prop:=∃(k:Nat)(L:List Id),k<=N/\i=k/\L.length=k/\wr.ownsRow h 60 3 v L.length (L.flatMap Qe)/\Below h h wr
theorem NF(l:List Q1)(D:Id)(A:Option Addr)(n c B:Nat)(w:World)(hG:Xi w B (.slice A n c) l)(hB:B<=w)(hs:QW l<=1000)(hn:n<=1000)(hF:(Qx (Za l D)).length<=1000)(aE:∀r∈Za l D,r.tx.size<=100000)(hI:∀r∈Za l D,0<=r.el.I/\r.el.I<=1000000):Calls Tryz.prog 70 #[.slice A n c,Qa D] w λe w'=>(∃v,∃L:List Id,e=.returned v/\L.length<=1000/\w'.ownsRow w 60 3 v L.length (L.flatMap Qe))/\Below w w w':=by
 obtain⟨i0,hi,z0,z1,z2⟩:=Zc UZ;have ag:=Ki (λW (h:Below w w W)=>Q2k l D A n c B W (hG.below (h.mono hB)) (Q9 hB h.size) hs hn);have a5:=Ki (λA n c B W a6 hb=>Q3X (Za l D) A n c B W a6 hb (by omega) aE hI);have a9:=Kj ((Ye (Qx (Za l D))).length<=1000) (Q9 (NA _).2.2 hF);obtain⟨RR,aw⟩:∃R,Za l D=R:=⟨_,rfl⟩;rw[aw] at ag a5 a9;obtain⟨a4,hE⟩:=ex (Ye (Qx RR));unfold IP at a5;rw[hE] at a5 a9;unfold Qa at *;clear hG hs hF aE hI aw hE;go_enter Tryz.func70,Tryz.ntmps70;go_upto_region 1 with fail;obtain⟨W1,ac⟩:∃W,w.alloc (.cells D 60)=W:=⟨_,rfl⟩;have ab:=Kj (Below w w W1) (by rw[<-ac];exact(Qc _ w).alloc (Q3 _) _);have h1:=bn ac;rw[ac];obtain⟨b3,Z⟩:∃b,w.heap.size=b:=⟨_,rfl⟩;rw[Z] at h1 |-;have c0:W1.cell? (b3,0)=D.s.T:=cR 0 h1;have c1:W1.cell? (b3,1)=D.s.R:=cR 1 h1;have c2:W1.cell? (b3,2)=D.I:=cR 2 h1;have aP:=Ki Z;clear ac h1 Z;go_wp2_with fail;refine(ag.o W1 ab.o).mono ?_;rintro e w2 ⟨⟨v2,rfl,ai⟩,hb2⟩;obtain⟨A2,n2,rfl,_,_⟩:=(Rd.of_own ai).form;have ah:=Ki (ab.o.trans (hb2.mono ab.o.size));have ar:=Ki (Rd.of_own ai);clear ai hb2 c0 c1 c2;go_wp2_with fail;refine(a5.o A2 RR.length n2 w2 w2 ar.o (Q3 _)).mono ?_;rintro e w1 ⟨v3,rfl,aj,Z⟩;obtain⟨A3,c3,rfl,_,_⟩:=(Rd.of_own aj).form;have ae:=Ki (ah.o.trans (Z.mono ah.o.size));have HE:=Ki (λW (h:Below w1 w1 W)=>(Rd.of_own aj).below' h (Q3 _));have aQ:=a9.o;clear ag a5 ar ab ah aj Z a9;go_wp2;go_loopw [6,7] (λv i wr=>ElR a4.length w1 v i wr) (λ_ i _=>a4.length-(intOf i).toNat)
 case atStart=>exact⟨0,[],Qh _,rfl,rfl,⟨rfl,.inl ⟨rfl,rfl⟩⟩,Qc _ _⟩
 case round=>
  rename World=>wo
  obtain⟨k,I,hk,rfl,au,hO,hb⟩:=hrel;obtain⟨Ao,co,rfl,_,_⟩:=(Rd.of_own hO).form;have HO:=Ki hO;have HB:=Ki hb;by_cases aO:k<a4.length
  ·obtain⟨b,o,rfl,aJ,a7⟩:=Qr U2 7 (λ_=>rfl) (by decide) (HE.o _ hb) aO;obtain⟨p,hp⟩:=ex (a4[k]);rw[hp] at a7;have d0:wo.cell? (b,o+k*7)=p.id.s.T:=a7 0 _ rfl;have d1:wo.cell? (b,o+k*7+1)=p.id.s.R:=a7 1 _ rfl;have d2:wo.cell? (b,o+k*7+2)=p.id.I:=a7 2 _ rfl;have ao:=Ki au;have aT:I.length<=1000:=(by omega);have aR:(0:Int)<=(k:Int):=(by omega);have aS:(k:Int)<(a4.length:Int):=(by omega);clear a7 hp hO hb aJ au;go_wp2_with (at_builtin;refine Yf _ rfl _ _ 66 rfl w1 60 i0 _ 3 24 V0 hi z0 z1 z2 rfl (by decide) _ I.length _ rfl (HO.o.alloc _) ⟨wo.heap.size,0,none⟩ 1 1 (Qe p.id) rfl rfl (Zd wo (Qe p.id) 60) (Vb p.id) (by unfold maxLen;omega) (by omega) (by have:=HB.o.size;simp;omega) ?_);intro v' W4 aD az _;obtain⟨g,cap,rfl,aL,ay,aM,a8⟩:=Ui aD;have an:=Ki ((HB.o.alloc HB.o.size (.cells (Qe p.id).toArray 60)).grown az (by have:=HB.o.size;simp;omega) (λj U=>(HO.o.lt j U).1));obtain⟨it,aA⟩:=ex (p.id);rw[aA] at a8;have aC:I.length+1=k+1:=(by have:=ao.o;omega);rw[aC] at a8 ay |-;have ap:=Ki (show(I++[it]).length=k+1 by rw[Qj,XZ];omega);obtain⟨n1,al⟩:=ex (k+1);have af:=Ki al;have aV:n1<=1001:=(by omega);rw[al] at a8 ay ap |-;have aq:=Ki a8;unfold maxLen at aM;clear aD az a8 d0 d1 d2 aA aC al;go_wp2;go_loopw [8] (λi wr=>ElI n1 w1 (.slice (g,0) n1 cap) i wr) (λi _=>(intOf i).toNat);case atStart=>exact⟨I,[],it,ap.o,by have:=af.o;have:=ao.o;congr 1;omega,by have a6:=aq.o;simpa using a6,an.o⟩
   case round=>
    obtain⟨P,S,x,av,rfl,ak,ax⟩:=hrel;have O:=Ki av;have Y:=Ki ak;have a3:g<wr:=(ak.lt g rfl).2;have X:=Ki ax;clear av ak ax an aq;rcases Ky P with rfl|⟨J,y,rfl⟩;·go_wp2;go_quiet (fail);go_wp2;exact⟨⟨k+1,[]++x::S,by omega,by go_num,by rw[O.o,af.o],by have a6:=QB Y.o ((Q0.refl wr).drewN nq).below;rw[O.o];exact a6,X.o.trans (((Q0.refl wr).drewN nq).below.mono X.o.size)⟩,by simp[intOf];omega⟩
    obtain⟨j,U⟩:=ex (J.length);have aB:((J++[y]).length:Int)=(j:Int)+1:=(by rw[Qj,U];rfl);rw[aB];have hM:(J++[y])++x::S=J++y::x::S:=(by simp);rw[hM] at Y O;have aU:j+1<n1:=(by have:=O.o;simp at this;omega);have cy:∀r u,(Qe y)[r]?=some u->wr.cell? (g,j*3+r)=some u:=λr u hu=>(X8 Y.o _ u (U▸YJ Qe 3 (λ_=>rfl) J (x::S) y r u hu)).1
    have cx:∀r u,(Qe x)[r]?=some u->wr.cell? (g,(j+1)*3+r)=some u:=λr u hu=>(X8 Y.o _ u (by
     have:=YJ Qe 3 (λ_=>rfl) (J++[y]) S x r u hu;rw[Qj,U] at this
     simpa using this)).1
    have aN:(j+1)*3=j*3+3:=(by omega);rw[aN] at cx;have HJ:=Ki U;have HC:=Ki (λw=>GY x y w);unfold Qa at HC;have a0:∀n os,(Sort.grow (wr.drewN n) os).cell? (g,j*3)=y.s.T:=λn os=>QG a3 (cy 0 _ rfl) n os;have a1:∀n os,(Sort.grow (wr.drewN n) os).cell? (g,j*3+1)=y.s.R:=λn os=>QG a3 (cy 1 _ rfl) n os;have a2:∀n os,(Sort.grow (wr.drewN n) os).cell? (g,j*3+2)=y.I:=λn os=>QG a3 (cy 2 _ rfl) n os;have b0:∀n os,(Sort.grow (wr.drewN n) os).cell? (g,j*3+3)=x.s.T:=λn os=>QG a3 (cx 0 _ rfl) n os;have b1:∀n os,(Sort.grow (wr.drewN n) os).cell? (g,j*3+4)=x.s.R:=λn os=>QG a3 (cx 1 _ rfl) n os;have b2:∀n os,(Sort.grow (wr.drewN n) os).cell? (g,j*3+5)=x.I:=λn os=>QG a3 (cx 2 _ rfl) n os;have i3:(0:Int)<=(j:Int)+1:=(by omega);have i4:(j:Int)+1<(n1:Int):=(by omega);have i5:(0:Int)<=(j:Int):=(by omega);have i6:(j:Int)<(n1:Int):=(by omega);have hw:IntKind.i64.wrap (j:Int)=j:=QO _ (by omega);clear U aB hM cx cy;generalize x.cmp y=cc at HC;by_cases hc:cc<0
    ·go_wp2;refine QK (by kernel_rfl) (by kernel_rfl) ?_;repeat (quiet_step ((go_at_call 123;exact Qk (HC.o _))))
     refine QN ?_;rintro W ⟨⟨nq,E⟩,h⟩;have Q:Q0 wr W:=⟨nq,E,h⟩;have ad:=X.o.trans (Q.below.mono X.o.size);have am:=QB Y.o Q.below;have A0:W.cell? (g,j*3)=y.s.T:=h▸a0 nq E;have A1:W.cell? (g,j*3+1)=y.s.R:=h▸a1 nq E;have A2:W.cell? (g,j*3+2)=y.I:=h▸a2 nq E;have B0:W.cell? (g,j*3+3)=x.s.T:=h▸b0 nq E;have B1:W.cell? (g,j*3+4)=x.s.R:=h▸b1 nq E;have B2:W.cell? (g,j*3+5)=x.I:=h▸b2 nq E;have aK:∀i,W.frozen? ⟨g,i,none⟩=false:=YY am (by omega);have aa:=Ki am;clear h Q am a0 a1 a2 b0 b1 b2;go_wp2;go_region;have aI:=Ki (Pe HJ.o aa.o (by omega));have aG:=Ki (Pf ad aL j y x);change Exit.inBlock _ _ _ _ (Gk W g j y x);generalize Gk W g j y x=W5 at *;clear A0 A1 A2 B0 B1 B2 aK aa ad;go_wp2;go_roundw
     case rel=>
      refine⟨J,y::S,x,?_,?_,?_,?_⟩;·have:=O.o;simp at this |-;omega
      ·rw[HJ.o]
      ·exact aI.o
      exact aG.o
     case measure=>simp[intOf]
    go_wp2;refine QK (by kernel_rfl) (by kernel_rfl) ?_;repeat (quiet_step ((go_at_call 123;exact Qk (HC.o _))))
    refine QN ?_;rintro W ⟨⟨nq,E⟩,h⟩;have Q:Q0 wr W:=⟨nq,E,h⟩;have ad:=X.o.trans (Q.below.mono X.o.size);have aa:=Ki (QB Y.o Q.below);clear h Q a0 a1 a2 b0 b1 b2;go_wp2;exact⟨⟨k+1,J++y::x::S,by omega,by go_num,by rw[O.o,af.o],by rw[O.o];exact aa.o,ad⟩,by simp[intOf];omega⟩
  have aF:=Ki (ae.o.trans (hb.mono ae.o.size));have aH:=Ki (Yp hO ae.o.size);clear hO hb;go_wp2;go_ret;exact⟨⟨_,I,rfl,by omega,aH.o⟩,aF.o⟩
end
section
open Go
theorem NG(s:Q4):∀(l:List Qt)(k n:Nat),Y9 s k l=some n->∀o∈l,∃E I,E+2000<=k+2000*l.length/\Z8 s E o=some I
 |[],_,_,_,o,j=>by cases j
 |a::l,k,n,h,o,j=>by
  rw[Gc] at h
  cases D:Z8 s k a with
  |none=>rw[D] at h;cases h
  |some J=>
   rw[D] at h;rcases QI.1 j with rfl|j;·exact⟨k,J,by rw[Z4];omega,D⟩
   obtain⟨E,I,Q,O⟩:=NG s l J n h o j;have:=(L6 D).2;exact⟨E,I,by rw[Z4];omega,O⟩
structure NH(s:Q4)(o:Qt):Prop where
 make:o.k=0->o.node.s=s
 ins:o.k=3->o.el.s=s/\0<=o.el.I/\o.el.I<=398000/\o.af.s.T<=s.T
 era:o.k=4->∀x∈o.els,x.s.T<=s.T
theorem NI{s:Q4}{k:Int}{x:Id}(h:Zq s k x=true):x.s.T<=s.T:=by
 unfold Zq at h;simp only[ZJ,G4,XD] at h;rcases h.2 with j|j;·rcases (Vq _ _).1 j with D|D<;>omega
 rw[j.1];exact Ei _
theorem Q3Y{s:Q4}{k:Int}{x:Id}(j:0<=s.T)(h:X9 s k x=true):x.s.T<=s.T:=by
 unfold X9 at h;rw[G4] at h;rcases h with h|h;·unfold ZX at h;have:=Y0 h;omega
 exact NI h
theorem NJ{s:Q4}{k:Int}{x:Id}(h:YZ s k x=true):x.s=s/\x.I=k:=by unfold YZ at h;simpa only[ZJ,XD] using h
theorem Q3Z{s:Q4}{k n:Nat}{o:Qt}(U:0<=s.T)(Y:k<=398000)(h:Z8 s k o=some n):NH s o:=by
 unfold Z8 at h;split at h
 ·refine⟨λE=>?_,λE=>?_,λE=>?_⟩
  ·rw[Q7 E] at h;split at h;·rename_i D;simp only[ZJ] at D;exact(NJ D.1.1).1
   cases h
  ·rw[Q6 (by omega),Q6 (by omega),Q6 (by omega),Q7 E] at h;split at h;·cases h
   split at h;·rename_i D;simp only[ZJ] at D;obtain⟨Q,X⟩:=NJ D.1.1.2;exact⟨Q,by omega,by omega,Q3Y U D.1.1.1.2⟩
   cases h
  rw[Q6 (by omega),Q6 (by omega),Q6 (by omega),Q6 (by omega),Q7 E] at h;split at h;·rename_i D;simp only[ZJ] at D;have J:=D.2;unfold Vr at J;simp only[ZJ,V4,Uc] at J;intro x W;obtain⟨j,O,rfl⟩:=U9.1 W;have I:=J.1.1 j O;unfold J0 at I;rw[X3 O] at I;simp only[ZJ] at I;exact NI I.1
  cases h
 cases h
theorem IR{g:Q1}(h:ZG g=true):∀o∈g.ops,NH g.s o:=by
 intro o D;have U:=Cm h;unfold ZG at h;rw[ZJ] at h;have j:=h.2;split at j;·simp only[ZJ,XD] at j;obtain⟨⟨_,O⟩,E⟩:=j;obtain⟨n,J⟩:=Option.isSome_iff_exists.1 E;obtain⟨W,X,Q,I⟩:=NG g.s g.ops 0 n J o D;exact Q3Z (by omega) (by omega) I
 simp only[ZJ,XD] at j;have:=VM.1 j.2;rw[this] at D;cases D
theorem NK:∀(ps:List (List UInt8)) (D x:Id),∀e∈Zy D x ps,e.af=D\/e.af.s=x.s
 |[],_,_,_,j=>by cases j
 |p::ps,D,x,e,j=>by
  rcases QI.1 j with rfl|j;·exact .inl rfl
  rcases NK ps x (XM x) e j with h|h;·exact .inr (by rw[h])
  exact .inr h
theorem NL{l:List Q1}(W:∀g∈l,∀o∈g.ops,o.tx.size<=100){x:Id}{e:El}(D:e∈Qx (Za (Qs l) x)):(∃g∈Qs l,e.id.s=g.s/\e.af.s.T<=g.s.T)/\0<=e.id.I/\e.id.I<=399000:=by
 unfold Qx at D;obtain⟨r,j,D⟩:=YW.1 D;unfold Za at j;obtain⟨g,E,j⟩:=YW.1 j;obtain⟨o,J,j⟩:=YW.1 j;unfold Zu at j;split at j
 ·rename_i U;rw[Qw] at j;subst j;dsimp only at D;obtain⟨I,Z,h3,Q⟩:=(IR (Fu E) o J).ins U.2;have hl:(Yx o.tx.data.toList).length<=100:=Q9 (C1 _) (W g (XC E) o J);obtain⟨O,X,Y⟩:=FE _ o.af o.el (by omega) e D;refine⟨⟨g,E,by rw[O,I],?_⟩,by omega,by omega⟩;rcases NK _ o.af o.el e D with h|h;·rw[h];exact Q
  rw[h,I];exact Ei _
 cases j
theorem Q40{l:List Q1}{L:List Q4}{x y:Id}(h:y∈Xy L (Qs l) x):∃g∈Qs l,y.s.T<=g.s.T:=by
 unfold Xy at h;obtain⟨g,j,h⟩:=YW.1 h;obtain⟨o,E,h⟩:=YW.1 h;unfold Ys at h;split at h;·rename_i D;exact⟨g,j,(IR (Fu j) o E).era D.2.1 y h⟩
 cases h
theorem Q41{C:List Q1}{g:Q1}(h:g∈C):g.s.T<=XO C:=by
 induction C using JQ with
 |D=>cases h
 |E C a D=>
  rw[EI];rcases Qq.1 h with j|j;·have:=D j;omega
  rw[Qw.1 j];omega
def U4(l:List UInt8):Prop:=∀b∈l,97<=b.toNat/\b.toNat<=122
theorem IS{b:UInt8}(h:b.toNat<128):Lib.decodeL [b]=(b.toNat,1):=by exact Lib.decodeL_ascii b [] h
theorem NM{b:UInt8}(h:b.toNat<128):JE [b]:=by
 refine⟨by simp,?_,?_⟩;·unfold Vo;rw[IS h];intro j;have:=j.1;dsimp only at this;omega
 rw[IS h];rfl
theorem Q42{b:UInt8}(h:97<=b.toNat/\b.toNat<=122):Jj [b]=true:=by unfold Jj Vg;rw[IS (by omega)];exact QF (.inr (.inl (by dsimp only;omega)))
theorem NN{l:List UInt8}(h:U4 l):Zg (l.map (λb=>[b])):=λp j=>by obtain⟨b,hb,rfl⟩:=QZ.1 j;exact NM (by have:=h b hb;omega)
theorem NO(l:List UInt8):(l.map (λb=>[b])).flatten=l:=by
 induction l with
 |nil=>rfl
 |cons a l h=>rw[ZW,UF,h];rfl
theorem NP{l:List UInt8}(h:U4 l):Yx l=l.map (λb=>[b]):=by have:=Ev (NN h);rwa [NO] at this
theorem IT:∀(ps:List (List UInt8)) (j x:Id),∀e∈Zy j x ps,e.pc.data.toList∈ps
 |[],_,_,_,h=>by cases h
 |p::ps,j,x,e,h=>by
  rcases QI.1 h with rfl|h;·rw[Gv];exact XT ..
  exact X2 _ (IT ps x (XM x) e h)
structure Uy(l:List Q1):Prop where
 ok:Uv l
 low:∀g∈l,∀o∈g.ops,U4 o.tx.data.toList
 sum:((l.flatMap Q1.ops).map (λo=>o.tx.size)).sum<=1000
theorem Q43{C:List Q1}(J:∀g∈C,∀o∈g.ops,U4 o.tx.data.toList){x:Id}{e:El}(j:e∈Qx (Za C x)):∃g∈C,∃o∈g.ops,∃b∈o.tx.data.toList,e.pc.data.toList=[b]:=by
 unfold Qx at j;obtain⟨r,h,j⟩:=YW.1 j;unfold Za at h;obtain⟨g,D,h⟩:=YW.1 h;obtain⟨o,E,h⟩:=YW.1 h;unfold Zu at h;split at h;·rw[Qw] at h;subst h;have:=IT _ _ _ e j;rw[NP (J g D o E)] at this;obtain⟨b,hb,I⟩:=QZ.1 this;exact⟨g,D,o,E,b,hb,I.symm⟩
 cases h
theorem IU(x:Id):∀(C:List Q1),(Qx (Za C x)).length<=((C.flatMap Q1.ops).map (λo=>o.tx.size)).sum:=by
 have D:∀l:List Qt,(Qx (l.flatMap (Zu x))).length<=(l.map (λo=>o.tx.size)).sum:=by
  intro l
  induction l with
  |nil=>exact Q3 _
  |cons o l h=>
   unfold Qx at h |-;rw[XA,Zb,Qj,ZW,VO];refine Nat.add_le_add ?_ h;unfold Zu;split;·rw[Xf,Gj];exact C1 _
   exact Qh _
 intro C
 induction C with
 |nil=>exact Q3 _
 |cons g C h=>have j:=D g.ops;unfold Qx Za at h;unfold Qx at j;unfold Qx Za;rw[XA,Zb,Qj,XA,ZC,B5];exact Nat.add_le_add j h
theorem Q44{a b:List Qt}(h:a.Sublist b):(a.map (λo=>o.tx.size)).sum<=(b.map (λo=>o.tx.size)).sum:=by
 induction h with
 |slnil=>exact Q3 _
 |cons a _ j=>rw[ZW,VO];omega
 |cons_cons a _ j=>rw[ZW,ZW,VO,VO];omega
theorem Q45{C D:List Q1}(h:C.Sublist D):(C.flatMap Q1.ops).Sublist (D.flatMap Q1.ops):=by
 induction h with
 |slnil=>exact List.Sublist.refl _
 |cons a _ j=>rw[XA];exact j.trans (List.sublist_append_right _ _)
 |cons_cons a _ j=>rw[XA,XA];exact(List.Sublist.refl _).append j
theorem IV{l:List Q1}{x:Id}{E:List El}(h:Yt l x E):∀e∈E,e∈Qx (Za (Qs l) x):=by obtain⟨L,O,_,j,rfl⟩:=h;intro e D;exact PH j e (V5.1 D).1
theorem Q46{F:List El}{O:List Nd}(h:JL Id.Lt El.id El.af Qf (ZP F) O):O.length<=F.length:=
 P4 Zv (Ex F) h.1 (λn D=>(h.2 n).1 D) (λ_ j=>Vv j)
theorem Q47{l:List Q1}(D:Uy l){x:Id}{E:List El}(h:Yt l x E):E.length<=1000:=by
 obtain⟨L,O,_,j,rfl⟩:=h;have I:(Xb L (Xy L (Qs l) x) O).length<=O.length:=by unfold Xb els;exact Q9 (Vl ..) (by rw[Xh];exact Q3 _)
 have J:=Q46 j;have Q:=IU x (Qs l);have U:=Q44 (Q45 (Fs l));have W:=D.sum;omega
theorem Q48{E:List El}(h:∀e∈E,∃b,e.pc.data.toList=[b]):(Zh E).length=E.length:=by
 induction E with
 |nil=>rfl
 |cons e E D=>obtain⟨b,hb⟩:=h e (XT ..);have:=D (λa j=>h a (X2 _ j));unfold Zh at this |-;rw[ZW,UF,Qj,this,hb,Z4];simp only[Z4,Ub];omega
theorem NQ{l:List Q1}(O:Uy l){x:Id}{E:List El}(h:Yt l x E):∀e∈E,∃b:UInt8,e.pc.data.toList=[b]/\97<=b.toNat/\b.toNat<=122:=by intro e J;have D:∀g∈Qs l,∀o∈g.ops,U4 o.tx.data.toList:=λg j=>O.low g (XC j);obtain⟨g,j,o,Q,b,hb,I⟩:=Q43 D (IV h e J);exact⟨b,I,D g j o Q b hb⟩
theorem NR{l:List Q1}(D:Uy l){x:Id}{E:List El}(h:Yt l x E):(Zh E).length=E.length:=
 Q48 λe j=>by obtain⟨b,hb,_⟩:=NQ D h e j;exact⟨b,hb⟩
theorem IW{l:List Q1}(D:Uy l):N0 l:=by
 intro x E h;have J:=NQ D h;have Q:=Q47 D h;have U:=NR D h;refine⟨λp I=>?_,λp I=>?_,by omega,by omega⟩;·obtain⟨e,j,rfl⟩:=QZ.1 I;obtain⟨b,hb,O⟩:=J e j;rw[hb];exact NM (by omega)
 obtain⟨e,j,rfl⟩:=QZ.1 I;obtain⟨b,hb,O⟩:=J e j;rw[hb];exact Q42 O
theorem Q49{C:List Q1}{h:Q1}(E:K4 C h){L:List Q4}(O:Jx (C.map Y4) L):Jx ((C++[h]).map Y4) (L++[h.s]):=by
 obtain⟨H,J,rfl⟩:=O;refine⟨H++[Y4 h],?_,?_⟩;·rw[ZC];refine Ma J λg D=>?_;obtain⟨a,j,rfl⟩:=QZ.1 D;exact .inl (E.new a j)
 symm;refine Mb λg D e=>?_;obtain⟨a,j,rfl⟩:=QZ.1 (Fb ((J.2 g).1 D));have:=E.pos a j;have I:h.un=a.s:=e;rw[E.un] at I;rw[<-I] at this;exact absurd this (by decide)
theorem Q4a:∀(l:List Q1){s:Q4},s∈ZZ l->∃g∈Qs l,g.s=s:=by
 intro l
 induction l using JQ with
 |D=>intro s h;cases h
 |E l g I=>
  intro s h;rw[EG] at h;rw[Gm];by_cases E:ZG g=true
  ·rw[Q7 E] at h;by_cases J:g.s∈ZZ l
   ·have O:s∈ZZ l:=by
     rcases Qq.1 h with j|j;·exact j
     rw[Qw.1 j];exact J
    obtain⟨a,D,e⟩:=I O;exact⟨a,Qq.2 (.inl D),e⟩
   rw[Q7 ⟨E,J⟩];rcases Qq.1 h with j|j;·obtain⟨a,D,e⟩:=I j;exact⟨a,Qq.2 (.inl D),e⟩
   exact⟨g,by simp,(Qw.1 j).symm⟩
  rw[Q6 E,ZB] at h;obtain⟨a,D,e⟩:=I h;exact⟨a,Qq.2 (.inl D),e⟩
theorem Q4b{l:List Q1}{h:Q1}(E:ZG h=true)(I:∀g∈Qs l,g.s.T<h.s.T):Qs (l++[h])=Qs l++[h]:=by
 have D:h.s∉ZZ l:=λhm=>by obtain⟨g,j,e⟩:=Q4a l hm;have:=I g j;rw[e] at this;omega
 rw[Gm,Q7 ⟨E,D⟩]
theorem Q4c{l:List Q1}{h:Q1}{I:List QE}(Q:YP l I)(J:Qs (l++[h])=Qs l++[h])(O:K4 (Qs l) h)(hm:∀o∈h.ops,∃j∈I,j.dir=false/\j.nd=o.node)(W:∀L,Jx ((Qs l).map Y4) L->∀j∈I,j.dir=false->Yb (Yr L (Qs l) S0).hv (Yr L (Qs l) S0).gn (Yr L (Qs l) S0).hv.length j.nd):YP (l++[h]) I:=by
 obtain⟨L,E,T,Y,Z,t2,t3,t4⟩:=Q;refine⟨L++[h.s],by rw[J];exact Q49 O E,?_⟩;rw[J,Q0W O];refine⟨T,Y,Z,t2,λy=>?_,t4⟩;dsimp only;rw[Q0X (λd D=>?_)];·exact t3 y
 obtain⟨o,X,rfl⟩:=QZ.1 D;obtain⟨j,U,D,e⟩:=hm o X;have:=W L E j U D;rwa [e] at this
theorem Q4d{S:VS}{I:List QE}(h:KP S I){j:QE}(W:j∈I)(U:j.dir=false):Yb S.hv S.gn S.hv.length j.nd:=by obtain⟨T,lv,_,_,E,L',X,_,J⟩:=h;obtain⟨O,l,h6,_,D,_⟩:=(J j).1 W;have Q:=(X.2 j.nd).1 O;rw[U] at D;exact(E j.nd).1 (TopTree.seen_file (live:=λx=>x∈lv) (by obtain⟨x,Y,m,hm,Z⟩:=Q;exact⟨x,m,Y,hm,Z⟩) D.symm)
theorem NS{L:List Q4}{C:List Q1}{I:List QE}(h:KP (Yr L C S0) I){j:QE}(Y:j∈I):ZS j.nd=true/\∃g∈C,∃o∈g.ops,o.k=0/\o.node=j.nd:=by
 obtain⟨T,lv,_,_,h3,L',hs,_,W⟩:=h;obtain⟨h5,l,E,_,_,_⟩:=(W j).1 Y;have X:Gu (Yz (FG (Yr L C S0).fd T)) j.nd:=by obtain⟨t,e⟩:=E.way.head;exact E.all_has _ (by rw[e];exact XT ..)
 obtain⟨p,Z⟩:=Option.isSome_iff_exists.1 X;obtain⟨O,J,hr,_⟩:=LC _ _ _ Z;refine⟨hr,?_⟩;unfold FG at J;obtain⟨q,hq,Q⟩:=QZ.1 J;have D:=(V5.1 hq).2;have U:q.nd=j.nd:=by rw[<-O,<-Q];rfl
 unfold KO at D;rw[U] at D;exact Ig L C j.nd (by simpa using D)
theorem NT{S:VS}{I:List QE}(h:KP S I):(I.map QE.nd).Nodup:=by obtain⟨T,U,_,_,_,Q,_,J,j⟩:=h;unfold List.Nodup;rw[UE];refine J.imp_of_mem λ{a b} O hb D e=>?_;have E:=Ic ((j a).1 O).2 ((j b).1 hb).2 e;rw[E] at D;exact KM.irrefl _ D
theorem NU{s:Q4}{b:ByteArray}{hb:b.size<=4611686018427387903}{F:List (Id×List Id)}{os:List Qt}(h:YR s b hb F os){x:Id}(j:x∉F.map Prod.fst):os.flatMap (Zu x)=[]/\os.flatMap (Ys x true)=[]:=by
 induction h with
 |nil=>exact⟨rfl,rfl⟩
 |snoc U W X J=>
  rename_i F os O ids G Q;rw[ZC,Qq] at j;obtain⟨E,I⟩:=J (λh=>j (.inl h));have D:O≠x:=λe=>j (.inr (by simp[e]));rw[Zb,Zb,E,I];constructor;·simp[Zu,XR,J4,D]
  simp[Ys,XR,J4,D]
theorem Q4e{s:Q4}{b:ByteArray}{hb:b.size<=4611686018427387903}{F:List (Id×List Id)}{os:List Qt}(h:YR s b hb F os)(J:(F.map Prod.fst).Nodup){x:Id}{ids:List Id}(Q:(x,ids)∈F):∃j G,j<F.length/\os.flatMap (Zu x)=[⟨Qf,Yc s j b.size,b⟩]/\os.flatMap (Ys x true)=G/\G.Perm ids:=by
 induction h with
 |nil=>cases Q
 |snoc Z hp hs ih=>
  rename_i F os W a0 G ev;rw[ZC,Dr] at J;obtain⟨n1,_,U⟩:=J;rcases Qq.1 Q with D|D
  ·have O:W≠x:=λe=>U x (QZ.2 ⟨_,D,rfl⟩) W (by simp) e.symm;obtain⟨j,X,hj,E,I,Y⟩:=ih n1 D;refine⟨j,X,by rw[Qj];omega,?_,?_,Y⟩;·rw[Zb,E];simp[Zu,XR,J4,O]
   rw[Zb,I];simp[Ys,XR,J4,O]
  rw[Qw] at D;obtain⟨rfl,rfl⟩:=Prod.mk.inj D;obtain⟨E,I⟩:=NU Z (x:=x) (λhm=>U x hm x (by simp) rfl);refine⟨F.length,G,by rw[Qj,XZ];omega,?_,?_,hp⟩;·rw[Zb,E];simp[Zu,XR,J4]
  rw[Zb,I];simp[Ys,XR,J4]
theorem Q4f{s:Q4}{b:ByteArray}{hb:b.size<=4611686018427387903}{F:List (Id×List Id)}{os:List Qt}(h:YR s b hb F os):∀o∈os,(o.k=3\/o.k=4)/\o.dots=[]/\o.node∈F.map Prod.fst/\(o.tx=b\/o.tx=⟨#[]⟩)/\o.name=⟨#[]⟩:=by
 induction h with
 |nil=>intro o D;cases D
 |snoc J O Q I=>
  intro o D;rcases Qq.1 D with j|j;·obtain⟨a,b,c,d,e⟩:=I o j;exact⟨a,b,by rw[ZC];exact Qq.2 (.inl c),d,e⟩
  rcases QI.1 j with rfl|E;·exact⟨.inl rfl,rfl,by simp[XR],.inl rfl,rfl⟩
  rw[Qw.1 E];exact⟨.inr rfl,rfl,by simp[J4],.inr rfl,rfl⟩
theorem Q4g{s:Q4}{b:ByteArray}{hb:b.size<=4611686018427387903}{F:List (Id×List Id)}{os:List Qt}(h:YR s b hb F os):∀o∈os,o.els=[]\/∃q∈F,o.els.Perm q.2:=by
 induction h with
 |nil=>intro o E;cases E
 |snoc Q I U O=>
  intro o E;rcases Qq.1 E with D|D
  ·rcases O o D with j|⟨q,J,j⟩;·exact .inl j
   exact .inr ⟨q,Qq.2 (.inl J),j⟩
  rcases QI.1 D with rfl|j;·exact .inl rfl
  rw[Qw.1 j];exact .inr ⟨(_,_),Qq.2 (.inr (Qw.2 rfl)),I⟩
theorem NV{s:Q4}{b:ByteArray}{hb:b.size<=4611686018427387903}{F:List (Id×List Id)}{os:List Qt}(h:YR s b hb F os):(os.map (λo=>o.tx.size)).sum=F.length*b.size:=by
 induction h with
 |nil=>simp
 |snoc D E I j=>rw[ZC,B5,j,Qj,DH,XZ,Nat.one_mul];rfl
theorem IX{s:Q4}{k:Int}{x:Id}(h:ZS x=true)(j:x.s.Lt s):Zq s k x=true:=by unfold Zq;rw[h,QF ((Vq _ _).2 j)];rfl
theorem Q4h{G:List Id}(h:G.Pairwise (λa b=>¬b.cmp a<0))(D:G.Nodup):G.Pairwise Id.Lt:=by
 have:=h.and D;refine List.Pairwise.imp (λ{a b} h=>?_) this;rcases Zv.total a b with j|j|j;·exact j
 ·exact absurd j h.2
 exact absurd ((XV _ _).2 j) h.1
theorem Q4i{s:Q4}{k:Int}{G:List Id}(h:G.Pairwise Id.Lt)(J:∀y∈G,Zq s k y=true)(E:1<=G.length)(I:G.length<=2000):Vr s k G=true:=by
 unfold Vr;simp only[ZJ,V4,Uc,XD];refine⟨⟨λj D=>?_,E⟩,I⟩;unfold J0;rw[X3 D];dsimp only;rw[J _ (Zt D),Bool.true_and,G4];rcases Dm j with rfl|O;·exact .inl rfl
 refine .inr ?_;rw[X3 (by omega)];exact QF ((XV _ _).2 (De.1 h (j-1) j (by omega) D (by omega)))
structure IY(s:Q4)(F:List (Id×List Id)):Prop where
 nd:∀q∈F,ZS q.1=true/\q.1.s.Lt s
 ln:∀q∈F,1<=q.2.length/\q.2.length<=100/\q.2.Nodup
 el:∀q∈F,∀y∈q.2,ZS y=true/\y.s.Lt s
theorem Q4j{s:Q4}{b:ByteArray}{hb:b.size<=4611686018427387903}{F:List (Id×List Id)}{os:List Qt}(a0:YR s b hb F os)(hl:YK b=some b.size)(h1:1<=b.size)(h2:b.size<=1000)(hF:F.length<=1000)(h:IY s F):Y9 s 0 os=some (F.length*b.size):=by
 induction a0 with
 |nil=>simp[Y9]
 |snoc hr j hs ih=>
  rename_i F os x ids G Q;have a3:F.length<=999:=by rw[Qj,XZ] at hF;omega
  have e1:=ih (by omega) ⟨λq D=>h.nd q (Qq.2 (.inl D)),λq D=>h.ln q (Qq.2 (.inl D)),λq D=>h.el q (Qq.2 (.inl D))⟩;rw[DR,e1];obtain⟨J,O⟩:=h.nd (x,ids) (by simp);obtain⟨W,m2,X⟩:=h.ln (x,ids) (by simp);have I:=h.el (x,ids) (by simp);dsimp only at J O W m2 X I;have hm:F.length*b.size<=1000000:=Q9 (GT a3 h2) (by decide);have Y:Z8 s (F.length*b.size) (XR x (Yc s F.length b.size) b hb)=some (F.length*b.size+b.size):=by unfold Z8;have E:Y2 (XR x (Yc s F.length b.size) b hb)=true:=rfl;rw[Q7 E];show(match YK b with|none=>none|some n=>if Zq s (F.length*b.size:Nat) x&&X9 s (F.length*b.size:Nat) Qf&&YZ s (F.length*b.size:Nat) (Yc s F.length b.size)&&decide (1<=n)&&decide (n<=2000) then some (F.length*b.size+n) else none)=_;rw[hl];dsimp only;have ho:YZ s (F.length*b.size:Nat) (Yc s F.length b.size)=true:=(by unfold Yc;rw[Co hm];unfold YZ;simp);have hz:X9 s (F.length*b.size:Nat) Qf=true:=rfl;rw[IX J O,hz,ho,QF h1,QF (show b.size<=2000 by omega)];rfl
  have a4:G.Nodup:=j.nodup_iff.2 X;have Z:Z8 s (F.length*b.size+b.size) (J4 x Q G)=some (F.length*b.size+b.size):=by unfold Z8;have E:Y2 (J4 x Q G)=true:=rfl;rw[Q7 E];show(if Zq s (F.length*b.size+b.size:Nat) x&&Vr s (F.length*b.size+b.size:Nat) G then some (F.length*b.size+b.size) else none)=_;rw[IX J O,Q4i (Q4h hs a4) (λy U=>IX (I y (j.mem_iff.1 U)).1 (I y (j.mem_iff.1 U)).2) (by rw[j.length_eq];exact W) (by rw[j.length_eq];omega)];rfl
  dsimp only;rw[Gc,Y];dsimp only;rw[Gc,Z];dsimp only;rw[Qj,XZ,DH,Nat.one_mul];rfl
theorem NW{j:Type}(p:j->Bool):∀l:List j,(l.dropWhile p).dropWhile p=l.dropWhile p
 |[]=>rfl
 |a::l=>by
  by_cases h:p a=true;·rw[List.dropWhile_cons_of_pos h];exact NW p l
  rw[O7 h,O7 h]
theorem Q4k(l:List Int):(l.take (ZO l)).reverse=l.reverse.dropWhile (λx=>decide (x=0)):=by
 have h:=List.takeWhile_append_dropWhile (p:=λx:Int=>decide (x=0)) (l:=l.reverse);have j:l=(l.reverse.dropWhile (λx=>decide (x=0))).reverse++(l.reverse.takeWhile (λx=>decide (x=0))).reverse:=by rw[<-Dk,h,Oc]
 have D:l.take (ZO l)=(l.reverse.dropWhile (λx=>decide (x=0))).reverse:=by
  unfold ZO;conv=>lhs;arg 2;rw[j]
  rw[O5 (by rw[G0];exact Q3 _),Zk (by rw[G0];exact Q3 _)]
 rw[D,Oc]
theorem Q4l(l:List Int):ZO (l.take (ZO l))=(l.take (ZO l)).length:=by have h:=Q4k l;have e:ZO (l.take (ZO l))=((l.take (ZO l)).reverse.dropWhile (λx=>decide (x=0))).length:=rfl;rw[e,h,NW,<-h,G0]
theorem Q4m{C:List Q1}(D:∀g∈C,0<=g.n/\g.n<=1000):∀x∈Xx C,0<=x/\x<=1000:=by
 induction C using JQ with
 |D=>intro x h;rw[show Xx []=List.replicate 16 0 from rfl] at h;rw[(List.mem_replicate.1 h).2];omega
 |E C g O=>
  intro x h;rw[AO] at h;have Q:=D g (by simp);have E:=O (λa J=>D a (Qq.2 (.inl J)));unfold KD at h;rcases List.mem_or_eq_of_mem_set h with j|j;·exact E x j
  rw[j]
  have:0<=(Xx C).getD (g.s.R-1).toNat 0/\(Xx C).getD (g.s.R-1).toNat 0<=1000:=by
   rw[CS]
   cases I:(Xx C)[(g.s.R-1).toNat]? with
   |none=>exact⟨Ei _,by decide⟩
   |some v=>exact E v (J9 I)
  omega
theorem Q4n{l:List Q1}(D:∀g∈Qs l,0<=g.n/\g.n<=1000):Jf (Xj l)=true/\∀r,0<=Zw (Xj l) r/\Zw (Xj l) r<=1000:=by
 have j:∀x∈Xj l,0<=x/\x<=1000:=λx h=>Q4m D x (U8 h);constructor
 ·unfold Jf;simp only[ZJ,V4,XD];refine⟨⟨λx h=>(j x h).1,?_⟩,?_⟩;·unfold Xj;rw[Zi,Ck];omega
  unfold Xj;exact Q4l _
 intro r;unfold Zw;split;·omega
 split;·omega
 rename_i v hv;exact j v (J9 hv)
theorem Q4o{l:List Q1}{r:Int}{j h:Q1}(D:Fv l r j)(hr:1<=r/\r<=16)(hn:∀g∈Qs l,0<=g.n/\g.n<=1000)(hT:XO (Qs l)<=1000)(J:h.s=j.s)(O:h.n=j.n)(Q:h.deps=j.deps)(U:h.un=j.un){b:ByteArray}{hb:b.size<=4611686018427387903}{F:List (Id×List Id)}(E:YR h.s b hb F h.ops)(hl:YK b=some b.size)(W:1<=b.size)(X:b.size<=1000)(Y:F≠[])(hF:F.length<=100)(Z:IY h.s F):ZG h=true:=by have I:=Q4n hn;have hm:=Cn (Qs l);have ht:=D.tt;have a1:=D.rr;have a4:=D.nn;have a0:=D.dd;have a2:=D.uu;have h3:=I.2 r;have a3:=E.len;have a5:0<F.length:=Kc.2 Y;unfold ZG;rw[Q7 (by rw[U,a2];exact⟨rfl,rfl⟩),Q4j E hl W X (by omega) Z,QF (show 1<=h.ops.length by omega),QF (show h.ops.length<=200 by omega)];unfold Gb right;rw[J,O,Q,a0,I.1,QF (show 1<=j.s.T by omega),QF (show j.s.T<=1099511627776 by omega),QF (show 1<=j.s.R by omega),QF (show j.s.R<=16 by omega),QF (show 1<=j.n by omega),QF (show j.n<=1099511627776 by omega),QF (show Zw (Xj l) j.s.R=j.n-1 by rw[a1];omega)];rfl
noncomputable def J7(l:List Q1)(x:Id):List UInt8:=open Classical in if h:∃E,Yt l x E then Zh h.choose else []
theorem KW{l:List Q1}{x:Id}{E:List El}(h:Yt l x E):J7 l x=Zh E:=by unfold J7;have j:∃E,Yt l x E:=⟨E,h⟩;rw[dif_pos j,Ih j.choose_spec h]
theorem Xl.fst{l:List Q1}{Q:List UInt8}{I:List QE}{F:List (Id×List Id)}(h:Xl l Q I F):F.map Prod.fst=(I.filter (λO=>!O.dir&&decide (J7 l O.nd=Q))).map QE.nd:=by
 induction h with
 |nil=>rfl
 |dir _ j D=>rw[D,YU,ZC];simp[j]
 |miss _ j J E D=>rw[D,YU,ZC];simp[j,KW J,E]
 |hit _ j J E D=>rw[ZC,D,YU,ZC];simp[j,KW J,E]
theorem Xl.mem{l:List Q1}{Y:List UInt8}{I:List QE}{F:List (Id×List Id)}(h:Xl l Y I F):∀q∈F,(∃E,Yt l q.1 E/\Zh E=Y/\q.2=E.map El.id)/\∃j∈I,j.dir=false/\j.nd=q.1:=by
 induction h with
 |nil=>intro q D;cases D
 |dir _ U O=>intro q D;obtain⟨a,j,J,b⟩:=O q D;exact⟨a,j,Qq.2 (.inl J),b⟩
 |miss _ U X W O=>intro q D;obtain⟨a,j,J,b⟩:=O q D;exact⟨a,j,Qq.2 (.inl J),b⟩
 |hit _ U X W O=>
  intro q D;rcases Qq.1 D with Q|Q;·obtain⟨a,j,J,b⟩:=O q Q;exact⟨a,j,Qq.2 (.inl J),b⟩
  rw[Qw.1 Q];exact⟨⟨_,X,W,rfl⟩,_,by simp,U,rfl⟩
theorem Xl.text{l:List Q1}{Z:List UInt8}{I:List QE}{F:List (Id×List Id)}(h:Xl l Z I F):∀D∈I,D.dir=false->∃E,Yt l D.nd E:=by
 induction h with
 |nil=>intro q Y;cases Y
 |dir _ U Q=>
  intro D O J;rcases Qq.1 O with j|j;·exact Q D j J
  rw[Qw.1 j,U] at J;cases J
 |miss _ U W X Q=>
  intro D O J;rcases Qq.1 O with j|j;·exact Q D j J
  rw[Qw.1 j];exact⟨_,W⟩
 |hit _ U W X Q=>
  intro D O J;rcases Qq.1 O with j|j;·exact Q D j J
  rw[Qw.1 j];exact⟨_,W⟩
theorem Q4p{l:List Q1}{x:Id}{E:List El}(h:Yt l x E):(E.map El.id).Nodup:=by obtain⟨L,O,_,j,rfl⟩:=h;have D:=P3 Zv (Ex (Qx (Za (Qs l) x))) j.1 (λn I=>(j.2 n).1 I);unfold Xb els;refine List.Nodup.sublist (List.Sublist.map _ (List.filter_sublist)) ?_;rw[List.map_map];exact D
theorem Q4q{l:List Q1}(U:Uy l){O:List UInt8}{I:List QE}{F:List (Id×List Id)}(hI:YP l I)(h:Xl l O I F){s:Q4}(X:∀g∈Qs l,g.s.T<s.T)(h1:1<=O.length)(h2:O.length<=100):IY s F:=by
 have hc:∀g∈Qs l,right g.s=true:=λg j=>by obtain⟨a,b,c,d,_⟩:=Cm (Fu j);unfold right;rw[QF a,QF b,QF c,QF d];rfl
 refine⟨λq D=>?_,λq D=>?_,λq D y Y=>?_⟩;·obtain⟨_,it,hi,hd,e⟩:=h.mem q D;obtain⟨L,_,hv⟩:=hI;obtain⟨hr,g,j,o,ho,h0,Z⟩:=NS hv hi;rw[<-e];refine⟨hr,.inl ?_⟩;rw[<-Z,(IR (Fu j) o ho).make h0];exact X g j
 ·obtain⟨⟨E,J,W,e⟩,_⟩:=h.mem q D;have:=NR U J;rw[W] at this;rw[e,Xh];exact⟨by omega,by omega,Q4p J⟩
 obtain⟨⟨E,J,W,e⟩,_⟩:=h.mem q D;rw[e] at Y;obtain⟨a,ha,rfl⟩:=QZ.1 Y;obtain⟨⟨g,j,Q,_⟩,h3,h4⟩:=NL U.ok.tx (IV J a ha);refine⟨?_,.inl (by rw[Q];exact X g j)⟩;unfold ZS;rw[Q,hc g j,QF h3,QF (show a.id.I<=400000 by omega)];rfl
structure FT(l:List Q1)(h:Q1)(name nw:List UInt8)(I:List QE):Prop where
 cnt:Qs (l++[h])=Qs l++[h]
 items:YP (l++[h]) I
 text:∀it∈I,it.dir=false->∀E',Yt (l++[h]) it.nd E'->Zh E'=if J7 l it.nd=name then nw else J7 l it.nd
 lok:Uy (l++[h])
theorem NX(C:List Q1):QW C=(C.flatMap Q1.ops).length:=by unfold QW;rw[CY]
theorem NY{l:List Q1}(Q:Uy l){r:Int}{X h:Q1}(hN:Fv l r X)(hr:1<=r/\r<=16)(hn:∀g∈Qs l,0<=g.n/\g.n<=1000)(hT:XO (Qs l)<=1000)(e1:h.s=X.s)(e2:h.n=X.n)(e3:h.deps=X.deps)(e4:h.un=X.un){a2 D:List UInt8}{hb:(Q8 D).size<=4611686018427387903}{a3:List QE}{F:List (Id×List Id)}(hI:YP l a3)(Y:Xl l a2 a3 F)(Z:YR h.s (Q8 D) hb F h.ops)(hl:YK (Q8 D)=some D.length)(ae:U4 D)(h1:1<=D.length)(h2:D.length<=100)(ah:F≠[])(ai:F.length<=100)(n1:1<=a2.length)(n2:a2.length<=100)(c1:l.length+1<=1000)(c2:QW l+2*F.length<=900)(c3:((l.flatMap Q1.ops).map (λo=>o.tx.size)).sum+F.length*D.length<=1000):FT l h a2 D a3:=by
 have a0:(Q8 D).size=D.length:=Y8 D;have ht:∀g∈Qs l,g.s.T<h.s.T:=λg J=>by have:=Q41 J;rw[e1,hN.tt];omega
 have hO:=Q4q Q hI Y ht n1 n2;have ao:=Q4o hN hr hn hT e1 e2 e3 e4 Z (by rw[a0];exact hl) (by rw[a0];exact h1) (by rw[a0];omega) ah ai hO;have a4:=Q4b ao ht;have U:=Q4f Z;have ap:∀g∈Qs l,0<g.s.T:=λg J=>by have:=(Cm (Fu J)).1;omega
 have hw:K4 (Qs l) h:=⟨by rw[e4];exact hN.uu,ht,ap,λo j=>(U o j).1,λo j=>(U o j).2.1⟩;have ad:1<=h.s.T:=by have:=Cn (Qs l);rw[e1,hN.tt];omega
 have an:(a3.map QE.nd).Nodup:=by obtain⟨L,_,hv⟩:=hI;exact NT hv
 have aj:(F.map Prod.fst).Nodup:=by rw[Y.fst];exact an.sublist (List.Sublist.map _ List.filter_sublist)
 refine⟨a4,?_,?_,?_⟩
 ·refine Q4c hI a4 hw (λo j=>?_) (λL hL O hi hd=>?_);·obtain⟨q,W,e⟩:=QZ.1 (U o j).2.2.1;obtain⟨_,O,hi,hd,e5⟩:=Y.mem q W;exact⟨O,hi,hd,by rw[e5,e]⟩
  obtain⟨M,hM,hv⟩:=hI;obtain rfl:=hM.same hL;exact Q4d hv hi hd
 ·intro O hi hd E' ag;obtain⟨a7,hE⟩:=Y.text O hi hd;rw[KW hE];have a5:=hE;obtain⟨L,aq,hL,aa,a8⟩:=hE;obtain⟨L',O',a9,a6,rfl⟩:=ag;rw[a4] at a9 a6 |-;obtain rfl:=Q0U hw hL a9;have ab:∀e∈Qx (Za (Qs l) O.nd),e.id.s≠h.s/\e.af.s≠h.s:=λe he=>by obtain⟨⟨g,J,q1,q2⟩,_⟩:=NL Q.ok.tx he;have:=ht g J;exact⟨λq=>by rw[<-q,q1] at this;omega,λq=>by rw[q] at q2;omega⟩
  by_cases hx:Zh a7=a2
  ·rw[Q7 hx];have hm:O.nd∈F.map Prod.fst:=(by rw[Y.fst];exact QZ.2 ⟨O,V5.2 ⟨hi,by simp[hd,KW a5,hx]⟩,rfl⟩);obtain⟨q,W,e5⟩:=QZ.1 hm;obtain⟨⟨E2,k1,k2,k3⟩,_⟩:=Y.mem q W;rw[e5] at k1;obtain rfl:=Ih a5 k1;obtain⟨a1,G,hj,r1,r2,r3⟩:=Q4e Z aj (x:=O.nd) (ids:=a7.map El.id) (by rw[<-e5,<-k3];exact W);have al:a1*(Q8 D).size<=1000000:=Q9 (GT (show a1<=100 by omega) (show(Q8 D).size<=100 by rw[a0];exact h2)) (by decide);have af:(Yc h.s a1 (Q8 D).size).s=h.s/\(Yc h.s a1 (Q8 D).size).I=((a1*(Q8 D).size:Nat):Int):=(by unfold Yc;rw[Co al];exact⟨rfl,rfl⟩);have ac:(D.map (λb=>[b])).flatten=D:=NO D
   have key:=Q11 (ps:=D.map (λb=>[b])) (r:=⟨Qf,Yc h.s a1 (Q8 D).size,Q8 D⟩) hw ab r1 r2 aa a6 (λy=>by rw[<-a8];exact r3.mem_iff) (NN ae) (by rw[ac];exact Gv D) rfl af.1
    (by dsimp only;rw[af.2,Xh];omega) (λe=>by rw[e] at ad;exact absurd ad (by decide)) (λy hy e=>by
     obtain⟨g,J,q1⟩:=Q40 hy;have:=ht g J;rw[e] at q1
     omega)
   rw[key.2,ac]
  rw[Q6 hx];have hm:O.nd∉F.map Prod.fst:=λhm=>by obtain⟨q,W,e5⟩:=QZ.1 hm;obtain⟨⟨E2,k1,k2,k3⟩,_⟩:=Y.mem q W;rw[e5] at k1;obtain rfl:=Ih a5 k1;exact hx k2
  obtain⟨r1,r2⟩:=NU Z hm;rw[Q10 hw (λe he=>(ab e he).1) r1 r2 aa a6,<-a8]
 have am:=Z.len;have ak:=Q4g Z;refine⟨⟨by rw[Qj,XZ];exact c1,λg J o j=>?_,λg J o j=>?_,λg J o j=>?_,?_,λg J o j=>?_,λg J o j X=>?_⟩,λg J o j=>?_,?_⟩
 ·rcases Qq.1 J with E|E;·exact Q.ok.tx g E o j
  rw[Qw.1 E] at j;rcases (U o j).2.2.2.1 with e|e;·rw[e,a0];exact h2
  rw[e];decide
 ·rcases Qq.1 J with E|E;·exact Q.ok.el g E o j
  rw[Qw.1 E] at j;rcases ak o j with e|⟨q,W,e⟩;·rw[e];exact Qh _
  rw[e.length_eq];exact(hO.ln q W).2.1
 ·rcases Qq.1 J with E|E;·exact Q.ok.ds g E o j
  rw[Qw.1 E] at j;rw[(U o j).2.1];exact Qh _
 ·rw[Gs,am];exact c2
 ·rcases Qq.1 J with E|E;·exact Q.ok.nm g E o j
  rw[Qw.1 E] at j;rw[(U o j).2.2.2.2];decide
 ·rw[a4] at J;rcases Qq.1 J with E|E;·exact Q.ok.made g E o j X
  rw[Qw.1 E] at j;have:=(U o j).1;omega
 ·rcases Qq.1 J with E|E;·exact Q.low g E o j
  rw[Qw.1 E] at j;rcases (U o j).2.2.2.1 with e|e;·rw[e,Gv];exact ae
  rw[e];intro b hb;cases hb
 rw[Zb,Xf,ZC,B5,NV Z,a0];exact c3
theorem NZ{l:List Q1}{h:Q1}{J O:List UInt8}{I:List QE}(t:FT l h J O I){j:QE}(U:j∈I)(Q:j.dir=false){E:List El}(D:Yt (l++[h]) j.nd E):J7 (l++[h]) j.nd=if J7 l j.nd=J then O else J7 l j.nd:=by rw[KW D];exact t.text j U Q E D
theorem R1{l:List Q1}{h:Q1}{Q U:List UInt8}{I:List QE}{F F2:List (Id×List Id)}(t:FT l h Q U I)(Y:Xl l Q I F)(W:Xl (l++[h]) U I F2)(Z:∀j∈I,j.dir=false->J7 l j.nd≠U):F2.map Prod.fst=F.map Prod.fst:=by
 rw[Y.fst,W.fst]
 congr 1
 refine List.filter_congr λj O=>?_
 cases J:j.dir with
 |true=>rfl
 |false=>
  obtain⟨E,X⟩:=W.text j O J;rw[NZ t O J X];by_cases D:J7 l j.nd=Q;·rw[Q7 D,D];simp
  rw[Q6 D];simp[D,Z j O J]
theorem Q4r{l:List Q1}{h k:Q1}{W O:List UInt8}{I:List QE}{F2:List (Id×List Id)}(t:FT l h W O I)(t2:FT (l++[h]) k O W I)(Z:Xl (l++[h]) O I F2)(hx:∀X∈I,X.dir=false->J7 l X.nd≠O){a b:List XP}(Q:Vf l I a)(hb:Vf (l++[h]++[k]) I b):a=b:=by
 refine B4 (by rw[Q.1,hb.1]) λi E J=>?_;have U:i<I.length:=by rw[<-Q.1];exact E
 obtain⟨p1,p2,p3,p4⟩:=Q.2 i I[i] a[i] (X3 U) (X3 E);obtain⟨q1,q2,q3,q4⟩:=hb.2 i I[i] b[i] (X3 U) (X3 J);have hm:I[i]∈I:=Zt U
 have a0:a[i].text=b[i].text:=by
  cases j:I[i].dir with
  |true=>rw[p3 j,q3 j]
  |false=>
   obtain⟨E1,r1,r2⟩:=p4 j;obtain⟨E3,s1,s2⟩:=q4 j;obtain⟨E2,Y⟩:=Z.text _ hm j;rw[r2,s2,t2.text _ hm j _ s1,NZ t hm j Y,<-KW r1];by_cases D:J7 l I[i].nd=W;·rw[Q7 D,Q7 rfl,D]
   rw[Q6 D,Q6 (hx _ hm j)]
 have key:∀x y:XP,x.path=y.path->x.dir=y.dir->x.text=y.text->x=y:=λx y E J D=>by obtain⟨_,_,_⟩:=x;obtain⟨_,_,_⟩:=y;dsimp only at E J D;rw[E,J,D]
 exact key _ _ (p1.trans q1.symm) (p2.trans q2.symm) a0
theorem Q4s{l:List Q1}{D:List UInt8}{I:List QE}{F:List (Id×List Id)}(X:Xl l D I F)(Z:D≠[]):∀{a:List XP},Vf l I a->(a.filter (λe=>decide (e.text=Q8 D))).length=F.length:=by
 have W:F.length=(I.filter (λh=>!h.dir&&decide (J7 l h.nd=D))).length:=by have:=Xz List.length X.fst;rwa [Xh,Xh] at this
 intro a j;rw[W]
 have key:∀(I:List QE)(a:List XP),Vf l I a->(a.filter (λe=>decide (e.text=Q8 D))).length=(I.filter (λh=>!h.dir&&decide (J7 l h.nd=D))).length:=by
  intro I
  induction I with
  |nil=>intro a j;rw[VM.1 (show a.length=0 from j.1)];rfl
  |cons h I Q=>
   intro a j
   cases a with
   |nil=>have:=j.1;cases this
   |cons e a=>
    have J:Vf l I a:=⟨by have:=j.1;simpa using this,λi a0 U q1 q2=>j.2 (i+1) a0 U q1 q2⟩;obtain⟨p1,p2,p3,p4⟩:=j.2 0 h e rfl rfl
    have Y:decide (e.text=Q8 D)=(!h.dir&&decide (J7 l h.nd=D)):=by
     cases O:h.dir with
     |true=>rw[p3 O];refine Zo λE=>Z ?_;have:=Xz ByteArray.size E;rw[Y8] at this;exact VM.1 this.symm
     |false=>obtain⟨a1,r1,r2⟩:=p4 O;rw[r2,KW r1,Bool.not_false,Bool.true_and];refine Eb.2 ⟨λE=>?_,λE=>by rw[E]⟩;have:=Xz (λb:ByteArray=>b.data.toList) E;rwa [Gv,Gv] at this
    rw[Ec,Ec,Y];split;·rw[Z4,Z4,Q a J]
    exact Q a J
 exact key I a j
end
section
open Go Go.RowKit Go.Maps
structure EZ(s:Q4)(o:Qt):Prop where
 nm:o.name.size<=1
 tx:o.tx.size<=2
 low:U4 o.tx.data.toList
 els:o.els.length<=3
 ds:o.dots.length<=16
 elI:o.el.I=0
 own:o.k=0->o.node.s=s/\o.node.I=0
 uv:∀b∈o.tx.data.toList,117<=b.toNat
structure D0(K:Nat)(g:Q1):Prop where
 t:1<=g.s.T/\g.s.T<=K
 r:1<=g.s.R/\g.s.R<=3
 n:0<=g.n/\g.n<=K
 len:g.ops.length<=1
 ops:∀o∈g.ops,EZ g.s o
def Xq(K:Nat)(l:List Q1):Prop:=l.length<=K/\∀g∈l,D0 K g
theorem D0.mono{K j:Nat}{g:Q1}(h:D0 K g)(D:K<=j):D0 j g:=⟨⟨h.t.1,by have:=h.t.2;omega⟩,h.r,⟨h.n.1,by have:=h.n.2;omega⟩,h.len,h.ops⟩
theorem Xq.sub{K:Nat}{l D:List Q1}(h:Xq K l)(j:D.Sublist l):Xq K D:=⟨Q9 j.length_le h.1,λg E=>h.2 g (j.subset E)⟩
theorem R3:∀{l:List Q1},(∀g∈l,g.ops.length<=1)->QW l<=l.length
 |[],_=>Q3 _
 |g::l,h=>by
  have D:=R3 (λx j=>h x (X2 _ j));have E:=h g (XT ..);have e:QW (g::l)=g.ops.length+QW l:=by unfold QW;rw[ZW,VO]
  rw[Z4];omega
theorem Xq.sum{K:Nat}{l:List Q1}(h:Xq K l):QW l<=K:=Q9 (R3 λg j=>(h.2 g j).len) h.1
theorem R5:∀{os:List Qt},(∀o∈os,o.tx.size<=2)->(os.map (λo=>o.tx.size)).sum<=2*os.length|[],_=>Q3 _|o::os,h=>by have D:=R5 (λx j=>h x (X2 _ j));have E:=h o (XT ..);rw[ZW,VO,Z4];omega
theorem Xq.txs{K:Nat}{l:List Q1}(h:Xq K l):((l.flatMap Q1.ops).map (λo=>o.tx.size)).sum<=2*K:=by
 have E:=R5 (os:=l.flatMap Q1.ops) (λo j=>by
  obtain⟨g,D,j⟩:=YW.1 j
  exact((h.2 g D).ops o j).tx)
 have I:=NX l;have J:=h.sum;omega
theorem Xq.small{K:Nat}(W:K<=99){l:List Q1}(h:Xq K l){g:Q1}(J:g∈l){o:Qt}(O:o∈g.ops)(I:o.k=0):YA o.node:=by have j:=h.2 g J;obtain⟨D,E⟩:=(j.ops o O).own I;have Q:=j.t;have U:=j.r;unfold YA;rw[D,E];omega
theorem Xq.lok{K:Nat}(I:K<=99){l:List Q1}(h:Xq K l):Uy l:=by
 have J:=h.sum;refine⟨⟨by have:=h.1;omega,λg j o D=>?_,λg j o D=>?_,λg j o D=>?_,by omega,λg j o D=>?_,λg j o D E=>h.small I (XC j) D E⟩,λg j o D=>((h.2 g j).ops o D).low,by have:=h.txs;omega⟩;·have:=((h.2 g j).ops o D).tx;omega
 ·have:=((h.2 g j).ops o D).els;omega
 ·have:=((h.2 g j).ops o D).ds;omega
 have:=((h.2 g j).ops o D).nm;omega
theorem IZ{K:Int}(j:0<=K):∀{C:List Q1},(∀g∈C,g.s.T<=K)->XO C<=K:=by
 intro C
 induction C using JQ with
 |D=>intro _;exact j
 |E C a E=>intro h;rw[EI];have I:=E (λg D=>h g (Qq.2 (.inl D)));have J:=h a (by simp);omega
theorem Q4t{K:Int}(J:0<=K){C:List Q1}(D:∀g∈C,0<=g.n/\g.n<=K):∀x∈Xx C,0<=x/\x<=K:=by
 induction C using JQ with
 |D=>intro x h;rw[show Xx []=List.replicate 16 0 from rfl] at h;rw[(List.mem_replicate.1 h).2];omega
 |E C g Q=>
  intro x h;rw[AO] at h;have U:=D g (by simp);have E:=Q (λa O=>D a (Qq.2 (.inl O)));unfold KD at h;rcases List.mem_or_eq_of_mem_set h with j|j;·exact E x j
  rw[j]
  have:0<=(Xx C).getD (g.s.R-1).toNat 0/\(Xx C).getD (g.s.R-1).toNat 0<=K:=by
   rw[CS]
   cases I:(Xx C)[(g.s.R-1).toNat]? with
   |none=>exact⟨Ei _,J⟩
   |some v=>exact E v (J9 I)
  omega
theorem O0{K:Int}(j:0<=K){l:List Q1}(D:∀g∈Qs l,0<=g.n/\g.n<=K)(r:Int):0<=Zw (Xj l) r/\Zw (Xj l) r<=K:=by
 have h:∀x∈Xj l,0<=x/\x<=K:=λx E=>Q4t j D x (U8 E);unfold Zw;split;·omega
 split;·omega
 rename_i v hv;exact h v (J9 hv)
theorem Q4u{l:List Q1}{I:List QE}(h:YP l I):I.length<=QW (Qs l):=by
 obtain⟨L,_,hv⟩:=h
 have j:=Gg (M:=((Qs l).flatMap Q1.ops).map Qt.node) (NT hv) (λy O=>by
  obtain⟨Q,E,rfl⟩:=QZ.1 O;obtain⟨_,g,D,o,J,_,e⟩:=NS hv E
  exact QZ.2 ⟨o,YW.2 ⟨g,D,J⟩,e⟩)
 rw[Xh,Xh] at j;rw[NX];exact j
theorem FU{l:List Q1}{K:Nat}(j:Xq K l){E:List UInt8}{I:List QE}{F:List (Id×List Id)}(D:YP l I)(h:Xl l E I F):F.length<=K:=
 Q9 h.le (Q9 (Q4u D) (Q9 (Fx (Fs l)) j.sum))
theorem Q4v{K:Nat}{l:List Q1}(U:Xq K l){x:Id}{E:List El}(h:Yt l x E):∀b∈Zh E,117<=b.toNat:=by
 intro b hb;unfold Zh at hb;obtain⟨p,hp,hb⟩:=List.mem_flatten.1 hb;obtain⟨e,X,rfl⟩:=QZ.1 hp;have D:=IV h e X;unfold Qx at D;obtain⟨r,j,I⟩:=YW.1 D;unfold Za at j;obtain⟨g,Y,j⟩:=YW.1 j;obtain⟨o,Z,j⟩:=YW.1 j;have O:=(U.2 g (XC Y)).ops o Z;unfold Zu at j;split at j;·rw[Qw.1 j] at I;have J:=IT _ _ _ e I;rw[NP O.low] at J;obtain⟨c,W,Q⟩:=QZ.1 J;rw[<-Q,Qw] at hb;rw[hb];exact O.uv c W
 cases j
structure FV(l:List UInt8):Prop where
 low:U4 l
 len:YK (Q8 l)=some l.length
 pos:1<=l.length
 few:l.length<=7
structure Q4w(l:List Q1)(h k:Q1)(x y:List UInt8)(I:List QE)(F F2:List (Id×List Id)):Prop where
 ents:∀a b,Vf l I a->Vf (l++[h]++[k]) I b->a=b
 items:YP (l++[h]++[k]) I
 cnt:∀a,Vf l I a->(a.filter (λe=>decide (e.text=Q8 x))).length=F.length
 lok:Uy (l++[h]++[k])
theorem R6{l:List Q1}(D:Xq 16 l){r:Int}{E h:Q1}(Q:Fv l r E)(hr:1<=r/\r<=16)(X:h.s=E.s)(Y:h.n=E.n)(e3:h.deps=E.deps)(e4:h.un=E.un){x y:List UInt8}(hx:FV x)(J:FV y){hb:(Q8 y).size<=4611686018427387903}{I:List QE}{F:List (Id×List Id)}(hI:YP l I)(Z:Xl l x I F)(hR:YR h.s (Q8 y) hb F h.ops)(a0:F≠[]):FT l h x y I/\(∀g∈Qs (l++[h]),0<=g.n/\g.n<=17)/\XO (Qs (l++[h]))<=17:=by
 have a1:=FU D hI Z;have U:∀g∈Qs l,0<=g.n/\g.n<=16:=λg j=>(D.2 g (XC j)).n;have hT:=IZ (by decide) λg j=>(D.2 g (XC j)).t.2;have hd:=O0 (K:=16) (by decide) U r;have h1:=D.txs;have h2:=D.sum;have h3:=GT a1 J.few;have W:=NY (D.lok (by decide)) Q hr (λg j=>by have:=U g j;omega) (by omega) X Y e3 e4 hI Z hR J.len J.low J.pos (by have:=J.few;omega) a0 (by omega) hx.pos (by have:=hx.few;omega) (by have:=D.1;omega) (by omega) (by omega);refine⟨W,λg j=>?_,?_⟩
 ·rw[W.cnt] at j;rcases Qq.1 j with O|O;·have:=U g O;omega
  rw[Qw.1 O,Y,Q.nn];omega
 rw[W.cnt,EI,X,Q.tt];omega
theorem Q4x{l:List Q1}(E:Xq 16 l){r:Int}{D h J k:Q1}(hN:Fv l r D)(hr:1<=r/\r<=16)(e1:h.s=D.s)(e2:h.n=D.n)(e3:h.deps=D.deps)(e4:h.un=D.un){x y:List UInt8}(j:FV x)(U:FV y){hb:(Q8 y).size<=4611686018427387903}{I:List QE}{F:List (Id×List Id)}(hI:YP l I)(O:Xl l x I F)(X:YR h.s (Q8 y) hb F h.ops)(a0:F≠[])(a1:∀it∈I,it.dir=false->J7 l it.nd≠y)(a3:Fv (l++[h]) 2 J)(k1:k.s=J.s)(k2:k.n=J.n)(k3:k.deps=J.deps)(k4:k.un=J.un){hb2:(Q8 x).size<=4611686018427387903}{F2:List (Id×List Id)}(W:Xl (l++[h]) y I F2)(a4:YR k.s (Q8 x) hb2 F2 k.ops):Q4w l h k x y I F F2:=by
 obtain⟨Q,a6,a7⟩:=R6 E hN hr e1 e2 e3 e4 j U hI O X a0;have hs:=R1 Q O W a1;have hl:F2.length=F.length:=by have:=Xz List.length hs;simpa using this
 have a5:=FU E hI O;have a2:F2≠[]:=λe=>a0 (VM.1 (by rw[<-hl,e];rfl));have h1:=E.txs;have h2:=E.sum;have h3:F.length*y.length<=16*7:=GT a5 U.few;have h4:F2.length*x.length<=16*7:=GT (by omega) j.few;have a8:=X.len
 have Z:=NY Q.lok a3 (by decide) (λg hg=>by have:=a6 g hg;omega) (by omega) k1 k2 k3 k4 Q.items W a4 j.len j.low j.pos (by have:=j.few;omega) a2 (by omega) U.pos (by have:=U.few;omega) (by rw[Qj,XZ];have:=E.1;omega) (by rw[Gs];omega) (by
  rw[Zb,Xf,ZC,B5,NV X,Y8]
  omega)
 exact⟨λa b Y hb=>Q4r Q Z W a1 Y hb,Z.items,λa Y=>Q4s O (λe=>by have:=j.pos;rw[e] at this;exact absurd this (by decide)) Y,Z.lok⟩
end
section
open Go Go.RowKit Go.ChangeShapes Go.WideShapes Go.ChangeAt
section
variable {H:Type} {enc:TypeId×Value->H} {P:Program}
theorem R7(O:laidOutB P=true):∀(j:List TypeId)(E:List Value) (D:List (DataW H)) (ps:List MemPlace) {W J:World},(∀t∈j,P.readableRec t=true/\t<P.types.size) ->
  DataW.TrodAll enc P W 0 (λ_=>true) true j E D ps->Below W W J->(∀x∈ps,x.block<W) ->
  DataW.TrodAll enc P J 0 (λb=>decide (b<W)) true j E D ps
 |[],_,_,_,_,_,_,h,_,_=>by
  obtain⟨rfl,rfl,rfl⟩:=trodAll_nil h
  exact trodAll_mk0
 |t::j,_,_,_,_,_,U,h,hb,Q=>by
  obtain⟨v,E,d,D,p,q,rfl,rfl,rfl,Y,Z⟩:=trodAll_cons h
  have X:=U t (by simp)
  exact trodAll_cons_mk (Below.trod O X.1 X.2 Y hb (λx I=>Q x (by simp[I])))
   (R7 O j E D q (λt' a0=>U t' (by simp[a0])) Z hb (λx I=>Q x (by simp[I])))
theorem Q4y{l:List TypeId}(h:(l.all λt=>P.readableRec t&&decide (t<P.types.size))=true):∀t∈l,P.readableRec t=true/\t<P.types.size:=λt j=>by have:=V4.1 h t j;simpa using this
theorem Q4z{D:Func}{s:ChangeSpec}{W O:World}{args:Array Value}{j U:List (DataW H)}{Q:List MemPlace}{tb:TypeId}(hl:laidOutB P=true)(hr:∀t∈D.params.toList,P.readableRec t=true/\t<P.types.size)(hv:s.vars=[])(a5:D.resultTypes=#[tb])(hb:P.underlying tb=some .bool)(a1:∀j:List (DataW H),j.length=D.params.toList.length->s.fn H j={ results:=[.lit (.bool true)],args:=j })(Z:DataW.Whole enc P D.params.toList s.vars false W args.toList j U Q)(bel:Below W W O):s.post enc P D false true false false W args (.bool true) O:=by
 have a0:=Z;obtain⟨p,q,X,Y,a4,_,_⟩:=Z
 have a3:j.length=D.params.toList.length:=by
  have:∀(E:List TypeId)(I:List Value) (j:List (DataW H)) (ps:List MemPlace),DataW.TrodAll enc P W 0 (λ_=>true) true E I j ps->j.length=E.length:=by
   intro E
   induction E with
   |nil=>intro I j ps h;obtain⟨_,rfl,_⟩:=trodAll_nil h;rfl
   |cons t E ih=>intro I j ps h;obtain⟨v,I,d,j,p,q,rfl,rfl,rfl,_,h2⟩:=trodAll_cons h;rw[Z4,Z4,ih _ _ _ h2]
  exact this _ _ _ _ X
 have a2:U=[]:=by rw[hv] at Y;exact(trodVars_none Y).1
 subst a2;have J:s.fn H (j++[])={ results:=[.lit (.bool true)],args:=j }:=by rw[ZB];exact a1 j a3
 refine⟨j,[],Q,[],p,[],a0,?_,?_,?_,bel.frame _,λh=>by cases h⟩;·rw[J,a5];exact trodAll_mk1 (shut_bool hb true)
 ·rw[J];exact R7 hl _ _ _ _ hr X bel (λx hx=>a0.lt x (by rw[a4];simp[hx]))
 rw[J,hv];rfl
theorem Q4A{C:Checked}{os:Os}{f:FuncId}{h:Func}{s:ChangeSpec}{tb:TypeId}{I:List (String×DataW Unit)}{F:Stop.Interp}(own:ownKnob C.prog.godebug=none)(aa:os.Started)(a9:C.prog.inits.idxOf? f=none)(a2:C.prog.funcs[f]?=some h)(ab:∃(w:World)(E:Tape)(i:Input),w.os=os/\(w.forCall E i).Shaped C.prog/\i.vars=[]/\Input.okWide C.prog (w.forCall E i) .any w.heap.size f i/\(OpenSpec.ofChange s).preRow enc C.prog h [] false I (w.forCall E i).memory i.args/\({}:Assume).holds C.prog (lone (Frame.enter C.prog f i.args .normal) [] (w.forCall E i)))(hl:laidOutB C.prog=true)(hr:∀t∈h.params.toList,C.prog.readableRec t=true/\t<C.prog.types.size)(hv:s.vars=[])(a4:h.resultTypes=#[tb])(hb:C.prog.underlying tb=some .bool)(a1:∀D:List (DataW H),D.length=h.params.toList.length->s.fn H D={ results:=[.lit (.bool true)],args:=D })(X:∀(W:World)(base:Nat)(args:Array Value) (D:List (DataW H)) (ps:List MemPlace),(∀(j:Nat) t v,h.params[j]?=some t->args[j]?=some v->Value.okWide C.prog W .any base t v)->DataW.TrodAll enc C.prog W 0 (λ_=>true) true h.params.toList args.toList D ps->(DataW.weightsEach C.prog h.params.toList D).all (·<=reachBytes)=true->laidMetH C.prog I W->W.ShapedOpen C.prog->Calls C.prog f args W λe J=>e=.returned (.bool true)/\Below W.heap.size W J):ReturnsInHanded {} C os f .any ((OpenSpec.ofChange s).preRow enc C.prog h [] false I) (((OpenSpec.ofChange s).at F).post enc C.prog h false true false false):=by
 refine returnsInHanded_of_row (C:=C) (s:=OpenSpec.ofChange s) own aa a9 a2 ab ?_;intro W base args D Y ac a7 Q _ _ U hL a5 _;have a6:(OpenSpec.ofChange s).vars=[]:=hv;have a0:=Q;obtain⟨p,q,Z,O,ad,_,_⟩:=Q;have a3:Y=[]:=by rw[a6] at O;exact(trodVars_none O).1
 subst a3;have a8:(OpenSpec.ofChange s).bare.plain.varTypes C.prog=[]:=by show(s.vars.filterMap _)=[];rw[hv];rfl
 rw[a8,ZB,ZB] at U;refine(X W base args D p a7 Z U hL a5).mono ?_;rintro e J ⟨rfl,bel⟩;exact⟨_,rfl,Q4z hl hr hv a4 hb a1 a0 bel⟩
theorem Q4B{k n:Nat}{E:Nat->List Value}(D:∀i,i<n->(E i).length=k):∀(j:Nat)(u:Value),((List.range n).flatMap E)[j]?=some u->∃i r,i<n/\r<k/\j=i*k+r/\(E i)[r]?=some u:=by
 induction n with
 |zero=>intro j u h;simp at h
 |succ n X=>
  intro j u h;have W:((List.range n).flatMap E).length=n*k:=by rw[CY];have:((List.range n).map λa=>(E a).length)=(List.range n).map λ_=>k:=(by apply List.map_congr_left;intro a U;exact D a (by have:=Uc.1 U;omega));rw[this];simp[List.map_const']
  rw[List.range_succ,Zb,List.getElem?_append] at h;split at h;·obtain⟨i,r,Y,J,O,Q⟩:=X (λi Z=>D i (by omega)) j u h;exact⟨i,r,by omega,J,O,Q⟩
  rw[W] at h;simp only[XA,List.flatMap_nil,ZB] at h;have I:=(Kb.1 h).1;rw[D n (by omega)] at I;exact⟨n,j-n*k,by omega,I,by omega,h⟩
theorem Q4C{k n:Nat}{E:Nat->List Value}(h:∀i,i<n->(E i).length=k):((List.range n).flatMap E).length=n*k:=by
 rw[CY];have:((List.range n).map λa=>(E a).length)=(List.range n).map λ_=>k:=by apply List.map_congr_left;intro a j;exact h a (Uc.1 j)
 rw[this];simp[List.map_const']
theorem Q4D{t e:TypeId}{k:Nat}{W:World}{base:Nat}{v:Value}{d:DataW H}{ps:List MemPlace}(ht:P.underlying t=some (.slice e))(hk:P.cellsOf e=k)(a6:0<k)(ab:Value.okWide P W .any base t v)(h:DataW.Trod enc P W 0 (λ_=>true) true t v d ps):∃(A:Option Addr)(n c m:Nat)(E:Nat->List Value)(D:Nat->DataW H)(U:Nat->List MemPlace),v=.slice A n c/\Rd W W k (.slice A n c) n ((List.range n).flatMap E)/\(d=.nil\/∃r,d=.slice ((List.range n).map D) r)/\(d=.nil->n=0)/\∀i,i<n->(E i).length=k/\DataW.trod enc P W 0 (λ_=>true) true m e (E i)=some (D i,U i):=by
 obtain⟨A,n,c,rfl⟩:=okWide_slice ht ab;obtain⟨ad,hf⟩:=h;rcases Go.Deep.open_slice ht hf with⟨Q,Z⟩|⟨a,ac,cap,m,n',D,U,Q,_,hl,hm,a7,Z,I⟩
 ·simp only[Value.cells] at Q;obtain⟨rfl,rfl,rfl⟩:A=none/\n=0/\c=0:=by simpa using Q
  exact⟨none,0,0,0,λ_=>[],λ_=>.nil,λ_=>[],rfl,Rd.nil _ _ _,.inl (Xz Prod.fst Z),λ_=>rfl,λi I=>absurd I (by omega)⟩
 simp only[Value.cells] at Q;obtain⟨rfl,rfl,rfl⟩:A=some a/\n=ac/\c=cap:=by simpa using Q
 rw[hk] at I;have af:n<=m:=by rw[a7];split<;>omega
 have hE:∀i,∃O,i<n->(O.length=k/\W.cells? 0 (a.add (i*k)) k=some O/\DataW.trod enc P W 0 (λ_=>true) true n' e O=some (D i,U i)):=by
  intro i;by_cases h:i<n;·obtain⟨O,h1,h2⟩:=I i (by omega);exact⟨O,λ_=>⟨(World.cells?_some h1).2.1,h1,h2⟩⟩
  exact⟨[],λh'=>absurd h' h⟩
 obtain⟨E,J⟩:=Classical.axiomOfChoice hE;have a2:d=.slice ((List.range n).map D) ((List.range (m-n)).map λj=>D (n+j)):=Xz Prod.fst Z;have a8:d=.nil->n=0:=by intro hd;rw[a2] at hd;cases hd
 refine⟨some a,n,c,n',E,D,U,rfl,⟨Q4C (λi I=>(J i I).1),some a,c,rfl,hl,hm,λhn=>?_⟩,.inr ⟨_,a2⟩,a8,λi I=>⟨(J i I).1,(J i I).2.2⟩⟩;have a0:∀i r u,i<n->r<k->(E i)[r]?=some u->W.cell? (a.add (i*k+r))=some u:=by intro i r u a5 X Y;have:=(World.cells?_some (J i a5).2.1).2.2 r X;rw[Go.Deep.add_add] at this;rw[this,Y]
 obtain⟨b,ZK,a3⟩:=a;have h0:∃u,W.cell? ⟨b,ZK,a3⟩=some u:=by have ae:=(J 0 hn).1;have:=a0 0 0 ((E 0)[0]'(by omega)) hn a6 (X3 (by omega));exact⟨_,by simpa [Addr.add] using this⟩
 obtain⟨u0,a1⟩:=h0;have a9:a3=none:=by simpa using World.cell?_spot a1
 subst a9;refine⟨b,ZK,rfl,?_,λj u Y=>?_⟩;·exact World.block_lt_of_cell? W _ a1
 obtain⟨i,r,a4,X,rfl,aa⟩:=Q4B (λi I=>(J i I).1) j u Y;have:=a0 i r u a4 X aa;rw[Go.WideShapes.add_plain] at this;exact this
end
end
section
open Go Go.RowKit Go.Maps Go.ChangeShapes Go.WideShapes
structure Uz where
 w:Nat
 r:Nat
 a:Nat
 b:Nat
 c:Nat
 see:Bool
 hw:w<256
 hr:r<256
 ha:a<256
 hb:b<256
 hc:c<256
def GE(x:Uz):List Value:=[.int .u8 x.w,.int .u8 x.r,.int .u8 x.a,.int .u8 x.b,.int .u8 x.c,.bool x.see]
def FW(x:Uz):Value:=.agg #[.int .u8 x.w,.int .u8 x.r,.int .u8 x.a,.int .u8 x.b,.int .u8 x.c,.bool x.see]
theorem O1{x:Int}(h:(Lit.int .u8 x).wf=true):0<=x/\x<=255:=by have j:IntKind.u8.min=0:=rfl;have D:IntKind.u8.max=255:=rfl;unfold Lit.wf at h;simp[j,D] at h;omega
theorem R8:Tryz.prog.cellsOf 54=6:=by kernel_rfl
theorem co5:Tryz.prog.cellsOf 5=1:=by kernel_rfl
theorem co4:Tryz.prog.cellsOf 4=1:=by kernel_rfl
theorem Q4E{j:Type}{l:List j}(h:l.length=6):∃a b c d e f,l=[a,b,c,d,e,f]:=by
 match l,h with
 |[a,b,c,d,e,f],_=>exact⟨a,b,c,d,e,f,rfl⟩
section
variable {H:Type} {enc:TypeId×Value->H} {W:World} {base:Nat} {sp:Nat->Bool} {held:Bool}
theorem D4{n:Nat}{cs:List Value}{y:DataW H×List MemPlace}(h:DataW.trod enc Tryz.prog W base sp held n 5 cs=some y):∃a:Nat,a<256/\cs=[.int .u8 a]:=by
 cases n with
 |zero=>simp[DataW.trod] at h
 |succ n=>
  rw[DataW.trod_step] at h
  unfold DataW.trodStep at h
  simp only[Tryz.underlying5] at h
  match cs,h with
  |[.int q a],h=>simp at h;obtain⟨⟨rfl,j⟩,_⟩:=h;have hb:=O1 j;exact⟨a.toNat,by omega,by congr 2;omega⟩
theorem Q4F{n:Nat}{cs:List Value}{y:DataW H×List MemPlace}(h:DataW.trod enc Tryz.prog W base sp held n 4 cs=some y):∃b:Bool,cs=[.bool b]:=by
 cases n with
 |zero=>simp[DataW.trod] at h
 |succ n=>
  rw[DataW.trod_step] at h
  unfold DataW.trodStep at h
  simp only[Tryz.underlying4] at h
  match cs,h with
  |[.bool b],h=>exact⟨b,rfl⟩
theorem Q4G{n:Nat}{cs:List Value}{y:DataW H×List MemPlace}(h:DataW.trod enc Tryz.prog W base sp held n 54 cs=some y):∃x:Uz,cs=GE x:=by
 cases n with
 |zero=>simp[DataW.trod] at h
 |succ n=>
  rw[DataW.trod_step] at h;unfold DataW.trodStep at h;simp only[Tryz.underlying54] at h;split at h;·rename_i j;rw[R8] at j;obtain⟨c0,c1,c2,c3,c4,c5,rfl⟩:=Q4E j;simp[co5,co4,CV] at h;obtain⟨_,_,U,_,⟨_,_,X,_,⟨_,_,Y,_,⟨_,_,Z,_,⟨_,_,h4,_,⟨_,_,h5,_⟩,_⟩,_⟩,_⟩,_⟩,_⟩:=h;obtain⟨D,q0,w0⟩:=D4 U;obtain⟨E,q1,w1⟩:=D4 X;obtain⟨I,q2,w2⟩:=D4 Y;obtain⟨J,q3,w3⟩:=D4 Z;obtain⟨O,q4,w4⟩:=D4 h4;obtain⟨Q,w5⟩:=Q4F h5;cases w0;cases w1;cases w2;cases w3;cases w4;cases w5;exact⟨⟨D,E,I,J,O,Q,q0,q1,q2,q3,q4⟩,rfl⟩
  cases h
theorem R9{j:Type}{f:j->List Value}:∀(n:Nat)(E:Nat->List Value),(∀i,i<n->∃x,E i=f x)->∃L:List j,L.length=n/\(List.range n).flatMap E=L.flatMap f|0,_,_=>⟨[],rfl,rfl⟩|n+1,E,h=>by obtain⟨L,D,I⟩:=R9 n E (λi O=>h i (by omega));obtain⟨x,J⟩:=h n (by omega);refine⟨L++[x],by simp[D],?_⟩;rw[List.range_succ,Zb,I,Zb];simp[J]
set_option maxRecDepth 1000000 in
theorem Q4H{v:Value}{d:DataW H}{ps:List MemPlace}(Q:Value.okWide Tryz.prog W .any base 22 v)(h:DataW.Trod enc Tryz.prog W 0 (λ_=>true) true 22 v d ps):∃(A:Option Addr)(n c:Nat)(L:List Uz),v=.slice A n c/\Rd W W 6 (.slice A n c) n (L.flatMap GE):=by obtain⟨A,n,c,m,E,D,U,rfl,J,_,_,j⟩:=Q4D (k:=6) Tryz.underlying22 R8 (by decide) Q h;obtain⟨L,_,I⟩:=R9 (f:=GE) n E (λi O=>Q4G (j i O).2);exact⟨A,n,c,L,rfl,I▸J⟩
end
end
end Go.Proofs.YtfpafikfjjckeaaGreatDoor
