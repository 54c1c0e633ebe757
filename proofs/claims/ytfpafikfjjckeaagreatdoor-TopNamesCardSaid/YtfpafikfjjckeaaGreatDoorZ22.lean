import Derived.Deep.DrawnRows
import Derived.Test.YtfpafikfjjckeaaGreatDoorZ21
set_option maxRecDepth 100000
set_option maxHeartbeats 200000000
namespace Go.Proofs.YtfpafikfjjckeaaGreatDoor
section
open Go.RowKit
def Vi(v u:Value):Prop:=v.ownBlock=none\/v.ownBlock≠u.ownBlock
theorem Vi.app2{w:World}{base:Nat}{e:TypeId}{J n m:Nat}{v u D:Value}{xs:List Value}(h:Vi v u)(I:w.ownsRow base e J v n xs)(j:D.ownBlock=u.ownBlock\/D.ownBlock=some m)(hm:w<=m):Vi v D:=by
 rcases h with h|h;·exact .inl h
 rcases j with j|j;·exact .inr (by rw[j];exact h)
 cases hb:v.ownBlock with
 |none=>exact .inl hb
 |some g=>have:=(I.lt g hb).2;exact .inr (by rw[j,hb];intro E;injection E with E;omega)
theorem Gy(w:World)(o:Obj):(w.alloc o).heap.size=w.heap.size+1:=by simp
theorem Gz{w w':World}{base:Nat}{e:TypeId}{j n:Nat}{v:Value}{xs:List Value}(h:w.ownsRow base e j v n xs)(hb:Below w w w'):w'.ownsRow base e j v n xs:=
 h.kept (row:=none) ⟨hb.os,hb.tape,hb.output,hb.size,λk D _=>hb.block k D⟩ (by cases v.ownBlock<;>simp)
theorem Q1J{w:World}{base j:Nat}{e:TypeId}{D n:Nat}{v:Value}{xs:List Value}(h:w.ownsRow base e D v n xs)(hb:j<=base):w.ownsRow j e D v n xs:=by
 refine⟨h.1,?_⟩;rcases h.2 with I|⟨g,cap,E,hv,J,r⟩;·exact .inl I
 exact .inr ⟨g,cap,E,hv,Q9 hb J,r⟩
def Q1K(ps:List Bs)(h:Bs)(w:World)(D:Value)(j E:Value)(wr:World):Prop:=
 ∃(k:Nat),k<=(Jl ps).length/\E=.int .i64 (k:Nat)/\wr.ownsRow w 81 4 D (Jl ps).length (ZM (Jl ps)) /\
  wr.ownsRow w 81 4 j (((YI ps).take k).filter (λr=>U0 ps r==h)).length (ZM ((((YI ps).take k).filter (λr=>U0 ps r==h)).map (VF ps))) /\
  Vi D j/\Below w w wr
theorem Q1L(ps:List Bs):(Jl ps).length=(YI ps).length:=by rw[MI,Xh]
theorem In{n:Nat}:∀{a:Nat}{l:List (Nat×Nat)},Jn a n l->a<=n->l.length<=n-a|_,[],_,_=>by simp|a,r::l,⟨h1,h2,h3,h4⟩,_=>by have:=In h4 h3;rw[Z4];omega
theorem Q1M{l:List (Nat×Nat)}{k:Nat}(h:k<l.length)(f:Nat×Nat->Bool):(l.take (k+1)).filter f=(l.take k).filter f++(if f l[k] then [l[k]] else []):=by rw[QQ h,YU,Ec,List.filter_nil]
theorem Q1N(ps:List Bs)(a7:Zg ps)(h:Bs)(ag:Jo h=true)(w:World)(hl:ps.flatten.length<=1000000)(hn:h.length<=1000000)(hT:ZD w):Calls Tryz.prog 26 #[.string (Q8 ps.flatten),.string (Q8 h)] w λe w'=>∃v,e=.returned (.tuple #[v,(0:Int)])/\w'.ownsRow w 81 4 v (VG ps h).length (ZM ((VG ps h).map (VF ps)))/\Below w w w':=by
 obtain⟨i0,hi,aK,aL,aM⟩:=info_parts MO;have cV:=λw hT=>Ek ps.flatten w (by omega) hT;rw[G7 ps a7] at cV;have CV:=Ki cV;have cI:=λw=>Im h w hn;rw[ag] at cI;have CI:=Ki cI;have CR:=Ki (λw=>Q1I ps a7 w hl);clear cV cI ag;have aG:=In (Ik ps) (Qh _);have aF:=UJ ps a7;have aq:=Q1L ps;have Q:(Jl ps).length<=1000000:=by omega
 have ad:=Ki aq;clear aq aG aF;go_enter Tryz.func26,Tryz.ntmps26;go_wp2_with fail;refine(CV.o _ hT).mono ?_;rintro e w1 ⟨rfl,Q⟩;go_wp2_with fail;refine(CI.o _).mono ?_;rintro e Y ⟨rfl,hb2⟩;go_wp2_with fail;refine(CR.o _).mono ?_;rintro e w3 ⟨v,rfl,W,a2⟩;have a3:=Q.trans (hb2.mono Q.size);have au:w.heap.size<=Y.heap.size:=a3.size;have am:=World.ownsRow_made (base:=w.heap.size) (e:=81) (size:=4) Y #[] 0 au (Qh _) rfl;have al:=Gz am a2;have av:=Q1J W (show w.heap.size<=(Y.alloc (.cells #[] 81)).heap.size by rw[Gy];omega)
 have ar:Vi v (.slice (some ⟨Y.heap.size,0,none⟩) 0 0):=by
  cases hb:v.ownBlock with
  |none=>exact .inl hb
  |some g=>have h1:=(W.lt g hb).1;rw[Gy] at h1;refine .inr ?_;rw[hb];simp only[Value.ownBlock];intro j;injection j with j;omega
 have az:Below w w w3:=(a3.alloc au _).trans (a2.mono (by rw[Gy];omega));obtain⟨A,c,rfl,aN,aB⟩:=(Rd.of_own W).form;unfold maxLen at aB;clear W a2 am a3 Q hb2;have HM:=Ki al;have HV:=Ki av;have a0:=Ki ar;clear al av ar CV CI CR;go_wp2;go_loopw [6,21] (λvo vi wr=>Q1K ps h w (.slice A (Jl ps).length c) vo vi wr) (λ_ vi _=>(Jl ps).length-(intOf vi).toNat);case atStart=>refine⟨0,Qh _,rfl,HV.o,?_,a0.o,az⟩;simpa [ZM] using HM.o
 case round=>
  obtain⟨k,hk,rfl,hv,E,a8,U⟩:=hrel;by_cases ak:k<(Jl ps).length
  ·have a6:k<(YI ps).length:=(by rw[<-ad.o];exact ak);have D:=MG (Jl ps) k ak;have ap:(Jl ps)[k]=VF ps (YI ps)[k]:=(by have e:=MI ps;simp only[e,List.getElem_map]);rw[ap] at D;obtain⟨g,cap,aw,_,aO,_,_⟩:=CH hv (by omega);obtain⟨rfl,rfl⟩:A=some ⟨g,0,none⟩/\c=cap:=by injection aw with j e2 e3;exact⟨j,e3⟩
   have d0:=(hv.cellAt (k*4) (by omega)).trans D.1;have d1:=(hv.cellAt (k*4+1) (by omega)).trans D.2.1;have d2:=(hv.cellAt (k*4+2) (by omega)).trans D.2.2.1;have d3:=(hv.cellAt (k*4+3) (by omega)).trans D.2.2.2;obtain⟨r1,r2,r3⟩:=(Ik ps).mem _ (Zt a6);have a4:=Q1M a6 (λr=>U0 ps r==h);have hcut:=Q1z ps (YI ps)[k].1 (YI ps)[k].2 (by omega) r3;obtain⟨r,hr⟩:∃r,(YI ps)[k]=r:=⟨_,rfl⟩;rw[hr] at d0 d1 d2 d3 r1 r2 r3 a4 hcut;simp only[VF] at d0 d1 d2 d3;obtain⟨hx,ah,aj⟩:=hcut;have X:(Q8 ps.flatten).extract (ZK ps r.1) (ZK ps r.2)=Q8 (U0 ps r):=hx;have ai:ZK ps r.1<=ZK ps r.2:=ah;have aD:ZK ps r.2<=ps.flatten.length:=aj;have aI:=Y8 ps.flatten;obtain⟨s,hs⟩:∃s,Q8 ps.flatten=s:=⟨_,rfl⟩;rw[hs] at X aI |-;obtain⟨x,ab⟩:∃x,ZK ps r.1=x:=⟨_,rfl⟩;obtain⟨y,ac⟩:∃y,ZK ps r.2=y:=⟨_,rfl⟩;rw[ab] at X ai d0;rw[ac] at X ai aD d2;have aQ:y<=s.size:=(by omega);have Z:=Ki a4;have ay:=Ki (show VF ps r=(x,r.1,y,r.2) by unfold VF;rw[ab,ac]);have aC:(((YI ps).take k).filter (λr=>U0 ps r==h)).length<=k:=Q9 (Vl _ _) (List.length_take_le _ _);have an:=E.lt;have a9:=Ki a8;have aa:=Ki hv;have J:=Ki E;obtain⟨F,hF⟩:=ex (((YI ps).take k).filter (λr=>U0 ps r==h));rw[hF] at Z J aC;have ax:=Ki an;have af:=U.size;clear hs ab ac hx a4 ah aj hr hF D ap aw a6 E hv a8 an HM HV a0;by_cases I:U0 ps r=h
   ·have O:=beq_iff_eq.2 I;have a1:=Ki O;rw[I] at X;clear I O;go_wp2_with (at_builtin;refine wpList_append_own_at _ rfl _ _ 77 rfl w 81 i0 (.agg #[(0:Int),(0:Int),(0:Int),(0:Int)]) 4 32 Tryz.underlying77 hi aK aL aM rfl (by decide) _ _ _ rfl ((J.o.alloc _).alloc _) ⟨wr.heap.size+1,0,none⟩ 1 1 (Jz (x,r.1,y,r.2)) rfl rfl ?c1 ?c2 ?c3 ?c4 ?c5 ?_);case c1=>have:=MR (wr.alloc (.cells #[.int .i64 (x:Nat),.int .i64 (r.1:Nat),.int .i64 (y:Nat),.int .i64 (r.2:Nat)] 81)) (Jz (x,r.1,y,r.2)) 81;rw[Gy] at this;exact this
    case c2=>exact λu hu=>MH [(x,r.1,y,r.2)] u (by rw[ET];exact hu)
    case c3=>simp only[maxLen];omega
    case c4=>omega
    case c5=>simp;omega
    intro v' w4 ao a5 _ ae;have aJ:=Ki (((aa.o.alloc _).alloc _).kept a5 a9.o);have aH:=Ki (Vi.app2 a9.o aa.o ae (by omega));have aA:Below w w w4:=((U.alloc af _).alloc (by simp;omega) _).grown a5 (by simp;omega) (λk hk=>(ax.o k hk).1);have aE:=Ki ao;clear a5 ae ao;go_wp2;go_roundw;case rel=>refine⟨k+1,by omega,by go_num,aJ.o,?_,aH.o,aA⟩;rw[Z.o,a1.o,Q7 rfl,Qj,ZC,Gx,ZW,Kf,ET,ay.o];exact aE.o
    case measure=>simp[intOf];omega
   have O:=Xg.2 I;have a1:=Ki O;have aP:=Q1F I;clear I O;go_wp2;go_roundw;case rel=>refine⟨k+1,by omega,by go_num,aa.o.alloc _,?_,a9.o,U.alloc af _⟩;rw[Z.o,a1.o,Q6 (by simp),ZB];exact J.o.alloc _
   case measure=>simp[intOf];omega
  have j:(YI ps).take k=YI ps:=Zk (by rw[<-ad.o];omega);rw[j] at E;have J:=Ki E;clear E j hv a8 HM HV a0;go_wp2;go_ret2;exact⟨_,rfl,J.o,U⟩
end
section
open Go.RowKit
theorem CX:type_of% @Tryz.underlying28:=@Tryz.underlying28
attribute [local go_sem ↓] Go.wp_at_zero Go.wp_at_succ
theorem Q1O:(Tryz.prog.info? 3).map (λi=>(i.zero,i.size,i.bytes))=some (some (.int .i64 0),1,8):=by kernel_rfl
def KQ(l:List Nat):List Value:=l.map λx=>.int .i64 (x:Nat)
def Q1P(L:List (Nat×Nat))(rs:List R4)(w:World)(E:Value)(h j D:Value)(wr:World):Prop:=
 ∃(k:Nat),k<=L.length/\D=.int .i64 (k:Nat)/\wr.ownsRow w 81 4 E L.length (ZM rs) /\
  wr.ownsRow w 3 1 h k (KQ ((L.take k).map (·.1)))/\wr.ownsRow w 3 1 j k (KQ ((L.take k).map (·.2)))/\Vi h j/\Vi j h/\Below w w wr
theorem Io{w:World}{B:Nat}{e:TypeId}{U n:Nat}{v:Value}{xs:List Value}(h:w.ownsRow B e U v n xs){g:Nat}{cs:Array Value}{t:TypeId}{D:Nat×Nat}(j:w.heap[g]?=some (.cells cs t D))(Q:e≠t):v.ownBlock≠some g:=by
 rcases h.2 with⟨rfl,_⟩|⟨E,cap,W,rfl,_,O,_⟩;·simp[Value.ownBlock]
 intro J;have:E=g:=by simpa [Value.ownBlock] using J
 subst this;rw[O] at j;injection j with j;injection j with _ I;exact Q I
theorem FI{w:World}{b:Nat}{v:Value}{t:TypeId}(h:w.heap[b]?=some (.cells #[v] t (0,0))):∀j u,[v][j]?=some u->w.cell? ((⟨b,0,none⟩:Addr).add j)=some u:=by
 intro j u E;have D:(⟨b,0,none⟩:Addr).add j=⟨b,j,none⟩:=by unfold Addr.add;split<;>simp_all
 rw[D,cell_of_row _ _ j #[v] t (0,0) h];simpa using E
theorem Q1Q(W:World)(o:Obj):(W.alloc o).heap[W.heap.size]?=some o:=Qi W o
theorem Q1R(W:World)(o:Obj):(W.alloc o).drew.heap[W.heap.size]?=some o:=Qi W o
theorem MS(W:World)(j h:Obj):((W.alloc j).alloc h).drew.heap[W.heap.size+1]?=some h:=by have:=Qi (W.alloc j) h;rwa [Gy] at this
theorem MT(W:World)(h j:Obj):((W.alloc h).alloc j).drew.heap[W.heap.size]?=some h:=
 (Z5 (W.alloc h) j W (by rw[Gy];omega)).trans (Qi W h)
theorem MU{w:World}{B:Nat}{e:TypeId}{D n:Nat}{v:Value}{xs:List Value}(h:w.ownsRow B e D v n xs){k:Nat}(E:w<=k):some k≠v.ownBlock:=by intro j;have:=(h.lt k j.symm).2;omega
theorem MV{w:World}{B D:Nat}{e j:TypeId}{O Q n J:Nat}{v u:Value}{xs U:List Value}(h:w.ownsRow B e O v n xs)(k:w.ownsRow D j Q u J U)(I:e≠j):Vi v u:=by
 rcases h.2 with⟨rfl,_⟩|⟨g,cap,W,rfl,_,E,_⟩;·exact .inl rfl
 refine .inr (XF ?_);exact Io k E (XF I)
theorem Q1S{W W1 E W2 J:World}{B k n m1 m2 j O D X:Nat}{u4 u5 vr:Value}{xs ys cs a2 a8:List Value}(hF:W.ownsRow B 3 1 u4 k xs)(Y:W.ownsRow B 3 1 u5 k ys)(hR:W.ownsRow B 81 4 vr n cs)(a5:Vi u4 u5)(a7:Vi u5 u4)(hB:B<=W)(I:Below W W W1)(U:W1.grownBy E u4.ownBlock)(a6:E.ownsRow B 3 1 (.slice (j,0) (k+1) O) (k+1) a2)(a3:u4.ownBlock=some j\/j=m1)(aa:W<=m1)(a9:j<E)(hb2:Below E E W2)(Z:W2.grownBy J u5.ownBlock)(_:J.ownsRow B 3 1 (.slice (D,0) (k+1) X) (k+1) a8)(a4:u5.ownBlock=some D\/D=m2)(ab:E<=m2):J.ownsRow B 81 4 vr n cs/\J.ownsRow B 3 1 (.slice (j,0) (k+1) O) (k+1) a2/\Vi (.slice (j,0) (k+1) O) (.slice (D,0) (k+1) X)/\Vi (.slice (D,0) (k+1) X) (.slice (j,0) (k+1) O)/\Below B W J:=by
 have r1:=Gz hR I;have f1:=Gz hF I;have t1:=Gz Y I;have r4:=r1.kept U (MV r1 f1 (by decide));have t4:=t1.kept U a7;have r2:=Gz r4 hb2;have t2:=Gz t4 hb2;have r5:=r2.kept Z (MV r2 t2 (by decide));have ad:=I.size;have ae:=U.size;have af:=hb2.size
 have a1:some j≠u5.ownBlock:=by
  intro e;rcases a3 with h|h
  ·rcases a5 with Q|Q;·rw[h] at Q;cases Q
   exact Q (by rw[h,e])
  have:=(Y.lt j e.symm).2;omega
 have o1:=(Gz a6 hb2).kept (row:=u5.ownBlock) Z (.inr a1)
 have a0:j≠D:=by
  intro e;rcases a4 with h|h;·exact a1 (by rw[h,e])
  omega
 refine⟨r5,o1,.inr (λe=>a0 (by injection e)),.inr (λe=>a0 (by injection e with e;exact e.symm)),?_⟩;have q1:=(I.mono hB).grown U (by omega) (λk hk=>(hF.lt k hk).1);have q2:=q1.trans (hb2.mono (by omega));exact q2.grown Z (by omega) (λk hk=>(Y.lt k hk).1)
theorem MW(ps:List Bs)(hps:Zg ps)(name:Bs)(hid:Jo name=true)(w:World)(hl:ps.flatten.length<=1000000)(hn:name.length<=1000000)(hT:ZD w):Calls Tryz.prog 10 #[.string (Q8 ps.flatten),.string (Q8 name)] w λe w'=>∃v1 v2,e=.returned (.tuple #[v1,v2,(0:Int)])/\w'.ownsRow w.heap.size 3 1 v1 (VG ps name).length (KQ ((VG ps name).map (·.1)))/\w'.ownsRow w.heap.size 3 1 v2 (VG ps name).length (KQ ((VG ps name).map (·.2)))/\Below w.heap.size w w':=by
 obtain⟨i0,hi,hz0,hz1,hz2⟩:=info_parts Q1O;have CF:=Ki (Q1N ps hps name hid w hl hn hT);have hrl:=In (((Ik ps).filter (λr=>U0 ps r==name))) (Qh _);have hpl:=UJ ps hps;have hb1:(VG ps name).length<=1000000:=by unfold VG;omega
 obtain⟨L,hL⟩:∃L,VG ps name=L:=⟨_,rfl⟩;rw[hL] at CF hb1 |-;obtain⟨rs,hrs⟩:∃rs,L.map (VF ps)=rs:=⟨_,rfl⟩;rw[hrs] at CF;have HRS:=Ki hrs;clear hrl hpl hid hL hrs;go_enter Tryz.func10,Tryz.ntmps10;go_wp2_with fail;refine(CF.o).mono ?_;rintro e w1 ⟨v,rfl,ho,hb1⟩;obtain⟨A,c,rfl,hc1,hc2⟩:=(Rd.of_own ho).form;unfold maxLen at hc2;have HO:=Ki ho;clear ho CF;go_wp2;go_loopw [4,5,18] (λvf vt vi wr=>Q1P L rs w (.slice A L.length c) vf vt vi wr) (λ_ _ vi _=>L.length-(intOf vi).toNat);case atStart=>exact⟨0,Qh _,rfl,HO.o,World.ownsRow_nil _ _ _ _,World.ownsRow_nil _ _ _ _,.inl rfl,.inl rfl,hb1⟩
 case round=>
  obtain⟨k,hk,rfl,hr,hf,ht,hft,htf,hbw⟩:=hrel;by_cases hlt:k<L.length
  ·have hkr:k<rs.length:=(by rw[<-HRS.o,Xh];exact hlt);have hg:=MG rs k hkr;have hrk:rs[k]=VF ps L[k]:=(by have e:=HRS.o;simp only[<-e,List.getElem_map]);rw[hrk] at hg;obtain⟨g,cap,hvv,_,hgl,_,_⟩:=CH hr (by omega);obtain⟨rfl,rfl⟩:A=some ⟨g,0,none⟩/\c=cap:=by injection hvv with e1 e2 e3;exact⟨e1,e3⟩
   have d0:=(hr.cellAt (k*4) (by omega)).trans hg.1;have d1:=(hr.cellAt (k*4+1) (by omega)).trans hg.2.1;have d2:=(hr.cellAt (k*4+2) (by omega)).trans hg.2.2.1;have d3:=(hr.cellAt (k*4+3) (by omega)).trans hg.2.2.2;have htk:=QQ hlt;obtain⟨r,hrr⟩:∃r,L[k]=r:=⟨_,rfl⟩;rw[hrr] at d0 d1 d2 d3 htk;simp only[VF] at d0 d1 d2 d3;have HTK:=Ki htk;have HF:=Ki hf;have HT:=Ki ht;have HR:=Ki hr;have HFT:=Ki hft;have HTF:=Ki htf;obtain⟨x,hxx⟩:∃x,ZK ps r.1=x:=⟨_,rfl⟩;obtain⟨y,hyy⟩:∃y,ZK ps r.2=y:=⟨_,rfl⟩;rw[hxx] at d0;rw[hyy] at d2;have hbs:=hbw.size;clear hg hrk hvv hrr htk hf ht hr hft htf hxx hyy HO;go_wp2;obtain⟨O,hO⟩:∃O,Obj.cells #[.int .i64 (x:Nat),.int .i64 (r.1:Nat),.int .i64 (y:Nat),.int .i64 (r.2:Nat)] 81=O:=⟨_,rfl⟩;have c1:(wr.alloc O).cell? ⟨wr.heap.size,1,none⟩=some (.int .i64 (r.1:Nat)):=(by rw[<-hO,cell_of_row _ _ 1 _ 81 (0,0) (Qi wr _)];rfl);have c3:(wr.alloc O).cell? ⟨wr.heap.size,3,none⟩=some (.int .i64 (r.2:Nat)):=(by rw[<-hO,cell_of_row _ _ 3 _ 81 (0,0) (Qi wr _)];rfl);have hof:=Io (HF.o.alloc O) (g:=wr.heap.size) (t:=81) (e:=3) (by rw[<-hO];exact Qi wr _) (by decide);have hot:=Io (HT.o.alloc O) (g:=wr.heap.size) (t:=81) (e:=3) (by rw[<-hO];exact Qi wr _) (by decide);have HF2:=Ki (HF.o.alloc O);have HT2:=Ki (HT.o.alloc O);have HR2:=Ki (HR.o.alloc O);have hb2:=hbw.alloc hbs O;have hsz2:=Gy wr O;rw[hO];obtain⟨W,hW⟩:∃W,wr.alloc O=W:=⟨_,rfl⟩;obtain⟨rb,hrb⟩:∃rb,wr.heap.size=rb:=⟨_,rfl⟩
   rw[hW] at c1 c3 HF2 HT2 HR2 hb2 hsz2 |-;rw[hrb] at c1 c3 hof hot hsz2 hbs |-;have hWs:rb<W.heap.size:=(by omega);have hWb:w.heap.size<=W.heap.size:=(by omega);clear hO hW hrb HF HT HR hbw d0 d1 d2 d3 hsz2
   go_region_held3 (λw'=>w'.cell? ⟨rb,1,none⟩=some (.int .i64 (r.1:Nat))/\w'.cell? ⟨rb,3,none⟩=some (.int .i64 (r.2:Nat)))
    (first
     |go_keep
     |(go_split_ands;refine⟨?_,?_⟩;(rw[hgrow2.cell_far _ (by have:=hgrow1.size;simp at this |-;omega) (XF hot)];assumption);(rw[hgrow2.cell_far _ (by have:=hgrow1.size;simp at this |-;omega) (XF hot)];assumption))
     |(go_split_ands;refine⟨?_,?_⟩;(rw[hgrow1.cell_far _ (by simp;omega) (XF hof)];assumption);(rw[hgrow1.cell_far _ (by simp;omega) (XF hof)];assumption)))
    ((first|(refine step_append_lies _ (by rfl) _ _ _ (by rfl) w.heap.size 3 i0 _ 1 8 CX hi hz0 hz1 hz2 rfl (by omega) u4 k (KQ ((L.take k).map (·.1))) (by rfl) (by first|exact(HF2.o.alloc _).drew|exact((HF2.o.alloc _).alloc _).drew) _ 1 1 [.int .i64 (r.1:Nat)] (by rfl) (by rfl) (by first|exact FI (Q1R _ _)|exact FI (MS _ _ _)|exact FI (MT _ _ _)) (by simp[Value.oneCell']) (by omega) (by simp only[maxLen];omega) (by omega) (by simp;omega) _ (by rfl) ?_;intro g1 cap1 w4 hown1 hgrow1 hat1 hlt1)|(refine step_append_lies _ (by rfl) _ _ _ (by rfl) w.heap.size 3 i0 _ 1 8 CX hi hz0 hz1 hz2 rfl (by omega) u5 k (KQ ((L.take k).map (·.2))) (by rfl) (by first|exact(((HT2.o.alloc _).drew).kept hgrow1 HTF.o).alloc _|exact(((HT2.o.alloc _).alloc _).drew).kept hgrow1 HTF.o) _ 1 1 [.int .i64 (r.2:Nat)] (by rfl) (by rfl) (by first|exact FI (Q1Q _ _)|exact FI ((hgrow1.block _ (by simp) (MU HF2.o (by omega))).trans (MS _ _ _))|exact FI ((hgrow1.block _ (by simp;omega) (MU HF2.o (by omega))).trans (MT _ _ _))) (by simp[Value.oneCell']) (by omega) (by simp only[maxLen];omega) (by omega) (by have:=hgrow1.size;simp at this |-;omega) _ (by rfl) ?_;intro g2 cap2 w5 hown2 hgrow2 hat2 hlt2)))
   all_goals
    have fin:=Q1S HF2.o HT2.o HR2.o HFT.o HTF.o hWb (by first|exact((Qc _ _).alloc (Q3 _) _).drew|exact(((Qc _ _).alloc (Q3 _) _).alloc (by simp) _).drew) hgrow1 hown1 hat1 (by simp<;>omega) hlt1
     (by first|exact(Qc _ _).alloc (Q3 _) _|exact Qc _ _|exact(Qc _ _).drew) hgrow2 hown2 hat2 (by simp)
    have FIN:=Ki fin;have HO2:=Ki hown2;clear fin hgrow1 hgrow2 hown1 hown2 hat1 hat2;go_wp2;go_roundw
    case rel=>
     obtain⟨q1,q2,q3,q4,q5⟩:=FIN.o;refine⟨k+1,by omega,by go_num,q1,?_,?_,q3,q4,hb2.trans q5⟩;·rw[HTK.o,ZC];unfold KQ at q2 |-;rw[ZC];exact q2
     have:=HO2.o;rw[HTK.o,ZC];unfold KQ at this |-;rw[ZC];exact this
    case measure=>simp[intOf];omega
  have e1:L.take k=L:=Zk (by omega);have e2:k=L.length:=(by omega);subst e2;rw[e1] at hf ht;have HF:=Ki hf;have HT:=Ki ht;clear hf ht e1 hr hft htf HO;go_wp2;go_ret3;exact⟨_,_,rfl,HF.o,HT.o,hbw⟩
end
section
open Go Go.RowKit Go.Maps
theorem Q1T(a b:List UInt8)(E:Jo a=true)(hb:Jo b=true)(J:a≠b)(Q:a.length<=1000)(I:b.length<=1000)(w:World):Calls Tryz.prog 18 #[.string (Q8 a),.string (Q8 b)] w λe w'=>e=.returned (0:Int)/\Below w w w':=by
 have j:=Ki (λW=>Im a W (by omega));have D:=Ki (λW=>Im b W (by omega));rw[E] at j;rw[hb] at D;have hs:(Q8 b).size<=1000:=by rw[Y8];exact I
 have Z:((Q8 a).toList==(Q8 b).toList)=false:=by rw[Xg,Jb,Jb,Yw,Yw];exact J
 generalize Q8 a=x at *;generalize Q8 b=y at *;have hg:¬((y.size:Int)>2000):=by omega
 clear E hb J Q I;go_enter Tryz.func18,Tryz.ntmps18;go_wp2_with fail;refine(j.o w).mono ?_;rintro X U ⟨rfl,h⟩;go_wp2_with fail;refine(D.o U).mono ?_;rintro Y w2 ⟨rfl,hb2⟩;have O:=h.trans (hb2.mono h.size);clear h hb2;go_wp2;go_ret;exact⟨rfl,O⟩
theorem Y6(w:World)(b:Nat)(cs:Array Value):Qd (λk=>k=b) w (w.setRow b cs):=⟨rfl,rfl,rfl,by show w.heap.size<=(w.heap.modify b _).size;rw[Array.size_modify];exact Q3 _,λk _ h=>by show(w.heap.modify b _)[k]?=_;rw[Vm,Q6 (λe=>h e.symm)]⟩
structure JA(w:World)(bn bs bb:Nat)(N:Nat)(s:Q4)(by_:ByteArray):Prop where
 n:w.heap[bn]?=some (.cells #[.int .i64 (N:Int)] 3 (0,0))
 s:w.heap[bs]?=some (.cells #[s.T,s.R] 27 (0,0))
 b:w.heap[bb]?=some (.cells #[.string by_] 9 (0,0))
theorem JA.touch{w W:World}{D E j N:Nat}{s:Q4}{b:ByteArray}{F:Nat->Prop}(h:JA w D E j N s b)(t:Qd F w W)(I:¬F D)(J:¬F E)(O:¬F j):JA W D E j N s b:=⟨QY h.n t I,QY h.s t J,QY h.b t O⟩
theorem JA.below{w W:World}{D E j N:Nat}{s:Q4}{b:ByteArray}(h:JA w D E j N s b)(hb:Below w w W):JA W D E j N s b:=h.touch (Below.touch hb (λ_=>False)) (λh=>h) (λh=>h) (λh=>h)
def Yc(s:Q4)(N k:Nat):Id:=UY s (N*k)
theorem Q1U(j O J N:Nat)(s:Q4)(D:ByteArray)(w:World)(h:JA w j O J N s D)(hN:N<=1000)(hb:D.size<=1000):Calls Tryz.prog 19 #[.pointer (some ⟨j,0,none⟩),.pointer (some ⟨O,0,none⟩),.pointer (some ⟨J,0,none⟩)] w λe w'=>e=.returned (Qa (Yc s N D.size))/\JA w' j O J (N+1) s D/\Qd (λb=>b=j) w w':=by
 have ac:N*D.size<=1000000:=Q9 (GT hN hb) (by decide);have aa:=Ki (show Qa (Yc s N D.size)=.agg #[s.T,s.R,.int .i64 ((N*D.size:Nat):Int)] by unfold Yc;rw[Co ac];rfl);have H:=Ki h;have ad:j≠O:=λe=>absurd (Uo (e▸h.n) h.s) (show(3:TypeId)≠27 by decide);have ae:j≠J:=λe=>absurd (Uo (e▸h.n) h.b) (show(3:TypeId)≠9 by decide);go_enter Tryz.func19,Tryz.ntmps19;go_upto_region 1 with(fail);obtain⟨Q,Y⟩:∃a1,w.alloc (.cells #[(0:Int),(0:Int),(0:Int)] 60)=a1:=⟨_,rfl⟩;have a4:=bl Y;have h3:Q.heap[w.heap.size]?=some (.cells #[(0:Int),(0:Int),(0:Int)] 60 (0,0)):=by rw[<-Y];exact Qi w _
 rw[Y];have U:=H.o.below a4;obtain⟨E,a0⟩:∃b,w.heap.size=b:=⟨_,rfl⟩;have a6:=Kj (j<E/\O<E/\J<E) (by rw[<-a0];exact⟨(Q5.1 H.o.n).1,(Q5.1 H.o.s).1,(Q5.1 H.o.b).1⟩);have a9:=Ki a0;have a8:=Ki a4;rw[a0] at h3 |-;have H3:=Ki h3;have H1:=Ki U;have n0:=cr0 U.n;have f0:Q.frozen? (j,0)=false:=by simp[World.frozen?,U.n]
 have ln:=(Q5.1 U.n).1;have af:IntKind.i64.wrap ((N:Int)+1)=(N:Int)+1:=QO _ (by omega);clear Y a4 h3 U a0;go_upto_region 2 with(fail);obtain⟨I,Z⟩:∃a1,Q.setCell (j,0) (.int .i64 ((N:Int)+1))=a1:=⟨_,rfl⟩;have W:Qd (λb=>b=j) Q I:=by rw[<-Z];exact Qd.setCell (F:=λb=>b=j) (p:=(j,0)) (Qd.refl _ Q) (λ_=>rfl) _
 have a3:I.heap[j]?=some (.cells #[.int .i64 ((N+1:Nat):Int)] 3 (0,0)):=by rw[<-Z];exact Zf H1.o.n
 have X:=QY H1.o.s W (λe=>ad e.symm);have a2:=QY H1.o.b W (λe=>ae e.symm);have hl:=a6.o;have a7:=QY H3.o W (by omega);rw[Z];have H2:=Kj (JA I j O J (N+1) s D) ⟨a3,X,a2⟩;have ab:=Ki W;have a5:=Ki a7;have n1:=cr0 a3;have s0:=cr0 X;have s1:=cr1 X;have y0:=cr0 a2;have ag:IntKind.i64.wrap ((N:Int)+1-1)=(N:Int):=by rw[Int.add_sub_cancel];exact QO _ (by omega)
 have ah:IntKind.i64.wrap ((N:Int)*(D.size:Int))=((N*D.size:Nat):Int):=by rw[<-Int.natCast_mul];exact QO _ (by omega)
 clear Z W a3 X a2 a7 hl n0 f0 af;go_wp2_with (((with_reducible refine Zm 60 ?_);refine Zp rfl 60 _ _ rfl _ _ rfl rfl 60 _ a5.o (by kernel_rfl) rfl (by kernel_rfl) ?_;rw[Zn]));refine XE (V2 rfl _ _ E 60 #[s.T,s.R,.int .i64 ((N*D.size:Nat):Int)] (0,0) _ rfl (X7 I E _ _ 60 _ a5.o) UB rfl (by kernel_rfl)) rfl ?_;have t3:Qd (λb=>b=E) I (I.setRow E #[s.T,s.R,.int .i64 ((N*D.size:Nat):Int)]):=Y6 I E _;have hl:=a6.o;refine⟨by rw[aa.o],H2.o.touch t3 (by omega) (by omega) (by omega),?_⟩;exact((Below.touch a8.o (λb=>b=j)).trans ab.o (λ_ _ h=>h)).trans t3 (λx hx e=>by have:=a9.o;omega)
end
section
theorem MX:∀(ps:List Bs)(k a:Nat),(∀p∈ps,Jj p=true)->Jm ps k (some a)=[(a,k+ps.length)]|[],k,a,_=>rfl|p::ps,k,a,h=>by rw[Jm,Q7 (h p (XT ..)),MX ps (k+1) a (λq j=>h q (X2 _ j)),Z4];congr 2;omega
theorem Q1V{ps:List Bs}(h:∀p∈ps,Jj p=true)(j:ps≠[]):YI ps=[(0,ps.length)]:=by
 cases ps with
 |nil=>exact absurd rfl j
 |cons p ps=>unfold YI;rw[Jm,Q7 (h p (XT ..)),MX ps 1 0 (λq D=>h q (X2 _ D)),Z4];congr 2;omega
theorem MY{ps:List Bs}(h:∀p∈ps,Jj p=true)(I:ps≠[])(D:Bs):VG ps D=if ps.flatten=D then [(0,ps.length)] else []:=by
 unfold VG;rw[Q1V h I];have E:U0 ps (0,ps.length)=ps.flatten:=by unfold U0;simp
 by_cases j:ps.flatten=D;·rw[Q7 j,List.filter_cons_of_pos (by rw[E,j];exact beq_self_eq_true _),List.filter_nil]
 rw[Q6 j,List.filter_cons_of_neg (by rw[E];simpa using j),List.filter_nil]
end
section
open Go Go.RowKit Go.Maps
theorem V6:type_of% @wp_store_row:=@wp_store_row
def XQ:Sl:=⟨none,0,0⟩
theorem e0:(⟨#[]⟩:ByteArray).size<=4611686018427387903:=by decide
def XR(x j:Id)(b:ByteArray)(h:b.size<=4611686018427387903):Qt:=⟨3,x,Qf,⟨#[]⟩,false,XQ,[],Qf,j,b,XQ,[],by decide,e0,h⟩
def J4(x:Id)(h:Sl)(l:List Id):Qt:=⟨4,x,Qf,⟨#[]⟩,false,XQ,[],Qf,Qf,⟨#[]⟩,h,l,by decide,e0,e0⟩
theorem Ip(o:Qt):∀u∈Qp o,u.oneCell'=true:=by intro u h;simp[Qp,Sl.v] at h;rcases h with rfl|rfl|rfl|rfl|rfl|rfl|rfl|rfl|rfl|rfl|rfl|rfl|rfl|rfl|rfl|rfl|rfl|rfl<;>rfl
def Iq(x:Id)(ids:List Id)(j:Bool)(D J I N:Nat)(s:Q4)(h:ByteArray)(O:h.size<=4611686018427387903)(w:World)(e:Ending)(w':World):Prop:=
 ∃(v:Value)(os:List Qt),e=.returned v/\w'.ownsRow w 72 18 v os.length (os.flatMap Qp)/\(∀o∈os,XH w' w' o)/\(j=false->os=[])/\(j=true->∃G E,os=[XR x (Yc s N h.size) h O,J4 x E G]/\G.Perm ids/\G.Pairwise (λa b=>¬b.cmp a<0)/\w'.ownsRow w 60 3 E.v G.length (G.flatMap Qe)) /\
  JA w' D J I (if j then N+1 else N) s h/\Qd (λb=>b=D) w w'
def X5(v:Value)(l:List Qt):Z3:=⟨72,18,v,l.length,l.flatMap Qp⟩
def Q1W(x:Id)(ids:List Id)(D Q O N:Nat)(s:Q4)(j:ByteArray)(Y:j.size<=4611686018427387903)(w h J:World)(U:Nat)(o g i:Value)(wr:World):Prop:=
 (o=.slice (h.heap.size,0) 0 0/\g=.slice (h.heap.size+1,0) 0 0/\i=.int .i64 0/\wr=J) \/
  (i=.int .i64 1/\∃E W I X,o=.slice E 1 W/\g=.slice I ids.length X/\Zr wr w (λb=>b<h) [X5 o [XR x (Yc s N j.size) j Y],ZE g ids]/\JA wr D Q O (N+1) s j/\wr.heap[U]?=some (.cells x 60 (0,0))/\Qd (λb=>b=D) w wr/\h.heap.size<=wr.heap.size)
def Ir(x:Id)(E J I N:Nat)(s:Q4)(h:ByteArray)(Q:h.size<=4611686018427387903)(wr:World)(O:Nat)(v:Value)(j:World):Prop:=
 ∃D,v=.pointer (some ⟨D,0,none⟩)/\j.heap[D]?=some (.cells (Qp (XR x (Yc s N h.size) h Q)).toArray 72 (0,0))/\wr.heap.size<=D/\JA j E J I (N+1) s h/\j.heap[O]?=some (.cells #[x.s.T,x.s.R,x.I] 60 (0,0))/\Qd (λb=>b=E) wr j
theorem MZ:(Tryz.prog.info? 72).map (λi=>(i.zero,i.size,i.bytes))=some (some (.agg #[(0:Int),(0:Int),(0:Int),(0:Int),(0:Int),(0:Int),(0:Int),.string ⟨#[]⟩,.bool false,.slice none 0 0,(0:Int),(0:Int),(0:Int),(0:Int),(0:Int),(0:Int),.string ⟨#[]⟩,.slice none 0 0]),18,192):=by kernel_rfl
theorem Q1X(xs:List Id)(v:Value)(base:Nat)(w:World)(j:w.ownsRow base 60 3 v xs.length (xs.flatMap Qe))(D:xs.length<4611686018427387904):Calls Tryz.prog 42 #[v,.func (.func 43) #[] #[]] w λr w'=>r=.returned (.tuple #[])/\∃h:List Id,h.Perm xs/\h.Pairwise (λa b=>¬b.cmp a<0)/\w'.ownsRow base 60 3 v h.length (h.flatMap Qe)/\w.grownBy w' v.ownBlock:=
 Pp Tryz.laysSlF06_f42 3 Tryz.isAgg60 Tryz.sizeOf60 Qe (λ_=>rfl) Po Id.cmp Ez 43 #[] (G6 Tryz.func43 (by kernel_rfl) rfl) (λx y W=>GX x y W) xs v 60 base w j D
theorem Q1Y(x:Id)(ids:List Id)(ps:List (List UInt8))(bi:Zg ps)(bj:∀p∈ps,Jj p=true)(a7:List UInt8)(bf:Jo a7=true)(E:ByteArray)(a1:E.size<=4611686018427387903)(hb:E.size<=1000)(hl:ps.flatten.length<=1000)(hn:a7.length<=1000)(aP:ids.length=ps.length)(ca:ids.length<=2000)(A:Option Addr)(n c X bs bb N:Nat)(s:Q4)(w:World)(hR:∀W,Qd (λb=>b=X) w W->∃B,Rd W B 3 (.slice A n c) n (ids.flatMap Qe))(hT:ZD w)(hO:JA w X bs bb N s E)(hN:N<=1000)(ag:Bool)(am:ag=decide (ps.flatten=a7))(an:a7≠[]):Calls Tryz.prog 22 #[Qa x,.slice A n c,.string (Q8 ps.flatten),.string (Q8 a7),.string E,.func (.func 19) #[] #[.pointer (some ⟨X,0,none⟩),.pointer (some ⟨bs,0,none⟩),.pointer (some ⟨bb,0,none⟩)]] w (Iq x ids ag X bs bb N s E a1 w):=by
 obtain rfl:=QL Qe 3 (λ_=>rfl) (by decide) ((hR w (Qd.refl _ _)).elim λ_ h=>h.1)
 have bd:VG ps a7=if ag then [(0,ps.length)] else []:=by
  by_cases h:ps=[];·subst h;have e1:ag=false:=(by rw[am];exact Zo (λe=>an e.symm));rw[e1];rfl
  rw[MY bj h,am];by_cases I:ps.flatten=a7;·rw[Q7 I,QF I];rfl
  rw[Q6 I,Zo I];rfl
 have aA:=Ki (λW (hW:Below w.heap.size w W)=>MW ps bi a7 bf W (by omega) (by omega) (hT.below hW));rw[bd] at aA;have bI:=Ki hR;have aD:=Ki (λW (hW:Below w.heap.size w W)=>hO.below hW);have a0:=Ki (show X<w.heap.size/\bs<w.heap.size/\bb<w.heap.size from⟨(Q5.1 hO.n).1,(Q5.1 hO.s).1,(Q5.1 hO.b).1⟩);have bB:=Ki aP;obtain⟨tt,bo⟩:∃b,Q8 ps.flatten=b:=⟨_,rfl⟩;obtain⟨nn,bg⟩:∃b,Q8 a7=b:=⟨_,rfl⟩;rw[bo,bg] at aA |-;obtain⟨i0,hi,z0,z1,z2⟩:=Zc MZ;obtain⟨j0,hj,y0,y1,y2⟩:=Zc UZ
 have bG:=Ki (show ag=true->0<ids.length from λh=>by
  rw[h] at am
  have e1:=Y0 am.symm
  rw[aP]
  cases ps with
  |nil=>exact absurd e1.symm an
  |cons=>simp)
 clear bd hR hO hT bo bg aP bi bj bf am an;unfold Qa;go_enter Tryz.func22,Tryz.ntmps22;go_upto_region 1 with(fail);obtain⟨W1,av⟩:∃W,w.alloc (.cells #[x.s.T,x.s.R,x.I] 60)=W:=⟨_,rfl⟩;have aJ:Below w.heap.size w W1:=by rw[<-av];exact(Qc _ w).alloc (Q3 _) _
 have U:W1.heap[w.heap.size]?=some (.cells #[x.s.T,x.s.R,x.I] 60 (0,0)):=by rw[<-av];exact Qi w _
 rw[av];obtain⟨Q,af⟩:∃b,w.heap.size=b:=⟨_,rfl⟩;have bt:=Ki af;have ah:=Ki aJ;have bu:=Ki (aA.o W1 aJ);rw[af] at U |-;have lx:Q<W1.heap.size:=(Q5.1 U).1;clear av aJ af;go_wp2_with fail;refine bu.o.mono ?_;rintro e2 j ⟨v1,v2,rfl,ax,aR,hb2⟩;have I:=(hb2.block Q lx).trans U;rcases ag with _|_
 ·have ae:j.ownsRow W1.heap.size 3 1 v1 0 []:=ax;obtain⟨A1,c1,rfl,_,_⟩:=(Rd.of_own ae).form;have O:=Ki (ah.o.trans (hb2.mono ah.o.size));clear ax ae aR hb2 U I lx;go_upto_region 3 with(fail);obtain⟨W3,a3⟩:∃W,(j.alloc (.cells #[] 72)).alloc (.cells #[] 60)=W:=⟨_,rfl⟩;have ac:Below j.heap.size j W3:=by rw[<-a3];exact(((Q0.refl j).alloc _).alloc _).below
  have h4:W3.heap[j.heap.size]?=some (.cells #[] 72 (0,0)):=by rw[<-a3];(simp only[Zs,Qy,reduceIte];repeat (first|rw[Q7 (by omega)]|rw[Q6 (by omega)]))
  have h5:W3.heap[j.heap.size+1]?=some (.cells #[] 60 (0,0)):=by rw[<-a3];(simp only[Zs,Qy,reduceIte];repeat (first|rw[Q7 (by omega)]|rw[Q6 (by omega)]))
  rw[a3];have a6:=Ki (O.o.trans (ac.mono O.o.size));have bL:=Ki (BU [] (.slice (some ⟨j.heap.size+1,0,none⟩) 0 0) (j.heap.size+1) W3 (Jv (Q3 _) h5) (by decide));have H4:=Ki h4;have c3:=Ki (show W3.ownsRow w.heap.size 72 18 (.slice (some ⟨j.heap.size,0,none⟩) 0 0) 0 [] from Jv O.o.size h4);clear a3 ac h4 h5;have c4:=Ki (aD.o W3 a6.o);go_wp2;go_loopw [16,17,32] (λo g i wr=>o=.slice (some ⟨j.heap.size,0,none⟩) 0 0/\g=.slice (some ⟨j.heap.size+1,0,none⟩) 0 0/\i=.int .i64 0/\wr=W3) (λ_ _ _ _=>0);case atStart=>exact⟨rfl,rfl,rfl,rfl⟩
  case round=>obtain⟨rfl,rfl,rfl,rfl⟩:=hrel;go_wp2_with fail;refine bL.o.mono ?_;rintro e4 W4 ⟨rfl,ys,hp,_,ho,aK⟩;obtain rfl:=List.Perm.eq_nil hp;have aL:Below w.heap.size w W4:=a6.o.trans (aK.mono (by have:=O.o.size;omega));have b8:W4.heap[j.heap.size]?=some (.cells #[] 72 (0,0)):=(aK.block j.heap.size (Nat.lt_succ_self _)).trans H4.o;have HP:=Ki (show Iq x ids false X bs bb N s E a1 w (.returned (.slice (some ⟨j.heap.size,0,none⟩) 0 0)) W4 from⟨_,[],rfl,Jv O.o.size b8,(λo ho=>(by cases ho)),(λ_=>rfl),(λh=>(by cases h)),aD.o W4 aL,Below.touch aL _⟩);clear aK aL b8 ho hp;go_wp2;go_ret;exact HP.o
 have ae:j.ownsRow W1.heap.size 3 1 v1 1 [.int .i64 0]:=ax;have ay:j.ownsRow W1.heap.size 3 1 v2 1 [.int .i64 (ps.length:Int)]:=aR;obtain⟨g1,c1,_,rfl,bV,_⟩:=V9 ae (by decide);obtain⟨g2,c2,_,rfl,bW,_⟩:=V9 ay (by decide);have p1:=(X8 ae 0 _ rfl).1;have p2:=(X8 ay 0 _ rfl).1;have bq:=(ae.lt g1 rfl).2;have br:=(ay.lt g2 rfl).2;have O:=Ki (ah.o.trans (hb2.mono ah.o.size))
 have aZ:=Ki (λW (hW:Qd (λb=>b=X) j W)=>(show W.cell? ⟨g1,0,none⟩=some (.int .i64 0)/\W.cell? ⟨g2,0,none⟩=some (.int .i64 (ps.length:Int)) from by
  have U:=a0.o;have I:=ah.o.size
  exact⟨(hW.cell (p:=⟨g1,0,none⟩) bq (by show ¬g1=X;omega)).trans p1,(hW.cell (p:=⟨g2,0,none⟩) br (by show ¬g2=X;omega)).trans p2⟩))
 have H2:=Ki I;have l2:Q<j.heap.size:=(Q5.1 I).1;have aB:=Ki l2;clear ax aR ae ay hb2 U I lx p1 p2 bq br bV bW;go_upto_region 3 with(fail);obtain⟨W3,a3⟩:∃W,(j.alloc (.cells #[] 72)).alloc (.cells #[] 60)=W:=⟨_,rfl⟩;have ac:Below j.heap.size j W3:=by rw[<-a3];exact(((Q0.refl j).alloc _).alloc _).below
 have h4:W3.heap[j.heap.size]?=some (.cells #[] 72 (0,0)):=by rw[<-a3];(simp only[Zs,Qy,reduceIte];repeat (first|rw[Q7 (by omega)]|rw[Q6 (by omega)]))
 have h5:W3.heap[j.heap.size+1]?=some (.cells #[] 60 (0,0)):=by rw[<-a3];(simp only[Zs,Qy,reduceIte];repeat (first|rw[Q7 (by omega)]|rw[Q6 (by omega)]))
 rw[a3];have a6:=Ki (O.o.trans (ac.mono O.o.size));have az:=Ki ac;have H3:=Ki ((ac.block Q l2).trans H2.o)
 have bw:=Ki (show Zr W3 w.heap.size (λb=>b<j.heap.size) [X5 (.slice (some ⟨j.heap.size,0,none⟩) 0 0) [],ZE (.slice (some ⟨j.heap.size+1,0,none⟩) 0 0) []] from Cv (Jv O.o.size h4) (Jv (Nat.le_succ_of_le O.o.size) h5) (λk J hx=>by
  have e:j.heap.size=k:=(by simpa [Value.ownBlock,X5] using J)
  omega) (λk J hx=>by
  have e:j.heap.size+1=k:=(by simpa [Value.ownBlock,ZE] using J)
  omega) (λk J bX=>by
  have e:j.heap.size=k:=(by simpa [Value.ownBlock,X5] using J);have e2:j.heap.size+1=k:=(by simpa [Value.ownBlock,ZE] using bX)
  omega))
 clear a3 ac h4 h5 l2;go_wp2;go_loopw [16,17,32] (λo g i wr=>Q1W x ids X bs bb N s E a1 w j W3 Q o g i wr) (λ_ _ i _=>1-(intOf i).toNat);case atStart=>exact .inl ⟨rfl,rfl,rfl,rfl⟩
 case round=>
  rcases hrel with⟨rfl,rfl,rfl,rfl⟩|⟨rfl,A8,c8,Y,c9,rfl,rfl,hF,aj,hx,ht,bl⟩
  ·obtain⟨q1,q2⟩:=aZ.o wr (Below.touch az.o _);have x0:wr.cell? ⟨Q,0,none⟩=some (.int .i64 x.s.T):=cell_of_row wr _ 0 _ _ _ H3.o;have x1:wr.cell? ⟨Q,1,none⟩=some (.int .i64 x.s.R):=cell_of_row wr _ 1 _ _ _ H3.o;have x2:wr.cell? ⟨Q,2,none⟩=some (.int .i64 x.I):=cell_of_row wr _ 2 _ _ _ H3.o;go_upto_region 6 with(fail);obtain⟨D,aM⟩:∃D,Yc s N E.size=D:=⟨_,rfl⟩;have ap:=Ki aM;have aq:=Ki (λW (hW:Below wr.heap.size wr W)=>Q1U X bs bb N s E W ((aD.o wr a6.o).below hW) hN hb);rw[aM] at aq;unfold Qa at aq;have k1:Below wr.heap.size wr wr.drew:=(Qc _ wr).drew;have k2:Below wr.heap.size wr (wr.alloc (.cells #[.int .i64 0,.int .i64 0,.int .i64 0,.int .i64 0,.int .i64 0,.int .i64 0,.int .i64 0,.string ⟨#[]⟩,.bool false,.slice none 0 0,.int .i64 0,.int .i64 0,.int .i64 0,.int .i64 0,.int .i64 0,.int .i64 0,.string ⟨#[]⟩,.slice none 0 0] 72)).drew:=((Qc _ wr).alloc (Q3 _) _).drew;have au:=Ki (λW (hW:Below wr.heap.size wr W)=>(show W.heap[Q]?=some (.cells #[x.s.T,x.s.R,x.I] 60 (0,0)) from(hW.block Q (Q5.1 H3.o).1).trans H3.o));have aa:=Ki (λW' (h:W'.heap[Q]?=some (.cells #[.int .i64 x.s.T,.int .i64 x.s.R,.int .i64 x.I] 60 (0,0)))=>(show W'.cell? ⟨Q,0,none⟩=some (.int .i64 x.s.T)/\W'.cell? ⟨Q,1,none⟩=some (.int .i64 x.s.R)/\W'.cell? ⟨Q,2,none⟩=some (.int .i64 x.I) from⟨cell_of_row W' _ 0 _ _ _ h,cell_of_row W' _ 1 _ _ _ h,cell_of_row W' _ 2 _ _ _ h⟩))
   have HZ:=Ki (show(wr.alloc (.cells #[.int .i64 0,.int .i64 0,.int .i64 0,.int .i64 0,.int .i64 0,.int .i64 0,.int .i64 0,.string ⟨#[]⟩,.bool false,.slice none 0 0,.int .i64 0,.int .i64 0,.int .i64 0,.int .i64 0,.int .i64 0,.int .i64 0,.string ⟨#[]⟩,.slice none 0 0] 72)).drew.heap[wr.heap.size]?=some (.cells #[.int .i64 0,.int .i64 0,.int .i64 0,.int .i64 0,.int .i64 0,.int .i64 0,.int .i64 0,.string ⟨#[]⟩,.bool false,.slice none 0 0,.int .i64 0,.int .i64 0,.int .i64 0,.int .i64 0,.int .i64 0,.int .i64 0,.string ⟨#[]⟩,.slice none 0 0] 72 (0,0)) from Qi wr _);have bY:¬wr.heap.size=X:=(by have U:=a0.o;have I:=a6.o.size;omega);have bh:¬Q=X:=(by have U:=a0.o;have I:=bt.o;omega);clear aM;have aX:=Ki (show X<wr.heap.size/\bs<wr.heap.size/\bb<wr.heap.size/\Q<wr.heap.size from by have U:=a0.o;have I:=a6.o.size;exact⟨by omega,by omega,by omega,(Q5.1 H3.o).1⟩);go_cut [20] from 37 to 41 (λv wx=>Ir x X bs bb N s E a1 wr Q v wx)
   case first=>
    refine Jt rfl ?_;change wpAny _ _ _ _ 7 #[false,false,false,false,false,false,false] _ (World.drew _);refine' T0 1 ?_;try simp only[Act.put,PS]
    refine' T0 3 ?_;try simp only[Act.put,PS]
    refine Qn.of (n:=6) (g:=1) (S:=(λW'=>W'.cell? ⟨Q,0,none⟩=some (.int .i64 x.s.T)/\W'.cell? ⟨Q,1,none⟩=some (.int .i64 x.s.R)/\W'.cell? ⟨Q,2,none⟩=some (.int .i64 x.I))) 4 _ _ _ ?_;refine' Qn.take2 (i:=0) (v:=_) rfl (by kernel_rfl) rfl (by kernel_rfl) (by kernel_rfl) (by kernel_rfl) (λ_ _ _ h=>h) (.inl ⟨by rfl,?y303⟩) ?S303 ?_;case y303=>(intro w' ak;(try dsimp only at ak);go_simp;(try with_reducible rfl))
    case S303=>exact aa.o _ (au.o _ k1)
    try simp only[Act.put,PS]
    refine Qn.all (rs:=[2,5]) (by kernel_rfl) rfl ?_;refine QH.cons rfl (by kernel_rfl) (λK hK=>?_) (QH.cons rfl (by kernel_rfl) (λK hK=>?_) QH.nil)
    ·go_simp;go_at_call 19;(with_reducible refine(aq.o _ k1).mono ?_);rintro e9 Z ⟨rfl,aI,ad⟩;have a9:=QY (au.o _ k1) ad bh;have bZ:wr.heap.size<=Z.heap.size:=ad.size;refine hK.out _ _ (aa.o _ a9) (λab=>?_);clear hK K ab;try simp only[PS]
     refine' Qn.take2 (i:=4) (v:=_) rfl (by kernel_rfl) rfl (by kernel_rfl) (by kernel_rfl) (by kernel_rfl) (λ_ _ _ h=>h) (.inl ⟨by rfl,?y304⟩) ?S304 ?_;case y304=>(intro w' ak;(try dsimp only at ak);go_simp;(try with_reducible rfl))
     case S304=>exact aa.o _ a9
     try simp only[Act.put,PS]
     refine Qn.all (rs:=[5]) (by kernel_rfl) rfl ?_;refine QH.cons rfl (by kernel_rfl) (λK hK=>?_) QH.nil;go_simp;have bp:=(Z5 Z (.cells #[.int .i64 0,.int .i64 0,.int .i64 0,.int .i64 0,.int .i64 0,.int .i64 0,.int .i64 0,.string ⟨#[]⟩,.bool false,.slice none 0 0,.int .i64 0,.int .i64 0,.int .i64 0,.int .i64 0,.int .i64 0,.int .i64 0,.string ⟨#[]⟩,.slice none 0 0] 72) Q (Q5.1 a9).1).trans a9;refine hK.out _ _ (aa.o _ bp) (λab=>?_);clear hK K ab;try simp only[PS]
     refine Qn.done (by kernel_rfl) ?_;have al:=Qi Z (.cells #[.int .i64 0,.int .i64 0,.int .i64 0,.int .i64 0,.int .i64 0,.int .i64 0,.int .i64 0,.string ⟨#[]⟩,.bool false,.slice none 0 0,.int .i64 0,.int .i64 0,.int .i64 0,.int .i64 0,.int .i64 0,.int .i64 0,.string ⟨#[]⟩,.slice none 0 0] 72);refine Yk (rs:=[6]) (by kernel_rfl) (by simp) (Yi rfl (λK hK=>?_) Yj);rw[Q7 (by rfl)];refine V6 72 _ _ rfl Z.heap.size _ rfl rfl 72 _ al (by kernel_rfl) rfl (by kernel_rfl) (hK _ _ ?_);clear hK K;refine YD (by kernel_rfl) ?_ _;have tS:=Y6 (Z.alloc (.cells #[.int .i64 0,.int .i64 0,.int .i64 0,.int .i64 0,.int .i64 0,.int .i64 0,.int .i64 0,.string ⟨#[]⟩,.bool false,.slice none 0 0,.int .i64 0,.int .i64 0,.int .i64 0,.int .i64 0,.int .i64 0,.int .i64 0,.string ⟨#[]⟩,.slice none 0 0] 72)) Z.heap.size #[.int .i64 3,.int .i64 x.s.T,.int .i64 x.s.R,.int .i64 x.I,.int .i64 0,.int .i64 0,.int .i64 0,.string ⟨#[]⟩,.bool false,.slice none 0 0,.int .i64 0,.int .i64 0,.int .i64 0,.int .i64 D.s.T,.int .i64 D.s.R,.int .i64 D.I,.string E,.slice none 0 0];have an:=aX.o
     have aC:=Ki (show Ir x X bs bb N s E a1 wr Q (.pointer (some ⟨Z.heap.size,0,none⟩)) ((Z.alloc (.cells #[.int .i64 0,.int .i64 0,.int .i64 0,.int .i64 0,.int .i64 0,.int .i64 0,.int .i64 0,.string ⟨#[]⟩,.bool false,.slice none 0 0,.int .i64 0,.int .i64 0,.int .i64 0,.int .i64 0,.int .i64 0,.int .i64 0,.string ⟨#[]⟩,.slice none 0 0] 72)).setRow Z.heap.size #[.int .i64 3,.int .i64 x.s.T,.int .i64 x.s.R,.int .i64 x.I,.int .i64 0,.int .i64 0,.int .i64 0,.string ⟨#[]⟩,.bool false,.slice none 0 0,.int .i64 0,.int .i64 0,.int .i64 0,.int .i64 D.s.T,.int .i64 D.s.R,.int .i64 D.I,.string E,.slice none 0 0]) from⟨Z.heap.size,rfl,by unfold XR Qp;rw[ap.o];exact X7 (Z.alloc (.cells #[.int .i64 0,.int .i64 0,.int .i64 0,.int .i64 0,.int .i64 0,.int .i64 0,.int .i64 0,.string ⟨#[]⟩,.bool false,.slice none 0 0,.int .i64 0,.int .i64 0,.int .i64 0,.int .i64 0,.int .i64 0,.int .i64 0,.string ⟨#[]⟩,.slice none 0 0] 72)) Z.heap.size _ _ 72 _ al,bZ,(aI.below ((Qc _ Z).alloc (Q3 _) _)).touch tS (by omega) (by omega) (by omega),QY bp tS (by omega),(((Below.touch k1 (λb=>b=X)).trans ad (λ_ _ h=>h)).alloc _).trans tS (λy hy e=>by omega)⟩);go_wp2;go_meet;case rel=>exact aC.o
    go_simp;refine hK.out _ _ (aa.o _ (au.o _ k2)) (λab=>?_);clear hK K ab;try simp only[PS]
    refine Qn.all (rs:=[2]) (by kernel_rfl) rfl ?_;refine QH.cons rfl (by kernel_rfl) (λK hK=>?_) QH.nil;go_simp;go_at_call 19;(with_reducible refine(aq.o _ k2).mono ?_);rintro e9 Z ⟨rfl,aI,ad⟩;have a9:=QY (au.o _ k2) ad bh;have al:=QY (HZ.o) ad bY;refine hK.out _ _ (aa.o _ a9) (λab=>?_);clear hK K ab;try simp only[PS]
    refine' Qn.take2 (i:=4) (v:=_) rfl (by kernel_rfl) rfl (by kernel_rfl) (by kernel_rfl) (by kernel_rfl) (λ_ _ _ h=>h) (.inl ⟨by rfl,?y305⟩) ?S305 ?_;case y305=>(intro w' ak;(try dsimp only at ak);go_simp;(try with_reducible rfl))
    case S305=>exact aa.o _ a9
    try simp only[Act.put,PS]
    refine Qn.done (by kernel_rfl) ?_;refine Yk (rs:=[6]) (by kernel_rfl) (by simp) (Yi rfl (λK hK=>?_) Yj);rw[Q7 (by rfl)];refine V6 72 _ _ rfl wr.heap.size _ rfl rfl 72 _ al (by kernel_rfl) rfl (by kernel_rfl) (hK _ _ ?_);clear hK K;refine YD (by kernel_rfl) ?_ _;have tS:=Y6 Z wr.heap.size #[.int .i64 3,.int .i64 x.s.T,.int .i64 x.s.R,.int .i64 x.I,.int .i64 0,.int .i64 0,.int .i64 0,.string ⟨#[]⟩,.bool false,.slice none 0 0,.int .i64 0,.int .i64 0,.int .i64 0,.int .i64 D.s.T,.int .i64 D.s.R,.int .i64 D.I,.string E,.slice none 0 0];have an:=aX.o;have aC:=Ki (show Ir x X bs bb N s E a1 wr Q (.pointer (some ⟨wr.heap.size,0,none⟩)) (Z.setRow wr.heap.size #[.int .i64 3,.int .i64 x.s.T,.int .i64 x.s.R,.int .i64 x.I,.int .i64 0,.int .i64 0,.int .i64 0,.string ⟨#[]⟩,.bool false,.slice none 0 0,.int .i64 0,.int .i64 0,.int .i64 0,.int .i64 D.s.T,.int .i64 D.s.R,.int .i64 D.I,.string E,.slice none 0 0]) from⟨wr.heap.size,rfl,by unfold XR Qp;rw[ap.o];exact X7 Z wr.heap.size _ _ 72 _ al,(Q3 _),(aI).touch tS (by omega) (by omega) (by omega),QY a9 tS (by omega),((Below.touch k2 (λb=>b=X)).trans ad (λ_ _ h=>h)).trans tS (λy hy e=>by omega)⟩);go_wp2;go_meet;case rel=>exact aC.o
   case rest=>
    obtain⟨b7,rfl,aH,c7,aj,af,ao⟩:=hcut
    have aS:=Ki (bw.o.touch2 ao (λr hr k J e=>by
     have U:=a0.o;have I:=O.o.size;simp only[QI,V3,JD] at hr;rcases hr with rfl|rfl;·have e2:j.heap.size=k:=(by simpa [Value.ownBlock,X5] using J);omega
     have e2:j.heap.size+1=k:=(by simpa [Value.ownBlock,ZE] using J)
     omega))
    have b5:=Ki ao.size;have c5:=Ki (show b7<wc.heap.size from(Q5.1 aH).1);have bA:=Ki (show wc.heap[b7]?=some (.cells #[.int .i64 3,.int .i64 x.s.T,.int .i64 x.s.R,.int .i64 x.I,.int .i64 0,.int .i64 0,.int .i64 0,.string ⟨#[]⟩,.bool false,.slice none 0 0,.int .i64 0,.int .i64 0,.int .i64 0,.int .i64 D.s.T,.int .i64 D.s.R,.int .i64 D.I,.string E,.slice none 0 0] 72 (0,0)) from by rw[aH];unfold XR Qp;rw[ap.o];rfl);clear aH;have ar:=Ki (show wc.ownsRow w.heap.size 72 18 (.slice (some ⟨j.heap.size,0,none⟩) 0 0) 0 [] from aS.o.own (X5 (.slice (some ⟨j.heap.size,0,none⟩) 0 0) []) (by simp));have bU:=Ki (Zz (cs:=[.int .i64 3,.int .i64 x.s.T,.int .i64 x.s.R,.int .i64 x.I,.int .i64 0,.int .i64 0,.int .i64 0,.string ⟨#[]⟩,.bool false,.slice none 0 0,.int .i64 0,.int .i64 0,.int .i64 0,.int .i64 D.s.T,.int .i64 D.s.R,.int .i64 D.I,.string E,.slice none 0 0]) bA.o);go_upto_region 9 with(fail)
    go_wp2_with (first|((with_reducible refine Ql 72 ?_);refine QA rfl 72 _ rfl _ _ _ rfl bU.o (by kernel_rfl) (Z6 _) ?_)|(at_builtin;refine KY _ rfl _ _ 29 rfl w.heap.size 72 i0 _ 18 192 Tryz.underlying29 hi z0 z1 z2 rfl (by decide) _ 0 [] rfl (ar.o.alloc _) ⟨wc.heap.size,0,none⟩ 1 1 [.int .i64 3,.int .i64 x.s.T,.int .i64 x.s.R,.int .i64 x.I,.int .i64 0,.int .i64 0,.int .i64 0,.string ⟨#[]⟩,.bool false,.slice none 0 0,.int .i64 0,.int .i64 0,.int .i64 0,.int .i64 D.s.T,.int .i64 D.s.R,.int .i64 D.I,.string E,.slice none 0 0] rfl rfl (Zd wc [.int .i64 3,.int .i64 x.s.T,.int .i64 x.s.R,.int .i64 x.I,.int .i64 0,.int .i64 0,.int .i64 0,.string ⟨#[]⟩,.bool false,.slice none 0 0,.int .i64 0,.int .i64 0,.int .i64 0,.int .i64 D.s.T,.int .i64 D.s.R,.int .i64 D.I,.string E,.slice none 0 0] 72) (Ip (XR x D E a1)) (by unfold maxLen;omega) (by omega) (by have:=ar.o.alloc (.cells #[] 72);have U:=b5.o;have I:=a6.o.size;simp;omega) ?_));intro v8 W8 a4 a2 _ a8;have b9:=(Below.touch a6.o (λb=>b=X)).trans ao (λ_ _ h=>h);have aF:=Ki ((b9.alloc _).grown a2 (λk J hl=>by have I:=O.o.size;have e2:j.heap.size=k:=(by simpa [Value.ownBlock] using J);omega));have aE:=Ki ((((Below.touch az.o (λb=>b=X)).trans ao (λ_ _ h=>h)).alloc _).grown a2 (λk J hl=>by have e2:j.heap.size=k:=(by simpa [Value.ownBlock] using J);omega));have t8:=((Qd.refl (λk=>k=j.heap.size) wc).alloc _).grown a2 (λk J hl=>by have e2:j.heap.size=k:=(by simpa [Value.ownBlock] using J);omega)
    have bD:=Ki (aj.touch t8 (by have U:=a0.o;have I:=O.o.size;omega) (by have U:=a0.o;have I:=O.o.size;omega) (by have U:=a0.o;have I:=O.o.size;omega));have bR:=Ki (QY af t8 (by have:=aB.o;omega));have bc:Zr W8 w.heap.size (λb=>b<j.heap.size) ([X5 (.slice (some ⟨j.heap.size,0,none⟩) 0 0) [],ZE (.slice (some ⟨j.heap.size+1,0,none⟩) 0 0) []].set 0 ⟨72,18,v8,1,Qp (XR x D E a1)⟩):=(aS.o.below ((Qc _ wc).alloc (Q3 _) _)).put2 (i:=0) (r:=X5 (.slice (some ⟨j.heap.size,0,none⟩) 0 0) []) rfl a4 a2 (a8.elim (λh=>.inl h) (λh=>.inr (by rw[Qy];exact h))) (λb hb=>by have I:=a6.o.size;have h3:=b5.o;have h4:=az.o.size;rw[Qy];omega);have e8:X5 v8 [XR x D E a1]=⟨72,18,v8,1,Qp (XR x D E a1)⟩:=(by unfold X5;rw[Xf];rfl);have aT:=Ki (show Zr W8 w.heap.size (λb=>b<j.heap.size) [X5 v8 [XR x D E a1],ZE (.slice (some ⟨j.heap.size+1,0,none⟩) 0 0) []] from by rw[e8];exact bc);obtain⟨A8,c8,rfl,_,_⟩:=(Rd.of_own a4).form;obtain⟨p1,p2⟩:=aZ.o W8 aE.o;rw[<-bB.o] at p2;obtain⟨B8,bk⟩:=bI.o W8 aF.o;have b3:=Ki bk;have c6:ids.length<=c:=(by obtain⟨_,_,e,h,_⟩:=b3.o.form;cases e;exact h);clear a4 a2 a8 bc e8 b9 t8 aj af ao bk;have bH:=Ki (show W8.ownsRow w.heap.size 60 3 (.slice (some ⟨j.heap.size+1,0,none⟩) 0 0) 0 [] from aT.o.own (ZE (.slice (some ⟨j.heap.size+1,0,none⟩) 0 0) []) (by simp));have bN:=Ki aF.o.size
    go_wp2_with (at_builtin;refine KE rfl _ _ 66 rfl w.heap.size 60 j0 _ 3 24 V0 hj y0 y1 y2 rfl (by decide) _ 0 [] rfl bH.o _ B8 ids.length _ rfl b3.o (Kn Vb _) (by unfold maxLen;omega) (by omega) bN.o ?_);intro v9 Z a4 a2 a8;have bP:=Ki (aF.o.grown a2 (λk J hl=>by have I:=O.o.size;have e2:j.heap.size+1=k:=(by simpa [Value.ownBlock] using J);omega));have t9:=(Qd.refl (λk=>k=j.heap.size+1) W8).grown a2 (λk J hl=>by have e2:j.heap.size+1=k:=(by simpa [Value.ownBlock] using J);omega);have bJ:=Ki (Q9 aE.o.size t9.size);have bE:=Ki (bD.o.touch t9 (by have U:=a0.o;have I:=O.o.size;omega) (by have U:=a0.o;have I:=O.o.size;omega) (by have U:=a0.o;have I:=O.o.size;omega));have bS:=Ki (QY bR.o t9 (by have:=aB.o;omega));have bv:=Ki (show Zr Z w.heap.size (λb=>b<j.heap.size) [X5 (.slice A8 1 c8) [XR x D E a1],ZE v9 ids] from aT.o.put2 (i:=1) (r:=ZE (.slice (some ⟨j.heap.size+1,0,none⟩) 0 0) []) rfl a4 a2 a8 (λb hb=>by have I:=aE.o.size;omega));obtain⟨Y,c9,rfl,_,_⟩:=(Rd.of_own a4).form;clear a4 a2 a8 t9;go_wp2;go_roundw;case rel=>exact .inr ⟨by go_num,A8,c8,Y,c9,rfl,rfl,by rw[ap.o];exact bv.o,bE.o,bS.o,bP.o,bJ.o⟩
    case measure=>simp[intOf]
  have aU:=Ki hF;have bF:=Ki aj;have bT:=Ki hx;have bQ:=Ki ht;have b4:=Ki bl;have bz:=Ki (show Calls Tryz.prog 42 #[.slice Y ids.length c9,.func (.func 43) #[] #[]] wr _ from Q1X ids (.slice Y ids.length c9) w.heap.size wr (hF.own (ZE (.slice Y ids.length c9) ids) (by simp)) (by omega));clear hF aj hx ht bl;go_wp2_with fail;refine bz.o.mono ?_;rintro e4 W4 ⟨rfl,G,hp,hs,ho,aw⟩;have aV:=Ki (show G.Perm ids/\G.Pairwise (λa b=>0<=b.cmp a) from⟨hp,hs⟩);have be:G.length=ids.length:=hp.length_eq;have aN:∀k,(Value.slice Y ids.length c9).ownBlock=some k->¬k<j.heap.size:=λk J=>aU.o.free (ZE (.slice Y ids.length c9) ids) (by simp) k J;have ai:=Ki (show Zr W4 w.heap.size (λb=>b<j.heap.size) [X5 (.slice A8 1 c8) [XR x (Yc s N E.size) E a1],ZE (.slice Y ids.length c9) G] from aU.o.put2 (i:=1) (r:=ZE (.slice Y ids.length c9) ids) rfl ho aw (.inl rfl) (λb hb=>Z1 hb b4.o));have t4:=(Qd.refl (λk=>¬k<j.heap.size) wr).grown aw (λk J _=>aN k J);have bC:=Ki (bF.o.touch t4 (by have U:=a0.o;have I:=O.o.size;omega) (by have U:=a0.o;have I:=O.o.size;omega) (by have U:=a0.o;have I:=O.o.size;omega));have aG:=Ki (QY bT.o t4 (by have:=aB.o;omega));have b6:=Ki (bQ.o.grown aw (λk J hl=>absurd (Z1 hl O.o.size) (aN k J)));have bK:=Ki (Q9 b4.o t4.size);have c0:=Ki be;have x0:W4.cell? ⟨Q,0,none⟩=some (.int .i64 x.s.T):=cell_of_row W4 _ 0 _ _ _ aG.o;have x1:W4.cell? ⟨Q,1,none⟩=some (.int .i64 x.s.R):=cell_of_row W4 _ 1 _ _ _ aG.o
  have x2:W4.cell? ⟨Q,2,none⟩=some (.int .i64 x.I):=cell_of_row W4 _ 2 _ _ _ aG.o;have cb:(0:Int)<(ids.length:Int):=(by have:=bG.o trivial;omega);obtain⟨a5,aO⟩:∃o,XR x (Yc s N E.size) E a1=o:=⟨_,rfl⟩;have aW:=Ki aO;rw[aO] at ai;have ar:=Ki (show W4.ownsRow w.heap.size 72 18 (.slice A8 1 c8) 1 (Qp a5) from by have:=ai.o.own (X5 (.slice A8 1 c8) [a5]) (by simp);rwa [show X5 (.slice A8 1 c8) [a5]=⟨72,18,.slice A8 1 c8,1,Qp a5⟩ from by unfold X5;rw[Xf];rfl] at this);have bM:=Ki b6.o.size;clear hp hs ho aw aN t4 be aO;go_wp2_with (at_builtin;refine KY _ rfl _ _ 29 rfl w.heap.size 72 i0 _ 18 192 Tryz.underlying29 hi z0 z1 z2 rfl (by decide) _ 1 (Qp a5) rfl (ar.o.alloc _) ⟨W4.heap.size,0,none⟩ 1 1 [.int .i64 4,.int .i64 x.s.T,.int .i64 x.s.R,.int .i64 x.I,.int .i64 0,.int .i64 0,.int .i64 0,.string ⟨#[]⟩,.bool false,.slice none 0 0,.int .i64 0,.int .i64 0,.int .i64 0,.int .i64 0,.int .i64 0,.int .i64 0,.string ⟨#[]⟩,.slice Y ids.length c9] rfl rfl (Zd W4 [.int .i64 4,.int .i64 x.s.T,.int .i64 x.s.R,.int .i64 x.I,.int .i64 0,.int .i64 0,.int .i64 0,.string ⟨#[]⟩,.bool false,.slice none 0 0,.int .i64 0,.int .i64 0,.int .i64 0,.int .i64 0,.int .i64 0,.int .i64 0,.string ⟨#[]⟩,.slice Y ids.length c9] 72) (Ip (J4 x ⟨Y,ids.length,c9⟩ G)) (by unfold maxLen;omega) (by omega) (by have U:=bM.o;simp;omega) ?_);intro v5 W5 a4 a2 _ a8
  have bO:=Ki ((b6.o.alloc (.cells #[.int .i64 4,.int .i64 x.s.T,.int .i64 x.s.R,.int .i64 x.I,.int .i64 0,.int .i64 0,.int .i64 0,.string ⟨#[]⟩,.bool false,.slice none 0 0,.int .i64 0,.int .i64 0,.int .i64 0,.int .i64 0,.int .i64 0,.int .i64 0,.string ⟨#[]⟩,.slice Y ids.length c9] 72)).grown a2 (λk J hl=>absurd (Z1 hl O.o.size) (ai.o.free (X5 (.slice A8 1 c8) [a5]) (by simp) k J)));have t5:=((Qd.refl (λk=>¬k<j.heap.size) W4).alloc _).grown a2 (λk J _=>ai.o.free (X5 (.slice A8 1 c8) [a5]) (by simp) k J);have aY:=bC.o.touch t5 (by have U:=a0.o;have I:=O.o.size;omega) (by have U:=a0.o;have I:=O.o.size;omega) (by have U:=a0.o;have I:=O.o.size;omega);have ba:Zr W5 w.heap.size (λb=>b<j.heap.size) ([X5 (.slice A8 1 c8) [a5],ZE (.slice Y ids.length c9) G].set 0 ⟨72,18,v5,2,Qp a5++Qp (J4 x ⟨Y,ids.length,c9⟩ G)⟩):=(ai.o.below ((Qc _ W4).alloc (Q3 _) _)).put2 (i:=0) (r:=X5 (.slice A8 1 c8) [a5]) rfl a4 a2 (a8.elim (λh=>.inl h) (λh=>.inr (by rw[Qy];exact h))) (λb hb=>by rw[Qy];have:=bK.o;omega);have aQ:W5.ownsRow w.heap.size 60 3 (.slice Y ids.length c9) G.length (G.flatMap Qe):=ba.own (ZE (.slice Y ids.length c9) G) (by simp)
  have HP:=Ki (show Iq x ids true X bs bb N s E a1 w (.returned v5) W5 from⟨v5,[a5,J4 x ⟨Y,ids.length,c9⟩ G],rfl,by rw[XA,Xf];exact a4,(λo ho=>by
   rcases QI.1 ho with rfl|ho;·rw[<-aW.o];exact⟨Rd.nil _ _ _,Rd.nil _ _ _⟩
   rw[Qw.1 ho];exact⟨Rd.nil _ _ _,Rd.of_own aQ⟩),(λh=>(by cases h)),(λ_=>⟨G,⟨Y,ids.length,c9⟩,by rw[aW.o],aV.o.1,aV.o.2.imp (λh=>by omega),aQ⟩),aY,bO.o⟩)
  clear a4 a2 a8 t5 ba aQ aY;go_wp2;go_ret;exact HP.o
inductive Xl(l:List Q1)(name:List UInt8):List QE->List (Id×List Id)->Prop
 |nil:Xl l name [] []
 |dir {I F it}:Xl l name I F->it.dir=true->Xl l name (I++[it]) F
 |miss {I F it E}:Xl l name I F->it.dir=false->Yt l it.nd E->Zh E≠name->Xl l name (I++[it]) F
 |hit {I F it E}:Xl l name I F->it.dir=false->Yt l it.nd E->Zh E=name->Xl l name (I++[it]) (F++[(it.nd,E.map El.id)])
inductive YR(s:Q4)(b:ByteArray)(hb:b.size<=4611686018427387903):List (Id×List Id)->List Qt->Prop
 |nil:YR s b hb [] []
 |snoc {F os x ids G ev}:YR s b hb F os->G.Perm ids->G.Pairwise (λa b=>¬b.cmp a<0)->YR s b hb (F++[(x,ids)]) (os++[XR x (Yc s F.length b.size) b hb,J4 x ev G])
theorem YR.len{s:Q4}{b:ByteArray}{hb:b.size<=4611686018427387903}{F:List (Id×List Id)}{os:List Qt}(h:YR s b hb F os):os.length=2*F.length:=by
 induction h with
 |nil=>rfl
 |snoc _ _ _ j=>rw[Qj,Qj,j];simp;omega
theorem Xl.le{l:List Q1}{D:List UInt8}{I:List QE}{F:List (Id×List Id)}(h:Xl l D I F):F.length<=I.length:=by
 induction h with
 |nil=>exact Q3 _
 |dir _ _ j=>rw[Qj];exact Q9 j (Nat.le_add_right _ _)
 |miss _ _ _ _ j=>rw[Qj];exact Q9 j (Nat.le_add_right _ _)
 |hit _ _ _ _ j=>rw[Qj,Qj];exact Nat.add_le_add_right j _
def N0(l:List Q1):Prop:=∀x E,Yt l x E->Zg (E.map (λe=>e.pc.data.toList))/\(∀p∈E.map (λe=>e.pc.data.toList),Jj p=true)/\(Zh E).length<=1000/\E.length<=2000
structure K5(w:World)(base:Nat)(o:Qt):Prop where
 d:o.dv=XQ/\o.dots=[]
 e:w.ownsRow base 60 3 o.ev.v o.els.length (o.els.flatMap Qe)
theorem K5.at_{w:World}{base:Nat}{o:Qt}(h:K5 w base o):XH w w o:=⟨by rw[h.d.1,h.d.2];exact Rd.nil _ _ _,Rd.of_own h.e⟩
theorem K5.kind{S:Nat->Prop}{w W:World}{base:Nat}{o:Qt}(h:K5 w base o)(t:Qd S w W)(E:∀k j D,S k->w.heap[k]?≠some (.cells j 60 D)):K5 W base o:=⟨h.d,Ul h.e t E⟩
def CI(l:List Q1)(s:Q4)(h:List UInt8)(b:ByteArray)(hb:b.size<=4611686018427387903)(w:World)(e:Ending)(w':World):Prop:=
 ∃(I:List QE) (F:List (Id×List Id)),YP l I/\Xl l h I F/\Below w w w' /\
  ((F=[]/\e=.returned (.tuple #[.slice none 0 0,(0:Int),(111:Int)])) \/
   (100<F.length/\e=.returned (.tuple #[.slice none 0 0,(0:Int),(2:Int)])) \/
   (F≠[]/\F.length<=100/\∃(v:Value)(os:List Qt),e=.returned (.tuple #[v,.int .i64 (F.length:Int),(0:Int)])/\YR s b hb F os /\
    w'.ownsRow w 72 18 v os.length (os.flatMap Qp)/\∀o∈os,K5 w' w o))
end
section
open Go Go.RowKit Go.Shelf
theorem Is:(Tryz.prog.info? 272).map (λi=>(i.zero,i.size,i.bytes))=some (some (.agg #[(0:Int),(0:Int),(0:Int),(0:Int)]),4,32):=by kernel_rfl
end
section
open Go Go.RowKit
theorem Q1Z:Je (λa b:Q4=>b.Lt a) where
 irrefl a:=YE.irrefl a
 trans a b c h k:=YE.trans c b a k h
 total a b:=by
  rcases YE.total a b with h|h|h;·exact .inr (.inr h)
  ·exact .inr (.inl h)
  exact .inl h
def GA(L:List Qm):Prop:=(L.map Qm.nm).Pairwise (λa b=>b.Lt a)
theorem Q20{P S:List Qm}{x:Qm}(h:GA (P++S))(J:∀g∈P++S,g.nm≠x.nm)(I:∀y∈S,y.nm.Lt x.nm)(E:∀z,P.getLast?=some z->¬z.nm.Lt x.nm):GA (P++x::S):=by
 unfold GA at *;rw[ZC] at h;rw[ZC,ZW];refine Er Q1Z h ?_ ?_ ?_;·intro hm;rw[<-ZC,QZ] at hm;obtain⟨g,j,e⟩:=hm;exact J g j e
 ·intro y O;obtain⟨g,j,rfl⟩:=QZ.1 O;exact I g j
 intro z D;rw[List.getLast?_map] at D;obtain⟨g,j,rfl⟩:=FY.1 D;exact E g j
def KR(L:List Qm)(s:Q4):Bool:=L.any (λg=>decide (g.nm=s))
theorem Q21{L:List Qm}{s:Q4}(h:KR L s=false):∀g∈L,g.nm≠s:=λg j e=>by have:=List.any_eq_false.1 h g j;simp[e] at this
theorem Q22{L:List Qm}{s:Q4}(h:KR L s=true):∃g∈L,g.nm=s:=by obtain⟨g,j,e⟩:=Ua.1 h;exact⟨g,j,by simpa using e⟩
theorem Q23{L:List Qm}{j:Nat}(h:j<L.length)(s:Q4):KR (L.take (j+1)) s=(KR (L.take j) s||decide (L[j].nm=s)):=by unfold KR;rw[QQ h,List.any_append];simp
def N1(l:List Qm)(w:World)(j i:Value)(wr:World):Prop:=
 ∃k:Nat,k<=l.length/\i=k/\∃L:List Qm,wr.ownsRow w 272 4 j L.length (L.flatMap Zj)/\GA L/\(∀h,h∈L↔Ya (l.take k) h)/\L.length<=k/\Below w w wr
def Q24(l:List Qm)(w:World)(e:Ending)(w':World):Prop:=
 ∃(v:Value)(L:List Qm),e=.returned v/\w'.ownsRow w 272 4 v L.length (L.flatMap Zj)/\GA L/\(∀h,h∈L↔Ya l h)/\L.length<=l.length/\Below w w w'
def Q25(L:List Qm)(s:Q4)(h:World)(had i:Value)(wr:World):Prop:=
 ∃j:Nat,j<=L.length/\i=j/\had=.bool (KR (L.take j) s)/\∃q,wr=h.drewN q
def Q26(L:List Qm)(x:Qm)(n:Nat)(w:World)(v:Value)(i:Value)(wr:World):Prop:=
 ∃P S,L=P++S/\i=.int .i64 (P.length:Nat)/\(∀y∈S,y.nm.Lt x.nm)/\wr.ownsRow w 272 4 v n ((P++x::S).flatMap Zj)/\Below w w wr
def EU(w:World)(g j:Nat)(y x:Qm):World:=
 ((((((((w.setCell (g,j*4+4) y.nm.T).setCell (g,j*4+4+1) y.nm.R).setCell (g,j*4+4+2) y.un.T).setCell (g,j*4+4+3) y.un.R).setCell (g,j*4) x.nm.T).setCell (g,j*4+1) x.nm.R).setCell (g,j*4+2) x.un.T).setCell (g,j*4+3) x.un.R).drew
theorem N2(w:World)(g j:Nat)(y x:Qm):EU w g j y x=((w.setCells g (j*4+4) (Zj y)).setCells g (j*4) (Zj x)).drew:=rfl
theorem Q27{w:World}{base:Nat}{n g cap j:Nat}{P S:List Qm}{y x:Qm}(D:P.length=j)(h:w.ownsRow base 272 4 (.slice (g,0) n cap) n ((P++y::x::S).flatMap Zj))(E:0<n):(EU w g j y x).ownsRow base 272 4 (.slice (g,0) n cap) n ((P++x::y::S).flatMap Zj):=by have:=F5 (enc:=Zj) (k:=4) (λ_=>rfl) h E;rw[D] at this;rw[N2];exact ZY this
theorem Q28{B:Nat}{a w:World}(h:Below B a w){g:Nat}(D:B<=g)(j:Nat)(y x:Qm):Below B a (EU w g j y x):=by rw[N2];exact(Jd (Jd h D _ _) D _ _).drew
theorem N3{l:List Qm}{k n:Nat}{w wr:World}{v:Value}{L P S:List Qm}{x:Qm}(W:k<l.length)(Z:∀h,Ya (l.take (k+1)) h↔Ya (l.take k) h\/h=x/\∀g∈l.take k,g.nm≠x.nm)(J:GA L)(D:∀h,h∈L↔Ya (l.take k) h)(hL:L.length<=k)(X:L.length+1=n)(E:∀g∈l.take k,g.nm≠x.nm)(j:L=P++S)(O:∀y∈S,y.nm.Lt x.nm)(I:∀z,P.getLast?=some z->¬z.nm.Lt x.nm)(Y:wr.ownsRow w 272 4 v n ((P++x::S).flatMap Zj))(hb:Below w w wr):N1 l w v (.int .i64 ((k:Int)+1)) wr:=by
 have U:(P++x::S).length=n:=by rw[<-X,j];simp;omega
 refine⟨k+1,W,by rfl,P++x::S,by rw[U];exact Y,?_,λy=>?_,by omega,hb⟩;·refine Q20 (j▸J) (λg Q=>?_) O I;exact E g (Fb ((D g).1 (j▸Q)))
 rw[DP,Z y,<-j,D y];constructor
 ·rintro(h|h);·exact .inr ⟨h,E⟩
  exact .inl h
 rintro(h|⟨h,_⟩);·exact .inr h
 exact .inl h
theorem Q29(l:List Qm)(A:Option Addr)(n c B:Nat)(w:World)(hR:Rd w B 4 (.slice A n c) n (l.flatMap Zj))(hB:B<=w)(hn:n<=100000):Calls Tryz.prog 158 #[.slice A n c] w (Q24 l w):=by
 obtain rfl:=QL Zj 4 (λ_=>rfl) (by decide) hR.1;have HR:=Ki hR;clear hR;obtain⟨i0,hi,aL,aM,aN⟩:=Zc Is;go_enter Tryz.func158,Tryz.ntmps158;go_wp2;go_loopw [3,4] (λaO i wr=>N1 l w aO i wr) (λ_ i _=>l.length-(intOf i).toNat);case atStart=>exact⟨0,Qh _,rfl,[],J8 _ _ _ _,List.Pairwise.nil,λh=>by simp[Ya],Q3 _,Qc _ _⟩
 case round=>
  obtain⟨k,hk,rfl,L,hO,hS,hM,hL,hb⟩:=hrel;obtain⟨Av,cv,rfl,aR,aE⟩:=(Rd.of_own hO).form;have HO:=Ki hO;have HS:=Ki hS;have Y:=Ki hM;clear hO hS hM;obtain⟨D,rfl⟩:∃D:World,D=wr:=⟨_,rfl⟩;by_cases ad:k<l.length
  ·obtain⟨b,o,rfl,aP,av⟩:=Qr Zj 4 (λ_=>rfl) (by decide) HR.o ad;have aD:b<w:=(by omega);have a4:∀j u,(Zj l[k])[j]?=some u->D.cell? ⟨b,o+k*4+j,none⟩=some u:=λj u hu=>(hb.cell (p:=⟨b,o+k*4+j,none⟩) aD).trans (av j u hu);have ac:=DV (l.take k) l[k];rw[<-QQ ad] at ac;obtain⟨x,hx⟩:∃x,l[k]=x:=⟨_,rfl⟩;rw[hx] at a4 ac;have af:=Ki ac;clear hx ac;have d0:D.cell? ⟨b,o+k*4,none⟩=some (.int .i64 x.nm.T):=a4 0 _ rfl;have d1:D.cell? ⟨b,o+k*4+1,none⟩=some (.int .i64 x.nm.R):=a4 1 _ rfl;have d2:D.cell? ⟨b,o+k*4+2,none⟩=some (.int .i64 x.un.T):=a4 2 _ rfl;have d3:D.cell? ⟨b,o+k*4+3,none⟩=some (.int .i64 x.un.R):=a4 3 _ rfl;clear av a4;have i1:(0:Int)<=(k:Int):=(by omega);have i2:(k:Int)<(l.length:Int):=(by omega);go_wp2;go_loopw [5,6] (λhad i wr=>Q25 L x.nm D had i wr) (λ_ i _=>L.length-(intOf i).toNat);case atStart=>exact⟨0,Qh _,rfl,rfl,0,rfl⟩
   case round=>
    obtain⟨j,U,rfl,rfl,q,rfl⟩:=hrel;by_cases ak:j<L.length
    ·obtain⟨g,og,rfl,aQ,aj⟩:=Qr Zj 4 (λ_=>rfl) (by decide) (Rd.of_own HO.o) ak;have e0:D.cell? ⟨g,og+j*4,none⟩=some (.int .i64 L[j].nm.T):=aj 0 _ rfl;have e1:D.cell? ⟨g,og+j*4+1,none⟩=some (.int .i64 L[j].nm.R):=aj 1 _ rfl;have hE:=F3 L[j].nm x.nm;have hN:=Q23 ak x.nm;obtain⟨y,hy⟩:∃y,L[j]=y:=⟨_,rfl⟩;rw[hy] at e0 e1 hE hN;have HN:=Ki hN;have j1:(0:Int)<=(j:Int):=(by omega);have j2:(j:Int)<(L.length:Int):=(by omega);have hq:=GZ;have aS:=Kh;clear aj hy hN;rcases hh:KR (L.take j) x.nm with _|_
     ·rw[hh] at HN;obtain⟨bb,au⟩:∃bb,decide (y.nm=x.nm)=bb:=⟨_,rfl⟩;rw[au] at hE HN;clear hh au;go_wp2;go_quiet (fail);go_wp2;go_roundw;case rel=>exact⟨j+1,by omega,by go_num,by rw[HN.o];simp,q+nq,rfl⟩
      case measure=>simp[intOf];omega
     rw[hh] at HN;clear hh;go_wp2;go_quiet (fail);go_wp2;go_roundw;case rel=>exact⟨j+1,by omega,by go_num,by rw[HN.o];simp,q+nq,rfl⟩
     case measure=>simp[intOf];omega
    obtain rfl:j=L.length:=by omega
    rw[X6];have a5:Below w w (D.drewN q):=hb.trans (((Q0.refl D).drewN q).below.mono hb.size);have aa:=Ki (QB HO.o ((Q0.refl D).drewN q).below);have q0:(D.drewN q).cell? (b,o+k*4)=x.nm.T:=d0;have q1:(D.drewN q).cell? (b,o+k*4+1)=x.nm.R:=d1;have q2:(D.drewN q).cell? (b,o+k*4+2)=x.un.T:=d2;have q3:(D.drewN q).cell? (b,o+k*4+3)=x.un.R:=d3;generalize D.drewN q=W3 at *;clear d0 d1 d2 d3 hb HO aE;rcases hh:KR L x.nm with _|_
    ·have a8:=Ki (show ∀g∈l.take k,g.nm≠x.nm from λg hg e=>by
      obtain⟨h,hf,he⟩:=SA hg
      exact Q21 hh h ((Y.o h).2 hf) (he.trans e))
     clear hh;go_wp2_with (at_builtin;refine Yf _ rfl _ _ 222 rfl w 272 i0 _ 4 32 Tryz.underlying222 hi aL aM aN rfl (by decide) _ _ _ rfl (aa.o.alloc _) ⟨W3.heap.size,0,none⟩ 1 1 (Zj x) rfl rfl ?qc2 (EF x) ?qc4 ?qc5 ?qc6 ?_);case qc2=>exact Zd W3 (Zj x) 272
     case qc4=>unfold maxLen;omega
     case qc5=>omega
     case qc6=>have:=a5.size;simp;omega
     intro v' W4 aA ay _;obtain⟨g,cap,rfl,aG,aH,aI,am⟩:=Ui aA
     have ar:Below w w W4:=(a5.alloc a5.size _).grown ay (by have:=a5.size;simp;omega) (λj U=>by
      rcases (aa.o).lt j U with⟨h1,_⟩
      exact h1)
     clear aA;obtain⟨X,al⟩:=ex (L.length+1);have aT:L.length<X:=(by omega);have aU:X<=k+1:=(by omega);rw[al] at am aH |-;have ag:=Ki al;have ao:=Ki am;unfold maxLen at aI;clear ay am aa a5 al q0 q1 q2 q3;go_wp2;go_loopw [7] (λi wr=>Q26 L x X w (.slice (g,0) X cap) i wr) (λi _=>(intOf i).toNat);case atStart=>exact⟨L,[],by simp,by have:=ag.o;congr 1;omega,by simp,ao.o,ar⟩
     case round=>
      obtain⟨P,S,ap,rfl,aq,ai,O⟩:=hrel;have a7:=Ki ap;have ah:=Ki aq;have Z:=Ki ai;have Q:=(ai.lt g rfl).2;clear ap aq ai ar ao;rcases Ky P with rfl|⟨J,y,rfl⟩;·go_wp2;go_quiet (fail);go_wp2;exact⟨N3 ad af.o HS.o Y.o hL ag.o a8.o a7.o ah.o (by simp) (QB Z.o ((Q0.refl wr).drewN nq).below) (O.trans (((Q0.refl wr).drewN nq).below.mono O.size)),by simp[intOf];omega⟩
      obtain⟨j,U⟩:=ex (J.length);have az:((J++[y]).length:Int)=(j:Int)+1:=(by rw[Qj,U];rfl);rw[az];have hM:(J++[y])++x::S=J++y::x::S:=(by simp);rw[hM] at Z;have ak:j+1<X:=(by have:=Xz List.length a7.o;simp at this;omega);have cy:∀r u,(Zj y)[r]?=some u->wr.cell? (g,j*4+r)=some u:=λr u hu=>(X8 Z.o _ u (U▸YJ Zj 4 (λ_=>rfl) J (x::S) y r u hu)).1
      have cx:∀r u,(Zj x)[r]?=some u->wr.cell? (g,(j+1)*4+r)=some u:=λr u hu=>(X8 Z.o _ u (by
       have:=YJ Zj 4 (λ_=>rfl) (J++[y]) S x r u hu;rw[Qj,U] at this
       simpa using this)).1
      have aJ:(j+1)*4=j*4+4:=(by omega);rw[aJ] at cx;have HJ:=Ki U;have HC:=Ki (λw=>G9 y.nm x.nm w);unfold QU at HC;have a0:∀n os,(Sort.grow (wr.drewN n) os).cell? (g,j*4)=y.nm.T:=λn os=>QG Q (cy 0 _ rfl) n os;have a1:∀n os,(Sort.grow (wr.drewN n) os).cell? (g,j*4+1)=y.nm.R:=λn os=>QG Q (cy 1 _ rfl) n os;have a2:∀n os,(Sort.grow (wr.drewN n) os).cell? (g,j*4+2)=y.un.T:=λn os=>QG Q (cy 2 _ rfl) n os;have a3:∀n os,(Sort.grow (wr.drewN n) os).cell? (g,j*4+3)=y.un.R:=λn os=>QG Q (cy 3 _ rfl) n os;have b0:∀n os,(Sort.grow (wr.drewN n) os).cell? (g,j*4+4)=x.nm.T:=λn os=>QG Q (cx 0 _ rfl) n os;have b1:∀n os,(Sort.grow (wr.drewN n) os).cell? (g,j*4+5)=x.nm.R:=λn os=>QG Q (cx 1 _ rfl) n os;have b2:∀n os,(Sort.grow (wr.drewN n) os).cell? (g,j*4+6)=x.un.T:=λn os=>QG Q (cx 2 _ rfl) n os;have b3:∀n os,(Sort.grow (wr.drewN n) os).cell? (g,j*4+7)=x.un.R:=λn os=>QG Q (cx 3 _ rfl) n os;have i3:(0:Int)<=(j:Int)+1:=(by omega);have i4:(j:Int)+1<(X:Int):=(by omega);have i5:(0:Int)<=(j:Int):=(by omega);have i6:(j:Int)<(X:Int):=(by omega);have hw:IntKind.i64.wrap (j:Int)=j:=QO _ (by omega);clear U az hM cx cy;rcases hc:y.nm.lt x.nm with _|_
      ·rw[hc] at HC;have ae:=Ki hc;clear hc;go_wp2;refine QK (by kernel_rfl) (by kernel_rfl) ?_;repeat (quiet_step ((go_at_call 120;exact Qk (HC.o _))))
       refine QN ?_;rintro a6 ⟨⟨nq,I⟩,E⟩;have W:Q0 wr a6:=⟨nq,I,E⟩;have ab:=O.trans (W.below.mono O.size);have a9:=Ki (QB Z.o W.below);clear E W O a0 a1 a2 a3 b0 b1 b2 b3;go_wp2
       exact⟨N3 (P:=J++[y]) (S:=S) ad af.o HS.o Y.o hL ag.o a8.o a7.o ah.o (by
        intro z hz;have:y=z:=(by simpa using hz);subst this;intro h;have h2:=(Kk _ _).2 h;rw[ae.o] at h2
        cases h2) (by simpa using a9.o) ab,by simp[intOf];omega⟩
      rw[hc] at HC;have ae:=Ki hc;clear hc;go_wp2;refine QK (by kernel_rfl) (by kernel_rfl) ?_;repeat (quiet_step ((go_at_call 120;exact Qk (HC.o _))))
      refine QN ?_;rintro a6 ⟨⟨nq,I⟩,E⟩;have W:Q0 wr a6:=⟨nq,I,E⟩;have ab:=O.trans (W.below.mono O.size);have an:=QB Z.o W.below;have A0:=E▸a0 nq I;have A1:=E▸a1 nq I;have A2:=E▸a2 nq I;have A3:=E▸a3 nq I;have B0:=E▸b0 nq I;have B1:=E▸b1 nq I;have B2:=E▸b2 nq I;have B3:=E▸b3 nq I;have aF:=YY an (by omega);have a9:=Ki an;clear E W O an a0 a1 a2 a3 b0 b1 b2 b3;go_wp2;go_region;have aC:=Ki (Q27 HJ.o a9.o (by omega));have aB:=Ki (Q28 ab aG j y x);change Exit.inBlock _ _ _ _ (EU a6 g j y x);generalize EU a6 g j y x=W5 at *;clear A0 A1 A2 A3 B0 B1 B2 B3 aF a9 ab;go_wp2;go_roundw
      case rel=>
       refine⟨J,y::S,?_,?_,?_,?_,?_⟩;·rw[a7.o];simp
       ·rw[HJ.o]
       ·intro z hz;rcases QI.1 hz with rfl|hz;·exact(Kk _ _).1 ae.o
        exact ah.o z hz
       ·exact aC.o
       exact aB.o
      case measure=>simp[intOf]
    obtain⟨g0,ax,aw⟩:=Q22 hh;have a8:=Kj (¬∀g∈l.take k,g.nm≠x.nm) (λh=>h g0 (Fb ((Y.o g0).1 ax)) aw);clear hh ax aw;go_wp2;go_roundw
    case rel=>exact⟨k+1,by omega,by go_num,L,aa.o,HS.o,λh=>by
     rw[af.o h,Y.o h]
     exact⟨.inl,λh1=>h1.elim id λh2=>absurd h2.2 a8.o⟩,by omega,a5⟩
    case measure=>simp[intOf];omega
  have aK:k=l.length:=(by omega);subst aK;go_wp2;go_ret;exact⟨_,L,rfl,HO.o,HS.o,λh=>by rw[Y.o h,X6],hL,hb⟩
theorem Q2a{w:World}{base D:Nat}{e:TypeId}{K n:Nat}{v:Value}{xs:List Value}(h:w.ownsRow base e K v n xs)(hb:D<=base):w.ownsRow D e K v n xs:=by
 refine⟨h.1,?_⟩;rcases h.2 with j|⟨g,cap,E,I,j,J⟩;·exact .inl j
 exact .inr ⟨g,cap,E,I,Q9 hb j,J⟩
def Q2b(l:List Qm)(w:World)(M:Nat)(e:Ending)(w':World):Prop:=
 ∃(v:Value)(L:List Q4),e=.returned v/\w'.ownsRow w 27 2 v L.length (L.flatMap Qv)/\Jx l L/\L.length<=M/\Below w w w'
def GB(G:List Qm)(s:Q4):Bool:=G.any (λg=>decide (g.un=s))
theorem Q2c{L:List Qm}{j:Nat}(h:j<L.length)(s:Q4):GB (L.take (j+1)) s=(GB (L.take j) s||decide (L[j].un=s)):=by unfold GB;rw[QQ h,List.any_append];simp
def Q2d(S:List Qm)(h:World)(j i:Value)(wr:World):Prop:=
 ∃k:Nat,k<=S.length/\i=k/\wr.ownsRow h 272 4 j (ZL [] (S.take k)).length ((ZL [] (S.take k)).flatMap Zj)/\Below h h wr
def Q2e(L:List Qm)(s:Q4)(D:World)(h i:Value)(wr:World):Prop:=
 ∃j:Nat,j<=L.length/\i=j/\h=.bool (GB (L.take j) s)/\∃q,wr=D.drewN q
def Q2f(G:List Qm)(h:World)(j i:Value)(wr:World):Prop:=
 ∃(k:Nat)(v:Int),k<=G.length/\i=v/\v=(k:Int)-1/\wr.ownsRow h 27 2 j (G.length-k) ((((G.drop k).map Qm.nm).reverse).flatMap Qv)/\Below h h wr
theorem N4(S:List Qm):(ZL [] S).length<=S.length:=by obtain⟨m,h,j⟩:=Ls [] S;rw[h];simpa using j.length_le
theorem Q2g{l S:List Qm}(h:GA S)(m:∀x,x∈S↔Ya l x):Jx l ((ZL [] S).map Qm.nm).reverse:=by
 refine⟨S.reverse,⟨?_,λx=>by rw[GK,m x]⟩,?_⟩;·rw[List.pairwise_reverse];exact UE.1 h
 unfold Gq;rw[Oc]
theorem Q2h(l:List Qm)(A:Option Addr)(n c B:Nat)(w:World)(hR:Rd w B 4 (.slice A n c) n (l.flatMap Zj))(hB:B<=w)(hn:n<=100000):Calls Tryz.prog 112 #[.slice A n c] w (Q2b l w l.length):=by
 obtain rfl:=QL Zj 4 (λ_=>rfl) (by decide) hR.1;have a8:=Ki (Q29 l A _ c B w hR hB hn);clear hR;obtain⟨i0,hi,aw,ax,ay⟩:=Zc Is;obtain⟨j0,gj,ar,au,av⟩:=Zc AK;go_enter Tryz.func112,Tryz.ntmps112;go_wp2_with fail;refine a8.o.mono ?_;rintro e U ⟨sv,S,rfl,D,hF,hM,hl,hb⟩;obtain⟨A1,c1,rfl,aC,al⟩:=(Rd.of_own D).form;have ah:=Ki (Rd.of_own D);have HF:=Ki hF;have HM:=Ki hM;have HB:=Ki hb;clear D hF hM hb a8 al;go_wp2;go_loopw [4,5] (λon i wr=>Q2d S U on i wr) (λ_ i _=>S.length-(intOf i).toNat);case atStart=>exact⟨0,Qh _,rfl,J8 _ _ _ _,Qc _ _⟩
 case round=>
  obtain⟨k,hk,rfl,D,hb⟩:=hrel;have ak:=Q9 (N4 (S.take k)) (by rw[Zi];exact Nat.min_le_left _ _);have Q:(a9:k<S.length)->ZL [] (S.take (k+1))=if GB (ZL [] (S.take k)) S[k].nm then ZL [] (S.take k) else ZL [] (S.take k)++[S[k]]:=λa9=>by rw[QQ a9,OT];rfl
  obtain⟨G,hG⟩:∃G,ZL [] (S.take k)=G:=⟨_,rfl⟩;rw[hG] at D ak Q;have HG:=Ki hG;clear hG;obtain⟨Av,cv,rfl,aB,am⟩:=(Rd.of_own D).form;have E:=Ki D;clear D am;obtain⟨h,rfl⟩:∃h:World,h=wr:=⟨_,rfl⟩;by_cases ae:k<S.length
  ·have Q:=Q ae;obtain⟨b,o,rfl,aj,ab⟩:=Qr Zj 4 (λ_=>rfl) (by decide) ah.o ae;have X:∀j u,(Zj S[k])[j]?=some u->h.cell? ⟨b,o+k*4+j,none⟩=some u:=λj u hu=>(hb.cell (p:=⟨b,o+k*4+j,none⟩) aj).trans (ab j u hu);obtain⟨x,hx⟩:∃x,S[k]=x:=⟨_,rfl⟩;rw[hx] at X Q;have a3:=Ki Q;clear hx Q;have d0:h.cell? ⟨b,o+k*4,none⟩=some (.int .i64 x.nm.T):=X 0 _ rfl;have d1:h.cell? ⟨b,o+k*4+1,none⟩=some (.int .i64 x.nm.R):=X 1 _ rfl;have d2:h.cell? ⟨b,o+k*4+2,none⟩=some (.int .i64 x.un.T):=X 2 _ rfl;have d3:h.cell? ⟨b,o+k*4+3,none⟩=some (.int .i64 x.un.R):=X 3 _ rfl;clear ab X;have i1:(0:Int)<=(k:Int):=(by omega);have i2:(k:Int)<(S.length:Int):=(by omega);go_wp2;go_loopw [6,7] (λaA i wr=>Q2e G x.nm h aA i wr) (λ_ i _=>G.length-(intOf i).toNat);case atStart=>exact⟨0,Qh _,rfl,rfl,0,rfl⟩
   case round=>
    obtain⟨j,O,rfl,rfl,q,rfl⟩:=hrel;by_cases ac:j<G.length
    ·obtain⟨g,og,rfl,a5,J⟩:=Qr Zj 4 (λ_=>rfl) (by decide) (Rd.of_own E.o) ac;have e0:h.cell? ⟨g,og+j*4+2,none⟩=some (.int .i64 G[j].un.T):=J 2 _ rfl;have e1:h.cell? ⟨g,og+j*4+3,none⟩=some (.int .i64 G[j].un.R):=J 3 _ rfl;have hE:=F3 G[j].un x.nm;have hN:=Q2c ac x.nm;obtain⟨y,hy⟩:∃y,G[j]=y:=⟨_,rfl⟩;rw[hy] at e0 e1 hE hN;have Y:=Ki hN;have j1:(0:Int)<=(j:Int):=(by omega);have j2:(j:Int)<(G.length:Int):=(by omega);have hq:=GZ;have aF:=Kh;clear J hy hN;rcases hh:GB (G.take j) x.nm with _|_
     ·rw[hh] at Y;obtain⟨bb,aa⟩:∃bb,decide (y.un=x.nm)=bb:=⟨_,rfl⟩;rw[aa] at hE Y;clear hh aa;go_wp2;go_quiet (fail);go_wp2;go_roundw;case rel=>exact⟨j+1,by omega,by go_num,by rw[Y.o];simp,q+nq,rfl⟩
      case measure=>simp[intOf];omega
     rw[hh] at Y;clear hh;go_wp2;go_quiet (fail);go_wp2;go_roundw;case rel=>exact⟨j+1,by omega,by go_num,by rw[Y.o];simp,q+nq,rfl⟩
     case measure=>simp[intOf];omega
    obtain rfl:j=G.length:=by omega
    rw[X6];have a0:Below U U (h.drewN q):=hb.trans (((Q0.refl h).drewN q).below.mono hb.size);have a6:=Ki (QB E.o ((Q0.refl h).drewN q).below);have q0:(h.drewN q).cell? (b,o+k*4)=x.nm.T:=d0;have q1:(h.drewN q).cell? (b,o+k*4+1)=x.nm.R:=d1;have q2:(h.drewN q).cell? (b,o+k*4+2)=x.un.T:=d2;have q3:(h.drewN q).cell? (b,o+k*4+3)=x.un.R:=d3;generalize h.drewN q=W3 at *;clear d0 d1 d2 d3 hb E;rcases hh:GB G x.nm with _|_
    ·rw[hh,Q6 (by simp)] at a3;clear hh;go_wp2_with (at_builtin;refine Yf _ rfl _ _ 222 rfl U 272 i0 _ 4 32 Tryz.underlying222 hi aw ax ay rfl (by decide) _ _ _ rfl (a6.o.alloc _) ⟨W3.heap.size,0,none⟩ 1 1 (Zj x) rfl rfl ?qc2 (EF x) ?qc4 ?qc5 ?qc6 ?_);case qc2=>exact Zd W3 (Zj x) 272
     case qc4=>unfold maxLen;omega
     case qc5=>omega
     case qc6=>have:=a0.size;simp;omega
     intro v' Z a2 a1 _;obtain⟨g,cap,rfl,aD,aE,ao,af⟩:=Ui a2
     have a7:Below U U Z:=(a0.alloc a0.size _).grown a1 (by have:=a0.size;simp;omega) (λj O=>by
      rcases (a6.o).lt j O with⟨W,_⟩
      exact W)
     have a4:=Kj (Z.ownsRow U 272 4 (.slice (g,0) (G.length+1) cap) (ZL [] (S.take (k+1))).length ((ZL [] (S.take (k+1))).flatMap Zj)) (by rw[a3.o];simpa using af);clear a2 a1 af ao;go_wp2;go_roundw;case rel=>exact⟨k+1,by omega,by go_num,a4.o,a7⟩
     case measure=>simp[intOf];omega
    rw[hh,Q7 rfl] at a3;clear hh;go_wp2;go_roundw;case rel=>exact⟨k+1,by omega,by go_num,by rw[a3.o];exact a6.o,a0⟩
    case measure=>simp[intOf];omega
  have ap:k=S.length:=(by omega);subst ap;have ag:=Ki (show ZL [] S=G by have:=HG.o;rwa [X6] at this);have ai:=Ki (Rd.of_own E.o);clear HG E Q;go_wp2;go_loopw [8,9] (λaz i wr=>Q2f G h az i wr) (λ_ i _=>(intOf i+1).toNat);case atStart=>exact⟨G.length,_,Q3 _,rfl,by go_num,by simpa using J8 _ _ _ _,Qc _ _⟩
  case round=>
   obtain⟨k,v,hk,rfl,hv,D,I⟩:=hrel;obtain⟨Aw,cw,rfl,aq,an⟩:=(Rd.of_own D).form;have E:=Ki D;clear D an;rcases k with _|j;·have aH:v<0:=(by omega);clear hv;go_wp2;go_ret;have W:=E.o;rw[List.drop_zero,Nat.sub_zero] at W;refine⟨_,((ZL [] S).map Qm.nm).reverse,rfl,?_,Q2g HF.o HM.o,by have:=N4 S;simp;omega,HB.o.trans ((hb.mono HB.o.size).trans (I.mono (Q9 HB.o.size hb.size)))⟩;rw[ag.o];have:=Q2a W (Q9 HB.o.size hb.size);simpa using this
   obtain rfl:v=(j:Int):=by omega
   clear hv;have O:j<G.length:=(by omega);obtain⟨g,og,rfl,a5,J⟩:=Qr Zj 4 (λ_=>rfl) (by decide) ai.o O;have hd:(((G.drop j).map Qm.nm).reverse)=(((G.drop (j+1)).map Qm.nm).reverse)++[G[j].nm]:=(by rw[VL O,ZW,B0]);have e0:=(I.cell (p:=(g,og+j*4)) a5).trans (J 0 _ rfl);have e1:=(I.cell (p:=(g,og+j*4+1)) a5).trans (J 1 _ rfl);obtain⟨y,hy⟩:=ex (G[j]);rw[hy] at e0 e1 hd;have HD:=Ki hd;have ad:G.length-(j+1)+1=G.length-j:=(by omega);have HL:=Ki ad;obtain⟨m,hm⟩:=ex (G.length-(j+1));rw[hm] at E HL aq |-;have aG:m<=100000:=(by omega);have i1:(0:Int)<=(j:Int):=(by omega);have i2:(j:Int)<(G.length:Int):=(by omega);clear J hy hd ad hm;go_wp2_with (at_builtin;refine Yf _ rfl _ _ 70 rfl h 27 j0 _ 2 16 G1 gj ar au av rfl (by decide) _ _ _ rfl (E.o.alloc _) ⟨wr.heap.size,0,none⟩ 1 1 (Qv y.nm) rfl rfl ?qc2 (BT y.nm) ?qc4 ?qc5 ?qc6 ?_);case qc2=>exact Zd wr (Qv y.nm) 27
   case qc4=>unfold maxLen;omega
   case qc5=>omega
   case qc6=>have:=I.size;simp;omega
   intro v' Z a2 a1 _
   have a7:Below h h Z:=(I.alloc I.size _).grown a1 (by have:=I.size;simp;omega) (λj O=>by
    rcases (E.o).lt j O with⟨W,_⟩
    exact W)
   have a4:=Kj (Z.ownsRow h 27 2 v' (G.length-j) ((((G.drop j).map Qm.nm).reverse).flatMap Qv)) (by rw[HD.o,<-HL.o];simpa using a2);clear a2 a1;go_wp2;go_roundw;case rel=>exact⟨j,_,by omega,rfl,by go_num,a4.o,a7⟩
   case measure=>simp[intOf]
end
section
open Go Go.RowKit Go.Maps
def HdR(l:List Q1)(w:World)(v i:Value)(wr:World):Prop:=∃k:Nat,k<=l.length/\i=k/\wr.ownsRow w 272 4 v k (((l.take k).map Y4).flatMap Zj)/\Below w w wr
theorem Q2i(l:List Q1)(A:Option Addr)(n c B:Nat)(w:World)(U:Rd w B 7 (.slice A n c) n (l.flatMap Qg))(hB:B<=w)(hn:n<=100000):Calls Tryz.prog 113 #[.slice A n c] w λe w'=>(∃v,e=.returned v/\w'.ownsRow w 272 4 v (l.map Y4).length ((l.map Y4).flatMap Zj))/\Below w w w':=by
 obtain rfl:=QL Qg 7 (λ_=>rfl) (by decide) U.1;obtain⟨i0,hi,z0,z1,z2⟩:=Zc Is;have HR:=Ki (λa9 (W:Below w w a9)=>U.below' W hB);clear U;go_enter Tryz.func113,Tryz.ntmps113;go_wp2;go_loopw [3,4] (λv i wr=>HdR l w v i wr) (λ_ i _=>l.length-(intOf i).toNat);case atStart=>exact⟨0,Qh _,rfl,⟨rfl,.inl ⟨rfl,rfl⟩⟩,Qc _ _⟩
 case round=>
  rename World=>J
  obtain⟨k,hk,rfl,E,hb⟩:=hrel;obtain⟨Ao,co,rfl,_,_⟩:=(Rd.of_own E).form;have HO:=Ki E;have O:=Ki hb;by_cases X:k<l.length
  ·obtain⟨b,o,rfl,a1,a2⟩:=Qr Qg 7 (λ_=>rfl) (by decide) (HR.o _ hb) X;obtain⟨g,I⟩:=ex (l[k]);rw[I] at a2;have a8:=Ki (show(l.take (k+1)).map Y4=(l.take k).map Y4++[Y4 g] by rw[QQ X,I];simp);have ae:=Z1 a1 hB
   have Q:=Ki (λh (W:Below w w h)=>(show h.cell? (b,o+k*7)=g.s.T/\h.cell? (b,o+k*7+1)=g.s.R/\h.cell? (b,o+k*7+4)=g.un.T/\h.cell? (b,o+k*7+5)=g.un.R from by
    obtain⟨b2,o2,j,_,D⟩:=Qr Qg 7 (λ_=>rfl) (by decide) (HR.o _ W) X;injection j with j;injection j with j e3;subst j e3;rw[I] at D
    exact⟨D 0 _ rfl,D 1 _ rfl,D 4 _ rfl,D 5 _ rfl⟩))
   have af:(0:Int)<=(k:Int):=(by omega);have ag:(k:Int)<(l.length:Int):=(by omega);have a5:=Ki (hb.drew);have a0:=Ki (ZY E);have Y:=Ki (show Below w.heap.size w (J.alloc (.cells ([.int .i64 g.s.T,.int .i64 g.s.R,.int .i64 g.un.T,.int .i64 g.un.R]).toArray 272)).drew from(hb.alloc hb.size _).drew);clear a2 I E hb a1;go_upto_region 5 with fail
   go_region_held3 (λh=>h.cell? ⟨b,o+k*7,none⟩=some (.int .i64 g.s.T)/\h.cell? ⟨b,o+k*7+1,none⟩=some (.int .i64 g.s.R)/\h.cell? ⟨b,o+k*7+4,none⟩=some (.int .i64 g.un.T)/\h.cell? ⟨b,o+k*7+5,none⟩=some (.int .i64 g.un.R)) (first|exact Q.o _ a5.o|exact Q.o _ Y.o|exact Q.o _ Z.o|go_keep)
    (first
     |(refine Ja _ (by rfl) _ _ _ (by rfl) w 272 i0 _ 4 32 Tryz.underlying222 hi z0 z1 z2 rfl (by omega) _ k _ (by rfl) (a0.o.alloc _) ⟨J.heap.size,0,none⟩ 1 1 [.int .i64 g.s.T,.int .i64 g.s.R,.int .i64 g.un.T,.int .i64 g.un.R] (by rfl) (by rfl) (Zd J.drew [.int .i64 g.s.T,.int .i64 g.s.R,.int .i64 g.un.T,.int .i64 g.un.R] 272) (EF (Y4 g)) (by omega) (by unfold maxLen;omega) (by omega) (by have:=O.o.size;simp;omega) _ (by rfl) ?_;intro g cap WA a4 a3 aa ab;have Z:=Ki (Y.o.grown a3 (by have:=O.o.size;simp;omega) (λad hj=>(a0.o.lt ad hj).1))))
   all_goals
    have a7:=Ki a4;clear a4 a3 aa ab;go_wp2;go_roundw;case rel=>exact⟨k+1,by omega,by go_num,by rw[a8.o,Zb,Xf];exact a7.o,Z.o⟩
    case measure=>simp[intOf];omega
  have ac:k=l.length:=(by omega);subst ac;rw[X6] at HO;have a6:=Kj (J.ownsRow w 272 4 (.slice Ao l.length co) (l.map Y4).length ((l.map Y4).flatMap Zj)) (by rw[Xh];exact HO.o);clear E hb;go_wp2;go_ret;exact⟨⟨_,rfl,a6.o⟩,O.o⟩
end
end Go.Proofs.YtfpafikfjjckeaaGreatDoor
