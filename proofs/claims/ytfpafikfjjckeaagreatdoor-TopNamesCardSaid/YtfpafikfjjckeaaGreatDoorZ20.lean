import Derived.Test.YtfpafikfjjckeaaGreatDoorZ19
set_option maxRecDepth 100000
set_option maxHeartbeats 200000000
namespace Go.Proofs.YtfpafikfjjckeaaGreatDoor
section
open Go Go.RowKit Go.Maps
structure Uv(l:List Q1):Prop where
 n:l.length<=1000
 tx:∀g∈l,∀o∈g.ops,o.tx.size<=100
 el:∀g∈l,∀o∈g.ops,o.els.length<=100
 ds:∀g∈l,∀o∈g.ops,o.dots.length<=1000
 sum:QW l<=900
 nm:∀g∈l,∀o∈g.ops,o.name.size<=1000000
 made:∀g∈Qs l,∀o∈g.ops,o.k=0->YA o.node
theorem Q1o(s:Q4)(D:Bool)(k:Nat)(o:Qt)(S:VS):∀q∈(Z0 s D k o S).td,q∈S.td\/q=VB o:=λq j=>by
 unfold Z0 at j;dsimp only at j;rcases Qq.1 j with h|h;·exact .inl h
 split at h;·exact .inr (Qw.1 h)
 cases h
theorem Mv(s:Q4)(E:Bool):∀(l:List Qt)(k:Nat)(S:VS),∀q∈(X0 s E k l S).td,q∈S.td\/∃o∈l,q=VB o
 |[],_,_,q,h=>.inl h
 |o::l,k,S,q,h=>by
  rcases Mv s E l (k+1) _ q h with D|⟨I,D,j⟩
  ·rcases Q1o s E k o S q D with j|j;·exact .inl j
   exact .inr ⟨o,XT ..,j⟩
  exact .inr ⟨I,X2 _ D,j⟩
theorem Mw(s:Q4)(I:Bool):∀(l:List Qt)(k:Nat)(S:VS)(y:Id),((X0 s I k l S).fd y).isSome=true->(S.fd y).isSome=true\/∃o∈l,o.k=0/\o.node=y
 |[],_,_,y,h=>.inl h
 |o::l,k,S,y,h=>by
  rcases Mw s I l (k+1) _ y h with j|⟨O,j,J⟩
  ·unfold Z0 at j;dsimp only at j;by_cases D:o.k=0
   ·rw[Q7 D] at j;by_cases E:y=o.node;·exact .inr ⟨o,XT ..,D,E.symm⟩
    rw[Q6 E] at j;exact .inl j
   rw[Q6 D] at j;exact .inl j
  exact .inr ⟨O,X2 _ j,J⟩
theorem Mx(L:List Q4):∀(C:List Q1),∀q∈(Yr L C S0).td,∃g∈C,∃o∈g.ops,q=VB o:=by
 intro C
 induction C using JQ with
 |D=>intro q h;cases h
 |E C g O=>
  intro q h;rw[Gr] at h;rcases Mv _ _ _ _ _ q h with j|⟨o,j,E⟩;·obtain⟨D,I,J⟩:=O q j;exact⟨D,Qq.2 (.inl I),J⟩
  exact⟨g,by simp,o,j,E⟩
theorem Ig(L:List Q4):∀(C:List Q1)(y:Id),((Yr L C S0).fd y).isSome=true->∃g∈C,∃o∈g.ops,o.k=0/\o.node=y:=by
 intro C
 induction C using JQ with
 |D=>intro y h;cases h
 |E C g O=>
  intro y h;rw[Gr] at h;rcases Mw _ _ _ _ _ y h with j|⟨o,j,E⟩;·obtain⟨D,I,J⟩:=O y j;exact⟨D,Qq.2 (.inl I),J⟩
  exact⟨g,by simp,o,j,E⟩
def YP(l:List Q1)(I:List QE):Prop:=∃L,Jx ((Qs l).map Y4) L/\KP (Yr L (Qs l) S0) I
def Yt(l:List Q1)(x:Id)(E:List El):Prop:=∃L O,Jx ((Qs l).map Y4) L/\JL Id.Lt El.id El.af Qf (ZP (Qx (Za (Qs l) x))) O/\E=Xb L (Xy L (Qs l) x) O
theorem CE{l:List Q1}{I J:List QE}(h:YP l I)(k:YP l J):I=J:=by obtain⟨L,j,D⟩:=h;obtain⟨M,E,O⟩:=k;obtain rfl:=j.same E;exact Q1n D O
theorem Ih{l:List Q1}{x:Id}{E F:List El}(h:Yt l x E)(k:Yt l x F):E=F:=by obtain⟨L,O,j,D,I⟩:=h;obtain⟨M,P,J,Q,U⟩:=k;obtain rfl:=j.same J;rw[I,U,Mf D Q]
def My(l:List Q1)(w:World)(e:Ending)(w':World):Prop:=
 ∃(v:Value)(I:List QE),e=.returned v/\w'.ownsRow w 65 6 v I.length (I.flatMap ZV)/\YP l I/\I.length<=1000/\Below w w w'
def Mz(l:List Q1)(x:Id)(w:World)(e:Ending)(w':World):Prop:=
 ∃(v:Value)(E:List El),e=.returned (.tuple #[v,.string (Q8 (Zh E))])/\w'.ownsRow w 60 3 v E.length ((E.map El.id).flatMap Qe)/\Yt l x E/\Below w w w'
theorem Uv.sub{l:List Q1}(j:Uv l):(∀g∈Qs l,∀o∈g.ops,o.tx.size<=100)/\(∀g∈Qs l,∀o∈g.ops,o.els.length<=100)/\QW (Qs l)<=900/\(Qs l).length<=1000/\∀g∈Qs l,∀o∈g.ops,o.dots.length<=1000:=
 ⟨λg h=>j.tx g (XC h),λg h=>j.el g (XC h),Q9 (Fx (Fs l)) j.sum,Q9 (EH l) j.n,λg h=>j.ds g (XC h)⟩
theorem Uv.view{l:List Q1}(h:Uv l)(A:Option Addr)(n c B:Nat)(w:World)(j:Xi w B (.slice A n c) l)(D:B<=w)(E:ZD w):Calls Tryz.prog 23 #[.slice A n c] w (LG l w):=
 Q04 l A n c B w j (by rw[(Rd.len j.r).1];exact h.n) D E (λg I o J=>Q9 (h.tx g I o J) (by decide)) h.ds h.sum
theorem Q1p(l:List Q1)(J:Uv l)(A:Option Addr)(n c B:Nat)(w:World)(Q:Xi w B (.slice A n c) l)(hB:B<=w)(W:ZD w):Calls Tryz.prog 20 #[.slice A n c] w (My l w):=by
 have HO:=Ki (J.view A n c B w Q hB W);have E:=Ki J;clear Q W J;go_enter Tryz.func20,Tryz.ntmps20;go_wp2_with fail;refine HO.o.mono ?_;rintro e1 w1 ⟨p,m1,m2,n1,N,L,gv,nv,rfl,⟨n2,va,vt,vh,vg,a3,h⟩,Z,a2,X⟩;obtain⟨s1,s2,s3,s4,s5⟩:=E.o.sub;have j:=AV L (Qs l) s5
 have HI:=Ki (Mu h ⟨Q9 j.1 (by omega),Q9 j.2.1 (by omega),Q9 j.2.2.1 (by omega),Q9 j.2.2.2 (by omega)⟩ (λq hq=>by
  obtain⟨g,I,o,O,rfl⟩:=Mx L (Qs l) q hq
  exact E.o.nm g (XC I) o O) (λy hy=>by
  obtain⟨g,I,o,O,h0,rfl⟩:=Ig L (Qs l) y hy
  exact E.o.made g I o O h0))
 have a0:=Ki Z;have D:=Ki X;clear h Z X j s1 s2 s3 s4 s5 a3 a2;go_wp2_with fail;refine HI.o.mono ?_;rintro e2 w2 ⟨v,a1,rfl,U,h,Y,hb2⟩;have HP:=Kj (My l w (.returned v) w2) ⟨v,a1,rfl,Yp U D.o.size,⟨L,a0.o,h⟩,Y,D.o.trans (hb2.mono D.o.size)⟩;clear U h Y hb2;go_wp2;go_ret;exact HP.o
theorem Q1q(l:List Q1)(x:Id)(hk:Uv l)(A:Option Addr)(n c B:Nat)(w:World)(D:Xi w B (.slice A n c) l)(I:B<=w)(hT:ZD w):Calls Tryz.prog 21 #[.slice A n c,Qa x] w (Mz l x w):=by
 have HO:=Ki (λW (h:Below w w W)=>hk.view A n c B W ⟨D.r.below' h I,λg j=>⟨(D.a g j).d.below' h I,(D.a g j).i,(D.a g j).o.below' h I,λo X=>⟨((D.a g j).a o X).d.below' h I,((D.a g j).a o X).e.below' h I⟩⟩⟩ (Q9 I h.size) (hT.below h));have U:=Ki hk;have ac:=Ki I;have ag:=Ki (λW (h:Below w w W)=>hT.below h);have ad:=Ki (λg (j:g∈Qs l) W (h:Below w w W)=>(show X4 W B g from⟨(D.a g (XC j)).d.below' h I,(D.a g (XC j)).i,(D.a g (XC j)).o.below' h I,λo X=>⟨((D.a g (XC j)).a o X).d.below' h I,((D.a g (XC j)).a o X).e.below' h I⟩⟩));clear D hT hk;unfold Qa;go_enter Tryz.func21,Tryz.ntmps21;go_upto_region 1 with(fail);obtain⟨Y,a0⟩:∃W,w.alloc (.cells x 60)=W:=⟨_,rfl⟩;have a3:=bl a0;have Z:=bn a0;rw[a0];obtain⟨O,Q⟩:∃b,w.heap.size=b:=⟨_,rfl⟩;have J:=Ki a3;rw[Q] at Z |-;have l3:=(Q5.1 Z).1;have ae:=Ki (HO.o Y.drew a3.drew);have a1:=Ki (λE (a2:E.heap[O]?=some (.cells #[x.s.T,x.s.R,x.I] 60 (0,0)))=>(show E.cell? ⟨O,0,none⟩=some (.int .i64 x.s.T)/\E.cell? ⟨O,1,none⟩=some (.int .i64 x.s.R)/\E.cell? ⟨O,2,none⟩=some (.int .i64 x.I) from⟨cell_of_row E _ 0 _ _ _ a2,cell_of_row E _ 1 _ _ _ a2,cell_of_row E _ 2 _ _ _ a2⟩));have a4:=Z
 have a6:=Ki (λW (h:Below Y.drew.heap.size Y.drew W) (p m1 m2 n1 n2:Nat) (L:List Q4) (fd:Id->Option Bool) (gv nv:Value) (at_ td hv gn:Z3) (hV:Vw W Y.drew.heap.size p m1 m2 n1 n2 (VC L) fd (Yq gv (Qs l)) (QT nv L) at_ td hv gn) (hL:L.length<=(Qs l).length)=>
  LK (Qs l) L x B hV (λg j=>ad.o g j W (J.o.drew.trans (h.mono J.o.drew.size))) (Q9 ac.o (J.o.drew.trans (h.mono J.o.drew.size)).size) (ag.o W (J.o.drew.trans (h.mono J.o.drew.size))) U.o.sub.2.2.2.1 (Q9 hL U.o.sub.2.2.2.1) U.o.sub.2.2.1 U.o.sub.1 U.o.sub.2.1)
 unfold Qa at a6;clear a0 a3 Z Q
 go_region_held3 (λE=>E.cell? (O,0)=x.s.T/\E.cell? (O,1)=x.s.R/\E.cell? (O,2)=x.I) (first|exact a1.o _ a4|exact a1.o _ a5|exact a1.o _ ab|go_keep)
  (first
   |(go_at_call 23;refine ae.o.mono ?_;rintro e2 W2 ⟨p,m1,m2,n1,N,L,gv,nv,rfl,⟨n2,va,vt,vh,vg,ai,hV⟩,a9,a8,hb2⟩;have a5:=(hb2.block O l3).trans a4;have af:=Ki (a6.o W2 hb2 _ _ _ _ _ _ _ _ _ _ _ _ _ hV a8))
   |(go_at_call 25;refine af.o.mono ?_;rintro e3 W3 ⟨a7,v,hO,rfl,aa,ah,Q⟩;have ab:=(Q.block O (Z1 l3 hb2.size)).trans a5))
 all_goals have HP:=Kj (Mz l x w (.returned (.tuple #[v,.string (Q8 (Zh (Xb L (Xy L (Qs l) x) a7)))])) W3) ⟨v,_,rfl,Yp aa (Q9 J.o.size hb2.size),⟨L,a7,a9,hO,rfl⟩,J.o.drew.trans ((hb2.trans (Q.mono hb2.size)).mono J.o.drew.size)⟩;clear a4 a5 ab hO aa ah Q hb2 hV a9 a8 ai;go_wp2;go_ret2;exact HP.o
structure XP where
 path:ByteArray
 dir:Bool
 text:ByteArray
deriving DecidableEq
def YH(e:XP):List Value:=[.string e.path,.bool e.dir,.string e.text]
theorem MA(x:XP):∀u∈YH x,u.oneCell'=true:=by intro u h;simp[YH] at h;rcases h with rfl|rfl|rfl<;>rfl
def YQ(v:Value)(l:List XP):Z3:=⟨43,3,v,l.length,l.flatMap YH⟩
def VY(v:Value)(l:List QE):Z3:=⟨65,6,v,l.length,l.flatMap ZV⟩
def FH(l:List Q1)(h:QE)(e:XP):Prop:=e.path=h.path/\e.dir=h.dir/\(h.dir=true->e.text=⟨#[]⟩)/\(h.dir=false->∃E,Yt l h.nd E/\e.text=Q8 (Zh E))
def Vf(l:List Q1)(I:List QE)(h:List XP):Prop:=h.length=I.length/\∀(i:Nat)(j:QE)(e:XP),I[i]?=some j->h[i]?=some e->FH l j e
theorem Zr.touch2{w w':World}{base:Nat}{X F:Nat->Prop}{rs:List Z3}(h:Zr w base X rs)(t:Qd F w w')(D:∀r∈rs,∀b,r.v.ownBlock=some b->¬F b):Zr w' base X rs:=
 ⟨λr j=>Yn (h.own r j) t (D r j),h.free,h.apart⟩
def MB(l:List Q1)(I:List QE)(D:Value)(h:World)(E i:Value)(wr:World):Prop:=
 ∃k:Nat,k<=I.length/\i=k/\∃j,Vf l (I.take k) j/\Zr wr h (λ_=>False) [YQ E j,VY D I]/\Below h h wr
def CF(l:List Q1)(w:World)(e:Ending)(w':World):Prop:=
 ∃(v:Value)(I:List QE)(h:List XP),e=.returned v/\w'.ownsRow w 43 3 v h.length (h.flatMap YH)/\YP l I/\Vf l I h/\h.length<=1000/\Below w w w'
theorem Q1r:(Tryz.prog.info? 43).map (λi=>(i.zero,i.size,i.bytes))=some (some (.agg #[.string ⟨#[]⟩,.bool false,.string ⟨#[]⟩]),3,40):=by kernel_rfl
theorem MC{l:List Q1}{I:List QE}{J:List XP}{O:QE}{e:XP}(h:Vf l I J)(U:FH l O e):Vf l (I++[O]) (J++[e]):=by
 refine⟨by simp[h.1],λi W Q j E=>?_⟩;rcases Nat.lt_trichotomy i I.length with D|D|D;·rw[VK D] at j;rw[VK (by rw[h.1];exact D)] at E;exact h.2 i W Q j E
 ·rw[JZ (by omega),D,GV] at j;rw[JZ (by rw[h.1];omega),h.1,D,GV] at E;cases j;cases E;exact U
 rw[List.getElem?_eq_none (by simp;omega)] at j;cases j
theorem Ii(l:List Q1)(hk:Uv l)(A:Option Addr)(n c B:Nat)(w:World)(hG:Xi w B (.slice A n c) l)(hB:B<=w)(hT:ZD w):Calls Tryz.prog 9 #[.slice A n c] w (CF l w):=by
 have HO:=Ki (hk.view A n c B w hG hB hT);have HK:=Ki hk;have aT:=Ki hB;have b5:=Ki (λW (O:Below w w W)=>hT.below O);have aX:=Ki (λg (Y:g∈Qs l) W (O:Below w w W)=>(show X4 W B g from⟨(hG.a g (XC Y)).d.below' O hB,(hG.a g (XC Y)).i,(hG.a g (XC Y)).o.below' O hB,λo ho=>⟨((hG.a g (XC Y)).a o ho).d.below' O hB,((hG.a g (XC Y)).a o ho).e.below' O hB⟩⟩));obtain⟨i0,hi,z0,z1,z2⟩:=Zc Q1r;clear hG hT hk;go_enter Tryz.func9,Tryz.ntmps9;go_wp2_with fail;refine HO.o.mono ?_;rintro e1 J ⟨p,m1,m2,n1,N,L,gv,nv,rfl,⟨n2,va,vt,vh,vg,bf,hV⟩,aQ,aJ,aM⟩;obtain⟨s1,s2,s3,s4,s5⟩:=HK.o.sub;have ad:=AV L (Qs l) s5
 have HI:=Ki (λW (O:Below J J W)=>Mu (hV.below O) ⟨Q9 ad.1 (by omega),Q9 ad.2.1 (by omega),Q9 ad.2.2.1 (by omega),Q9 ad.2.2.2 (by omega)⟩ (λq hq=>by
  obtain⟨g,Y,o,ho,rfl⟩:=Mx L (Qs l) q hq
  exact HK.o.nm g (XC Y) o ho) (λy hy=>by
  obtain⟨g,Y,o,ho,h0,rfl⟩:=Ig L (Qs l) y hy
  exact HK.o.made g Y o ho h0))
 have aF:=Ki aQ;have a0:=Ki aM;have b8:=Ki (λx W (O:Below J J W)=>LK (Qs l) L x B (hV.below O) (λg Y=>aX.o g Y W (a0.o.trans (O.mono a0.o.size))) (Q9 aT.o (a0.o.trans (O.mono a0.o.size)).size) (b5.o W (a0.o.trans (O.mono a0.o.size))) s4 (Q9 aJ s4) s3 s1 s2);clear hV aQ aM ad s1 s2 s3 s4 s5 bf aJ;go_upto_region 3 with(fail);obtain⟨w2,ae⟩:∃W,J.alloc (.cells #[] 43)=W:=⟨_,rfl⟩;have hb2:=bl ae;have aK:w2.ownsRow J 43 3 (.slice (J.heap.size,0) 0 0) 0 []:=Jv (Q3 _) (by rw[<-ae];exact Qi J _);have bp:J.heap.size<w2.heap.size:=by rw[<-ae];simp
 rw[ae];have aD:=Ki (HI.o w2 hb2);have aE:=Ki aK;have an:=Ki hb2;clear ae aK hb2;go_wp2_with fail;refine aD.o.mono ?_;rintro e3 w3 ⟨vi,I,rfl,ai,aL,bb,au⟩;obtain⟨Ai,ci,rfl,_,_⟩:=(Rd.of_own ai).form;have aY:=Kj (YP l I) ⟨L,aF.o,aL⟩
 have aG:=Ki (show MB l I (.slice Ai I.length ci) J (.slice (J.heap.size,0) 0 0) (.int .i64 (0:Nat)) w3 from⟨0,Qh _,rfl,[],⟨rfl,λi D e h=>by simp at h⟩,Cv (QB aE.o au) (Yp ai an.o.size) (λ_ _ h=>h) (λ_ _ h=>h) (λk hk be=>by
  have e:J.heap.size=k:=by simpa [Value.ownBlock,YQ] using hk
  have:=(UG ai k be).1
  omega),an.o.trans (au.mono an.o.size)⟩)
 clear ai aL au aD HI aE;go_wp2;go_loopw [4,14] (λvo i wr=>MB l I (.slice Ai I.length ci) J vo i wr) (λ_ i _=>I.length-(intOf i).toNat);case atStart=>exact aG.o
 case round=>
  clear aG;obtain⟨k,hk,rfl,j,a3,hF,hb⟩:=hrel;obtain⟨Q,U,rfl,_,_⟩:=(Rd.of_own (show wr.ownsRow J 43 3 u4 j.length (j.flatMap YH) from hF.own (YQ u4 j) (by simp))).form;by_cases aP:k<I.length
  ·obtain⟨bg,og,e1,bj,aw⟩:=Qr ZV 6 (λ_=>rfl) (by decide) (Rd.of_own (hF.own (VY (.slice Ai I.length ci) I) (by simp))) aP;obtain⟨D,ax⟩:∃q,I[k]=q:=⟨_,rfl⟩;rw[ax] at aw;have ba:=Ki aw;have aI:=Ki (show I.take (k+1)=I.take k++[D] by rw[QQ aP,ax]);have aN:j.length=k:=(by rw[a3.1,Zi];omega);have bi:=Ki aN;have aA:=Ki a3;have aW:=Ki hF;have az:=Ki hb;have bo:(0:Int)<=(k:Int):=(by omega);have bd:(k:Int)<(I.length:Int):=(by omega);have bk:j.length<=1000:=(by omega);subst e1;clear aw ax a3 hF hb aN;go_upto_region 6 with(first|((with_reducible refine Ql 65 ?_);refine QA rfl 65 _ rfl _ _ _ rfl ba.o (by kernel_rfl) (Tryz.isAgg65 _) ?_)|((with_reducible refine Zm 65 ?_);refine Zp rfl 65 _ _ rfl _ _ rfl rfl _ _ (Qi _ _) (by kernel_rfl) rfl (by kernel_rfl) ?_;rw[Xm,Zn]));obtain⟨W4,aj⟩:∃W,wr.alloc (.cells (ZV D).toArray 65)=W:=⟨_,rfl⟩;have h4:=bn aj;have av:=bl aj;rw[aj];obtain⟨b6,a4⟩:∃b,wr.heap.size=b:=⟨_,rfl⟩;have aB:=Ki (aW.o.below av);have ao:=Ki (az.o.trans (av.mono az.o.size));rw[a4] at h4 |-;have H4:=Ki h4;have t3:=cr3 h4;have t4:=cr4 h4;have l6:=(Q5.1 h4).1;clear aj h4 av a4;go_upto_region 7 with(fail);obtain⟨W5,ak⟩:∃W,W4.alloc (.cells #[.string D.path,.bool D.dir,.string ⟨#[]⟩] 43)=W:=⟨_,rfl⟩;have h5:=bn ak;have al:=bl ak;rw[ak];obtain⟨b7,am⟩:∃b,W4.heap.size=b:=⟨_,rfl⟩;have aC:=Ki (aB.o.below al);have ag:=Ki (ao.o.trans (al.mono ao.o.size));have af:=Ki ((al.block b6 l6).trans H4.o)
   have b4:=Kj (∀r∈[YQ (.slice Q j.length U) j,VY (.slice (bg,og) I.length ci) I],∀b,r.v.ownBlock=some b->b<b7) (λr hr b hb=>by rw[<-am];exact(aB.o.lt hr hb).2);have b3:=Kj (J<=b7) (by rw[<-am];exact ao.o.size);rw[am] at h5 |-;have H5:=Ki h5;clear ak al am t3 t4 l6;have t4:=cr4 af.o;obtain⟨d,hd⟩:=ex (D.dir);rw[hd] at t4 h5 H5;have HD:=Ki hd;clear hd;rcases d with _|_
   ·skip;have t0:=cr0 af.o;have t1:=cr1 af.o;have t2:=cr2 af.o;have aH:=Ki (b8.o D.nd W5 ag.o);unfold Qa at aH;clear h5;go_wp2_with fail;refine aH.o.mono ?_;rintro e6 W6 ⟨ar,v6,hO,rfl,a2,bc,a4⟩;have aU:=Kj (Yt l D.nd (Xb L (Xy L (Qs l) D.nd) ar)) ⟨L,ar,aF.o,hO,rfl⟩;have a9:=(a4.block b7 (Q5.1 H5.o).1).trans H5.o;have aV:=Ki (aC.o.below a4);have aS:=Ki (ag.o.trans (a4.mono ag.o.size));obtain⟨E,a6⟩:∃b,Q8 (Zh (Xb L (Xy L (Qs l) D.nd) ar))=b:=⟨_,rfl⟩;have b9:=Ki a6;rw[a6];have aR:=Ki a9;have f2:W6.frozen? (b7,2)=false:=(by simp[World.frozen?,a9]);have v2:=cr2 a9;have bh:=(Q5.1 a9).1;clear hO a2 bc a4 a9 a6 t0 t1 t2 t4;go_upto_region 9 with(fail);obtain⟨X,aa⟩:∃W,W6.setCell (b7,2) E=W:=⟨_,rfl⟩;have Z:X.heap[b7]?=some (.cells #[.string D.path,.bool false,.string E] 43 (0,0)):=(by rw[<-aa];exact Zf aR.o)
    have a7:=Ki (show Zr X J (λ_=>False) [YQ (.slice Q j.length U) j,VY (.slice (bg,og) I.length ci) I] from by
     rw[<-aa]
     exact aV.o.touch2 (Qd.setCell (F:=λb=>b=b7) (p:=(b7,2)) (Qd.refl _ W6) (λ_=>rfl) _) (λr hr b hb e=>by have:=b4.o r hr b hb;omega))
    have a1:=Kj (Below J J X) (by rw[<-aa];exact Xd aS.o b3.o);have ah:=Kj (FH l D ⟨D.path,false,E⟩) ⟨rfl,HD.o.symm,(λh=>(by rw[HD.o] at h;cases h)),λ_=>⟨_,aU.o,b9.o.symm⟩⟩;rw[aa];clear aa f2 v2 bh;have s0:=cr0 Z;have s1:=cr1 Z;have s2:=cr2 Z;have a8:=Ki (a7.o.own (YQ (.slice Q j.length U) j) (by simp));clear Z;go_wp2_with (at_builtin;refine KY _ rfl _ _ 38 rfl J 43 i0 _ 3 40 Tryz.underlying38 hi z0 z1 z2 rfl (by decide) _ j.length _ rfl (a8.o.alloc _) ⟨X.heap.size,0,none⟩ 1 1 [.string D.path,.bool false,.string E] rfl rfl (Zd X [.string D.path,.bool false,.string E] 43) (MA ⟨D.path,false,E⟩) (by unfold maxLen;omega) (by omega) (by have:=a1.o.size;simp;omega) ?_);intro v8 W8 a2 a5 _ ab;have ac:Zr W8 J.heap.size (λ_=>False) ([YQ (.slice Q j.length U) j,VY (.slice (some ⟨bg,og,none⟩) I.length ci) I].set 0 ⟨43,3,v8,j.length+1,j.flatMap YH++[.string D.path,.bool false,.string E]⟩):=(a7.o.below ((Qc _ X).alloc (Q3 _) (.cells ([.string D.path,.bool false,.string E]:List Value).toArray 43))).put2 (i:=0) (r:=YQ (.slice Q j.length U) j) rfl a2 a5 (ab.elim (λh=>.inl h) (λh=>.inr (by rw[Qy];exact h))) (λb hb=>hb.elim);have e8:YQ v8 (j++[⟨D.path,false,E⟩])=⟨43,3,v8,j.length+1,j.flatMap YH++[.string D.path,.bool false,.string E]⟩:=(by unfold YQ;rw[Qj,Zb,Xf];rfl);have aq:=Kj (Zr W8 J (λ_=>False) [YQ v8 (j++[⟨D.path,false,E⟩]),VY (.slice (bg,og) I.length ci) I]) (by rw[e8];exact ac)
    have ap:=Ki ((a1.o.alloc a1.o.size (.cells ([.string D.path,.bool false,.string E]:List Value).toArray 43)).grown a5 (by have:=a1.o.size;simp;omega) (λay hj=>((a8.o.alloc (.cells ([.string D.path,.bool false,.string E]:List Value).toArray 43)).lt ay hj).1));obtain⟨A8,c8,rfl,_,_⟩:=(Rd.of_own a2).form;have aZ:=Ki (show(j++[(⟨D.path,false,E⟩:XP)]).length=j.length+1 by simp);clear a2 a5 ab ac e8 s0 s1 s2;go_wp2;go_roundw;case rel=>exact⟨k+1,by omega,by go_num,j++[⟨D.path,false,E⟩],by rw[aI.o];exact MC aA.o ah.o,aq.o,ap.o⟩
    case measure=>simp[intOf];omega
   have a7:=aC;have a1:=ag;have Z:=h5;have ah:=Kj (FH l D ⟨D.path,true,⟨#[]⟩⟩) ⟨rfl,HD.o.symm,λ_=>rfl,(λh=>(by rw[HD.o] at h;cases h))⟩;obtain⟨E,a6⟩:∃b:ByteArray,(⟨#[]⟩:ByteArray)=b:=⟨_,rfl⟩;rw[a6] at Z ah;obtain⟨X,rfl⟩:∃W:World,W=W5:=⟨_,rfl⟩;clear a6 h5;go_upto_region 9 with(fail);clear t4;have s0:=cr0 Z;have s1:=cr1 Z;have s2:=cr2 Z;have a8:=Kj (X.ownsRow J 43 3 (.slice Q j.length U) j.length (j.flatMap YH)) (a7.o.own (YQ (.slice Q j.length U) j) (by simp));clear Z;go_wp2_with (at_builtin;refine KY _ rfl _ _ 38 rfl J 43 i0 _ 3 40 Tryz.underlying38 hi z0 z1 z2 rfl (by decide) _ j.length _ rfl (a8.o.alloc _) ⟨X.heap.size,0,none⟩ 1 1 [.string D.path,.bool true,.string E] rfl rfl (Zd X [.string D.path,.bool true,.string E] 43) (MA ⟨D.path,true,E⟩) (by unfold maxLen;omega) (by omega) (by have:=a1.o.size;simp;omega) ?_);intro v8 W8 a2 a5 _ ab;have ac:Zr W8 J.heap.size (λ_=>False) ([YQ (.slice Q j.length U) j,VY (.slice (some ⟨bg,og,none⟩) I.length ci) I].set 0 ⟨43,3,v8,j.length+1,j.flatMap YH++[.string D.path,.bool true,.string E]⟩):=(a7.o.below ((Qc _ X).alloc (Q3 _) (.cells ([.string D.path,.bool true,.string E]:List Value).toArray 43))).put2 (i:=0) (r:=YQ (.slice Q j.length U) j) rfl a2 a5 (ab.elim (λh=>.inl h) (λh=>.inr (by rw[Qy];exact h))) (λb hb=>hb.elim);have e8:YQ v8 (j++[⟨D.path,true,E⟩])=⟨43,3,v8,j.length+1,j.flatMap YH++[.string D.path,.bool true,.string E]⟩:=(by unfold YQ;rw[Qj,Zb,Xf];rfl)
   have aq:=Kj (Zr W8 J (λ_=>False) [YQ v8 (j++[⟨D.path,true,E⟩]),VY (.slice (some ⟨bg,og,none⟩) I.length ci) I]) (by rw[e8];exact ac);have ap:=Ki ((a1.o.alloc a1.o.size (.cells ([.string D.path,.bool true,.string E]:List Value).toArray 43)).grown a5 (by have:=a1.o.size;simp;omega) (λay hj=>((a8.o.alloc (.cells ([.string D.path,.bool true,.string E]:List Value).toArray 43)).lt ay hj).1));obtain⟨A8,c8,rfl,_,_⟩:=(Rd.of_own a2).form;have aZ:=Ki (show(j++[(⟨D.path,true,E⟩:XP)]).length=j.length+1 by simp);clear a2 a5 ab ac e8 s0 s1 s2;go_wp2;go_roundw;case rel=>exact⟨k+1,by omega,by go_num,j++[⟨D.path,true,E⟩],by rw[aI.o];exact MC aA.o ah.o,aq.o,ap.o⟩
   case measure=>simp[intOf];omega
  have aO:I.take k=I:=Zk (by omega);rw[aO] at a3;have bd:¬((k:Int)<(I.length:Int)):=(by omega);have HP:=Kj (CF l w (.returned (.slice Q j.length U)) wr) ⟨_,I,j,rfl,Yp (show wr.ownsRow J 43 3 (.slice Q j.length U) j.length (j.flatMap YH) from hF.own (YQ (.slice Q j.length U) j) (by simp)) a0.o.size,aY.o,a3,by rw[a3.1];exact bb,a0.o.trans (hb.mono a0.o.size)⟩;clear aO a3 hF hb;go_wp2;go_ret;exact HP.o
end
section
open Go.RowKit
def VZ(c:Int):Bool:=decide ((65<=c/\c<=90)\/(97<=c/\c<=122)\/c=95)
def Vg(c:Int):Bool:=decide ((65<=c/\c<=90)\/(97<=c/\c<=122)\/c=95\/(48<=c/\c<=57))
theorem Ij{a b:Bool}(h:a=b):Ending.returned (.bool a)=Ending.returned (.bool b):=by rw[h]
theorem Q1s{c:Int}{b:Bool}(h:b=true↔((65<=c/\c<=90)\/(97<=c/\c<=122)\/c=95)):b=VZ c:=by unfold VZ;rw[Js,h,decide_eq_true_iff]
theorem MD{c:Int}{b:Bool}(h:b=true↔((65<=c/\c<=90)\/(97<=c/\c<=122)\/c=95\/(48<=c/\c<=57))):b=Vg c:=by unfold Vg;rw[Js,h,decide_eq_true_iff]
theorem Q1t{c:Int}(h:VZ c=true):(65<=c/\c<=90)\/(97<=c/\c<=122)\/c=95:=by unfold VZ at h;exact Y0 h
theorem Q1u{c:Int}(h:VZ c=false):¬((65<=c/\c<=90)\/(97<=c/\c<=122)\/c=95):=by unfold VZ at h;exact UC h
theorem ME(c:Int)(w:World)(h:0<=c)(j:c<=2147483647):Calls Tryz.prog 73 #[.int .i32 c] w λe w'=>e=.returned (.bool (VZ c))/\w=w':=by
 go_enter Tryz.func73,Tryz.ntmps73;go_wp2;all_goals go_ret
 all_goals exact⟨Ij (Q1s (by simp;omega)),rfl⟩
theorem MF(c:Int)(w:World)(J:0<=c)(O:c<=2147483647):Calls Tryz.prog 72 #[.int .i32 c] w λe w'=>e=.returned (.bool (Vg c))/\w=w':=by
 cases D:VZ c;all_goals have j:∀w:World,Calls Tryz.prog 73 #[.int .i32 c] w λe w'=>e=.returned (.bool (VZ c))/\w=w':=λw=>ME c w J O;rw[D] at j;have E:=Ki D;have I:=Ki j;clear D j;go_enter Tryz.func72,Tryz.ntmps72;go_wp2_with (go_at_call 73;refine(I.o _).mono ?_;rintro e w' ⟨rfl,rfl⟩);all_goals go_ret
 all_goals first|(have h:=Q1u E.o;exact⟨Ij (MD (by simp;omega)),rfl⟩)|(have h:=Q1t E.o;exact⟨Ij (MD (by simp;omega)),rfl⟩)
end
section
open Go
abbrev R4:=Nat×Nat×Nat×Nat
def Jj(p:Bs):Bool:=Vg ((Lib.decodeL p).1:Nat)
def Jk:List Bs->Nat->Nat->Option (Nat×Nat)->List R4
 |[],_,_,none=>[]
 |[],i,k,some (f,a)=>[(f,a,i,k)]
 |p::ps,i,k,none=>if Jj p then Jk ps (i+p.length) (k+1) (some (i,k)) else Jk ps (i+p.length) (k+1) none
 |p::ps,i,k,some (f,a)=>if Jj p then Jk ps (i+p.length) (k+1) (some (f,a)) else (f,a,i,k)::Jk ps (i+p.length) (k+1) none
def Jl(ps:List Bs):List R4:=Jk ps 0 0 none
def YB:Option (Nat×Nat)->List R4|none=>[]|some (f,a)=>[(f,a,0,0)]
def Jz(r:R4):List Value:=[.int .i64 (r.1:Nat),.int .i64 (r.2.1:Nat),.int .i64 (r.2.2.1:Nat),.int .i64 (r.2.2.2:Nat)]
def ZM(l:List R4):List Value:=l.flatMap Jz
theorem CG(l:List R4):(ZM l).length=l.length*4:=by
 induction l with
 |nil=>rfl
 |cons r l h=>show(Jz r++ZM l).length=_;rw[Qj,h,Z4];show 4+_=_;omega
theorem Gx(a b:List R4):ZM (a++b)=ZM a++ZM b:=Zb
theorem ET(r:R4):ZM [r]=Jz r:=by simp[ZM]
theorem MG(l:List R4)(k:Nat)(h:k<l.length):(ZM l)[k*4]?=some (.int .i64 (l[k].1:Nat))/\(ZM l)[k*4+1]?=some (.int .i64 (l[k].2.1:Nat))/\(ZM l)[k*4+2]?=some (.int .i64 (l[k].2.2.1:Nat))/\(ZM l)[k*4+3]?=some (.int .i64 (l[k].2.2.2:Nat)):=by
 have e:l=l.take k++(l[k]::l.drop (k+1)):=by rw[<-VL h,XU]
 have I:(ZM (l.take k)).length=k*4:=by rw[CG,Zi];omega
 have D:ZM l=ZM (l.take k)++(Jz l[k]++ZM (l.drop (k+1))):=by
  conv=>lhs;rw[e]
  rw[Gx];rfl
 have g:∀j,j<4->(ZM l)[k*4+j]?=(Jz l[k])[j]?:=by intro j E;rw[D,JZ (by omega),I,U6,VK (by simpa [Jz] using E)]
 exact⟨g 0 (by omega),g 1 (by omega),g 2 (by omega),g 3 (by omega)⟩
theorem MH(l:List R4):∀u∈ZM l,u.oneCell'=true:=by intro u j;obtain⟨r,_,h⟩:=YW.1 j;simp only[Jz,QI,List.mem_nil_iff,JD] at h;rcases h with rfl|rfl|rfl|rfl<;>rfl
theorem Q1v(ps:List Bs)(k:Nat)(h:k<ps.length):ps.drop k=ps[k]::ps.drop (k+1):=VL h
def Jm:List Bs->Nat->Option Nat->List (Nat×Nat)
 |[],_,none=>[]
 |[],k,some a=>[(a,k)]
 |p::ps,k,none=>if Jj p then Jm ps (k+1) (some k) else Jm ps (k+1) none
 |p::ps,k,some a=>if Jj p then Jm ps (k+1) (some a) else (a,k)::Jm ps (k+1) none
def YI(ps:List Bs):List (Nat×Nat):=Jm ps 0 none
def ZK(ps:List Bs)(k:Nat):Nat:=(ps.take k).flatten.length
def VF(ps:List Bs)(r:Nat×Nat):R4:=(ZK ps r.1,r.1,ZK ps r.2,r.2)
theorem Q1w(ps:List Bs)(k:Nat)(h:k<ps.length):ZK ps (k+1)=ZK ps k+ps[k].length:=by unfold ZK;rw[QQ h,E5,Qj];simp
theorem Q1x(ps:List Bs):∀(l:List Bs)(k:Nat),ps.drop k=l->Jk l (ZK ps k) k none=(Jm l k none).map (VF ps)/\∀a,Jk l (ZK ps k) k (some (ZK ps a,a))=(Jm l k (some a)).map (VF ps):=by
 intro l
 induction l with
 |nil=>exact λk _=>⟨rfl,λa=>rfl⟩
 |cons p l W=>
  intro k D
  have J:k<ps.length:=by
   rcases UH k ps.length with h|h;·exact h
   rw[List.drop_eq_nil_of_le h] at D;cases D
  rw[VL J] at D;obtain⟨Q,U⟩:=List.cons.inj D;have O:=Q1w ps k J;rw[Q] at O;obtain⟨E,I⟩:=W (k+1) U;rw[O] at E I;constructor
  ·simp only[Jk,Jm];by_cases j:Jj p=true;·rw[Q7 j,Q7 j,I k]
   rw[Q6 j,Q6 j,E]
  intro a;simp only[Jk,Jm];by_cases j:Jj p=true;·rw[Q7 j,Q7 j,I a]
  rw[Q6 j,Q6 j,E];rfl
theorem MI(ps:List Bs):Jl ps=(YI ps).map (VF ps):=by have:=(Q1x ps ps 0 (by simp)).1;unfold Jl YI;simpa [ZK] using this
def Jn:Nat->Nat->List (Nat×Nat)->Prop|_,_,[]=>True|a,n,r::l=>a<=r.1/\r.1<r.2/\r.2<=n/\Jn r.2 n l
theorem Jn.mono{a b n:Nat}(h:a<=b):∀{l:List (Nat×Nat)},Jn b n l->Jn a n l|[],_=>trivial|_::_,⟨I,j,D,E⟩=>⟨by omega,j,D,E⟩
theorem MJ:∀(l:List Bs)(k:Nat),Jn k (k+l.length) (Jm l k none)/\∀a,a<k->Jn a (k+l.length) (Jm l k (some a))
 |[],k=>⟨trivial,λa h=>⟨Q3 _,h,by simp,trivial⟩⟩
 |p::l,k=>by
  obtain⟨j,D⟩:=MJ l (k+1);rw[Z4,show k+(l.length+1)=k+1+l.length by omega];constructor
  ·simp only[Jm];split;·exact D k (by omega)
   exact j.mono (by omega)
  intro a E;simp only[Jm];split;·exact D a (by omega)
  exact⟨Q3 _,E,by omega,j.mono (by omega)⟩
theorem Ik(ps:List Bs):Jn 0 ps.length (YI ps):=by have:=(MJ ps 0).1;unfold YI;simpa using this
theorem Jn.filter{n:Nat}(f:Nat×Nat->Bool):∀{a:Nat}{l:List (Nat×Nat)},Jn a n l->Jn a n (l.filter f)
 |_,[],_=>trivial
 |a,r::l,⟨h1,h2,h3,h4⟩=>by
  rw[Ec];split;·exact⟨h1,h2,h3,Jn.filter f h4⟩
  exact(Jn.filter f h4).mono (by omega)
theorem Jn.mem{n:Nat}:∀{a:Nat}{l:List (Nat×Nat)},Jn a n l->∀r∈l,a<=r.1/\r.1<r.2/\r.2<=n
 |a,r::l,⟨h1,h2,h3,h4⟩,q,h=>by
  rcases QI.1 h with rfl|h;·exact⟨h1,h2,h3⟩
  have:=Jn.mem h4 q h;omega
def U0(ps:List Bs)(r:Nat×Nat):Bs:=((ps.drop r.1).take (r.2-r.1)).flatten
def VG(ps:List Bs)(h:Bs):List (Nat×Nat):=(YI ps).filter (λr=>U0 ps r==h)
end
section
open Go.RowKit
theorem Q1y(ps:List (List UInt8))(i k:Nat)(h:i<=k):(ps.take k).flatten=(ps.take i).flatten++((ps.drop i).take (k-i)).flatten:=by rw[<-E5,<-List.drop_take];congr 1;have:=(XU i (ps.take k)).symm;rwa [List.take_take,JC h] at this
theorem Q1z(ps:List (List UInt8))(i k:Nat)(h:i<=k)(_:k<=ps.length):(Q8 ps.flatten).extract (ps.take i).flatten.length (ps.take k).flatten.length=Q8 ((ps.drop i).take (k-i)).flatten/\(ps.take i).flatten.length<=(ps.take k).flatten.length/\(ps.take k).flatten.length<=ps.flatten.length:=by
 have e:=Q1y ps i k h;have j:ps.flatten=(ps.take k).flatten++(ps.drop k).flatten:=by rw[<-E5,XU]
 refine⟨?_,by rw[e,Qj];omega,Ok ps k⟩;rw[Ej,j,e,Y7,List.drop_left,Qj,U6,List.take_left]
def Vh(b:UInt8):Bool:=Vg b.toNat
def U1(b:UInt8):Bool:=VZ b.toNat
def Jo(l:List UInt8):Bool:=match l with|[]=>false|b::_=>U1 b&&l.all Vh
theorem MK{c:Int}(h:Vg c=true):0<=c/\c<128:=by unfold Vg at h;have:=Y0 h;omega
theorem ML{c:Int}(h:128<=c):Vg c=false:=by
 cases j:Vg c;·rfl
 have:=MK j;omega
theorem Q1A{l:List UInt8}(D:l≠[])(E:∀j (h:j<l.length),Vh l[j]=true)(I:∀h:0<l.length,U1 l[0]=true):Jo l=true:=by
 match l,D with
 |b::t,_=>
  have J:=I (by simp);have hb:(b::t).all Vh=true:=by rw[V4];intro x Q;obtain⟨j,O,e⟩:=List.getElem_of_mem Q;rw[<-e];exact E j O
  show(U1 b&&(b::t).all Vh)=true;rw[hb];simpa using J
theorem Q1B{l:List UInt8}{j:Nat}(h:j<l.length)(D:Vh l[j]=false):Jo l=false:=by
 match l,h with
 |b::t,h=>
  have hb:(b::t).all Vh=false:=by rw[B2];exact⟨_,Zt h,by rw[D];simp⟩
  show(U1 b&&(b::t).all Vh)=false;rw[hb,Bool.and_false]
theorem Q1C{l:List UInt8}(h:0<l.length)(j:U1 l[0]=false):Jo l=false:=by
 match l,h with
 |b::t,h=>have D:U1 b=false:=j;show(U1 b&&(b::t).all Vh)=false;rw[D,Bool.false_and]
def Q1D(l:List UInt8)(w:World)(wr:World):Prop:=
 ∃k:Nat,k<=l.length/\wr.heap[w.heap.size]?=some (.stringIter (Q8 l) k)/\(∀j (h:j<l.length),j<k->Vh l[j]=true)/\(0<k->∀h:0<l.length,U1 l[0]=true)/\Below w w wr
theorem Q1E(l:List UInt8)(k:Nat)(h:k<l.length):(Q8 l)[k]'(by rw[Y8];exact h)=l[k]:=by simp[Q8,ByteArray.getElem_eq_getElem_data]
theorem MM(l:List UInt8):(Q8 l).toList.isEmpty=l.isEmpty:=by rw[Jb,Yw]
theorem Il(l:List UInt8)(k:Nat)(h:k<l.length)(c d:Nat)(j:(Utf8.decode (Q8 l) k).1=c)(I:(Utf8.decode (Q8 l) k).2=d):(l[k].toNat<128/\c=l[k].toNat/\d=1)\/(128<=l[k].toNat/\128<=c):=by
 have J:k<(Q8 l).size:=by rw[Y8];exact h
 have D:=Q1E l k h;by_cases E:l[k].toNat<128;·have:=decode_ascii (Q8 l) k J (by rw[D];exact E);rw[this] at j I;rw[D] at j;exact .inl ⟨E,j.symm,I.symm⟩
 have:=(decode_high (Q8 l) k J (by rw[D];omega)).1;exact .inr ⟨by omega,by omega⟩
theorem MN{l:List UInt8}{k:Nat}(h:k<l.length){c d:Nat}(j:(l[k].toNat<128/\c=l[k].toNat/\d=1)\/(128<=l[k].toNat/\128<=c)):Vh l[k]=Vg c:=by
 unfold Vh;rcases j with⟨_,e,_⟩|⟨D,E⟩;·rw[e]
 rw[ML (by omega),ML (by omega)]
theorem Im(l:List UInt8)(w:World)(hl:l.length<=1000000):Calls Tryz.prog 41 #[.string (Q8 l)] w λe w'=>e=.returned (.bool (Jo l))/\Below w w w':=by
 obtain⟨R,hR⟩:=ex (Jo l);rw[hR];have D:=Ki hR;clear hR;go_enter Tryz.func41,Tryz.ntmps41;go_wp2;go_loopw [3,4] (λ_ _ wr=>Q1D l w wr) (λ_ _ wr=>(Q8 l).size-wr.iterPos w);case atStart=>exact⟨0,Qh _,World.iter_heap _ _ _,λj _ h=>absurd h (by omega),λh=>absurd h (by omega),(Qc _ _).alloc (Q3 _) _⟩
 case round=>
  obtain⟨k,hk,E,X,U,a8⟩:=hrel;have a0:=Y8 l;have ad:=Ki a0;by_cases Z:k<l.length
  ·have aj:=λty=>Lib.run_next_any_at (P:=Tryz.prog) wr w (Q8 l) k ty E (by omega);obtain⟨c,J⟩:=ex ((Utf8.decode (Q8 l) k).1);obtain⟨d,Q⟩:=ex ((Utf8.decode (Q8 l) k).2);have ag:c<=2147483647:=(by rw[<-J];exact decode_le _ _);rw[J,Q] at aj;have af:(c:Int)<=2147483647:=(by omega);have ae:(0:Int)<=c:=(by omega);have CP:=Ki (λw=>MF c w ae af);have CL:=Ki (λw=>ME c w ae af);cases O:Vg c
   ·
    have W:R=false:=by rw[<-D.o];refine Q1B Z ?_;rw[MN Z (Il l k Z c d J Q)];exact O
    have a4:=Ki W
    have I:=CP.o
    rw[O] at I
    have a3:=Ki I
    have a1:=DJ a8 (Q3 _) (Q8 l) (k+d)
    clear CP I W D O J Q a0 X U E
    go_wp2_with (go_at_call 72;refine(a3.o _).mono ?_;rintro e w' ⟨rfl,rfl⟩)
    go_ret
    exact⟨DL a4.o.symm,a1⟩
   have ab:c<128:=(by have:=(MK O).2;omega);have a9:Vh l[k]=true:=(by rw[MN Z (Il l k Z c d J Q)];exact O)
   obtain⟨ec,ed⟩:c=l[k].toNat/\d=1:=by
    rcases Il l k Z c d J Q with h|h;·exact h.2
    omega
   have I:=CP.o;rw[O] at I;have a3:=Ki I;have a5:=Lib.iterAt_heap wr w (Q8 l) k (k+d) E;have a1:=DJ a8 (Q3 _) (Q8 l) (k+d);rw[ed] at aj a5 a1;have ac:=Ki E;have a7:=Ki a5
   have HP:=Ki (show ∀j (h:j<l.length),j<k+1->Vh l[j]=true from λj h hj=>by
    by_cases e:j=k;·subst e;exact a9
    exact X j h (by omega))
   have HF:=Ki U;by_cases a6:k=0
   ·have an:((k:Int)==0)=true:=(by rw[beq_iff_eq];omega);cases a2:VZ c;·have W:R=false:=(by rw[<-D.o];subst a6;exact Q1C Z (by unfold U1;rw[<-ec];exact a2));have a4:=Ki W;have Y:=CL.o;rw[a2] at Y;have aa:=Ki Y;clear CP I W D O J Q a0 X U E a5 CL Y a6 ec ed ab a2 a9;go_wp2_with (first|(go_at_call 72;refine(a3.o _).mono ?_;rintro e w' ⟨rfl,rfl⟩)|(go_at_call 73;refine(aa.o _).mono ?_;rintro e w' ⟨rfl,rfl⟩));go_ret;exact⟨DL a4.o.symm,a1⟩
    have al:=Ki (show 0<k+1->∀h:0<l.length,U1 l[0]=true from λ_ _=>by
     subst a6
     unfold U1;rw[<-ec];exact a2)
    have Y:=CL.o;rw[a2] at Y;have aa:=Ki Y;clear CP I D O J Q a0 X U E a5 CL Y a6 ec ed ab a2 a9 ag;go_wp2_with (first|(go_at_call 72;refine(a3.o _).mono ?_;rintro e w' ⟨rfl,rfl⟩)|(go_at_call 73;refine(aa.o _).mono ?_;rintro e w' ⟨rfl,rfl⟩));go_roundw;case rel=>exact⟨k+1,by omega,a7.o,HP.o,al.o,a1⟩
    case measure=>rw[JG a7.o,JG ac.o,ad.o];omega
   have an:((k:Int)==0)=false:=(by rw[Xg];omega);have am:0<k:=(by omega);clear CP I D O J Q a0 X U E a5 CL a6 ec ed ab a9 ag;go_wp2_with (go_at_call 72;refine(a3.o _).mono ?_;rintro e w' ⟨rfl,rfl⟩);go_roundw;case rel=>exact⟨k+1,by omega,a7.o,HP.o,λ_=>HF.o am,a1⟩
   case measure=>rw[JG a7.o,JG ac.o,ad.o];omega
  have hn:=λty=>Lib.run_next_end_at (P:=Tryz.prog) wr w (Q8 l) k ty E (by omega);have ai:k=l.length:=(by omega);by_cases h0:l=[];·have W:R=false:=(by rw[<-D.o,h0];rfl);have a4:=Ki W;clear X U E D W ai a0;subst h0;go_wp2;go_ret;exact⟨DL (by rw[a4.o,MM];rfl),a8⟩
  have hy:R=true:=(by rw[<-D.o];have ao:=Kc.2 h0;exact Q1A h0 (λj hj=>X j hj (by omega)) (U (by omega)));have HY:=Ki hy;have ah:l.isEmpty=false:=(by simpa using h0);have ak:=Ki ah;clear X U E D hy ai a0 h0 ah;go_wp2;go_ret;exact⟨DL (by rw[HY.o,MM,ak.o];rfl),a8⟩
theorem Q1F{x y:List UInt8}(h:x≠y):((Q8 x).toList==(Q8 y).toList)=false:=by rw[Jb,Jb,Yw,Yw];exact Xg.2 h
end
end Go.Proofs.YtfpafikfjjckeaaGreatDoor
