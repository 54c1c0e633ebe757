import Derived.RangeFuncSeq
import Derived.Test.YtfpafikfjjckeaaGreatDoorZ10
import Derived.Test.YtfpafikfjjckeaaGreatDoorZ11
set_option maxRecDepth 100000
set_option maxHeartbeats 200000000
namespace Go.Proofs.YtfpafikfjjckeaaGreatDoor
section
open Go Go.RowKit Go.Maps
theorem VA{w:World}{base:Nat}{e:TypeId}{K n:Nat}{v:Value}{xs:List Value}(h:w.ownsRow base e K v n xs){b:Nat}{o:Obj}(hb:w.heap[b]?=some o)(E:o.isWalk=true):some b≠v.ownBlock:=by
 rcases h.2 with⟨rfl,_⟩|⟨g,cap,I,rfl,_,D,_⟩;·simp[Value.ownBlock]
 intro j;have:b=g:=by simpa [Value.ownBlock] using j
 subst this;rw[D] at hb;cases hb;cases E
theorem J2{H:Type}{P:Program}{k:TypeId}{R:Value->Option (DataW H×List MemPlace)}{w:World}{b n:Nat}{D:DataW H}(h:w.ownsMap P k R b n D):∃o,w.heap[b]?=some o/\o.isWalk=true:=by obtain⟨E,j,hb,_⟩:=h;exact⟨_,hb,rfl⟩
theorem Jv{w:World}{base:Nat}{e:TypeId}{K g:Nat}(hb:base<=g)(h:w.heap[g]?=some (.cells #[] e (0,0))):w.ownsRow base e K (.slice (g,0) 0 0) 0 []:=
 ⟨by simp,.inr ⟨g,0,#[],rfl,hb,h,Q3 _,Qh _,by simp,by simp⟩⟩
theorem Je.strict{D:Type}{lt:D->D->Prop}(O:Je lt):∀{L:List D},L.Pairwise (λa b=>¬lt b a)->L.Nodup->L.Pairwise lt
 |[],_,_=>List.Pairwise.nil
 |a::L,h,j=>by
  rw[Yh] at h;rw[GS] at j;refine Yh.2 ⟨λb hb=>?_,O.strict h.2 j.2⟩;rcases O.total a b with t|t|t;·exact t
  ·subst t;exact absurd hb j.1
  exact absurd t (h.1 b hb)
end
section
open Go Go.RowKit Go.Maps
section
variable {w w' W:World} {base p m1 m2 n1 n2:Nat} {fo:Q4->Option Unit} {fd:Id->Option Bool} {gr nm at_ td hv gn:Z3}
theorem Vw.drew(h:Vw w base p m1 m2 n1 n2 fo fd gr nm at_ td hv gn):Vw w.drew base p m1 m2 n1 n2 fo fd gr nm at_ td hv gn:=
 h.below (Qc _ w).drew
theorem Vw.xlt(h:Vw w base p m1 m2 n1 n2 fo fd gr nm at_ td hv gn):∀b,(b=p\/b=m1\/b=m2)->b<w:=by
 obtain⟨I,j,_⟩:=h.on;obtain⟨J,b1,_⟩:=h.dirs;obtain⟨O,D,_⟩:=J2 j;obtain⟨Q,E,_⟩:=J2 b1;rintro b (rfl|rfl|rfl);·exact h.lt
 ·exact(Q5.1 D).1
 exact(Q5.1 E).1
theorem Vw.grown_keep(h:Vw w base p m1 m2 n1 n2 fo fd gr nm at_ td hv gn){r:Z3}(hr:r∈[gr,nm,at_,td,hv,gn])(j:w.grownBy W r.v.ownBlock){o:Nat}{u:Value}:(W.setCell (p,o) u).heap[p]?=some (.cells ((#[gr.v,nm.v,.map (some m1),at_.v,td.v,.map (some m2),hv.v,gn.v]:Array Value).setIfInBounds o u) 117 (0,0))/\(∃D,(W.setCell (p,o) u).ownsMap Tryz.prog 27 (Z7 XN) m1 n1 D/\Xu YL fo D)/\(∃D,(W.setCell (p,o) u).ownsMap Tryz.prog 60 (Z7 Value.bool) m2 n2 D/\Xu Ze fd D):=by have E:∀b,(b=p\/b=m1\/b=m2)->r.v.ownBlock≠some b:=λb hb e=>h.fam.free r hr b e hb;have I:Qd (λb=>r.v.ownBlock=some b) w W:=⟨j.os,j.tape,j.output,j.size,λk Y Z=>j.block k Y (λe=>Z e.symm)⟩;have J:=Qd.setCell (F:=λb=>b=p) (p:=(p,o)) (Qd.refl _ W) (λ_=>rfl) u;obtain⟨O,U,X⟩:=h.on;obtain⟨Q,b1,b2⟩:=h.dirs;refine⟨Zf (QY h.box I (E p (.inl rfl))),⟨O,Xo (Xo U I (E m1 (.inr (.inl rfl)))) J (λe=>h.ne.1 e.symm),X⟩,⟨Q,Xo (Xo b1 I (E m2 (.inr (.inr rfl)))) J (λe=>h.ne.2.1 e.symm),b2⟩⟩
theorem Vw.fam_put(h:Vw w base p m1 m2 n1 n2 fo fd gr nm at_ td hv gn){i:Nat}{r:Z3}(E:[gr,nm,at_,td,hv,gn][i]?=some r){g cap n:Nat}{xs:List Value}(I:W.ownsRow base r.e r.K (.slice (g,0) n cap) n xs)(D:w.grownBy W r.v.ownBlock)(j:r.v.ownBlock=some g\/g=w.heap.size){o:Nat}{u:Value}:Zr (W.setCell (p,o) u) base (λb=>b=p\/b=m1\/b=m2) ([gr,nm,at_,td,hv,gn].set i ⟨r.e,r.K,.slice (g,0) n cap,n,xs⟩):=
 (h.fam.put E I D j (Q3 _) h.xlt).touch (Qd.setCell (F:=λb=>b=p) (p:=(p,o)) (Qd.refl _ W) (λ_=>rfl) u) (λ_ J=>.inl J)
theorem Vw.put_at_(h:Vw w base p m1 m2 n1 n2 fo fd gr nm at_ td hv gn){g cap n:Nat}{xs:List Value}(E:W.ownsRow base at_.e at_.K (.slice (g,0) n cap) n xs)(j:w.grownBy W at_.v.ownBlock)(D:at_.v.ownBlock=some g\/g=w.heap.size):Vw (W.setCell (p,3) (.slice (g,0) n cap)) base p m1 m2 n1 n2 fo fd gr nm ⟨at_.e,at_.K,.slice (g,0) n cap,n,xs⟩ td hv gn:=by obtain⟨I,J,O⟩:=h.grown_keep (r:=at_) (by simp) j (o:=3) (u:=.slice (g,0) n cap);exact⟨I,h.fam_put (i:=2) (r:=at_) rfl E j D,J,O,h.ne,h.base_le⟩
theorem Vw.put_td(h:Vw w base p m1 m2 n1 n2 fo fd gr nm at_ td hv gn){g cap n:Nat}{xs:List Value}(E:W.ownsRow base td.e td.K (.slice (g,0) n cap) n xs)(j:w.grownBy W td.v.ownBlock)(D:td.v.ownBlock=some g\/g=w.heap.size):Vw (W.setCell (p,4) (.slice (g,0) n cap)) base p m1 m2 n1 n2 fo fd gr nm at_ ⟨td.e,td.K,.slice (g,0) n cap,n,xs⟩ hv gn:=by obtain⟨I,J,O⟩:=h.grown_keep (r:=td) (by simp) j (o:=4) (u:=.slice (g,0) n cap);exact⟨I,h.fam_put (i:=3) (r:=td) rfl E j D,J,O,h.ne,h.base_le⟩
theorem Vw.put_hv(h:Vw w base p m1 m2 n1 n2 fo fd gr nm at_ td hv gn){g cap n:Nat}{xs:List Value}(E:W.ownsRow base hv.e hv.K (.slice (g,0) n cap) n xs)(j:w.grownBy W hv.v.ownBlock)(D:hv.v.ownBlock=some g\/g=w.heap.size):Vw (W.setCell (p,6) (.slice (g,0) n cap)) base p m1 m2 n1 n2 fo fd gr nm at_ td ⟨hv.e,hv.K,.slice (g,0) n cap,n,xs⟩ gn:=by obtain⟨I,J,O⟩:=h.grown_keep (r:=hv) (by simp) j (o:=6) (u:=.slice (g,0) n cap);exact⟨I,h.fam_put (i:=4) (r:=hv) rfl E j D,J,O,h.ne,h.base_le⟩
theorem Vw.put_gn(h:Vw w base p m1 m2 n1 n2 fo fd gr nm at_ td hv gn){g cap n:Nat}{xs:List Value}(E:W.ownsRow base gn.e gn.K (.slice (g,0) n cap) n xs)(j:w.grownBy W gn.v.ownBlock)(D:gn.v.ownBlock=some g\/g=w.heap.size):Vw (W.setCell (p,7) (.slice (g,0) n cap)) base p m1 m2 n1 n2 fo fd gr nm at_ td hv ⟨gn.e,gn.K,.slice (g,0) n cap,n,xs⟩:=by obtain⟨I,J,O⟩:=h.grown_keep (r:=gn) (by simp) j (o:=7) (u:=.slice (g,0) n cap);exact⟨I,h.fam_put (i:=5) (r:=gn) rfl E j D,J,O,h.ne,h.base_le⟩
theorem Vw.dir(h:Vw w base p m1 m2 n1 n2 fo fd gr nm at_ td hv gn)(E:n2<maxLen)(x:Id)(d:Bool):∃w',(Instr.mapUpdate 113 (.map (some m2)) (Qa x) (.bool d)).run Tryz.prog w=.ok () w'/\Vw w' base p m1 m2 n1 (n2+1) fo (λy=>if y=x then some d else fd y) gr nm at_ td hv gn/\Qd (λb=>b=m2) w w':=by obtain⟨Z,b1,b2⟩:=h.dirs;obtain⟨I,J,O⟩:=h.on;obtain⟨w',U,Y,j⟩:=b1.update Xp Tryz.underlying113 E (YM x) (Vt (V:=Value.bool) AJ d);have D:Qd (λb=>b=m2) w w':=⟨j.os,j.tape,j.output,j.size,λk Q E=>j.block k Q (λe=>E (by cases e;rfl))⟩;exact⟨w',U,⟨QY h.box D h.ne.2.1,h.fam.touch D (λ_ X=>.inr (.inr X)),⟨I,Xo J D h.ne.2.2,O⟩,⟨_,Y,b2.put XJ b1.isMap x d⟩,h.ne,h.base_le⟩,D⟩
theorem Vw.seton(h:Vw w base p m1 m2 n1 n2 fo fd gr nm at_ td hv gn)(E:n1<maxLen)(x:Q4):∃w',(Instr.mapUpdate 112 (.map (some m1)) (QU x) (.agg #[])).run Tryz.prog w=.ok () w'/\Vw w' base p m1 m2 (n1+1) n2 (λy=>if y=x then some () else fo y) fd gr nm at_ td hv gn/\Qd (λb=>b=m1) w w':=by obtain⟨J,b1,b2⟩:=h.dirs;obtain⟨Z,I,O⟩:=h.on;obtain⟨w',U,Y,j⟩:=I.update Uj Tryz.underlying112 E (JK x) (Vt (V:=XN) UR ());have D:Qd (λb=>b=m1) w w':=⟨j.os,j.tape,j.output,j.size,λk Q E=>j.block k Q (λe=>E (by cases e;rfl))⟩;exact⟨w',U,⟨QY h.box D h.ne.1,h.fam.touch D (λ_ X=>.inr (.inl X)),⟨_,Y,O.put Vs I.isMap x ()⟩,⟨J,Xo b1 D (λe=>h.ne.2.2 e.symm),b2⟩,h.ne,h.base_le⟩,D⟩
end
end
section
open Go Go.RowKit Go.Maps Go.Shelf
theorem UD:type_of% @Tryz.zeroValue124:=@Tryz.zeroValue124
theorem E9:type_of% @Tryz.underlying173:=@Tryz.underlying173
def Qb(p:Q2):List Value:=[p.nd.s.T,p.nd.s.R,p.nd.I,p.pa.s.T,p.pa.s.R,p.pa.I,.string p.nm,.bool p.dir]
def ZA(p:Q2):Value:=.agg p
def ZQ(t:QJ):List Value:=[t.at_.s.T,t.at_.s.R,t.at_.I,t.p.nd.s.T,t.p.nd.s.R,t.p.nd.I,t.p.pa.s.T,t.p.pa.s.R,t.p.pa.I,.string t.p.nm,.bool t.p.dir]
theorem KB(x:Q2):∀u∈Qb x,u.oneCell'=true:=by intro u h;simp[Qb] at h;rcases h with rfl|rfl|rfl|rfl|rfl|rfl|rfl|rfl<;>rfl
theorem AL(x:QJ):∀u∈ZQ x,u.oneCell'=true:=by intro u h;simp[ZQ] at h;rcases h with rfl|rfl|rfl|rfl|rfl|rfl|rfl|rfl|rfl|rfl|rfl<;>rfl
theorem JO{a b:Q2}(h:ZA a=ZA b):a=b:=by obtain⟨⟨⟨j,D,_,_⟩,E,_⟩,⟨⟨I,J,_,_⟩,O,_⟩,Q,U⟩:=a;obtain⟨⟨⟨b1,b2,_,_⟩,W,_⟩,⟨⟨X,Y,_,_⟩,Z,_⟩,b7,b8⟩:=b;simpa [ZA,and_assoc] using h
def Jw:Q2:=⟨Qf,Qf,⟨#[]⟩,false⟩
def US(f:Id->Option Q2):Nat->Id->Id->Bool|0,_,_=>true|n+1,x,h=>if x=h then true else match f x with|none=>false|some p=>US f n p.pa h
theorem Ld(L:List Q2):∀(n:Nat)(x h:Id),Zx L n x h=US (QD L) n x h
 |0,_,_=>rfl
 |n+1,x,h=>by
  rw[Zx,US]
  cases QD L x with
  |none=>rfl
  |some p=>simp only[Ld L n]
theorem Fq{w:World}{g:Nat}{a b c v u z:Value}{t:TypeId}{j:Nat×Nat}(h:w.heap[g]?=some (.cells #[a,b,c] t j)):(((w.setCell (g,0) v).setCell (g,1) u).setCell (g,2) z).heap[g]?=some (.cells #[v,u,z] t j):=by simp[World.setCell,Vm,h]
theorem AM{w:World}{g k:Nat}{v u z:Value}(h:k≠g):(((w.setCell (g,0) v).setCell (g,1) u).setCell (g,2) z).heap[k]?=w.heap[k]?:=by rw[YV _ _ _ _ h,YV _ _ _ _ h,YV _ _ _ _ h]
theorem UT(a b:Id):Xs a.s.T a.s.R a.I b.s.T b.s.R b.I=decide (a=b):=by
 by_cases h:a=b;·subst h;simp[Xs]
 rw[Zo h];unfold Xs;by_cases D:a.s.T=b.s.T
 ·by_cases E:a.s.R=b.s.R;·have j:a.I≠b.I:=λj=>h (Id.ext' (Q4.ext' D E) j);simp[j]
  simp[E]
 simp[D]
def Fr(f:Id->Option Q2)(w:World)(b n:Nat)(D:DataW Q2):Prop:=w.ownsMap Tryz.prog 60 (Z7 ZA) b n D/\Xu Ze f D
theorem Fr.below{f:Id->Option Q2}{w w':World}{b n:Nat}{D:DataW Q2}(h:Fr f w b n D)(hb:Below w w w'):Fr f w' b n D:=
 ⟨h.1.kept (row:=none) ⟨hb.os,hb.tape,hb.output,hb.size,λk j _=>hb.block k j⟩ (by simp),h.2⟩
def HA(f:Id->Option Q2)(n:Nat)(R:Bool)(h:Id)(D j:Nat)(w:World)(i:Value)(wr:World):Prop:=
 ∃(k:Nat)(y:Id),k<=n/\i=k/\US f (n-k) y h=R/\wr.heap[D]?=some (.cells y 60 (0,0))/\wr.heap[j]?=some (.cells h 60 (0,0))/\Below w w wr
theorem HB(f:Id->Option Q2)(x E:Id)(n b m:Nat)(ad:DataW Q2)(w:World)(hM:Fr f w b m ad)(hn:n<=100000):Calls Tryz.prog 82 #[.map (some b),Qa x,Qa E,.int .i64 (n:Int)] w λe w'=>e=.returned (.bool (US f n x E))/\Below w w w':=by
 have HM:=Ki (λa0 (hW:Below w w a0)=>hM.below hW);clear hM;unfold Qa;go_enter Tryz.func82,Tryz.ntmps82;go_wp2;go_step3;go_wp2;go_step3;go_wp2;obtain⟨w0,W⟩:∃a0,(w.alloc (.cells x 60)).alloc (.cells E 60)=a0:=⟨_,rfl⟩;have ab:Q0 w w0:=by rw[<-W];exact((Q0.refl w).alloc _).alloc _
 have a4:w0.heap[w.heap.size]?=some (.cells x 60 (0,0)):=by rw[<-W];exact(Z5 _ _ _ (by simp)).trans (Qi w _)
 have a3:w0.heap[w.heap.size+1]?=some (.cells E 60 (0,0)):=by rw[<-W];have:=Qi (w.alloc (.cells x 60)) (.cells E 60);rwa [Qy] at this
 rw[W];obtain⟨j,a7⟩:∃k,w.heap.size=k:=⟨_,rfl⟩;obtain⟨X,a6⟩:∃k,w.heap.size+1=k:=⟨_,rfl⟩;rw[a6] at a3 |-;rw[a7] at a4 |-;have a9:=ab.below;have a5:=Ki (show j=w.heap.size/\X=w.heap.size+1 by omega);obtain⟨R,a8⟩:=ex (US f n x E);have Y:=Ki a8;clear W ab a7 a6 a8;go_loopw [12] (λi wr=>HA f n R E j X w i wr) (λi _=>n-(intOf i).toNat);case atStart=>exact⟨0,x,Qh _,rfl,Y.o,a4,a3,a9⟩
 case round=>
  clear a4 a3 a9;obtain⟨k,y,hk,rfl,h,O,Q,J⟩:=hrel;have HX:=Ki O;have HU:=Ki Q;have ah:=(Q5.1 O).1;have ag:=(Q5.1 Q).1;have af:j≠X:=by have:=a5.o;omega
  have e0:=cr0 O;have e1:=cr1 O;have e2:=cr2 O;have f0:=cr0 Q;have f1:=cr1 Q;have f2:=cr2 Q;have z0:∀i,wr.frozen? ⟨j,i,none⟩=false:=λi=>by simp[World.frozen?,O]
  by_cases aj:k<n
  ·obtain⟨m',ae⟩:∃m',n-k=m'+1:=⟨n-k-1,by omega⟩;rw[ae,US] at h;have a2:=HM.o wr J;have D:=F9 XJ JO a2.1 E9 Jw (UD _) a2.2 y;have hq:=Xt;have ai:=ZR;have hE:=UT y E;unfold Qa at D;clear O Q a2;by_cases U:y=E;·rw[Q7 U] at h;rw[QF U] at hE;have I:=Ki h;obtain⟨p,hp⟩:=ex ((f y).getD Jw);obtain⟨ok,ac⟩:=ex ((f y).isSome);rw[hp,ac] at D;unfold ZA at D;clear U h hp ac;go_wp2;rw[Exit.noGoto_ret];go_ret;exact⟨Qo (by rw[Y.o];exact I.o),J.alloc (by have:=J.size;omega) _⟩
   rw[Q6 U] at h;rw[Zo U] at hE;clear U
   cases Z:f y with
   |none=>rw[Z] at h D;simp only[Option.isSome_none,Option.getD_none] at D;simp only at h;have I:=Ki h;unfold ZA at D;clear h Z;go_wp2;rw[Exit.noGoto_ret];go_ret;exact⟨Qo (by rw[Y.o];exact I.o),J.alloc (by have:=J.size;omega) _⟩
   |some p=>
    rw[Z] at h D;simp only[Option.isSome_some,Option.getD_some] at D;simp only at h;have I:=Ki h;unfold ZA at D;clear h Z;go_wp2;have q:=a5.o;have a1:w<=j:=(by omega);have aa:=((J.setCell (p:=(j,0)) a1 p.pa.s.T).setCell (p:=(j,1)) a1 p.pa.s.R).setCell (p:=(j,2)) a1 p.pa.I;refine⟨⟨k+1,p.pa,by omega,by go_num,?_,?_,?_,aa.alloc aa.size _⟩,by simp[intOf];omega⟩;·rw[show n-(k+1)=m' by omega];exact I.o
    ·exact(Z5 _ _ j (by simpa [World.setCell] using ah)).trans (Fq HX.o)
    exact(Z5 _ _ X (by simpa [World.setCell] using ag)).trans ((AM af.symm).trans HU.o)
  obtain rfl:k=n:=by omega
  rw[GV,US] at h;have I:=Ki h;clear h;go_wp2;rw[Exit.noGoto_ret];go_ret;exact⟨Qo (by rw[Y.o];exact I.o),J⟩
end
section
open Go Go.RowKit Go.Maps
structure VS where
 at_:List Id
 td:List Q2
 hv:List QP
 gn:List QP
 fd:Id->Option Bool
def ZH(v:Value)(l:List Id):Z3:=⟨60,3,v,l.length,l.flatMap Qe⟩
def ZI(v:Value)(l:List Q2):Z3:=⟨124,8,v,l.length,l.flatMap Qb⟩
def QV(v:Value)(l:List QP):Z3:=⟨171,5,v,l.length,l.flatMap QR⟩
def J3(v:Value)(l:List QP):Z3:=⟨171,5,v,l.length,l.flatMap QR⟩
structure Ga(w0:World)(base p m1 m2 n1 N:Nat)(fo:Q4->Option Unit)(gr nm:Z3)(b3 b6:Nat)(g:Q1)(o:Qt)(S:VS)(va vt vh vg:Value)(w:World):Prop where
 vw:∃n2,n2<=N/\Vw w base p m1 m2 n1 n2 fo S.fd gr nm (ZH va S.at_) (ZI vt S.td) (QV vh S.hv) (J3 vg S.gn)
 c3:w.heap[b3]?=some (.cells (Qg g).toArray 31 (0,0))
 c6:w.heap[b6]?=some (.cells (Qp o).toArray 72 (0,0))
 bel:Below base w0 w
 bl:base<=w0
section
variable {w0 w W:World} {base p m1 m2 n1 N:Nat} {fo:Q4->Option Unit} {gr nm:Z3} {b3 b6:Nat} {g:Q1} {o:Qt} {S:VS} {va vt vh vg:Value}
theorem Uo{w:World}{b:Nat}{cs D:Array Value}{t j:TypeId}(E:w.heap[b]?=some (.cells cs t (0,0)))(h:w.heap[b]?=some (.cells D j (0,0))):t=j:=by rw[E] at h;injection h with h;injection h
theorem ZN{w:World}{base:Nat}{r:Z3}(h:r.own w base){b:Nat}{cs:Array Value}{t:TypeId}(hb:w.heap[b]?=some (.cells cs t (0,0)))(I:t≠r.e):r.v.ownBlock≠some b:=by
 intro e;unfold Z3.own at h;rcases h.2 with⟨j,_⟩|⟨E,cap,J,j,_,D,_⟩;·rw[j] at e;cases e
 rw[j] at e;have:E=b:=by simpa [Value.ownBlock] using e
 subst this;rw[hb] at D;cases D;exact I rfl
theorem Ga.below(h:Ga w0 base p m1 m2 n1 N fo gr nm b3 b6 g o S va vt vh vg w)(hb:Below w w W):Ga w0 base p m1 m2 n1 N fo gr nm b3 b6 g o S va vt vh vg W:=by obtain⟨D,j,hv⟩:=h.vw;exact⟨⟨D,j,hv.below hb⟩,(hb.block b3 (Q5.1 h.c3).1).trans h.c3,(hb.block b6 (Q5.1 h.c6).1).trans h.c6,h.bel.trans (hb.mono (Q9 h.bl h.bel.size)),h.bl⟩
theorem Ga.drew(h:Ga w0 base p m1 m2 n1 N fo gr nm b3 b6 g o S va vt vh vg w):Ga w0 base p m1 m2 n1 N fo gr nm b3 b6 g o S va vt vh vg w.drew:=h.below (Qc _ w).drew
theorem UU{base:Nat}{w0 w W:World}(h:Below base w0 w)(I:base<=w0){r:Z3}(J:r.own w base)(D:w.grownBy W r.v.ownBlock):Below base w0 W:=
 h.grown D (Q9 I h.size) (λj E=>(UG J j E).1)
theorem Ga.dir(h:Ga w0 base p m1 m2 n1 N fo gr nm b3 b6 g o S va vt vh vg w)(I:N<maxLen)(x:Id)(d:Bool):∃w',(Instr.mapUpdate 113 (.map (some m2)) (Qa x) (.bool d)).run Tryz.prog w=.ok () w'/\Ga w0 base p m1 m2 n1 (N+1) fo gr nm b3 b6 g o { S with fd:=λy=>if y=x then some d else S.fd y } va vt vh vg w':=by
 obtain⟨X,J,hv⟩:=h.vw;obtain⟨w',O,Q,j⟩:=hv.dir (Nat.lt_of_le_of_lt J I) x d;obtain⟨Y,b1,_⟩:=hv.dirs;obtain⟨om,D,U⟩:=J2 b1;have E:∀b cs t,w.heap[b]?=some (.cells cs t (0,0))->¬b=m2:=λb cs t hb e=>by subst e;rw[hb] at D;cases D;cases U
 refine⟨w',O,⟨⟨X+1,by omega,Q⟩,QY h.c3 j (E _ _ _ h.c3),QY h.c6 j (E _ _ _ h.c6),?_,h.bl⟩⟩;exact h.bel.trans (j.below (Q9 h.bl h.bel.size) (λx Z e=>by have:=hv.base_le.2.2;omega))
theorem Ga.push_at_(h:Ga w0 base p m1 m2 n1 N fo gr nm b3 b6 g o S va vt vh vg w)(x:Id){j cap:Nat}(U:W.ownsRow base 60 3 (.slice (j,0) (S.at_.length+1) cap) (S.at_.length+1) (S.at_.flatMap Qe++Qe x))(D:w.grownBy W va.ownBlock)(O:va.ownBlock=some j\/j=w.heap.size):Ga w0 base p m1 m2 n1 N fo gr nm b3 b6 g o { S with at_:=S.at_++[x] } (.slice (j,0) (S.at_.length+1) cap) vt vh vg (W.setCell (p,3) (.slice (j,0) (S.at_.length+1) cap)):=by
 obtain⟨Z,Q,hv⟩:=h.vw;have E:(ZH va S.at_).own w base:=hv.fam.own _ (by simp);have q3:=(D.block b3 (Q5.1 h.c3).1 (λe=>ZN E h.c3 (show(31:TypeId)≠60 by decide) e.symm)).trans h.c3;have q6:=(D.block b6 (Q5.1 h.c6).1 (λe=>ZN E h.c6 (show(72:TypeId)≠60 by decide) e.symm)).trans h.c6;have I:b3≠p:=λe=>absurd (Uo (e▸h.c3) hv.box) (show(31:TypeId)≠117 by decide);have J:b6≠p:=λe=>absurd (Uo (e▸h.c6) hv.box) (show(72:TypeId)≠117 by decide);have X:(S.at_++[x]).length=S.at_.length+1:=by simp
 have Y:(S.at_++[x]).flatMap Qe=S.at_.flatMap Qe++Qe x:=by simp
 refine⟨⟨Z,Q,?_⟩,(Xw I).trans q3,(Xw J).trans q6,Xd (UU h.bel h.bl E D) hv.base_le.1,h.bl⟩;have:=hv.put_at_ (g:=j) (cap:=cap) (n:=S.at_.length+1) (xs:=S.at_.flatMap Qe++Qe x) U D O;unfold ZH at *;dsimp only at *;rw[X,Y];exact this
theorem Ga.push_td(h:Ga w0 base p m1 m2 n1 N fo gr nm b3 b6 g o S va vt vh vg w)(x:Q2){j cap:Nat}(U:W.ownsRow base 124 8 (.slice (j,0) (S.td.length+1) cap) (S.td.length+1) (S.td.flatMap Qb++Qb x))(D:w.grownBy W vt.ownBlock)(O:vt.ownBlock=some j\/j=w.heap.size):Ga w0 base p m1 m2 n1 N fo gr nm b3 b6 g o { S with td:=S.td++[x] } va (.slice (j,0) (S.td.length+1) cap) vh vg (W.setCell (p,4) (.slice (j,0) (S.td.length+1) cap)):=by
 obtain⟨Z,Q,hv⟩:=h.vw;have E:(ZI vt S.td).own w base:=hv.fam.own _ (by simp);have q3:=(D.block b3 (Q5.1 h.c3).1 (λe=>ZN E h.c3 (show(31:TypeId)≠124 by decide) e.symm)).trans h.c3;have q6:=(D.block b6 (Q5.1 h.c6).1 (λe=>ZN E h.c6 (show(72:TypeId)≠124 by decide) e.symm)).trans h.c6;have I:b3≠p:=λe=>absurd (Uo (e▸h.c3) hv.box) (show(31:TypeId)≠117 by decide);have J:b6≠p:=λe=>absurd (Uo (e▸h.c6) hv.box) (show(72:TypeId)≠117 by decide);have X:(S.td++[x]).length=S.td.length+1:=by simp
 have Y:(S.td++[x]).flatMap Qb=S.td.flatMap Qb++Qb x:=by simp
 refine⟨⟨Z,Q,?_⟩,(Xw I).trans q3,(Xw J).trans q6,Xd (UU h.bel h.bl E D) hv.base_le.1,h.bl⟩;have:=hv.put_td (g:=j) (cap:=cap) (n:=S.td.length+1) (xs:=S.td.flatMap Qb++Qb x) U D O;unfold ZI at *;dsimp only at *;rw[X,Y];exact this
theorem Ga.push_hv(h:Ga w0 base p m1 m2 n1 N fo gr nm b3 b6 g o S va vt vh vg w)(x:QP){j cap:Nat}(U:W.ownsRow base 171 5 (.slice (j,0) (S.hv.length+1) cap) (S.hv.length+1) (S.hv.flatMap QR++QR x))(D:w.grownBy W vh.ownBlock)(O:vh.ownBlock=some j\/j=w.heap.size):Ga w0 base p m1 m2 n1 N fo gr nm b3 b6 g o { S with hv:=S.hv++[x] } va vt (.slice (j,0) (S.hv.length+1) cap) vg (W.setCell (p,6) (.slice (j,0) (S.hv.length+1) cap)):=by
 obtain⟨Z,Q,hv⟩:=h.vw;have E:(QV vh S.hv).own w base:=hv.fam.own _ (by simp);have q3:=(D.block b3 (Q5.1 h.c3).1 (λe=>ZN E h.c3 (show(31:TypeId)≠171 by decide) e.symm)).trans h.c3;have q6:=(D.block b6 (Q5.1 h.c6).1 (λe=>ZN E h.c6 (show(72:TypeId)≠171 by decide) e.symm)).trans h.c6;have I:b3≠p:=λe=>absurd (Uo (e▸h.c3) hv.box) (show(31:TypeId)≠117 by decide);have J:b6≠p:=λe=>absurd (Uo (e▸h.c6) hv.box) (show(72:TypeId)≠117 by decide);have X:(S.hv++[x]).length=S.hv.length+1:=by simp
 have Y:(S.hv++[x]).flatMap QR=S.hv.flatMap QR++QR x:=by simp
 refine⟨⟨Z,Q,?_⟩,(Xw I).trans q3,(Xw J).trans q6,Xd (UU h.bel h.bl E D) hv.base_le.1,h.bl⟩;have:=hv.put_hv (g:=j) (cap:=cap) (n:=S.hv.length+1) (xs:=S.hv.flatMap QR++QR x) U D O;unfold QV at *;dsimp only at *;rw[X,Y];exact this
theorem Ga.push_gn(h:Ga w0 base p m1 m2 n1 N fo gr nm b3 b6 g o S va vt vh vg w)(x:QP){j cap:Nat}(U:W.ownsRow base 171 5 (.slice (j,0) (S.gn.length+1) cap) (S.gn.length+1) (S.gn.flatMap QR++QR x))(D:w.grownBy W vg.ownBlock)(O:vg.ownBlock=some j\/j=w.heap.size):Ga w0 base p m1 m2 n1 N fo gr nm b3 b6 g o { S with gn:=S.gn++[x] } va vt vh (.slice (j,0) (S.gn.length+1) cap) (W.setCell (p,7) (.slice (j,0) (S.gn.length+1) cap)):=by
 obtain⟨Z,Q,hv⟩:=h.vw;have E:(J3 vg S.gn).own w base:=hv.fam.own _ (by simp);have q3:=(D.block b3 (Q5.1 h.c3).1 (λe=>ZN E h.c3 (show(31:TypeId)≠171 by decide) e.symm)).trans h.c3;have q6:=(D.block b6 (Q5.1 h.c6).1 (λe=>ZN E h.c6 (show(72:TypeId)≠171 by decide) e.symm)).trans h.c6;have I:b3≠p:=λe=>absurd (Uo (e▸h.c3) hv.box) (show(31:TypeId)≠117 by decide);have J:b6≠p:=λe=>absurd (Uo (e▸h.c6) hv.box) (show(72:TypeId)≠117 by decide);have X:(S.gn++[x]).length=S.gn.length+1:=by simp
 have Y:(S.gn++[x]).flatMap QR=S.gn.flatMap QR++QR x:=by simp
 refine⟨⟨Z,Q,?_⟩,(Xw I).trans q3,(Xw J).trans q6,Xd (UU h.bel h.bl E D) hv.base_le.1,h.bl⟩;have:=hv.put_gn (g:=j) (cap:=cap) (n:=S.gn.length+1) (xs:=S.gn.flatMap QR++QR x) U D O;unfold J3 at *;dsimp only at *;rw[X,Y];exact this
end
end
section
open Go Go.RowKit
def Zj(h:Qm):List Value:=[h.nm.T,h.nm.R,h.un.T,h.un.R]
def AN(h:Qm):Value:=.agg #[h.nm.T,h.nm.R,h.un.T,h.un.R]
theorem EF(x:Qm):∀u∈Zj x,u.oneCell'=true:=by intro u h;simp[Zj] at h;rcases h with rfl|rfl|rfl|rfl<;>rfl
def UV(a b:Qm):Int:=a.nm.cmp b.nm
theorem HC(a b:Qm)(w:World):Calls Tryz.prog 137 #[AN a,AN b] w λe w'=>e=.returned (.int .i64 (UV a b))/\Q0 w w':=by have h:=Ki (λW=>Eo a.nm b.nm W);unfold QU at h;unfold AN UV;go_enter Tryz.func137,Tryz.ntmps137;go_wp2_with fail;refine(h.o _).mono ?_;rintro e E ⟨rfl,j⟩;have D:=Ki ((((Q0.refl w).alloc _).alloc _).trans j);clear j;go_wp2;go_ret;exact⟨rfl,D.o⟩
end
section
open Go Go.RowKit Go.Sort Go.Shelf
instance : Inhabited Qm:=⟨⟨default,default⟩⟩
theorem HD(xs:List Qm)(v:Value)(base:Nat)(w:World)(j:w.ownsRow base 167 4 v xs.length (xs.flatMap Zj))(D:xs.length<4611686018427387904):Calls Tryz.prog 136 #[v,.func (.func 137) #[] #[]] w λr w'=>r=.returned (.tuple #[])/\∃h:List Qm,h.Perm xs/\h.Pairwise (λa b=>¬UV b a<0)/\w'.ownsRow base 167 4 v h.length (h.flatMap Zj)/\Go.RowKit.Below base w w':=
 Ey Tryz.laysSlF06_f136 4 Tryz.isAgg167 Tryz.sizeOf167 Zj (λ_=>rfl) EF UV (EA T1 Qm.nm) 137 #[] (G6 Tryz.func137 (by kernel_rfl) rfl) (λx y W=>HC x y W) xs v 167 base w j D
end
section
def YF(a b:List Q4):List Qm:=List.zipWith Qm.mk a b
theorem Le(a b:List Q4):(YF a b).length=min a.length b.length:=by simp[YF]
def Uq(s:Q4)(l:List Q4):Nat:=(l.filter λx=>decide (x=s)).length
theorem HE{a:List Q4}{k:Nat}(h:k<a.length)(s:Q4):Uq s (a.take (k+1))=Uq s (a.take k)+if a[k]=s then 1 else 0:=by unfold Uq;rw[QQ h,YU,Qj];by_cases e:a[k]=s<;>simp[e]
theorem HF{a b:List Q4}{k:Nat}(h:k<=min a.length b.length):((YF a b).take k).map Qm.nm=a.take k:=by
 apply B4;·simp[YF];omega
 intro i j D;simp[YF]
theorem HG{a b:List Q4}{k:Nat}(j:k<a.length)(D:k<b.length):(YF a b).take (k+1)=(YF a b).take k++[⟨a[k],b[k]⟩]:=by
 have h:k<(YF a b).length:=by rw[Le];omega
 rw[QQ h];simp[YF]
theorem HI{a b:List Q4}{k:Nat}(h:k<=min a.length b.length)(s:Q4):Uq s (a.take k)=0↔∀g∈(YF a b).take k,g.nm≠s:=by
 unfold Uq;rw[<-HF h,VM,Dh];constructor;·intro j g D e;exact j g.nm (QZ.2 ⟨g,D,rfl⟩) (by simp[e])
 intro j x E;obtain⟨g,D,rfl⟩:=QZ.1 E;simpa using j g D
end
section
open Go Go.RowKit Go.Maps Go.Shelf
theorem Ja:type_of% @step_append_lies:=@step_append_lies
theorem U7:type_of% @Tryz.underlying106:=@Tryz.underlying106
theorem Db:type_of% @Tryz.zeroValue3:=@Tryz.zeroValue3
def HJ(a b:List Q4)(w:World)(bm:Nat)(j i:Value)(wr:World):Prop:=
 ∃k:Nat,k<=min a.length b.length/\i=.int .i64 k/\∃(D:DataW HH)(L:List Qm),wr.ownsMap Tryz.prog 27 (plainElem Tryz.prog 3) bm k D/\(∀s,D.atKey (YL s) (.lit (.int .i64 0))=.lit (.int .i64 (Uq s (a.take k):Nat))) /\
  wr.ownsRow w 167 4 j L.length (L.flatMap Zj)/\L.Nodup/\(∀h,h∈L↔Ya ((YF a b).take k) h)/\L.length<=k/\Below w w wr
def HK(a b:List Q4)(w:World)(e:Ending)(w':World):Prop:=
 ∃(v:Value)(H:List Qm),e=.returned v/\w'.ownsRow w 167 4 v H.length (H.flatMap Zj)/\H.Pairwise (λx y=>x.nm.Lt y.nm)/\(∀h,h∈H↔Ya (YF a b) h)/\H.length<=a.length/\Below w w w'
theorem Lf:∀{L:List Qm},(∀g h,g∈L->h∈L->g.nm=h.nm->g=h)->L.Pairwise (λp q=>¬q.nm.Lt p.nm)->L.Nodup->L.Pairwise (λp q=>p.nm.Lt q.nm)
 |[],_,_,_=>List.Pairwise.nil
 |a::L,D,h,j=>by
  rw[Yh] at h;rw[GS] at j;refine Yh.2 ⟨λb hb=>?_,Lf (λg h E I=>D g h (by simp[E]) (by simp[I])) h.2 j.2⟩;rcases YE.total a.nm b.nm with t|t|t;·exact t
  ·exact absurd (D a b (by simp) (by simp[hb]) t▸hb) j.1
  exact absurd t (h.1 b hb)
theorem HL:(Tryz.prog.info? 167).map (λi=>(i.zero,i.size,i.bytes))=some (some (.agg #[(0:Int),(0:Int),(0:Int),(0:Int)]),4,32):=by kernel_rfl
theorem HM(a b:List Q4)(A A':Option Addr)(n c n' c' B:Nat)(w:World)(hR:Rd w B 2 (.slice A n c) n (a.flatMap Qv))(aa:Rd w B 2 (.slice A' n' c') n' (b.flatMap Qv))(hB:B<=w)(hn:n<=100000):Calls Tryz.prog 79 #[.slice A n c,.slice A' n' c'] w (HK a b w):=by
 obtain rfl:=QL Qv 2 (λ_=>rfl) (by decide) hR.1;obtain rfl:=QL Qv 2 (λ_=>rfl) (by decide) aa.1;have HR:=Ki hR;have aC:=Ki aa;clear hR aa;obtain⟨i0,hi,aN,aO,aP⟩:=Zc HL;have aL:=@Ue Tryz.prog;go_enter Tryz.func79,Tryz.ntmps79;go_wp2;obtain⟨w1,a1⟩:∃aD,(w.alloc (.cells #[] 167)).alloc (.map #[] 0)=aD:=⟨_,rfl⟩;have aj:Below w w w1:=by rw[<-a1];exact(((Q0.refl w).alloc _).alloc _).below
 have am:w1.heap[w.heap.size]?=some (.cells #[] 167 (0,0)):=by rw[<-a1];exact(Z5 _ _ _ (by simp)).trans (Qi w _)
 have E:w1.ownsMap Tryz.prog 27 (plainElem Tryz.prog 3) (w.heap.size+1) 0 (DataW.map ([]:List (Lit×DataW HH))):=by rw[<-a1];have:=Yg (H:=HH) (w.alloc (.cells #[] 167)) Tryz.prog 27 (plainElem Tryz.prog 3);rw[Qy] at this;exact this
 have ai:=Ki (Jv (base:=w.heap.size) (K:=4) (Q3 _) am);have a7:=Ki E;rw[a1];obtain⟨bm,al⟩:∃b,w.heap.size+1=b:=⟨_,rfl⟩;have aW:w<bm:=by omega
 rw[al] at a7 |-;have aq:(min (a.length:Int) (b.length:Int))=((min a.length b.length:Nat):Int):=by omega
 obtain⟨N,hN⟩:=ex (min a.length b.length);rw[aq,hN];have aU:N<=a.length:=by omega
 have aV:N<=b.length:=by omega
 have X:=Ki hN;clear a1 am E al aq hN aL;go_loopw [5,15] (λaQ i wr=>HJ a b w bm aQ i wr) (λ_ i _=>N-(intOf i).toNat);case atStart=>refine⟨0,Qh _,rfl,.map [],[],a7.o,λs=>by simp[Uq,DataW.atKey],ai.o,Du,λh=>by simp[Ya],Q3 _,aj⟩
 case round=>
  clear ai a7 aj;obtain⟨k,hk,rfl,ay,L,hM,hT,hO,ar,hF,hL,hb⟩:=hrel;have a8:=Ki ar;clear ar;rw[X.o] at hk;obtain⟨Av,cv,rfl,aT,aH⟩:=(Rd.of_own hO).form;have HO:=Ki hO;have HF:=Ki hF;have HT:=Ki hT;have W:=Ki hM;clear hO hF hT hM aH;obtain⟨wo,rfl⟩:∃wo:World,wo=wr:=⟨_,rfl⟩;have aZ:=hb.size;by_cases aX:k<N
  ·obtain⟨j,Q,rfl,aR,a5⟩:=Qr Qv 2 (λ_=>rfl) (by decide) HR.o (show k<a.length by omega);obtain⟨D,U,rfl,aS,a6⟩:=Qr Qv 2 (λ_=>rfl) (by decide) aC.o (show k<b.length by omega);obtain⟨x,hx⟩:=ex (a[k]'(by omega));obtain⟨y,hy⟩:=ex (b[k]'(by omega));rw[hx] at a5;rw[hy] at a6;have HX:=Ki hx;have HY:=Ki hy
   have hS:=Ki (λZ (hW:Below w w Z)=>(show Z.cell? (j,Q+k*2)=x.T/\Z.cell? (j,Q+k*2+1)=x.R/\Z.cell? (D,U+k*2)=y.T/\Z.cell? (D,U+k*2+1)=y.R from
    ⟨(hW.cell (p:=(j,Q+k*2)) (show j<w by omega)).trans (a5 0 _ rfl),(hW.cell (p:=(j,Q+k*2+1)) (show j<w by omega)).trans (a5 1 _ rfl),(hW.cell (p:=(D,U+k*2)) (show D<w by omega)).trans (a6 0 _ rfl),(hW.cell (p:=(D,U+k*2+1)) (show D<w by omega)).trans (a6 1 _ rfl)⟩))
   clear a5 a6 hx hy;obtain⟨t,ht⟩:=ex (Uq x (a.take k));have Y:=Ki ht;have aY:t<=k:=(by rw[<-ht];unfold Uq;exact Q9 (Vl _ _) (by simp;omega));have i1:(0:Int)<=(k:Int):=(by omega);have i2:(k:Int)<(a.length:Int):=(by omega);have i3:(k:Int)<(b.length:Int):=(by omega);have hw:IntKind.i64.wrap ((t:Int)+1)=(t:Int)+1:=QO _ (by omega);clear ht;have ad:=hb.drew;obtain⟨c0,c1,_,_⟩:=hS.o wo.drew ad;obtain⟨cl,ap,a4,_⟩:=W.o.drew.lookup_int Uj U7 JY (Db _) (JK x);have aF:cl=(t:Int):=(by have:=HT.o x;rw[Y.o,a4] at this;simpa using this);subst aF;obtain⟨v0,b3,w1,w2,e1,e2,e3,e4,ah,ao⟩:=Fa (val:=.int .i64 ((t:Int)+1)) W.o.drew Et U7 (λu=>Db u) (by unfold maxLen;omega) (JK x) (plainElem_int JY ((Kr _).2 (by unfold Qu;omega)));have aM:v0=.int .i64 (t:Int):=(by rw[ap] at e1;cases e1;rfl);subst aM;have a2:=Ki ah;have ag:=Ki ao;unfold QU at e1 e2 e3;clear ap a4 ah ao;unfold goInt at e2 e4;go_wp2;go_region;have hb2:Below w w w2:=ad.grown ag.o ad.size (λax hj=>by cases hj;omega);obtain⟨g0,g1,g2,g3⟩:=hS.o w2 hb2;obtain⟨aE,aK,ab,_⟩:=a2.o.lookup_int Uj U7 JY (Db _) (JK x);have aG:aE=(t:Int)+1:=(by rw[Maps.atKey_put_same W.o.isMap (Uj.key (JK x))] at ab;simpa using ab.symm);subst aG;unfold QU at aK;clear ab e1 e2 e3 e4 c0 c1;obtain⟨om,E,a0⟩:=J2 W.o.drew;have a3:=Ki ((ZY HO.o).kept ag.o (.inr (VA (ZY HO.o) E a0).symm))
   have af:=Ki (λ(s:Q4)=>(show(ay.put (YL x) (.lit (.int .i64 ((t:Int)+1)))).atKey (YL s) (.lit (.int .i64 0))=.lit (.int .i64 (Uq s (a.take (k+1)):Nat)) from by
    rw[HE (show k<a.length by omega),HX.o];by_cases O:x=s;·subst O;rw[Maps.atKey_put_same W.o.isMap (Uj.key (JK x)),Y.o];simp
    rw[Maps.atKey_put_other (λe=>O (By e).symm),HT.o s]
    simp[O]))
   have HZ:=Ki (HG (a:=a) (b:=b) (k:=k) (by omega) (by omega));have a9:=Ki (HI (a:=a) (b:=b) (k:=k) (by have:=X.o;omega) x);clear E a0;by_cases aw:t=0
   ·subst aw;have J:=hb2.drew;obtain⟨om,E,a0⟩:=J2 a2.o;have au:=VA a3.o E a0;clear E a0;go_wp2
    go_region_held3 (λw'=>w'.cell? (j,Q+k*2)=x.T/\w'.cell? (j,Q+k*2+1)=x.R/\w'.cell? (D,U+k*2)=y.T/\w'.cell? (D,U+k*2+1)=y.R)
     (first|exact hS.o _ (by assumption)|exact hS.o _ (J.alloc J.size _)|go_keep)
     ((refine Ja _ (by rfl) _ _ _ (by rfl) w 167 i0 _ 4 32 Tryz.underlying165 hi aN aO aP rfl (by omega) _ L.length _ (by rfl) ((ZY a3.o).alloc _) ⟨w2.heap.size,0,none⟩ 1 1 (Zj ⟨x,y⟩) (by rfl) (by rfl) (Zd w2.drew (Zj ⟨x,y⟩) 167) (EF _) (by omega) (by unfold maxLen;omega) (by omega) (by have:=J.size;simp at this |-;omega) _ (by rfl) ?_;intro g cap W4 av ae a4 aI;have ac:Below w w W4:=(J.alloc J.size _).grown ae (by have:=J.size;simp at this |-;omega) (λax hj=>(a3.o.lt ax hj).1)))
    have aB:=Kj (W4.ownsRow w 167 4 (.slice (g,0) (L.length+1) cap) (L++[(⟨x,y⟩:Qm)]).length ((L++[(⟨x,y⟩:Qm)]).flatMap Zj)) (by simpa using av);have az:=Ki ((a2.o.drew.alloc (.cells (Zj ⟨x,y⟩).toArray 167)).kept ae au);clear av ae a4 aI J;go_wp2
    refine⟨⟨k+1,by rw[X.o];omega,by go_num,_,L++[⟨x,y⟩],az.o,af.o,aB.o,Dr.2 ⟨a8.o,by simp,λg hg g' an e=>by
     rw[Qw] at an;subst an;subst e
     exact(a9.o).1 Y.o _ (Fb ((HF.o _).1 hg)) rfl⟩,λh=>?_,by simp;omega,ac⟩,by simp[intOf];omega⟩
    rw[HZ.o,DV,Qq,Qw,HF.o h,HX.o,HY.o];constructor
    ·rintro(I|rfl);·exact .inl I
     exact .inr ⟨rfl,(a9.o).1 Y.o⟩
    rintro(I|⟨rfl,_⟩);·exact .inl I
    exact .inr rfl
   have au:((t:Int)+1==1)=false:=(by simp;omega);go_wp2;refine⟨⟨k+1,by rw[X.o];omega,by go_num,_,L,a2.o,af.o,a3.o,a8.o,λh=>?_,by omega,hb2⟩,by simp[intOf];omega⟩;rw[HZ.o,DV,HF.o h,HX.o,HY.o];refine⟨.inl,λI=>I.elim id λh2=>absurd (Y.o.symm.trans ((a9.o).2 h2.2)) aw⟩
  have aJ:k=N:=(by omega);subst aJ;go_wp2_with fail;refine(HD L _ w wo HO.o (by omega)).mono ?_;rintro e w' ⟨rfl,ys,hp,O,ho,ak⟩;have HP:=Ki hp;have HS:=Ki O;have aA:=Ki ho;have ac:=hb.trans ak;clear hp O ho ak hb HO;go_wp2;go_ret;have hz:(YF a b).take k=YF a b:=Zk (by rw[Le,X.o];exact Q3 _);have hm:∀h,h∈ys↔Ya (YF a b) h:=λh=>by rw[HP.o.mem_iff,HF.o h,hz]
  refine⟨_,ys,rfl,aA.o,?_,hm,by rw[HP.o.length_eq];omega,ac⟩;refine Lf (λg h hg hh=>Sy ((hm g).1 hg) ((hm h).1 hh)) (HS.o.imp λ{p q} I h2=>?_) (HP.o.nodup_iff.2 a8.o);have:=(Vq q.nm p.nm).2 h2;unfold UV at I;omega
end
section
open Go Go.RowKit
def Fh(e:El):Value:=.agg #[e.id.s.T,e.id.s.R,e.id.I,.string e.pc]
def Te(q:El->Bool)(L:List El)(z:Int):Prop:=(∃(k:Nat)(h:k<L.length),z=(k:Int)/\q L[k]=true/\∀e∈L.take k,q e=false)\/(z = -1/\∀e∈L,q e=false)
def Tf(q:El->Bool)(L:List El)(w:World)(i:Value)(wr:World):Prop:=∃k:Nat,k<=L.length/\i=k/\(∀e∈L.take k,q e=false)/\Q0 w wr
theorem Tg(L:List El)(q:El->Bool)(b8 b9:Nat)(A:Option Addr)(n c B0:Nat)(Q w:World)(hw:Below Q Q w)(O:Rd w B0 4 (.slice A n c) n (L.flatMap QM))(hB:B0<=w)(U:∀e W,Below Q Q W->Calls Tryz.prog 99 #[Fh e,.pointer (b8,0),.pointer (b9,0)] W λr W'=>r=.returned (.bool (q e))/\Q0 W W'):Calls Tryz.prog 150 #[.slice A n c,.func (.func 99) #[] #[.pointer (some ⟨b8,0,none⟩),.pointer (some ⟨b9,0,none⟩)]] w λr w'=>(∃z,r=.returned (.int .i64 z)/\Te q L z)/\Q0 w w':=by
 obtain⟨_,a8,a6⟩:=O.len;unfold maxLen at a6;obtain rfl:=QL QM 4 (λ_=>rfl) (by decide) O.1;have HR:=Ki (λW (Y:Q0 w W)=>O.below' Y.below hB);have HW:=Ki (λW (Y:Q0 w W)=>hw.trans (Y.below.mono hw.size));have U:=Ki U;clear O hw;go_enter Tryz.func150,Tryz.ntmps150;go_wp2;go_loopw [8] (λi wr=>Tf q L w i wr) (λi _=>L.length-(intOf i).toNat);case atStart=>exact⟨0,Qh _,rfl,by simp,Q0.refl w⟩
 case round=>
  obtain⟨k,hk,rfl,I,D⟩:=hrel;obtain⟨h,rfl⟩:∃h:World,h=wr:=⟨_,rfl⟩;by_cases a0:k<L.length
  ·obtain⟨b,o,rfl,a7,j⟩:=Qr QM 4 (λ_=>rfl) (by decide) (HR.o h D) a0;have a1:=QQ a0;obtain⟨e,he⟩:=ex (L[k]);have HE:=Ki he;rw[he] at j a1;have c0:h.cell? (b,o+k*4)=e.id.s.T:=j 0 _ rfl;have c1:h.cell? (b,o+k*4+1)=e.id.s.R:=j 1 _ rfl;have c2:h.cell? (b,o+k*4+2)=e.id.I:=j 2 _ rfl;have c3:h.cell? (b,o+k*4+3)=e.pc:=j 3 _ rfl;have i1:(0:Int)<=(k:Int):=(by omega);have i2:(k:Int)<(L.length:Int):=(by omega);have J:=Ki I;have X:=Ki D;have a5:=Ki a1;have a2:=Ki (U.o e h (HW.o h D));unfold Fh at a2;clear j he a1 I D;go_wp2_with fail;refine a2.o.mono ?_;rintro r w1 ⟨rfl,a4⟩;have a3:=Ki (X.o.trans a4);clear a4 c0 c1 c2 c3;obtain⟨d,Z⟩:=ex (q e);have HD:=Ki Z;rw[Z];clear Z;cases d
   ·go_wp2;go_roundw
    case rel=>
     refine⟨k+1,by omega,by go_num,?_,a3.o⟩;rw[a5.o];intro x E;rcases Qq.1 E with E|E;·exact J.o x E
     rw[Qw] at E;rw[E];exact HD.o
    case measure=>simp[intOf];omega
   go_wp2;go_ret;exact⟨⟨_,rfl,.inl ⟨k,a0,rfl,by rw[HE.o];exact HD.o,J.o⟩⟩,a3.o⟩
  obtain rfl:k=L.length:=by omega
  rw[X6] at I;have J:=Ki I;have X:=Ki D;clear I D hk;go_wp2;go_ret;exact⟨⟨_,rfl,.inr ⟨rfl,J.o⟩⟩,X.o⟩
def Un(n:Nat):List Value:=(Builtin.zeroCells #[(0:Int),(0:Int),(0:Int),.string ⟨#[]⟩] n).toList
theorem Af(n:Nat):(Un n).length=n*4:=by simp[Un,Builtin.zeroCells]
theorem Th(n:Nat):∀v∈Un n,v.oneCell'=true:=by
 intro v hv;simp only[Un,Builtin.zeroCells,Array.toList_map,QZ] at hv;obtain⟨i,_,rfl⟩:=hv;have:i % 4=0\/i % 4=1\/i % 4=2\/i % 4=3:=by omega
 rcases this with h|h|h|h<;>simp[h,Value.oneCell']
theorem Ti(w:World)(J:TypeId)(b o n c:Nat)(O:0<n)(D:∀j,j<n*4->(w.cell? (b,o+j)).isSome=true)(E:∀j,j<n*4->w.frozen? (b,o+j)=false):(Builtin.clear_ #[202] J #[.slice (b,o) n c]).run Tryz.prog w=.ok (.tuple #[]) (w.setCells b o (Un n)):=by have hv:=Tryz.zeroValue205;have h:=run_storeCells_cells (P:=Tryz.prog) b o (Un n) 0 w (by rw[Af];simpa using D) (by rw[Af];simpa using E) (Th n);simp only[UI] at h;obtain⟨m,rfl⟩:∃m,n=m+1:=⟨n-1,by omega⟩;have I:(Builtin.zeroCells (Value.cells (.agg #[(0:Int),(0:Int),(0:Int),.string ⟨#[]⟩])) (m+1)).toList=Un (m+1):=rfl;simp[Builtin.clear_,GP CT,hv,I,h]
def C6(q:El->Bool)(L:List El)(base g c:Nat)(w:World)(i j:Value)(wr:World):Prop:=
 ∃(h:Nat)(F M:List El),h<=L.length/\j=h/\i=F.length/\F=(L.take h).filter (λe=>!q e)/\F.length+M.length=h/\0<M.length /\
  wr.ownsRow base 205 4 (.slice (g,0) L.length c) L.length ((F++M++L.drop h).flatMap QM)/\Below base w wr
def Aj(q:El->Bool)(L:List El)(base:Nat)(w:World)(r:Ending)(w':World):Prop:=
 ∃v,r=.returned v/\w'.ownsRow base 205 4 v (L.filter (λe=>!q e)).length ((L.filter (λe=>!q e)).flatMap QM)/\Below base w w'
theorem PD{q:El->Bool}{L:List El}(h:∀e∈L,q e=false):L.filter (λe=>!q e)=L:=by rw[List.filter_eq_self];intro e j;rw[h e j];rfl
theorem Tj(L:List El)(q:El->Bool)(b8 b9:Nat)(v:Value)(base:Nat)(J w:World)(hw:Below J J w)(ho:w.ownsRow base 205 4 v L.length (L.flatMap QM))(aw:J<=base)(a9:base<=w)(hL:L.length<=1000000)(HC:∀e a6,Below J J a6->Calls Tryz.prog 99 #[Fh e,.pointer (b8,0),.pointer (b9,0)] a6 λr W'=>r=.returned (.bool (q e))/\Q0 a6 W'):Calls Tryz.prog 97 #[v,.func (.func 99) #[] #[.pointer (b8,0),.pointer (b9,0)]] w (Aj q L base w):=by
 obtain⟨A,c,rfl,aF,aD⟩:=(Rd.of_own ho).form;have HI:=Ki (Tg L q b8 b9 A L.length c w J w hw (Rd.of_own ho) (Q3 _) HC);have HC:=Ki HC;have HO:=Ki ho;have HW:=Ki hw;clear ho hw;go_enter Tryz.func97,Tryz.ntmps97;go_wp2_with fail;refine HI.o.mono ?_;rintro r w1 ⟨⟨z,rfl,hz⟩,Q⟩;have aA:=Ki Q;rcases hz with⟨k,hk,rfl,am,a0⟩|⟨rfl,a0⟩
 ·obtain⟨g,cap,_,e1,Z,_⟩:=V9 HO.o (by omega);cases e1;have aG:((k:Int) == -1)=false:=by simp
  have ao:C6 q L base g c w k (.int .i64 ((k:Int)+1)) w1:=by have az:(L.take (k+1)).filter (λe=>!q e)=L.take k:=(by rw[QQ hk,YU,PD a0];simp[am]);refine⟨k+1,L.take k,[L[k]],by omega,by simp,by rw[Zi,JC (by omega)],az.symm,by rw[Zi,JC (by omega)];rfl,by simp,?_,Q.below.mono a9⟩;have e:L.take k++[L[k]]++L.drop (k+1)=L:=(by rw[<-QQ hk,XU]);rw[e];exact QB HO.o Q.below
  have ae:=Ki ao;clear ao am a0 Q;go_wp2;go_loopw [5,6] (λi j wr=>C6 q L base g c w i j wr) (λ_ j _=>L.length-(intOf j).toNat);case atStart=>exact ae.o
  case round=>
   clear ae;obtain⟨j,F,M,hj,rfl,rfl,X,Y,hM,E,hb⟩:=hrel;obtain⟨h,rfl⟩:∃h:World,h=wr:=⟨_,rfl⟩;have a8:(F++M++L.drop j).length=L.length:=(by simp;omega);have aE:g<h:=(E.lt g rfl).2;have a1:Below J J h:=HW.o.trans (hb.mono aw);by_cases al:j<L.length
   ·have aa:L.drop j=L[j]::L.drop (j+1):=VL al;obtain⟨gr,og,a5,au,O⟩:=Qr QM 4 (λ_=>rfl) (by decide) (show Rd h h 4 (.slice (g,0) (F++M++L.drop j).length c) (F++M++L.drop j).length ((F++M++L.drop j).flatMap QM) from by rw[a8];exact Rd.of_own E) (show j<(F++M++L.drop j).length by omega);have ak:(F++M++L.drop j)[j]'(by omega)=L[j]:=(by rw[List.getElem_append_right (by simp;omega)];simp[Y]);rw[ak] at O;have ax:g=gr/\0=og:=(by injection a5 with a5;injection a5 with h1 h2;exact⟨h1,h2⟩);obtain⟨rfl,rfl⟩:=ax;have ab:=QQ al;obtain⟨e,he⟩:∃e,L[j]=e:=⟨_,rfl⟩;rw[he] at O aa ab;rw[aa] at E
    obtain⟨m,I,rfl⟩:∃m I,M=m::I:=by
     cases M with
     |nil=>simp at hM
     |cons m I=>exact⟨m,I,rfl⟩
    have c0:h.cell? (g,j*4)=e.id.s.T:=(by have:=O 0 _ rfl;simpa using this);have c1:h.cell? (g,j*4+1)=e.id.s.R:=(by have:=O 1 _ rfl;simpa using this);have c2:h.cell? (g,j*4+2)=e.id.I:=(by have:=O 2 _ rfl;simpa using this);have c3:h.cell? (g,j*4+3)=e.pc:=(by have:=O 3 _ rfl;simpa using this);have i1:(0:Int)<=(j:Int):=(by omega);have i2:(j:Int)<(L.length:Int):=(by omega);have av:F.length<L.length:=(by simp at Y;omega);have i3:(0:Int)<=(F.length:Int):=(by omega);have i4:(F.length:Int)<(L.length:Int):=(by omega);have aq:=Ki E;have HB:=Ki hb;have aB:=Ki a1;have HF:=Ki X;have af:=Ki ab;have ad:=Ki Y;have ap:(h.alloc (.cells (QM e).toArray 205)).heap[h.heap.size]?=some (.cells (QM e).toArray 205 (0,0)):=Qi h _;have ar:=Ki ap;have ac:=Ki (HC.o e (h.alloc (.cells (QM e).toArray 205)) (a1.alloc a1.size _));unfold Fh at ac;clear O ak a8 he aa ab E hb a1 X Y hM ap a5 au;go_wp2_with fail;refine ac.o.mono ?_;rintro r D ⟨rfl,a4⟩;have W:D.heap[h.heap.size]?=some (.cells (QM e).toArray 205 (0,0)):=(a4.below.block _ (by simp)).trans ar.o;have a2:=QB (aq.o.alloc (.cells (QM e).toArray 205)) a4.below;have hb2:Below base w D:=(HB.o.alloc (Q9 a9 HB.o.size) _).trans (a4.below.mono (by have:=HB.o.size;simp;omega));obtain⟨d,hd⟩:∃d,q e=d:=⟨_,rfl⟩;have HD:=Ki hd;rw[hd];clear hd c0 c1 c2 c3 a4;cases d
    ·have U:(F.flatMap QM).length=F.length*4:=XG QM 4 (λ_=>rfl) F;have a3:D.ownsRow base 205 4 (.slice (g,0) L.length c) L.length (F.flatMap QM++QM m++(I++e::L.drop (j+1)).flatMap QM):=(by simpa using a2);have Zf:=VQ a3 (QM e) rfl (by omega);rw[U] at Zf;have an:((((D.setCell (g,F.length*4) e.id.s.T).setCell (g,F.length*4+1) e.id.s.R).setCell (g,F.length*4+2) e.id.I).setCell (g,F.length*4+3) e.pc).ownsRow base 205 4 (.slice (g,0) L.length c) L.length (F.flatMap QM++QM e++(I++e::L.drop (j+1)).flatMap QM):=Zf
     have hq:∀i u,(QM m)[i]?=some u->D.cell? (g,F.length*4+i)=some u:=λi u hu=>(X8 a3 (F.length*4+i) u (by
      rw[Y7,JZ (by omega),U,U6,VK (Kb.1 hu).1]
      exact hu)).1
     have q0:D.cell? (g,F.length*4)=m.id.s.T:=hq 0 _ rfl;have q1:D.cell? (g,F.length*4+1)=m.id.s.R:=hq 1 _ rfl;have q2:D.cell? (g,F.length*4+2)=m.id.I:=hq 2 _ rfl;have q3:D.cell? (g,F.length*4+3)=m.pc:=hq 3 _ rfl;have f0:=YY a3 (by omega);have d0:D.cell? (h.heap.size,0)=e.id.s.T:=cR 0 W;have d1:D.cell? (h.heap.size,1)=e.id.s.R:=cR 1 W;have d2:D.cell? (h.heap.size,2)=e.id.I:=cR 2 W;have d3:D.cell? (h.heap.size,3)=e.pc:=cR 3 W;have ah:Below base w ((((D.setCell (g,F.length*4) e.id.s.T).setCell (g,F.length*4+1) e.id.s.R).setCell (g,F.length*4+2) e.id.I).setCell (g,F.length*4+3) e.pc):=(((hb2.setCell (p:=(g,F.length*4)) Z _).setCell (p:=(g,F.length*4+1)) Z _).setCell (p:=(g,F.length*4+2)) Z _).setCell (p:=(g,F.length*4+3)) Z _
     have HR:=Ki (show C6 q L base g c w (.int .i64 ((F++[e]).length:Nat)) (.int .i64 ((j+1:Nat):Int)) ((((D.setCell (g,F.length*4) e.id.s.T).setCell (g,F.length*4+1) e.id.s.R).setCell (g,F.length*4+2) e.id.I).setCell (g,F.length*4+3) e.pc) from
      ⟨j+1,F++[e],I++[e],by omega,rfl,rfl,by rw[af.o,YU,<-HF.o];simp[HD.o],by have:=ad.o;simp at this |-;omega,by simp,by simpa using an,ah⟩)
     clear a2 hb2 W a3 Zf an hq ah;go_wp2;go_roundw;case rel=>simpa using HR.o
     case measure=>simp[intOf];omega
    have HR:=Ki (show C6 q L base g c w F.length (.int .i64 ((j+1:Nat):Int)) D from
     ⟨j+1,F,m::I++[e],by omega,rfl,rfl,by rw[af.o,YU,<-HF.o];simp[HD.o],by have:=ad.o;simp at this |-;omega,by simp,by simpa using a2,hb2⟩)
    clear a2 hb2 W;go_wp2;go_roundw;case rel=>exact HR.o
    case measure=>simp[intOf];omega
   obtain rfl:j=L.length:=by omega
   rw[X6] at X;have aj:L.drop L.length=[]:=List.drop_length;rw[aj,ZB] at E;have av:F.length<L.length:=(by omega);have U:=XG QM 4 (λ_=>rfl) F;have a7:(M.flatMap QM).length=(L.length-F.length)*4:=(by rw[XG QM 4 (λ_=>rfl)];omega);rw[Zb] at E;have ag:h.ownsRow base 205 4 (.slice (g,0) L.length c) L.length (F.flatMap QM++M.flatMap QM++[]):=(by simpa using E);have Zf:=VQ ag (Un (L.length-F.length)) (by rw[Af,a7]) (by omega);rw[U,ZB] at Zf
   have aC:=λty c'=>Ti h ty g (F.length*4) (L.length-F.length) c' (by omega) (λi hi=>by
    have ay:i<(M.flatMap QM).length:=(by rw[a7];exact hi)
    have:=(X8 E (F.length*4+i) ((M.flatMap QM)[i]) (by
     rw[JZ (by omega),U,U6,X3 ay])).1
    rw[this]
    rfl) (λi _=>YY E (by omega) _)
   have hcut:=BQ Zf (show F.length<=L.length by omega);rw[O5 (by omega),Zk (by omega)] at hcut;have ai:=Jd hb Z (F.length*4) (Un (L.length-F.length));have HP:=Kj (Aj q L base w (.returned (.slice (g,0) F.length c)) (h.setCells g (F.length*4) (Un (L.length-F.length)))) ⟨_,rfl,by rw[<-X];exact hcut,ai⟩;have i1:(0:Int)<=(F.length:Int):=(by omega);have i2:(F.length:Int)<=(L.length:Int):=(by omega);have i3:(L.length:Int)<=(c:Int):=(by omega);have i4:(F.length:Int)<(c:Int):=(by omega);clear E ag Zf hcut ai X aj U a7 Y hM a8 a1 hb;go_wp2;go_ret;exact HP.o
 have HP:=Kj (Aj q L base w (.returned (.slice A L.length c)) w1) ⟨_,rfl,by rw[PD a0];exact QB HO.o Q.below,Q.below.mono a9⟩;clear a0 Q;go_wp2;go_ret;exact HP.o
theorem Tw(l:List UInt8):Zg (Yx l):=by
 unfold Yx;split;·rename_i h;exact h.choose_spec.1
 exact Zg.nil
theorem PF:∀(ps:List (List UInt8)) (D x:Id),Zg ps->∀e∈Zy D x ps,e.pc.size<=4
 |[],_,_,_,e,j=>by cases j
 |p::ps,D,x,h,e,j=>by
  rw[Zy] at j;rcases QI.1 j with rfl|j;·show(Q8 p).size<=4;rw[Y8];exact h.head.four
  exact PF ps x (XM x) h.tail e j
theorem Ty(R:List Rn):∀e∈Qx R,e.pc.size<=4:=by intro e h;obtain⟨r,_,j⟩:=YW.1 h;exact PF _ _ _ (Tw _) e j
theorem PG:∀(L:List El),(∀e∈L,e.pc.size<=4)->(Zh L).length<=L.length*4
 |[],_=>by simp[Zh]
 |e::L,h=>by
  have E:=PG L (λx D=>h x (X2 _ D));have I:=h e (by simp);have j:Zh (e::L)=e.pc.data.toList++Zh L:=by simp[Zh]
  have J:=(Jc e.pc).symm;rw[j,Qj,Z4];omega
def els(O:List Nd):List El:=O.map (·.2)
theorem Tz(O:List Nd):O.flatMap YO=(els O).flatMap QM:=by unfold els;rw[List.flatMap_map];rfl
theorem PH{F:List El}{O:List Nd}(h:JL Id.Lt El.id El.af Qf (ZP F) O):∀e∈els O,e∈F:=by intro e j;obtain⟨n,D,rfl⟩:=QZ.1 j;exact Vv ((h.2 n).1 D).1
end
section
open Go Go.RowKit Go.Maps
def cnt{α:Type}[DecidableEq α](l:List α)(s:α):Nat:=(l.filter (λx=>decide (x=s))).length
theorem C8{α:Type}[DecidableEq α](l:List α)(x s:α):cnt (l++[x]) s=cnt l s+if x=s then 1 else 0:=by unfold cnt;rw[YU,Qj];by_cases h:x=s<;>simp[h]
theorem Fi{α:Type}[DecidableEq α](l:List α)(s:α):cnt l s<=l.length:=Vl _ _
theorem Kz{α:Type}[DecidableEq α](l:List α)(s:α):cnt l s=0↔s∉l:=by
 unfold cnt;rw[VM,Dh];constructor;·intro h j;exact h s j (by simp)
 intro h x E e;exact h (by simpa using (by simpa using e:x=s)▸E)
structure CM{α:Type}[DecidableEq α](k:TypeId)(K:α->Lit)(l:List α)(wr:World)(b m:Nat)(D:DataW HH):Prop where
 map:wr.ownsMap Tryz.prog k (plainElem (H:=HH) Tryz.prog 3) b m D
 le:m<=l.length
 ct:∀s,D.atKey (K s) (.lit (.int .i64 0))=.lit (.int .i64 (cnt l s:Nat))
section
variable {α:Type} [DecidableEq α] {k t:TypeId} {V:α->Value} {K:α->Lit} {l:List α} {wr wr':World} {b m:Nat} {D:DataW HH}
theorem CM.touch{F:Nat->Prop}(h:CM k K l wr b m D)(t:Qd F wr wr')(hb:¬F b):CM k K l wr' b m D:=⟨Xo h.map t hb,h.le,h.ct⟩
theorem CM.below(h:CM k K l wr b m D)(hb:Below wr wr wr'):CM k K l wr' b m D:=h.touch (Below.touch hb (λ_=>False)) (λh=>h)
theorem CM.look(E:YN k V K)(O:Tryz.prog.underlying t=some (.map k 3))(h:CM k K l wr b m D)(x:α):(Instr.lookup t (.map (some b)) (V x) false).run Tryz.prog wr=.ok (.int .i64 (cnt l x:Nat)) wr:=by
 obtain⟨c,I,J,_⟩:=h.map.lookup_int E.keyed O JY (C3 wr) (E.val x);have j:=h.ct x;rw[J] at j;have:c=(cnt l x:Nat):=by simpa using j
 rw[I,this]
theorem CM.tick(E:YN k V K)(kl:WideMaps.KeyLaw Tryz.prog k)(U:Tryz.prog.underlying t=some (.map k 3))(h:CM k K l wr b m D)(x:α)(hl:l.length<=1000000):∃J j I,(Instr.mapEntry t (.map (some b)) (V x)).run Tryz.prog wr=.ok (.tuple #[.int .i64 (cnt l x:Nat),goInt J]) j/\(Instr.lookup t (.map (some b)) (V x) false).run Tryz.prog j=.ok (.int .i64 (cnt l x:Nat)) j/\(Instr.entryStore t (.map (some b)) (goInt J) (.int .i64 ((cnt l x:Nat)+1))).run Tryz.prog j=.ok () I/\wr.grownBy I (some b)/\∃W,CM k K (l++[x]) I b (m+1) W:=by
 have a0:=Fi l x;have hm:=h.le;have hw:Qu (((cnt l x:Nat):Int)+1):=by unfold Qu;omega
 obtain⟨v0,J,j,I,Q,Y,Z,e4,hM,hg⟩:=Fa (val:=.int .i64 (((cnt l x:Nat):Int)+1)) h.map kl U (λu=>C3 u) (by unfold maxLen;omega) (E.val x) (BP _ hw);have hv:v0=.int .i64 (cnt l x:Nat):=by rw[h.look E U x] at Q;cases Q;rfl
 subst hv;refine⟨J,j,I,Y,Z,e4,hg,D.put (K x) (.lit (.int .i64 (((cnt l x:Nat):Int)+1))),hM,by simp;omega,λs=>?_⟩;rw[C8];by_cases O:x=s;·subst O;rw[Maps.atKey_put_same h.map.isMap (E.keyed.key (E.val x)),Q7 rfl];simp
 rw[Maps.atKey_put_other (λX=>O (E.inj X).symm),h.ct s,Q6 O];simp
end
def Vy(h:List Q4)(gone:List Id)(e:El):Bool:=decide (e.id.s∉h)||decide (e.id∈gone)
theorem TA(j:List Q4)(gone:List Id)(e:El)(U X Y Z m m2:Nat)(D D2:DataW HH)(W:World)(O:W.heap[U]?=some (.cells #[.map (some Y)] 106 (0,0)))(Q:W.heap[X]?=some (.cells #[.map (some Z)] 200 (0,0)))(hi:CM 27 YL j W Y m D)(ho:CM 60 Ze gone W Z m2 D2):Calls Tryz.prog 99 #[Fh e,.pointer (U,0),.pointer (X,0)] W λr W'=>r=.returned (.bool (Vy j gone e))/\Q0 W W':=by
 have hb:Below W W (W.alloc (.cells #[e.id.s.T,e.id.s.R,e.id.I,.string e.pc] 205)):=(Qc _ W).alloc (Q3 _) _;have l1:=(hi.below hb).look Vs Tryz.underlying106 e.id.s;have l2:=(ho.below hb).look XJ Dd e.id;have c8:=cr0 O;have c9:=cr0 Q;have a1:=(Q5.1 O).1;have a2:=(Q5.1 Q).1
 have a0:Vy j gone e=(decide (cnt j e.id.s=0)||decide (0<cnt gone e.id)):=by
  unfold Vy;have J:=Kz j e.id.s;have h2:=Kz gone e.id;congr 1;·exact Eb.2 J.symm
  refine Eb.2 ?_;constructor;·intro h;exact Nat.pos_of_ne_zero (λe=>(h2.1 e) h)
  intro h;by_cases h3:e.id∈gone;·exact h3
  have:=h2.2 h3;omega
 have E:=Ki a0;obtain⟨x,hx⟩:=ex (cnt j e.id.s);obtain⟨y,hy⟩:=ex (cnt gone e.id);rw[hx] at l1 E;rw[hy] at l2 E;unfold QU at l1;unfold Qa at l2;unfold Fh;clear O Q hi ho hb a0 hx hy;by_cases I:x=0;·subst I;go_enter Tryz.func99,Tryz.ntmps99;go_wp2;go_ret;exact⟨by rw[E.o];rfl,(Q0.refl W).alloc _⟩
 have a3:((x:Int)==0)=false:=by simp;omega
 by_cases J:y=0;·subst J;go_enter Tryz.func99,Tryz.ntmps99;go_wp2;go_ret;exact⟨by rw[E.o];simp[I],(Q0.refl W).alloc _⟩
 have a4:(0:Int)<(y:Int):=(by omega);go_enter Tryz.func99,Tryz.ntmps99;go_wp2;go_ret;exact⟨by rw[E.o];simp[I],(Q0.refl W).alloc _⟩
end
section
open Go Go.RowKit Go.Maps
def EB(wr:World)(h j D E:Nat):Prop:=wr.heap[h]?=some (.cells #[.map (some D)] 106 (0,0))/\wr.heap[j]?=some (.cells #[.map (some E)] 200 (0,0))
theorem EB.touch{F:Nat->Prop}{w w':World}{j D E I:Nat}(h:EB w j D E I)(t:Qd F w w')(J:¬F j)(O:¬F D):EB w' j D E I:=⟨QY h.1 t J,QY h.2 t O⟩
def Ar(O:List Q4)(J:List Id)(w:World)(E I h j:Nat)(wr:World):Prop:=
 (∃m D,CM 27 YL O wr h m D)/\(∃m D,CM 60 Ze J wr j m D)/\EB wr E I h j/\Below w w wr
def PI(h:List Q4)(w:World)(D E I J:Nat)(i:Value)(wr:World):Prop:=∃j:Nat,j<=h.length/\i=j/\Ar (h.take j) [] w D E I J wr
def As(J:List Q4)(gone:List Id)(w:World)(h D E I:Nat)(i:Value)(wr:World):Prop:=∃j:Nat,j<=gone.length/\i=j/\Ar J (gone.take j) w h D E I wr
def Xb(h:List Q4)(gone:List Id)(O:List Nd):List El:=(els O).filter (λe=>!Vy h gone e)
def C9(R:List Rn)(h:List Q4)(gone:List Id)(w:World)(e:Ending)(w':World):Prop:=
 ∃O v,JL Id.Lt El.id El.af Qf (ZP (Qx R)) O/\e=.returned (.tuple #[v,.string (Q8 (Zh (Xb h gone O)))])/\w'.ownsRow w 60 3 v (Xb h gone O).length (((Xb h gone O).map El.id).flatMap Qe)/\O.length<=(Qx R).length/\Below w w w'
theorem EC{j:Type}[DecidableEq j]{k:TypeId}{K:j->Lit}{w:World}{b:Nat}(h:w.ownsMap Tryz.prog k (plainElem (H:=HH) Tryz.prog 3) b 0 (.map [])):CM k K ([]:List j) w b 0 (.map []):=⟨h,Q3 _,λs=>by simp[cnt,DataW.atKey]⟩
theorem TB(R:List Rn)(D:List Q4)(gone:List Id)(A A1 A2:Option Addr)(n c n1 c1 n2 c2 B0:Nat)(w:World)(hR:Rd w B0 7 (.slice A n c) n (R.flatMap XL))(ad:Rd w B0 2 (.slice A1 n1 c1) n1 (D.flatMap Qv))(ae:Rd w B0 3 (.slice A2 n2 c2) n2 (gone.flatMap Qe))(hB:B0<=w)(hT:ZD w)(hF:(Qx R).length<=100000)(aG:∀r∈R,r.tx.size<=100000)(aY:D.length<=100000)(aV:gone.length<=100000):Calls Tryz.prog 52 #[.slice A n c,.slice A1 n1 c1,.slice A2 n2 c2] w (C9 R D gone w):=by
 obtain⟨_,aW,aQ⟩:=ad.len;obtain⟨_,aX,aR⟩:=ae.len;unfold maxLen at aQ aR;obtain rfl:=QL Qv 2 (λ_=>rfl) (by decide) ad.1;obtain rfl:=QL Qe 3 (λ_=>rfl) (by decide) ae.1;have aK:=Ki (λW (Y:Below w w W)=>Td R A n c B0 W (hR.below' Y hB) (Q9 hB Y.size) (hT.below Y) hF aG);have aL:=Ki (λW (Y:Below w w W)=>ad.below' Y hB);have aM:=Ki (λW (Y:Below w w W)=>ae.below' Y hB);have HF:=Ki hF;clear hR ad ae hT hF aG;have aU:=@Ue Tryz.prog;go_enter Tryz.func52,Tryz.ntmps52;go_wp2;obtain⟨w0,aa⟩:∃W,((((w.alloc (.map #[] 0)).alloc (.map #[] 0)).alloc (.cells #[.map (some w.heap.size)] 106)).alloc (.cells #[.map (some (w.heap.size+1))] 200))=W:=⟨_,rfl⟩;have aC:w0.ownsMap Tryz.prog 27 (plainElem (H:=HH) Tryz.prog 3) w 0 (.map []):=by rw[<-aa];exact((((Yg w _ _ _).alloc _).alloc _).alloc _)
 have aE:w0.ownsMap Tryz.prog 60 (plainElem (H:=HH) Tryz.prog 3) (w.heap.size+1) 0 (.map []):=by rw[<-aa];have:=Yg (H:=HH) (w.alloc (.map #[] 0)) Tryz.prog 60 (plainElem Tryz.prog 3);rw[Qy] at this;exact(this.alloc _).alloc _
 have aB:EB w0 (w.heap.size+1+1) (w.heap.size+1+1+1) w (w.heap.size+1):=by
  rw[<-aa];constructor;·have:=Qi ((w.alloc (.map #[] 0)).alloc (.map #[] 0)) (.cells #[.map (some w.heap.size)] 106);rw[Qy,Qy] at this;exact(Z5 _ _ _ (by simp)).trans this
  have:=Qi (((w.alloc (.map #[] 0)).alloc (.map #[] 0)).alloc (.cells #[.map (some w.heap.size)] 106)) (.cells #[.map (some (w.heap.size+1))] 200);rw[Qy,Qy,Qy] at this;exact this
 have ay:Below w w w0:=by rw[<-aa];exact((((Qc _ w).alloc (Q3 _) _).alloc (by simp) _).alloc (by simp;omega) _).alloc (by simp;omega) _
 rw[aa];obtain⟨I,an⟩:∃k,w.heap.size=k:=⟨_,rfl⟩;obtain⟨J,ao⟩:∃k,w.heap.size+1=k:=⟨_,rfl⟩;obtain⟨U,al⟩:∃k,w.heap.size+1+1=k:=⟨_,rfl⟩;obtain⟨X,am⟩:∃k,w.heap.size+1+1+1=k:=⟨_,rfl⟩;have aF:Ar [] [] w U X I J w0:=by rw[<-an,<-ao,<-al,<-am];exact⟨⟨_,_,EC aC⟩,⟨_,_,EC aE⟩,aB,ay⟩
 have aD:I≠J/\I≠U/\I≠X/\J≠U/\J≠X/\w<=I/\w<=J:=by omega
 have ar:=Ki aD;have aw:=Ki aF;clear aa aC aE aB ay aF aU aD;rw[am,al,ao];rw[an];clear am al ao an;go_loopw [18] (λi wr=>PI D w U X I J i wr) (λi _=>D.length-(intOf i).toNat);case atStart=>exact⟨0,Qh _,rfl,aw.o⟩
 case round=>
  clear aw;obtain⟨j,hj,rfl,⟨m,ah,hi⟩,⟨m2,D2,ho⟩,Z,hb⟩:=hrel;obtain⟨h,rfl⟩:∃h:World,h=wr:=⟨_,rfl⟩;by_cases ac:j<D.length
  ·obtain⟨b,o,rfl,aO,a0⟩:=Qr Qv 2 (λ_=>rfl) (by decide) (aL.o h hb) ac;have a7:=QQ ac;obtain⟨x,hx⟩:∃x,D[j]=x:=⟨_,rfl⟩;rw[hx] at a0 a7;have c0:h.cell? ⟨b,o+j*2,none⟩=some (.int .i64 x.T):=a0 0 _ rfl;have c1:h.cell? ⟨b,o+j*2+1,none⟩=some (.int .i64 x.R):=a0 1 _ rfl;have i1:(0:Int)<=(j:Int):=(by omega);have i2:(j:Int)<(D.length:Int):=(by omega);have aP:b<h:=(by have:=hb.size;omega);have ab:Below h h (h.alloc (.cells #[x.T,x.R] 27)):=(Qc _ h).alloc (Q3 _) _;obtain⟨E,a4⟩:∃W,(h.alloc (.cells #[x.T,x.R] 27)).drew=W:=⟨_,rfl⟩;have Q:Below h h E:=(by rw[<-a4];exact ab.drew);have a2:E.heap[h.heap.size]?=some (.cells #[x.T,x.R] 27 (0,0)):=(by rw[<-a4];exact Qi h _);have a8:=hi.below Q;have a9:=ho.below Q;have a1:=Z.touch (Below.touch Q (λ_=>False)) (λa3=>a3) (λa3=>a3);have a6:=a8.look Vs Tryz.underlying106 x;obtain⟨st,w1,w2,f2,f3,f4,hg,D3,hn⟩:=a8.tick Vs Et Tryz.underlying106 x (by rw[Zi];omega);have a5:=Fi (D.take j) x;rw[Zi] at a5;obtain⟨t,ht⟩:∃t,cnt (D.take j) x=t:=⟨_,rfl⟩;rw[ht] at a6 f2 f3 f4 a5;have hw:IntKind.i64.wrap ((t:Int)+1)=(t:Int)+1:=QO _ (by omega);have e0:E.cell? (h.heap.size,0)=x.T:=cR 0 a2;have e1:E.cell? (h.heap.size,1)=x.R:=cR 1 a2;have h8:E.cell? (U,0)=some (.map (some I)):=cR 0 a1.1;have h9:E.cell? (X,0)=some (.map (some J)):=cR 0 a1.2;obtain⟨n1,n2,n3,n4,n5,n6,n7⟩:=ar.o
   have tk:Qd (λk=>k=I) E w2:=(Qd.refl _ E).grown hg (λk hk _=>by cases hk;rfl);have ak:=Kj (PI D w U X I J (.int .i64 ((j+1:Nat):Int)) w2) ⟨j+1,by omega,rfl,⟨_,_,by rw[a7];exact hn⟩,⟨_,_,a9.touch tk (XF n1)⟩,a1.touch tk (XF n2) (XF n3),(hb.trans (Q.mono hb.size)).trans (tk.below (Q9 hb.size Q.size) (λy hy e=>by omega))⟩;unfold QU at a6 f2 f3;unfold goInt at f2 f4;subst a4;clear a0 a7 hx ab Q a2 a8 a9 a1 hn ht hg tk hi ho Z hb a5 n1 n2 n3 n4 n5 n6 n7;go_wp2;go_region;clear a6 f2 f3 f4 e0 e1 h8 h9 c0 c1;go_wp2;go_roundw;case rel=>simpa using ak.o
   case measure=>simp[intOf];omega
  obtain rfl:j=D.length:=by omega
  rw[X6] at hi;have av:=Kj (As D gone w U X I J (0:Int) h) ⟨0,Qh _,rfl,⟨m,ah,hi⟩,⟨m2,D2,ho⟩,Z,hb⟩;clear hi ho Z hb;go_wp2;go_loopw [31] (λi wr=>As D gone w U X I J i wr) (λi _=>gone.length-(intOf i).toNat);case atStart=>exact av.o
  case round=>
   clear av;obtain⟨j,hj,rfl,⟨m,ah,hi⟩,⟨m2,D2,ho⟩,Z,hb⟩:=hrel;obtain⟨h,rfl⟩:∃h:World,h=wr:=⟨_,rfl⟩;by_cases ac:j<gone.length
   ·obtain⟨b,o,rfl,aO,a0⟩:=Qr Qe 3 (λ_=>rfl) (by decide) (aM.o h hb) ac;have a7:=QQ ac;obtain⟨x,hx⟩:∃x,gone[j]=x:=⟨_,rfl⟩;rw[hx] at a0 a7;have c0:h.cell? (b,o+j*3)=x.s.T:=a0 0 _ rfl;have c1:h.cell? (b,o+j*3+1)=x.s.R:=a0 1 _ rfl;have c2:h.cell? (b,o+j*3+2)=x.I:=a0 2 _ rfl;have i1:(0:Int)<=(j:Int):=(by omega);have i2:(j:Int)<(gone.length:Int):=(by omega);have aP:b<h:=(by have:=hb.size;omega);have ab:Below h h (h.alloc (.cells x 60)):=(Qc _ h).alloc (Q3 _) _;obtain⟨E,a4⟩:∃W,(h.alloc (.cells x 60)).drew=W:=⟨_,rfl⟩;have Q:Below h h E:=(by rw[<-a4];exact ab.drew);have a2:E.heap[h.heap.size]?=some (.cells x 60 (0,0)):=(by rw[<-a4];exact Qi h _);have a8:=hi.below Q;have a9:=ho.below Q;have a1:=Z.touch (Below.touch Q (λ_=>False)) (λa3=>a3) (λa3=>a3);have a6:=a9.look XJ Dd x;obtain⟨st,w1,w2,f2,f3,f4,hg,D3,hn⟩:=a9.tick XJ Gf Dd x (by rw[Zi];omega);have a5:=Fi (gone.take j) x;rw[Zi] at a5;obtain⟨t,ht⟩:∃t,cnt (gone.take j) x=t:=⟨_,rfl⟩;rw[ht] at a6 f2 f3 f4 a5;have hw:IntKind.i64.wrap ((t:Int)+1)=(t:Int)+1:=QO _ (by omega);have e0:=cR 0 a2;have e1:E.cell? ⟨h.heap.size,1,none⟩=some (.int .i64 x.s.R):=cR 1 a2;have e2:E.cell? ⟨h.heap.size,2,none⟩=some (.int .i64 x.I):=cR 2 a2;have h8:E.cell? ⟨U,0,none⟩=some (.map (some I)):=cR 0 a1.1;have h9:E.cell? ⟨X,0,none⟩=some (.map (some J)):=cR 0 a1.2;obtain⟨n1,n2,n3,n4,n5,n6,n7⟩:=ar.o
    have tk:Qd (λk=>k=J) E w2:=(Qd.refl _ E).grown hg (λk hk _=>by cases hk;rfl);have ak:=Kj (As D gone w U X I J (.int .i64 ((j+1:Nat):Int)) w2) ⟨j+1,by omega,rfl,⟨_,_,a8.touch tk n1⟩,⟨_,_,by rw[a7];exact hn⟩,a1.touch tk (XF n4) (XF n5),(hb.trans (Q.mono hb.size)).trans (tk.below (Q9 hb.size Q.size) (λy hy e=>by omega))⟩;unfold Qa at a6 f2 f3;unfold goInt at f2 f4;subst a4;clear a0 a7 hx ab Q a2 a8 a9 a1 hn ht hg tk hi ho Z hb a5 n1 n2 n3 n4 n5 n6 n7;go_wp2;go_region;clear a6 f2 f3 f4 e0 e1 e2 h8 h9 c0 c1 c2;go_wp2;go_roundw;case rel=>simpa using ak.o
    case measure=>simp[intOf];omega
   obtain rfl:j=gone.length:=by omega
   rw[X6] at ho;have hc:=λe W (Y:Below h h W)=>TA D gone e U X I J m m2 ah D2 W ((Y.block _ (Q5.1 Z.1).1).trans Z.1) ((Y.block _ (Q5.1 Z.2).1).trans Z.2) (hi.below Y) (ho.below Y);have HC:=Ki hc;have HB:=Ki hb;have HO:=Ki (aK.o h hb);clear hi ho Z hb hc hj;go_wp2_with fail;refine HO.o.mono ?_;rintro e w4 ⟨v4,O,rfl,ax,ag,aT,af⟩;rw[Tz] at ag;have hl:(els O).length=O.length:=(by simp[els]);rw[<-hl] at ag;have aJ:=Ki (Tj (els O) (Vy D gone) U X v4 h h w4 af ag (Q3 _) af.size (by have:=HF.o;omega) HC.o);have au:=Ki ax;have aI:=Ki af;have aj:=Ki aT;have aq:=Ki hl;clear ax ag af hl HO;go_wp2_with fail;refine aJ.o.mono ?_;rintro r w5 ⟨v5,rfl,ap,az⟩;have aS:(Xb D gone O).length<=(els O).length:=Vl _ _;obtain⟨A5,c5,rfl,_,_⟩:=(Rd.of_own ap).form;have hx:(Zh (Xb D gone O)).length<=1000000000:=(by have h1:=PG (Xb D gone O) (λe he=>Ty R e (PH au.o e (V5.1 he).1));have h2:=HF.o;have h3:=aq.o;have h4:=aj.o;omega);have aN:=Ki (Tv (Xb D gone O) A5 _ c5 w5 w5 (Rd.of_own ap) (Q3 _) (by have:=HF.o;have:=aq.o;have:=aj.o;omega) hx);have ai:=Ki (HB.o.trans ((aI.o.trans az).mono HB.o.size));clear ap az aS hx;go_wp2_with fail;refine aN.o.mono ?_;rintro r w6 ⟨v6,rfl,aH,aA⟩;have HP:=Kj (C9 R D gone w (.returned (.tuple #[v6,.string (Q8 (Zh (Xb D gone O)))])) w6) ⟨O,v6,au.o,rfl,BX aH ai.o.size,aj.o,ai.o.trans (aA.mono ai.o.size)⟩;clear aH aA;go_wp2;go_ret2;exact HP.o
theorem GQ:type_of% @Tryz.underlying24:=@Tryz.underlying24
def ZZ(l:List Q1):List Q4:=(l.filter ZG).map (·.s)
def JP:List Q4->List Q1->List Q1|_,[]=>[]|had,g::t=>if ZG g then (if g.s∈had then JP had t else g::JP (g.s::had) t) else JP had t
def Qs(l:List Q1):List Q1:=JP [] l
theorem Ci:∀(l:List Q1)(had:List Q4)(g:Q1),JP had (l++[g])=JP had l++(if ZG g=true/\g.s∉had/\g.s∉ZZ l then [g] else [])
 |[],had,g=>by
  have e:JP had [g]=if ZG g then (if g.s∈had then [] else [g]) else []:=rfl
  rw[VN,e,show JP had []=[] from rfl];by_cases D:ZG g=true
  ·by_cases E:g.s∈had;·rw[Q7 D,Q7 E,Q6 (λh=>h.2.1 E)];rfl
   rw[Q7 D,Q6 E,Q7 ⟨D,E,by simp[ZZ]⟩];rfl
  rw[Q6 D,Q6 (λh=>D h.1)];rfl
 |a::l,had,g=>by
  rw[JB,JP,JP];by_cases D:ZG a=true
  ·have e:ZZ (a::l)=a.s::ZZ l:=(by unfold ZZ;rw[List.filter_cons_of_pos D,ZW]);by_cases E:a.s∈had
   ·rw[Q7 D,Q7 E,Q7 D,Q7 E,Ci l had g];congr 1;by_cases j:ZG g=true/\g.s∉had/\g.s∉ZZ l;·rw[Q7 j,Q7 ⟨j.1,j.2.1,by rw[e,QI];rintro(h|h);exact j.2.1 (h▸E);exact j.2.2 h⟩]
    rw[Q6 j,Q6 (λh=>j ⟨h.1,h.2.1,λI=>h.2.2 (by rw[e];exact X2 _ I)⟩)]
   rw[Q7 D,Q6 E,Q7 D,Q6 E,Ci l (a.s::had) g,JB];congr 2;by_cases j:ZG g=true/\g.s∉a.s::had/\g.s∉ZZ l;·rw[Q7 j,Q7 ⟨j.1,λh=>j.2.1 (X2 _ h),by rw[e,QI];rintro(h|h);exact j.2.1 (h▸XT ..);exact j.2.2 h⟩]
   rw[Q6 j,Q6 (λh=>j ⟨h.1,λI=>by
    rcases QI.1 I with J|J;·exact h.2.2 (by rw[e,J];exact XT ..)
    exact h.2.1 J,λI=>h.2.2 (by rw[e];exact X2 _ I)⟩)]
  have e:ZZ (a::l)=ZZ l:=(by unfold ZZ;rw[List.filter_cons_of_neg D]);rw[Q6 D,Q6 D,Ci l had g,e]
theorem Gm(l:List Q1)(g:Q1):Qs (l++[g])=Qs l++(if ZG g=true/\g.s∉ZZ l then [g] else []):=by unfold Qs;rw[Ci];congr 1;simp
theorem EG(l:List Q1)(g:Q1):ZZ (l++[g])=ZZ l++(if ZG g=true then [g.s] else []):=by
 unfold ZZ;rw[YU,ZC];by_cases h:ZG g=true;·rw[Q7 h,List.filter_cons_of_pos h];rfl
 rw[Q6 h,List.filter_cons_of_neg h];rfl
theorem Lg(l:List Q1):(ZZ l).length<=l.length:=by unfold ZZ;rw[Xh];exact Vl _ _
theorem Cj:∀(l:List Q1)(had:List Q4),(JP had l).Sublist l
 |[],_=>.slnil
 |a::l,had=>by
  rw[JP];split
  ·split;·exact(Cj l had).cons a
   exact(Cj l _).cons_cons a
  exact(Cj l had).cons a
theorem Fs(l:List Q1):(Qs l).Sublist l:=Cj l []
theorem EH(l:List Q1):(Qs l).length<=l.length:=(Fs l).length_le
theorem XC{l:List Q1}{g:Q1}(h:g∈Qs l):g∈l:=(Fs l).subset h
theorem Ft:(Tryz.prog.info? 31).map (λi=>(i.zero,i.size,i.bytes))=some (some (.agg #[(0:Int),(0:Int),(0:Int),.slice none 0 0,(0:Int),(0:Int),.slice none 0 0]),7,88):=by kernel_rfl
theorem KC(g:Q1):∀u∈Qg g,u.oneCell'=true:=by intro u h;simp[Qg,Sl.v] at h;rcases h with rfl|rfl|rfl|rfl|rfl|rfl|rfl<;>rfl
def Lh(l:List Q1)(w:World)(bm:Nat)(h i:Value)(wr:World):Prop:=
 ∃k:Nat,k<=l.length/\i=k/\(∃m D,CM 27 YL (ZZ (l.take k)) wr bm m D)/\wr.ownsRow w 31 7 h (Qs (l.take k)).length ((Qs (l.take k)).flatMap Qg)/\Below w w wr
def HN(l:List Q1)(w:World)(e:Ending)(w':World):Prop:=
 ∃v,e=.returned v/\w'.ownsRow w 31 7 v (Qs l).length ((Qs l).flatMap Qg)/\Below w w w'
theorem Li(l:List Q1)(A:Option Addr)(n c B:Nat)(w:World)(I:Xi w B (.slice A n c) l)(hn:n<=100000)(Y:B<=w)(hT:ZD w)(aG:∀g∈l,∀o∈g.ops,o.tx.size<=1000000000):Calls Tryz.prog 16 #[.slice A n c] w (HN l w):=by
 obtain rfl:n=l.length:=(Rd.len I.r).1;have HR:=Ki (λW (D:Below w w W)=>I.r.below' D Y);have aK:=Ki (λg (j:g∈l) W (D:Below w w W)=>AI g B W ⟨(I.a g j).d.below' D Y,(I.a g j).i,(I.a g j).o.below' D Y,λo ho=>⟨((I.a g j).a o ho).d.below' D Y,((I.a g j).a o ho).e.below' D Y⟩⟩ (Q9 Y D.size) (hT.below D) (aG g j));clear I hT aG;obtain⟨i0,hi,aX,aY,aZ⟩:=Zc Ft;have aV:=@Ue Tryz.prog;go_enter Tryz.func16,Tryz.ntmps16;go_wp2;obtain⟨w1,a0⟩:∃W,(w.alloc (.cells #[] 31)).alloc (.map #[] 0)=W:=⟨_,rfl⟩;have ax:Below w w w1:=by rw[<-a0];exact(((Q0.refl w).alloc _).alloc _).below
 have aA:w1.heap[w.heap.size]?=some (.cells #[] 31 (0,0)):=by rw[<-a0];exact(Z5 _ _ _ (by simp)).trans (Qi w _)
 have E:w1.ownsMap Tryz.prog 27 (plainElem Tryz.prog 3) (w.heap.size+1) 0 (DataW.map ([]:List (Lit×DataW HH))):=by rw[<-a0];have:=Yg (H:=HH) (w.alloc (.cells #[] 31)) Tryz.prog 27 (plainElem Tryz.prog 3);rw[Qy] at this;exact this
 have av:=Jv (base:=w.heap.size) (K:=7) (Q3 _) aA;have ae:CM 27 YL ([]:List Q4) w1 (w.heap.size+1) 0 (.map []):=EC E;rw[a0];obtain⟨bm,ah⟩:∃b,w.heap.size+1=b:=⟨_,rfl⟩;have b9:w<bm:=by omega
 rw[ah] at ae |-;have aq:=Kj (Lh l w bm (.slice (w.heap.size,0) 0 0) (.int .i64 (0:Nat)) w1) ⟨0,Qh _,rfl,⟨_,_,ae⟩,av,ax⟩;have b8:bm<w1:=by rw[<-a0,<-ah];simp
 clear a0 ax aA E av ae ah aV;go_loopw [3,11] (λb3 i wr=>Lh l w bm b3 i wr) (λ_ i _=>l.length-(intOf i).toNat);case atStart=>exact aq.o
 case round=>
  clear aq;obtain⟨k,hk,rfl,⟨m,an,hM⟩,Z,hb⟩:=hrel;by_cases ak:k<l.length
  ·obtain⟨bg,og,e1,b5,ai⟩:=Qr Qg 7 (λ_=>rfl) (by decide) (HR.o wr hb) ak;obtain⟨g,j⟩:∃g,l[k]=g:=⟨_,rfl⟩;rw[j] at ai;have aO:=Ki ai;have aJ:=Ki (λW D=>aK.o g (j▸Zt ak) W D);have a6:=Ki (show l.take (k+1)=l.take k++[g] by rw[QQ ak,j]);obtain⟨Av,cv,rfl,b7,aT⟩:=(Rd.of_own Z).form;rw[e1];have HB:=Ki hb;have HO:=Ki Z;have HM:=Ki hM;have aR:bm<wr:=(by obtain⟨om,E,_⟩:=J2 hM.map;exact(Q5.1 E).1);have bd:(0:Int)<=(k:Int):=(by omega);have aU:(k:Int)<(l.length:Int):=(by omega);have aP:=EH (l.take k);rw[Zi,JC (by omega)] at aP;have aw:=Lg (l.take k);rw[Zi,JC (by omega)] at aw;clear ai hb Z hM j aT;go_upto_region 5 with(first|((with_reducible refine Ql 31 ?_);refine QA rfl 31 _ rfl _ _ _ rfl aO.o (by kernel_rfl) (Zl _) ?_)|((with_reducible refine Zm 31 ?_);refine Zp rfl 31 _ _ rfl _ _ rfl rfl _ _ (Qi _ _) (by kernel_rfl) rfl (by kernel_rfl) ?_;rw[Xm,Zn]));obtain⟨W4,a7⟩:∃W,wr.alloc (.cells (Qg g).toArray 31)=W:=⟨_,rfl⟩;have h4:W4.heap[wr.heap.size]?=some (.cells (Qg g).toArray 31 (0,0)):=(by rw[<-a7];exact Qi wr _);have a8:Below wr wr W4:=(by rw[<-a7];exact(Qc _ wr).alloc (Q3 _) _);rw[a7];clear a7;obtain⟨O,aQ⟩:∃b,wr.heap.size=b:=⟨_,rfl⟩;have ar:=Ki (Zz h4);rw[aQ] at ar h4 aR |-;have ab:=Ki (HB.o.trans (a8.mono HB.o.size));have aa:=(Q5.1 h4).1;have ap:=Ki (aJ.o W4 ab.o);unfold Z2 at ap;go_wp2_with (((with_reducible refine Ql 31 ?_);refine QA rfl 31 _ rfl _ _ _ rfl ar.o (by kernel_rfl) (Zl _) ?_));refine ap.o.mono ?_;rintro e5 X ⟨rfl,a9⟩
   have H5:=Ki ((a9.block O aa).trans h4);have ao:=Ki (ab.o.trans (a9.mono ab.o.size));have am:Below wr wr X:=a8.trans (a9.mono a8.size);have ac:=Ki (QB HO.o am);have Q:=Ki (HM.o.below am);clear h4 a8 a9 am aa;rcases hok:ZG g with _|_
   ·have HE:=Ki (show ZZ (l.take (k+1))=ZZ (l.take k) by rw[a6.o,EG,hok];simp);have J:=Ki (show Qs (l.take (k+1))=Qs (l.take k) by rw[a6.o,Gm,hok];simp);have aW:((Fo false:Int) != 0)=true:=rfl;clear hok;go_wp2;go_roundw;case rel=>exact⟨k+1,by omega,by go_num,⟨m,an,by rw[HE.o];exact Q.o⟩,by rw[J.o];exact ac.o,ao.o⟩
    case measure=>simp[intOf];omega
   have aW:((Fo true:Int) != 0)=false:=rfl;have HE:=Ki (show ZZ (l.take (k+1))=ZZ (l.take k)++[g.s] by rw[a6.o,EG,hok];rfl)
   have J:=Ki (show Qs (l.take (k+1))=Qs (l.take k)++(if g.s∈ZZ (l.take k) then [] else [g]) by
    rw[a6.o,Gm,hok];by_cases h:g.s∈ZZ (l.take k);·rw[Q7 h,Q6 (λh'=>h'.2 h)]
    rw[Q6 h,Q7 ⟨rfl,h⟩])
   clear hok;obtain⟨N,hN⟩:∃N,ZZ (l.take k)=N:=⟨_,rfl⟩;rw[hN] at HE J Q HM aw;obtain⟨t,ht⟩:∃t,cnt N g.s=t:=⟨_,rfl⟩;have aS:=Fi N g.s;rw[ht] at aS;have ad:=Ki ht;have af:CM 27 YL N X.drew bm m an:=⟨Q.o.map.drew,Q.o.le,Q.o.ct⟩;have e0:=af.look Vs U7 g.s;obtain⟨st,w6,w7,e2,e3,e4,a2,D3,au⟩:=af.tick Vs Et U7 g.s (by omega);rw[ht] at e0 e2 e3 e4;unfold QU goInt at *;have c0:X.drew.cell? ⟨O,0,none⟩=some (.int .i64 g.s.T):=cR 0 H5.o;have c1:X.drew.cell? ⟨O,1,none⟩=some (.int .i64 g.s.R):=cR 1 H5.o;have hw:IntKind.i64.wrap ((t:Int)+1)=(t:Int)+1:=QO _ (by omega);have b4:=Ki a2;have U:=Ki au;have aa:O<X:=(Q5.1 H5.o).1;have H7:=Ki ((a2.block O aa (λe=>by cases e;omega)).trans H5.o);obtain⟨om,E,a4⟩:=J2 Q.o.map;have a5:=Ki ((ZY ac.o).kept a2 (.inr (VA (ZY ac.o) E a4).symm));have ag:Below w w X.drew:=ao.o.drew;have a1:=Ki (ag.grown a2 ag.size (λaH hj=>by cases hj;omega));clear ht E a4 a2 au ag af hN;go_wp2;go_region;have e5:=U.o.look Vs U7 g.s;have az:cnt (N++[g.s]) g.s=t+1:=(by rw[C8,ad.o,Q7 rfl]);rw[az] at e5;unfold QU at e5;have d0:w7.cell? (O,0)=g.s.T:=cR 0 H7.o;have d1:w7.cell? (O,1)=g.s.R:=cR 1 H7.o;have aN:=Ki (Zz (cs:=g) H7.o);clear e0 e2 e3 e4 c0 c1 az;by_cases al:t=0
   ·subst al;have a3:g.s∉N:=(Kz N g.s).1 ad.o;rw[Q6 a3] at J;obtain⟨om,E,a4⟩:=J2 U.o.map;have aD:=VA a5.o E a4;clear E a4 a3;go_wp2_with (first|((with_reducible refine Ql 31 ?_);refine QA rfl 31 _ rfl _ _ _ rfl aN.o (by kernel_rfl) (Zl _) ?_)|(at_builtin;refine Yf _ rfl _ _ 24 rfl w 31 i0 _ 7 88 GQ hi aX aY aZ rfl (by decide) _ _ _ rfl (a5.o.alloc _) ⟨w7.heap.size,0,none⟩ 1 1 (Qg g) rfl rfl ?qc2 (KC g) ?qc4 ?qc5 ?qc6 ?_));case qc2=>exact Zd w7 (Qg g) 31
    case qc4=>unfold maxLen;omega
    case qc5=>omega
    case qc6=>have:=a1.o.size;simp;omega
    intro v8 W8 aF aj _;obtain⟨g8,cap,rfl,ba,bb,bc,aE⟩:=Ui aF
    have ay:Below w w W8:=(a1.o.alloc a1.o.size _).grown aj (by have:=a1.o.size;simp;omega) (λaH hj=>by
     rcases (a5.o).lt aH hj with⟨h1,_⟩
     exact h1)
    have aC:=(U.o.map.alloc (.cells (Qg g).toArray 31)).kept aj aD;have aM:=Kj (W8.ownsRow w 31 7 (.slice (g8,0) ((Qs (l.take k)).length+1) cap) (Qs (l.take (k+1))).length ((Qs (l.take (k+1))).flatMap Qg)) (by rw[J.o,Qj];exact aE);have aL:=Ki aC;have aI:=Ki ay;clear aF aj aE ay aC aD e5 d0 d1;go_wp2;go_roundw;case rel=>exact⟨k+1,by omega,by go_num,⟨m+1,D3,by rw[HE.o];exact⟨aL.o,U.o.le,U.o.ct⟩⟩,aM.o,aI.o⟩
    case measure=>simp[intOf];omega
   have a3:g.s∈N:=O4 λh=>al (ad.o.symm.trans ((Kz N g.s).2 h));rw[Q7 a3] at J;have be:(((t+1:Nat):Int)==1)=false:=(by simp;omega);have bf:((t:Int)+1==1)=false:=(by simp;omega);clear al a3;go_wp2;go_roundw;case rel=>exact⟨k+1,by omega,by go_num,⟨m+1,D3,by rw[HE.o];exact U.o⟩,by rw[J.o,ZB];exact a5.o,a1.o⟩
   case measure=>simp[intOf];omega
  have aB:l.take k=l:=Zk (by omega);rw[aB] at Z;have HO:=Ki Z;have HB:=Ki hb;have aU:¬((k:Int)<(l.length:Int)):=(by omega);clear hM Z hb aB;go_wp2;go_ret;exact⟨_,rfl,HO.o,HB.o⟩
def KD(V:List Int)(g:Q1):List Int:=V.set (g.s.R-1).toNat (max (V.getD (g.s.R-1).toNat 0) g.n)
def Xx(C:List Q1):List Int:=C.foldl KD (List.replicate 16 0)
def Xj(l:List Q1):List Int:=(Xx (Qs l)).take (ZO (Xx (Qs l)))
theorem HO(V:List Int)(g:Q1):(KD V g).length=V.length:=List.length_set ..
theorem Lj:∀(C:List Q1)(V:List Int),(C.foldl KD V).length=V.length|[],_=>rfl|g::C,V=>by rw[List.foldl_cons,Lj C,HO]
theorem Ck(C:List Q1):(Xx C).length=16:=by unfold Xx;rw[Lj];rfl
theorem AO(C:List Q1)(g:Q1):Xx (C++[g])=KD (Xx C) g:=by unfold Xx;rw[Dj];rfl
theorem HP{C:List Q1}{V:List Int}(j:∀x∈V,Qu x):∀x∈C.foldl KD V,Qu x:=by
 induction C generalizing V with
 |nil=>exact j
 |cons g C E=>
  rw[List.foldl_cons];refine E λx D=>?_;rcases List.mem_or_eq_of_mem_set D with h|rfl;·exact j x h
  have J:=g.hn
  have I:Qu (V.getD (g.s.R-1).toNat 0):=by
   rw[CS]
   cases h:V[(g.s.R-1).toNat]? with
   |none=>exact⟨by decide,by decide⟩
   |some y=>exact j y (J9 h)
  unfold Qu at *;omega
theorem HQ(C:List Q1):∀x∈Xx C,Qu x:=HP λx h=>by rw[List.eq_of_mem_replicate h];exact⟨by decide,by decide⟩
theorem Cl:∀(l:List Q1)(had:List Q4),∀g∈JP had l,ZG g=true
 |[],_,g,h=>by cases h
 |a::l,had,g,h=>by
  rw[JP] at h;split at h
  ·rename_i j;split at h;·exact Cl l had g h
   rcases QI.1 h with rfl|h;·exact j
   exact Cl l _ g h
  exact Cl l had g h
theorem Fu{l:List Q1}{g:Q1}(h:g∈Qs l):ZG g=true:=Cl l [] g h
theorem Cm{g:Q1}(h:ZG g=true):1<=g.s.T/\g.s.T<=1099511627776/\1<=g.s.R/\g.s.R<=16/\1<=g.n/\g.n<=1099511627776:=by unfold ZG Gb right at h;simp only[ZJ,XD] at h;omega
def VV(V:List Int):Array Value:=(V.map (Value.int .i64 ·)).toArray
theorem HR(V:List Int)(j:Nat)(x:Int):(VV V).setIfInBounds j x=VV (V.set j x):=by unfold VV;apply Array.ext';simp[List.map_set]
def HS(C:List Q1)(h:Nat)(w:World)(i:Value)(wr:World):Prop:=
 ∃k:Nat,k<=C.length/\i=k/\wr.heap[h]?=some (.cells (VV (Xx (C.take k))) 3 (0,0))/\Qd (λb=>b=h) w wr
def HT(l:List Q1)(w:World)(e:Ending)(w':World):Prop:=
 e=.returned (.slice (w.heap.size,0) (Xj l).length 16)/\Rd w' w' 1 (.slice (w.heap.size,0) (Xj l).length 16) (Xj l).length ((Xj l).flatMap QS)/\Below w w w'
theorem Lk(V:List Int):V.flatMap QS=V.map (Value.int .i64 ·):=by rw[List.map_eq_flatMap];rfl
theorem HU{w:World}{D:Nat}{V:List Int}(h:w.heap[D]?=some (.cells (VV V) 3 (0,0)))(I:V.length<=16):Rd w w 1 (.slice (D,0) V.length 16) V.length (V.flatMap QS):=by refine⟨by rw[Lk,Xh,Uf],_,_,rfl,I,by unfold maxLen;omega,λ_=>⟨D,0,rfl,(Q5.1 h).1,λj u E=>?_⟩⟩;rw[V7,cR j h];unfold VV;rw[Lk] at E;simpa using E
theorem AP:(Tryz.prog.info? 3).map (λi=>(i.zero,i.size,i.bytes))=some (some (.int .i64 0),1,8):=by kernel_rfl
theorem HV:madeCells (Value.cells (0:Int)) ((16:Int).toNat*1)=VV (List.replicate 16 0):=by kernel_rfl
theorem HW(l:List Q1)(A:Option Addr)(n c B:Nat)(w:World)(O:Xi w B (.slice A n c) l)(hn:n<=100000)(Q:B<=w.heap.size)(hT:ZD w)(ao:∀g∈l,∀o∈g.ops,o.tx.size<=1000000000):Calls Tryz.prog 15 #[.slice A n c] w (HT l w):=by
 obtain rfl:n=l.length:=(Rd.len O.r).1;have HC:=Ki (λW (I:Below w.heap.size w W)=>Li l A l.length c B W ⟨O.r.below' I Q,λg E=>⟨(O.a g E).d.below' I Q,(O.a g E).i,(O.a g E).o.below' I Q,λo ho=>⟨((O.a g E).a o ho).d.below' I Q,((O.a g E).a o ho).e.below' I Q⟩⟩⟩ hn (Q9 Q I.size) (hT.below I) ao);have aC:=EH l;have ae:=Ki (λg (h:g∈Qs l)=>Cm (Fu h));clear O hT ao;have aG:∀W:World,(Instr.makeSlice 28 (16:Int) (16:Int)).run Tryz.prog W=.ok (.slice (some ⟨W.heap.size,0,none⟩) 16 16) (W.alloc (.cells (VV (List.replicate 16 0)) 3)):=λW=>by obtain⟨i0,hi,aI,aJ,aK⟩:=Zc AP;have h:=run_make (P:=Tryz.prog) W 28 3 i0 _ Tryz.underlying28 hi aI .i64 .i64 16 16 (by decide) (by decide) (by rw[aK];decide) (by decide);rw[aJ] at h;rw[h,HV];rfl
 go_enter Tryz.func15,Tryz.ntmps15;go_wp2_with fail;refine(HC.o _ ((Qc _ w).alloc (Q3 _) _)).mono ?_;rintro e1 X ⟨v,rfl,a2,a7⟩;have a1:X.heap[w.heap.size]?=some (.cells (VV (List.replicate 16 0)) 3 (0,0)):=(a7.block w (by simp)).trans (Qi w _);have aj:Below w w X:=((Qc _ w).alloc (Q3 _) _).trans (a7.mono (by simp));have an:∀g,v.ownBlock=some g->¬g=w.heap.size:=λg E e=>by have:=(a2.lt g E).1;simp at this;omega
 have a5:=Ki (λW (I:Qd (λb=>b=w.heap.size) X W)=>Rd.of_own (Yn a2 I an));obtain⟨Av,cv,rfl,_,aM⟩:=(Rd.of_own a2).form;have aD:w.heap.size<X.heap.size:=(Q5.1 a1).1;obtain⟨D,aa⟩:∃b,w.heap.size=b:=⟨_,rfl⟩;have a4:=Ki aa;have ad:=Ki aj;rw[aa] at a1 a5 aD |-;have af:=Ki a1;obtain⟨C,hC⟩:∃C,Qs l=C:=⟨_,rfl⟩;have ap:=Ki hC;rw[hC] at a5 ae aC |-;clear aa a1 aj a2 a7 an hC HC aG;go_wp2;go_loopw [10] (λi wr=>HS C D X i wr) (λi _=>C.length-(intOf i).toNat);case atStart=>exact⟨0,Qh _,rfl,af.o,Qd.refl _ _⟩
 case round=>
  clear af;obtain⟨k,hk,rfl,U,Z⟩:=hrel;have ah:=Ki U;have ag:=Ki Z;by_cases ab:k<C.length
  ·obtain⟨bg,og,e1,aL,a9⟩:=Qr Qg 7 (λ_=>rfl) (by decide) (a5.o wr Z) ab;obtain⟨g,E⟩:∃g,C[k]=g:=⟨_,rfl⟩;rw[E] at a9;have aA:=Ki a9;have ax:=Ki (show C.take (k+1)=C.take k++[g] by rw[QQ ab,E]);obtain⟨_,_,r1,r2,_,_⟩:=ae.o g (E▸Zt ab);obtain⟨j,hj⟩:∃j:Nat,g.s.R=(j:Int)+1:=⟨(g.s.R-1).toNat,by omega⟩;have aO:j<16:=(by omega);have aE:D<wr:=(Q5.1 U).1;rw[e1];have aN:(0:Int)<=(k:Int):=(by omega);have aF:(k:Int)<(C.length:Int):=(by omega);have HJ:=Ki hj;clear a9 E U Z r1 r2;go_upto_region 5 with(first|((with_reducible refine Ql 31 ?_);refine QA rfl 31 _ rfl _ _ _ rfl aA.o (by kernel_rfl) (Zl _) ?_)|((with_reducible refine Zm 31 ?_);refine Zp rfl 31 _ _ rfl _ _ rfl rfl _ _ (Qi _ _) (by kernel_rfl) rfl (by kernel_rfl) ?_;rw[Xm,Zn]));obtain⟨J,a0⟩:∃W,wr.alloc (.cells (Qg g).toArray 31)=W:=⟨_,rfl⟩;have h4:J.heap[wr.heap.size]?=some (.cells (Qg g).toArray 31 (0,0)):=(by rw[<-a0];exact Qi wr _);have a8:Below wr wr J:=(by rw[<-a0];exact(Qc _ wr).alloc (Q3 _) _);rw[a0];clear a0;obtain⟨b5,ai⟩:∃b,wr.heap.size=b:=⟨_,rfl⟩;rw[ai] at h4 aE |-;have Y:=(a8.block D (by omega)).trans ah.o;have aw:=Ki (ag.o.trans (Below.touch a8 (λb=>b=D)) (λ_ _ h=>h));have c1:J.drew.cell? ⟨b5,1,none⟩=some (.int .i64 ((j:Int)+1)):=(by rw[<-HJ.o];exact cR 1 h4);have c2:J.drew.cell? (b5,2)=g.n:=cR 2 h4;obtain⟨V,a6⟩:∃V,Xx (C.take k)=V:=⟨_,rfl⟩;have aB:=Ck (C.take k);have az:=Ki a6;rw[a6] at Y aB
   obtain⟨x,hx⟩:∃x,V[j]'(by omega)=x:=⟨_,rfl⟩;have c3:J.drew.cell? ⟨D,j,none⟩=some (.int .i64 x):=(by refine(cR j Y).trans ?_;unfold VV;rw[<-hx];simp[show j<V.length by omega]);have z3:∀i,J.drew.frozen? ⟨D,i,none⟩=false:=λi=>by show J.frozen? ⟨D,i,none⟩=false;simp[World.frozen?,Y]
   have aq:=Ki (show Xx (C.take (k+1))=V.set j (max x g.n) by
    rw[ax.o,AO,az.o];unfold KD;rw[HJ.o,show((j:Int)+1-1).toNat=j by omega,CS,X3 (by omega),hx]
    rfl)
   have ay:=Ki Y;have i1:(0:Int)<=(j:Int):=(by omega);have i2:(j:Int)<16:=(by omega);have i3:(j:Int)+1-1=j:=(by omega);have hw:IntKind.i64.wrap (j:Int)=j:=QO _ (by omega);clear h4 a8 ai Y a6 hx;have au:=Ki (show(J.setCell ⟨D,j,none⟩ (.int .i64 (max x g.n))).heap[D]?=some (.cells (VV (Xx (C.take (k+1)))) 3 (0,0)) by rw[aq.o,<-HR];exact Zf ay.o);have av:=Ki (Qd.setCell (F:=λb=>b=D) (p:=⟨D,j,none⟩) aw.o (λ_=>rfl) (.int .i64 (max x g.n)) |>.drew);go_region;go_wp2;go_roundw;case rel=>exact⟨k+1,by omega,by go_num,au.o,av.o⟩
   case measure=>simp[intOf];omega
  have am:C.take k=C:=Zk (by omega);rw[am] at U;have aF:¬((k:Int)<(C.length:Int)):=(by omega);have hr:=HU (w:=wr) U (by rw[Ck];exact Q3 _);rw[Ck] at hr;have HP:=Ki (PP (Xx C) (some ⟨D,0,none⟩) 16 16 wr wr hr);have ac:=Ki (ad.o.trans (Z.below ad.o.size (λx hx e=>by have:=a4.o;omega)));have ar:=Ki hr;clear U Z hr am ah ag;go_wp2_with fail;refine HP.o.mono ?_;rintro e5 W5 ⟨rfl,al⟩;have a3:=Ki al;clear al;go_wp2;go_ret;have aH:=Fk (Xx C);have hd:Xj l=(Xx C).take (ZO (Xx C)):=(by unfold Xj;rw[ap.o]);have ak:(Xj l).length=ZO (Xx C):=(by rw[hd,Zi];omega);refine⟨by rw[ak,a4.o];rfl,?_,ac.o.trans (a3.o.below.mono ac.o.size)⟩;rw[ak,hd,a4.o];exact((AD ar.o aH).below a3.o.below).more a3.o.below.size
end
end Go.Proofs.YtfpafikfjjckeaaGreatDoor
