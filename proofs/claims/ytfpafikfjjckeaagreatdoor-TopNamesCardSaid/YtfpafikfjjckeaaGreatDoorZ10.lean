import Derived.Test.YtfpafikfjjckeaaGreatDoorZ7
import Derived.Test.YtfpafikfjjckeaaGreatDoorZ9
set_option maxRecDepth 100000
set_option maxHeartbeats 200000000
namespace Go.Proofs.YtfpafikfjjckeaaGreatDoor
section
open Go Go.RowKit Go.Maps
def C4(w:World)(bm h:Nat)(j:World):Prop:=
 j.ownsMap Tryz.prog 60 (Z7 QX) bm 0 (.map [])/\j.ownsMap Tryz.prog 60 (plainElem (H:=HH) Tryz.prog 3) h 1 ((DataW.map []).put (Ze Qf) (.lit (.int .i64 1)))/\bm≠h/\w.heap.size<=bm/\w.heap.size<=h/\Below w.heap.size w j
def ZU(W:World)(b:Nat)(x:Id):Prop:=W.heap[b]?=some (.cells x 60 (0,0))
theorem Ul{S:Nat->Prop}{wr E:World}{base:Nat}{e:TypeId}{K n:Nat}{v:Value}{xs:List Value}(h:wr.ownsRow base e K v n xs)(t:Qd S wr E)(O:∀k j I,S k->wr.heap[k]?≠some (.cells j e I)):E.ownsRow base e K v n xs:=
 Yn h t (λg D U=>by
  rcases h.2 with⟨rfl,_⟩|⟨J,cap,j,rfl,_,Q,_⟩;·cases D
  cases D;exact O J j _ U Q)
theorem ZU.kind{S:Nat->Prop}{wr j:World}{b:Nat}{x:Id}(h:ZU wr b x)(t:Qd S wr j)(I:∀k D E,S k->wr.heap[k]?≠some (.cells D 60 E)):ZU j b x:=QY h t (λJ=>I _ _ _ J h)
theorem Pq{w:World}{g:Nat}{a b c u:Value}{t:TypeId}{j:Nat×Nat}(h:w.heap[g]?=some (.cells #[a,b,c] t j)):(w.setCell (g,2) u).heap[g]?=some (.cells #[a,b,u] t j):=by simp[World.setCell,Vm,h]
theorem Pr{w:World}{g:Nat}{a b c v u z:Value}{t:TypeId}{j:Nat×Nat}(h:w.heap[g]?=some (.cells #[a,b,c] t j)):(((w.setCell (g,0) v).setCell (g,1) u).setCell (g,2) z).heap[g]?=some (.cells #[v,u,z] t j):=by simp[World.setCell,Vm,h]
theorem Ps{w:World}{g k:Nat}{v u z:Value}(h:k≠g):(((w.setCell (g,0) v).setCell (g,1) u).setCell (g,2) z).heap[k]?=w.heap[k]?:=by rw[YV _ _ _ _ h,YV _ _ _ _ h,YV _ _ _ _ h]
theorem Pt{H:Type}{P:Program}{k:TypeId}{E:Value->Option (DataW H×List MemPlace)}{w:World}{b r n cnt:Nat}{D:DataW H}{left:Lit->Bool}(h:w.ranges P k E b r n D left cnt):∃J I j,w.heap[r]?=some (.mapIter (some b) J I j):=by obtain⟨U,Q,J,I,j,_,_,_,_,O,_⟩:=h;exact⟨_,_,_,O⟩
def C5(l:List El):Prop:=l.Pairwise (λa b=>¬b.id.cmp a.id<0)
theorem Xa.nil_of{w:World}{base bm m:Nat}{D:DataW Hd}{j:Id->Hd}{B:Id->List El}(h:Xa w base bm m D j B){x:Id}(I:j x=none):B x=[]:=by
 rcases (h.rows x).2 with⟨_,E⟩|⟨g,cap,J,e,_⟩;·exact VJ E
 rw[I] at e;cases e
def T6(B:Id->List El)(D:DataW Hd)(h:Id->Hd)(bm r m:Nat)(w wr:World):Prop:=
 ∃(left:Lit->Bool)(cnt:Nat)(X:List Id)(S:Id->List El),wr.ranges Tryz.prog 60 (Z7 QX) bm r m D left cnt/\Yo Ze D left X/\Xa wr w bm m D h S/\(∀x,(S x).Perm (B x))/\(∀x∈X,C5 (S x))/\Below w w wr
theorem BV{W:World}{base:Nat}{e:TypeId}{K n g:Nat}{v:Value}{xs:List Value}{o:Obj}(h:W.ownsRow base e K v n xs)(J:W.heap[g]?=some o)(I:∀j E,o≠.cells j e E):some g≠v.ownBlock:=by
 intro hv;rcases h.2 with⟨rfl,_⟩|⟨O,cap,j,rfl,_,D,_⟩;·cases hv
 cases hv;rw[J] at D;exact I _ _ (Jr D)
def T7(R:List Rn)(w:World)(bm j:Nat)(i:Value)(wr:World):Prop:=
 ∃k:Nat,k<=R.length/\i=k/\∃m I D h E B,GM (Qx (R.take k)) (Qx (R.take k)) w wr bm j m I D h E B
def T8(I:List El)(E h:Id)(ps:List (List UInt8))(w:World)(bm U Q O:Nat)(Y i:Value)(wr:World):Prop:=
 ∃j:Nat,j<=ps.length/\i=j/\ZU wr Q (Kw E h j)/\ZU wr O (Ji h j)/\wr.ownsRow w 9 1 Y ps.length (ps.map Xr)/\∃m X D J W B,GM (I++Zy E h (ps.take j)) (I++Zy E h (ps.take j)) w wr bm U m X D J W B
theorem Pu(R:List Rn){k:Nat}(h:k<R.length):Qx (R.take (k+1))=Qx (R.take k)++Zy R[k].af R[k].el (Yx R[k].tx.data.toList):=by rw[QQ h,BM]
theorem T9(R:List Rn)(k:Nat):(Qx (R.take k)).length<=(Qx R).length:=by
 have:Qx R=Qx (R.take k)++Qx (R.drop k):=by unfold Qx;rw[<-Zb,XU]
 rw[this,Qj];omega
theorem Pv(E D:Id)(ps:List (List UInt8)){j:Nat}(h:j<ps.length):Zy E D (ps.take (j+1))=Zy E D (ps.take j)++[⟨Ji D j,Kw E D j,Q8 ps[j]⟩]:=by rw[QQ h,P7,Zi,JC (by omega)]
theorem Pw:(Tryz.prog.info? 205).map (λi=>(i.zero,i.size,i.bytes))=some (some (.agg #[(0:Int),(0:Int),(0:Int),.string ⟨#[]⟩]),4,40):=by kernel_rfl
def Px(R:List Rn)(w:World)(e:Ending)(w':World):Prop:=
 ∃bm m D h S,e=.returned (.map (some bm))/\Xa w' w bm m D h S/\Gi Id.Lt El.id El.af (ZP (Qx R)) S/\Below w w w'
def BW(h:World)(I J:Id)(a b:Value)(E:World):Prop:=
 ∃D j,a=.pointer (some ⟨D,0,none⟩)/\b=.pointer (some ⟨j,0,none⟩)/\D≠j/\h.heap.size<=D/\h.heap.size<=j/\ZU E D I/\ZU E j J/\Below h.heap.size h E
theorem Py(W:World)(x y:Id):ZU ((W.alloc (.cells x 60)).alloc (.cells y 60)) W x/\ZU ((W.alloc (.cells x 60)).alloc (.cells y 60)) (W.heap.size+1) y:=by refine⟨(Z5 _ _ _ (by simp)).trans (Qi W _),?_⟩;have:=Qi (W.alloc (.cells x 60)) (.cells y 60);rw[Qy] at this;exact this
theorem Ta(R:List Rn)(A:Option Addr)(n c B0:Nat)(w:World)(hR:Rd w B0 7 (.slice A n c) n (R.flatMap XL))(hB:B0<=w.heap.size)(hT:ZD w)(hF:(Qx R).length<=100000)(cj:∀r∈R,r.tx.size<=100000):
  Calls Tryz.prog 151 #[.slice A n c] w (Px R w):=by
 obtain⟨_,du,cL⟩:=hR.len
 unfold maxLen at cL
 obtain rfl:=QL XL 7 (λ_=>rfl) (by decide) hR.1
 have HR:=Ki hR
 have HT:=Ki hT
 have cC:=Ki cj
 have bq:=Ki hF
 clear hR hT cj hF
 obtain⟨i0,hi,dg,dh,di⟩:=Zc Pw
 have cV:=@Ue Tryz.prog
 go_enter Tryz.func151,Tryz.ntmps151
 go_upto_region 1 with(fail)
 go_cut [3,4] from 15 to 18 (λa b wx=>∃bm bh,a=.map (some bm)/\b=.map (some bh)/\C4 w bm bh wx)
 case first=>
  have aS:=λ(ar:World)(b:Nat) (h:ar.ownsMap Tryz.prog 60 (plainElem (H:=HH) Tryz.prog 3) b 0 (.map []))=>h.update (Eh Gf) Dd (by unfold maxLen;omega) (XJ.val Qf) (BP 1 (by decide))
  have m1:(w.alloc (.map #[] 0)).drew.ownsMap Tryz.prog 60 (plainElem (H:=HH) Tryz.prog 3) w.heap.size 0 (.map []):=(Yg w _ _ _).drew
  have m2:((w.alloc (.map #[] 0)).alloc (.map #[] 0)).drew.ownsMap Tryz.prog 60 (plainElem (H:=HH) Tryz.prog 3) w.heap.size 0 (.map []):=((Yg w _ _ _).alloc _).drew
  have m3:((w.alloc (.map #[] 0)).alloc (.map #[] 0)).drew.ownsMap Tryz.prog 60 (plainElem (H:=HH) Tryz.prog 3) (w.heap.size+1) 0 (.map []):=by
   have:=Yg (H:=HH) (w.alloc (.map #[] 0)) Tryz.prog 60 (plainElem Tryz.prog 3)
   rwa [Qy] at this
  have p2:((w.alloc (.map #[] 0)).alloc (.map #[] 0)).drew.ownsMap Tryz.prog 60 (Z7 QX) (w.heap.size+1) 0 (.map []):=by
   have:=Yg (H:=Hd) (w.alloc (.map #[] 0)) Tryz.prog 60 (Z7 QX)
   rwa [Qy] at this
  have p3:((w.alloc (.map #[] 0)).alloc (.map #[] 0)).drew.ownsMap Tryz.prog 60 (Z7 QX) w.heap.size 0 (.map []):=((Yg w _ _ _).alloc _).drew
  have b1:Below w.heap.size w (w.alloc (.map #[] 0)).drew:=((Qc _ w).alloc (Q3 _) _).drew
  have b2:Below w.heap.size w ((w.alloc (.map #[] 0)).alloc (.map #[] 0)).drew:=(((Qc _ w).alloc (Q3 _) _).alloc (by simp) _).drew
  obtain⟨u1,d9,o1,g1⟩:=aS _ _ m1
  obtain⟨u2,da,o2,g2⟩:=aS _ _ m2
  obtain⟨u3,db,o3,g3⟩:=aS _ _ m3
  have r1:C4 w u1.heap.size w.heap.size (u1.alloc (.map #[] 0)):=by
   have hs:w.heap.size<u1.heap.size:=by have:=g1.size;simp at this;omega
   exact⟨Yg u1 _ _ _,o1.alloc _,by omega,by omega,Q3 _,(b1.grown g1 (by simp) (λk J=>by cases J;exact Q3 _)).alloc (by omega) _⟩
  have r2:C4 w (w.heap.size+1) w.heap.size u2:=⟨p2.kept g2 (by simp),o2,by omega,by omega,Q3 _,b2.grown g2 (by simp;omega) (λk J=>by cases J;exact Q3 _)⟩
  have r3:C4 w w.heap.size (w.heap.size+1) u3:=⟨p3.kept g3 (by simp),o3,by omega,Q3 _,by omega,b2.grown g3 (by simp;omega) (λk J=>by cases J;omega)⟩
  have R1:=Ki r1
  have R2:=Ki r2
  have R3:=Ki r3
  have h0:Qa Qf=.agg #[(0:Int),(0:Int),(0:Int)]:=rfl
  rw[h0] at d9 da db
  clear aS m1 m2 m3 p2 p3 b1 b2 o1 o2 o3 g1 g2 g3 r1 r2 r3 h0
  go_region
  all_goals (go_wp2_with fail;go_meet;first|exact⟨_,_,rfl,rfl,R1.o⟩|exact⟨_,_,rfl,rfl,R2.o⟩|exact⟨_,_,rfl,rfl,R3.o⟩)
 case rest=>
  obtain⟨bm,bh,rfl,rfl,bM,bN,cW,cT,cS,bV⟩:=hcut
  have ci:GM (Qx (R.take 0)) (Qx (R.take 0)) w wc bm bh 0 1 (.map []) ((DataW.map []).put (Ze Qf) (.lit (.int .i64 1))) (λ_=>none) (λ_=>[]):=
   {le:=Qh _,le2:=by omega,rows:={ map:=bM,fm:=Xu.start _,rows:=λx=>J8 _ _ _ _,apart:=λx y _ g hg=>by simp[QX,Value.ownBlock] at hg },gat:=SJ,hm:=bN,ct:=λs=>by
     have hI:IsMap (DataW.map ([]:List (Lit×DataW HH))):=⟨_,rfl⟩
     by_cases hs:Qf=s
     ·subst hs
      rw[Maps.atKey_put_same hI (Xp.key (YM Qf))]
      simp[had,Qx]
     ·rw[Maps.atKey_put_other (λe'=>hs (Es e').symm)]
      simp[had,Qx,DataW.atKey,XF hs],lo:=⟨cT,cS,cW⟩,bel:=bV }
  have bC:=Ki ci
  clear bM bN bV ci cV
  go_wp2
  go_loopw [21] (λi wr=>T7 R w bm bh i wr) (λi _=>R.length-(intOf i).toNat)
  case atStart=>exact⟨0,Qh _,rfl,_,_,_,_,_,_,bC.o⟩
  case round=>
   clear bC
   obtain⟨k,J,rfl,m,m2,a3,D2,Y,B,hG⟩:=hrel
   obtain⟨wo,rfl⟩:∃wo:World,wo=wr:=⟨_,rfl⟩
   by_cases bj:k<R.length
   ·obtain⟨b,o,rfl,dp,bb⟩:=Qr XL 7 (λ_=>rfl) (by decide) HR.o bj
    have ai:=Pu R bj
    have az:=T9 R (k+1)
    have bo:=cC.o R[k] (Zt bj)
    obtain⟨r,hr⟩:∃r,R[k]=r:=⟨_,rfl⟩
    rw[hr] at bb ai bo
    rw[ai,Qj,Gj] at az
    have cO:=bq.o
    obtain⟨U,Q,tx⟩:=r
    obtain⟨F0,bF⟩:∃F0,Qx (R.take k)=F0:=⟨_,rfl⟩
    rw[bF] at hG ai az
    dsimp only at ai az bo
    obtain⟨ps,cc⟩:∃ps,Yx tx.data.toList=ps:=⟨_,rfl⟩
    have bn:=λar hW=>SV tx ar (by omega) hW
    rw[cc] at ai az bn
    have bB:=Ki bn
    have cu:=Ki ai
    have dr:F0.length+ps.length<=100000:=by omega
    have ba:b<w.heap.size:=by omega
    have cK:b<wo.heap.size:=Z1 ba hG.bel.size
    have ad:∀j u,(XL ⟨U,Q,tx⟩)[j]?=some u->wo.cell? ⟨b,o+k*7+j,none⟩=some u:=λj u hu=>(hG.bel.cell (p:=⟨b,o+k*7+j,none⟩) ba).trans (bb j u hu)
    have d0:wo.cell? ⟨b,o+k*7,none⟩=some (.int .i64 U.s.T):=ad 0 _ rfl
    have d1:wo.cell? ⟨b,o+k*7+1,none⟩=some (.int .i64 U.s.R):=ad 1 _ rfl
    have d2:wo.cell? ⟨b,o+k*7+2,none⟩=some (.int .i64 U.I):=ad 2 _ rfl
    have d3:wo.cell? ⟨b,o+k*7+3,none⟩=some (.int .i64 Q.s.T):=ad 3 _ rfl
    have d4:wo.cell? ⟨b,o+k*7+4,none⟩=some (.int .i64 Q.s.R):=ad 4 _ rfl
    have d5:wo.cell? ⟨b,o+k*7+5,none⟩=some (.int .i64 Q.I):=ad 5 _ rfl
    have d6:wo.cell? ⟨b,o+k*7+6,none⟩=some (.string tx):=ad 6 _ rfl
    have i1:(0:Int)<=(k:Int):=by omega
    have i2:(k:Int)<(R.length:Int):=by omega
    have HG:=Ki hG
    have HK:=Ki J
    clear bb ad hr ai bo az cO bn cc hG J bF
    go_wp2_with fail
    obtain⟨W1,aM⟩:∃ar,wo.alloc (.cells #[U.s.T,U.s.R,U.I,Q.s.T,Q.s.R,Q.I,.string tx] 131)=ar:=⟨_,rfl⟩
    have b7:Below wo.heap.size wo W1:=by rw[<-aM];exact((Qc _ wo).alloc (Q3 _) _)
    have aT:W1.heap[wo.heap.size]?=some (.cells #[U.s.T,U.s.R,U.I,Q.s.T,Q.s.R,Q.I,.string tx] 131 (0,0)):=by rw[<-aM];exact Qi wo _
    rw[aM]
    obtain⟨b6,bR⟩:∃x,wo.heap.size=x:=⟨_,rfl⟩
    have aI:=Ki (HG.o.bel.trans (b7.mono HG.o.bel.size))
    have aV:=Ki b7
    rw[bR] at aT |-
    have bS:=(Q5.1 aT).1
    clear aM d0 d1 d2 d3 d4 d5 d6 b7 bR
    refine(bB.o W1 (HT.o.below aI.o)).mono ?_
    rintro e W ⟨vp,er,rfl,hp,hb2⟩
    obtain⟨Ap,cp,rfl,dv,dw⟩:=(Rd.of_own hp).form
    have ag:W.heap[b6]?=_:=(hb2.block b6 bS).trans aT
    have cJ:=(Q5.1 ag).1
    have e0:W.cell? ⟨b6,0,none⟩=some (.int .i64 U.s.T):=cell_of_row _ _ 0 _ _ _ ag
    have e1:W.cell? ⟨b6,1,none⟩=some (.int .i64 U.s.R):=cell_of_row _ _ 1 _ _ _ ag
    have e2:W.cell? ⟨b6,2,none⟩=some (.int .i64 U.I):=cell_of_row _ _ 2 _ _ _ ag
    have e3:W.cell? ⟨b6,3,none⟩=some (.int .i64 Q.s.T):=cell_of_row _ _ 3 _ _ _ ag
    have e4:W.cell? ⟨b6,4,none⟩=some (.int .i64 Q.s.R):=cell_of_row _ _ 4 _ _ _ ag
    have e5:W.cell? ⟨b6,5,none⟩=some (.int .i64 Q.I):=cell_of_row _ _ 5 _ _ _ ag
    have aj:=Ki (aV.o.trans (hb2.mono aV.o.size))
    have ca:W.ownsRow w.heap.size 9 1 (.slice Ap ps.length cp) ps.length (ps.map Xr):=⟨hp.1,hp.2.imp id λ⟨g,cap,a4,f1,hg,r⟩=>⟨g,cap,a4,f1,Q9 aI.o.size hg,r⟩⟩
    have HP:=Ki ca
    have de:w.heap.size<=W.heap.size:=Q9 aI.o.size hb2.size
    clear aT ag hp ca hb2 bS aI aV bB
    go_upto_region 6 with(fail)
    go_cut [9,10] from 31 to 34 (λxa xb wx=>BW W U Q xa xb wx)
    case first=>
     have t1:=Py W U Q
     have t2:=Py W Q U
     have cd:BW W U Q (.pointer (some ⟨W.heap.size,0,none⟩)) (.pointer (some ⟨W.heap.size+1,0,none⟩)) ((W.alloc (.cells #[U.s.T,U.s.R,U.I] 60)).alloc (.cells #[Q.s.T,Q.s.R,Q.I] 60)).drew:=⟨_,_,rfl,rfl,by omega,Q3 _,by omega,t1.1,t1.2,(((Qc _ W).alloc (Q3 _) _).alloc (by simp) _).drew⟩
     have ce:BW W U Q (.pointer (some ⟨W.heap.size+1,0,none⟩)) (.pointer (some ⟨W.heap.size,0,none⟩)) ((W.alloc (.cells #[Q.s.T,Q.s.R,Q.I] 60)).alloc (.cells #[U.s.T,U.s.R,U.I] 60)).drew:=⟨_,_,rfl,rfl,by omega,by omega,Q3 _,t2.2,t2.1,(((Qc _ W).alloc (Q3 _) _).alloc (by simp) _).drew⟩
     have Q1:=Ki cd
     have Q2:=Ki ce
     clear t1 t2 cd ce
     go_region
     all_goals (go_wp2_with fail;go_meet;first|exact Q1.o|exact Q2.o)
    case rest=>
     obtain⟨D,O,rfl,rfl,aQ,h9,cH,ah,a7,b8⟩:=hcut
     have bI:=HG.o.grow (aj.o.trans (b8.mono aj.o.size))
     have bL:wc.ownsRow w.heap.size 9 1 (.slice Ap ps.length cp) ps.length (ps.map Xr):=QB HP.o b8
     have cm:w.heap.size<=D:=by omega
     have ck:w.heap.size<=O:=by omega
     have bu:=Ki bI
     have bw:=Ki bL
     have ak:=Ki ah
     have am:=Ki a7
     clear bI bL ah a7 b8 HP aj HG e0 e1 e2 e3 e4 e5 cJ h9 cH de ba cK
     go_wp2
     go_loopw [37] (λi wr=>T8 F0 U Q ps w bm bh D O (.slice Ap ps.length cp) i wr) (λi _=>ps.length-(intOf i).toNat)
     case atStart=>exact⟨0,Qh _,rfl,ak.o,am.o,bw.o,_,_,_,_,_,_,by simpa [Zy] using bu.o⟩
     case round=>
      clear bu bw ak am
      obtain⟨j,hj,rfl,ah,a7,hP,m,m2,a3,D2,Y,B,hG⟩:=hrel
      obtain⟨Z,rfl⟩:∃Z:World,Z=wr:=⟨_,rfl⟩
      by_cases c3:j<ps.length
      ·obtain⟨F,hF⟩:∃F,F0++Zy U Q (ps.take j)=F:=⟨_,rfl⟩
       have cI:F.length<=100000:=by rw[<-hF,Qj,Gj,Zi];omega
       have bG:=Pv U Q ps c3
       obtain⟨y,hy⟩:∃y,Kw U Q j=y:=⟨_,rfl⟩
       obtain⟨x,hx⟩:∃x,Ji Q j=x:=⟨_,rfl⟩
       obtain⟨p,hp⟩:∃p,ps[j]=p:=⟨_,rfl⟩
       have bH:F0++Zy U Q (ps.take (j+1))=F++[⟨x,y,Q8 p⟩]:=by rw[bG,<-Y7,hF,hx,hy,hp]
       rw[hF] at hG
       rw[hy] at ah
       rw[hx] at a7
       have bO:Kw U Q (j+1)=x/\Ji Q (j+1)=XM x:=⟨hx,by rw[<-hx];rfl⟩
       have aJ:=Ki bO
       have bs:=Ki bH
       have HJ:=Ki hj
       obtain⟨gp,op,dc,cU,bW⟩:=(Rd.of_own hP).cells (show 0<ps.length by omega)
       subst dc
       have d0:Z.cell? ⟨gp,op+j,none⟩=some (Xr p):=bW j (Xr p) (by rw[B1,X3 c3,hp];rfl)
       unfold Xr at d0
       have i1:(0:Int)<=(j:Int):=by omega
       have i2:(j:Int)<(ps.length:Int):=by omega
       have aL:=hG.grow (Below.drew (Qc _ Z))
       have bc:=aL.count x
       obtain⟨st,w1,E,e2,e3,e4,hg,D3,b4⟩:=aL.tick ⟨x,y,Q8 p⟩ (by omega)
       dsimp only at e2 e3 e4
       have a8:=b4.count x
       rw[P8] at a8
       dsimp only at a8
       rw[Q7 rfl] at a8
       have cQ:=P9 F x
       obtain⟨t,ht⟩:∃t,had F x=t:=⟨_,rfl⟩
       rw[ht] at bc e2 e3 e4 a8 cQ
       have hw:IntKind.i64.wrap ((t:Int)+1)=(t:Int)+1:=QO _ (by omega)
       have a8:(Instr.lookup 200 (.map (some bh)) (Qa x) false).run Tryz.prog E=.ok (.int .i64 ((t:Int)+1)) E:=a8
       have tk:Qd (λk=>k=bh) Z E:=(Qd.drew (Qd.refl _ Z)).grown hg (λk J _=>by cases J;rfl)
       obtain⟨es,cl,aN,_⟩:=aL.hm
       have aN:Z.heap[bh]?=some (.map es cl):=aN
       have kS:∀(ty:TypeId) k a4 fr,k=bh->Z.heap[k]?≠some (.cells a4 ty fr):=λty k a4 fr J h=>by rw[J,aN] at h;cases h
       have bE:ZU E D y:=ah.kind tk (kS 60)
       have au:ZU E O x:=a7.kind tk (kS 60)
       have bK:=Ul hP tk (kS 9)
       have a0:Z.drew.cell? ⟨O,0,none⟩=some (.int .i64 x.s.T):=cell_of_row Z _ 0 _ _ _ a7
       have a1:Z.drew.cell? ⟨O,1,none⟩=some (.int .i64 x.s.R):=cell_of_row Z _ 1 _ _ _ a7
       have a2:Z.drew.cell? ⟨O,2,none⟩=some (.int .i64 x.I):=cell_of_row Z _ 2 _ _ _ a7
       have c0:E.cell? ⟨O,0,none⟩=some (.int .i64 x.s.T):=cell_of_row _ _ 0 _ _ _ au
       have c1:E.cell? ⟨O,1,none⟩=some (.int .i64 x.s.R):=cell_of_row _ _ 1 _ _ _ au
       have c2:E.cell? ⟨O,2,none⟩=some (.int .i64 x.I):=cell_of_row _ _ 2 _ _ _ au
       have a6:=Ki b4
       have ak:=Ki bE
       have am:=Ki au
       have bv:=Ki bK
       have bD:=Ki ht
       unfold Qa at bc a8 e2 e3
       unfold goInt at e2 e4
       clear hj ah a7 hP hG hF bG hy hx hp bH bO bW cU aL hg b4 tk aN kS bE au bK ht
       go_wp2
       go_region
       clear bc a0 a1 a2 e2 e3 e4 d0
       by_cases h0:t=0
       ·have aK:had F x=0:=bD.o.trans h0
        subst h0
        have bX:(Instr.lookup 200 (.map (some bh)) (.agg #[x.s.T,x.s.R,x.I]) false).run Tryz.prog E=.ok (1:Int) E:=a8
        have ay:=a6.o.grow ((Qc _ E).alloc (Q3 _) (.cells #[x.s.T,x.s.R,x.I,.string (Q8 p)] 205))
        obtain⟨dk,v1,o1,f1,f2,f3,f4,f5⟩:=ay.rows.entry (by have:=a6.o.le;unfold maxLen;omega) y
        have X:=ak.o
        have cD:E.cell? ⟨D,0,none⟩=some (.int .i64 y.s.T):=cell_of_row _ _ 0 _ _ _ X
        have cE:E.cell? ⟨D,1,none⟩=some (.int .i64 y.s.R):=cell_of_row _ _ 1 _ _ _ X
        have cF:E.cell? ⟨D,2,none⟩=some (.int .i64 y.I):=cell_of_row _ _ 2 _ _ _ X
        have ds:bm<E.heap.size:=a6.o.rows.map.lt
        have aa:v1.ownsRow w.heap.size 205 4 (QX (Y y)) (B y).length ((B y).flatMap QM):=(ay.rows.rows y).kept f2 (by
         cases hv:(QX (Y y)).ownBlock with
         |none=>exact .inl rfl
         |some g=>exact .inr (λe=>ay.rows.ne hv (by cases e;rfl)))
        have c8:v1.heap[E.heap.size]?=some (.cells #[x.s.T,x.s.R,x.I,.string (Q8 p)] 205 (0,0)):=(f2.block E.heap.size (by simp) (by simp;omega)).trans (Qi E _)
        have c9:=World.news_of_block c8
        have dq:(B y).length<=100000:=Q9 (Pa a6.o.gat y) cI
        have dx:E.heap.size+1<=v1.heap.size:=by have:=f2.size;simpa using this
        have df:w.heap.size<=v1.heap.size:=by have:=a6.o.bel.size;omega
        have dm:=Ki ay
        have cr:=Ki f5
        have co:=Ki f2
        have cq:=Ki f3
        have cz:=Ki aa
        have cx:=Ki c9
        unfold Qa at f1
        unfold goInt at f1
        clear a8 ay f5 f2 f3 f4 X aa c8 c9
        go_wp2_with (at_builtin;refine wpList_append_lies _ rfl _ _ 202 rfl w.heap.size 205 i0 _ 4 40 Tryz.underlying202 hi dg dh di rfl (by decide) (QX (Y y)) (B y).length ((B y).flatMap QM) rfl cz.o ⟨E.heap.size,0,none⟩ 1 1 [x.s.T,x.s.R,x.I,.string (Q8 p)] rfl rfl cx.o (by simp[Value.oneCell']) (by omega) (by unfold maxLen;omega) (by omega) df _ rfl ?_)
        intro g cap W4 ae bi al cP
        have bT:W4.heap[bm]?=some o1:=(bi.block bm (by omega) (λe=>a6.o.rows.ne e.symm rfl)).trans cq.o
        obtain⟨u2,s1,s2,s3⟩:=cr.o W4 (some (g,(B y).length+1,cap)) bT
        have dB:(Instr.entryStore 263 (.map (some bm)) dk (.slice (some ⟨g,0,none⟩) ((B y).length+1) cap)).run Tryz.prog W4=.ok () u2:=s1
        have t1:Qd (λk=>k=bm\/(QX (Y y)).ownBlock=some k) E W4:=(((Qd.refl _ E).alloc (.cells #[x.s.T,x.s.R,x.I,.string (Q8 p)] 205)).grown co.o (λk J _=>by cases J;exact .inl rfl)).grown bi (λk J _=>.inr J)
        obtain⟨Dn,cM,Bn,bZ⟩:=GM.new a6.o aK t1 (g:=g) (cap:=cap) ae (al.imp id (λh=>by omega)) s2 s3
        have t2:Qd (λk=>k=bm\/(QX (Y y)).ownBlock=some k) E u2:=t1.grown s3 (λk J _=>by cases J;exact .inl rfl)
        have aP:∀(ty:TypeId),ty≠205->∀k a4 fr,k=bm\/(QX (Y y)).ownBlock=some k->E.heap[k]?≠some (.cells a4 ty fr):=λty d8 k a4 fr J h=>by
         rcases J with rfl|J
         ·obtain⟨dn,c',h'⟩:=a6.o.rows.isMap
          rw[h] at h'
          cases h'
         ·obtain⟨c',h'⟩:=a6.o.rows.cells J
          rw[h] at h'
          cases h'
          exact d8 rfl
        have ao:=Ki (ak.o.kind t2 (aP 60 (by decide)))
        have an:=Ki (am.o.kind t2 (aP 60 (by decide)))
        have aq:=Ki (Ul bv.o t2 (aP 9 (by decide)))
        have ap:=Ki (show ∃m m2 a3 D2 Y B,GM (F++[⟨x,y,Q8 p⟩]) (F++[⟨x,y,Q8 p⟩]) w u2 bm bh m m2 a3 D2 Y B from⟨_,_,Dn,_,cM,Bn,bZ⟩)
        clear ae bi al cP bT s1 s2 s3 t1 t2 bZ aP f1 bX cD cE cF c0 c1 c2
        have X:=ao.o
        have a5:=an.o
        have y0:u2.cell? ⟨D,0,none⟩=some (.int .i64 y.s.T):=cell_of_row _ _ 0 _ _ _ X
        have y1:u2.cell? ⟨D,1,none⟩=some (.int .i64 y.s.R):=cell_of_row _ _ 1 _ _ _ X
        have y2:u2.cell? ⟨D,2,none⟩=some (.int .i64 y.I):=cell_of_row _ _ 2 _ _ _ X
        have x0:u2.cell? ⟨O,0,none⟩=some (.int .i64 x.s.T):=cell_of_row _ _ 0 _ _ _ a5
        have x1:u2.cell? ⟨O,1,none⟩=some (.int .i64 x.s.R):=cell_of_row _ _ 1 _ _ _ a5
        have x2:u2.cell? ⟨O,2,none⟩=some (.int .i64 x.I):=cell_of_row _ _ 2 _ _ _ a5
        have z9:∀i,u2.frozen? ⟨D,i,none⟩=false:=λi=>by simp[World.frozen?,show u2.heap[D]?=_ from X]
        have ab:(((u2.setCell ⟨D,0,none⟩ x.s.T).setCell ⟨D,1,none⟩ x.s.R).setCell ⟨D,2,none⟩ x.I).heap[O]?=some (.cells #[x.s.T,x.s.R,x.I] 60 (0,0)):=(Ps (XF aQ)).trans a5
        have q2:(((u2.setCell ⟨D,0,none⟩ x.s.T).setCell ⟨D,1,none⟩ x.s.R).setCell ⟨D,2,none⟩ x.I).cell? ⟨O,2,none⟩=some (.int .i64 x.I):=cell_of_row _ _ 2 _ _ _ ab
        have dj:(((u2.setCell ⟨D,0,none⟩ x.s.T).setCell ⟨D,1,none⟩ x.s.R).setCell ⟨D,2,none⟩ x.I).frozen? ⟨O,2,none⟩=false:=by simp only[World.frozen?,ab];simp
        have aB:(((u2.setCell ⟨D,0,none⟩ x.s.T).setCell ⟨D,1,none⟩ x.s.R).setCell ⟨D,2,none⟩ x.I).heap[D]?=some (.cells #[x.s.T,x.s.R,x.I] 60 (0,0)):=Pr X
        have aD:ZU ((((u2.setCell ⟨D,0,none⟩ x.s.T).setCell ⟨D,1,none⟩ x.s.R).setCell ⟨D,2,none⟩ x.I).setCell ⟨O,2,none⟩ (.int .i64 (XM x).I)) D x:=(YV _ _ _ _ aQ).trans aB
        have aC:ZU ((((u2.setCell ⟨D,0,none⟩ x.s.T).setCell ⟨D,1,none⟩ x.s.R).setCell ⟨D,2,none⟩ x.I).setCell ⟨O,2,none⟩ (.int .i64 (XM x).I)) O (XM x):=Pq ab
        have tk:Qd (λk=>k=D\/k=O) u2 ((((u2.setCell ⟨D,0,none⟩ x.s.T).setCell ⟨D,1,none⟩ x.s.R).setCell ⟨D,2,none⟩ x.I).setCell ⟨O,2,none⟩ (.int .i64 (XM x).I)):=((((Qd.refl _ u2).setCell (p:=⟨D,0,none⟩) (λ_=>.inl rfl) _).setCell (p:=⟨D,1,none⟩) (λ_=>.inl rfl) _).setCell (p:=⟨D,2,none⟩) (λ_=>.inl rfl) _).setCell (p:=⟨O,2,none⟩) (λ_=>.inr rfl) _
        have a9:∀k,k=D\/k=O->w.heap.size<=k/\∃a4,u2.heap[k]?=some (.cells a4 60 (0,0)):=λk J=>by
         rcases J with rfl|rfl
         ·exact⟨cm,_,X⟩
         ·exact⟨ck,_,a5⟩
        have ax:=Ul aq.o tk (λk a4 fr J h=>by obtain⟨_,c',h'⟩:=a9 k J;rw[h] at h';cases h')
        obtain⟨m',bp,D',aU,bd,B',aw⟩:=ap.o
        have av:=aw.keep tk (λk J=>⟨(a9 k J).1,by obtain⟨_,c',h'⟩:=a9 k J;exact⟨_,_,_,h',by decide⟩⟩)
        have dd:=Pi x
        have aZ:=Ki aD
        have aY:=Ki aC
        have aX:=Ki ax
        have aW:=Ki av
        clear X a5 ab aB aD aC tk a9 ax aw av ap ao an aq
        go_wp2
        go_roundw
        case rel=>exact⟨j+1,by have:=HJ.o;omega,by go_num,by rw[aJ.o.1];exact aZ.o,by rw[aJ.o.2];exact aY.o,aX.o,m',bp,D',aU,bd,B',by rw[bs.o];exact aW.o⟩
        case measure=>simp[intOf];omega
       ·have aK:had F x≠0:=λh=>h0 (bD.o.symm.trans h)
        have bX:((t:Int)+1==1)=false:=by simp;omega
        have ao:=ak
        have an:=am
        have aq:=bv
        have ap:=Ki (show ∃m m2 a3 D2 Y B,GM (F++[⟨x,y,Q8 p⟩]) (F++[⟨x,y,Q8 p⟩]) w E bm bh m m2 a3 D2 Y B from⟨_,_,_,_,_,_,GM.seen a6.o aK⟩)
        clear aK
        have X:=ao.o
        have a5:=an.o
        have y0:E.cell? ⟨D,0,none⟩=some (.int .i64 y.s.T):=cell_of_row _ _ 0 _ _ _ X
        have y1:E.cell? ⟨D,1,none⟩=some (.int .i64 y.s.R):=cell_of_row _ _ 1 _ _ _ X
        have y2:E.cell? ⟨D,2,none⟩=some (.int .i64 y.I):=cell_of_row _ _ 2 _ _ _ X
        have x0:E.cell? ⟨O,0,none⟩=some (.int .i64 x.s.T):=cell_of_row _ _ 0 _ _ _ a5
        have x1:E.cell? ⟨O,1,none⟩=some (.int .i64 x.s.R):=cell_of_row _ _ 1 _ _ _ a5
        have x2:E.cell? ⟨O,2,none⟩=some (.int .i64 x.I):=cell_of_row _ _ 2 _ _ _ a5
        have z9:∀i,E.frozen? ⟨D,i,none⟩=false:=λi=>by simp[World.frozen?,show E.heap[D]?=_ from X]
        have ab:(((E.setCell ⟨D,0,none⟩ x.s.T).setCell ⟨D,1,none⟩ x.s.R).setCell ⟨D,2,none⟩ x.I).heap[O]?=some (.cells #[x.s.T,x.s.R,x.I] 60 (0,0)):=(Ps (XF aQ)).trans a5
        have q2:(((E.setCell ⟨D,0,none⟩ x.s.T).setCell ⟨D,1,none⟩ x.s.R).setCell ⟨D,2,none⟩ x.I).cell? ⟨O,2,none⟩=some (.int .i64 x.I):=cell_of_row _ _ 2 _ _ _ ab
        have dj:(((E.setCell ⟨D,0,none⟩ x.s.T).setCell ⟨D,1,none⟩ x.s.R).setCell ⟨D,2,none⟩ x.I).frozen? ⟨O,2,none⟩=false:=by simp only[World.frozen?,ab];simp
        have aB:(((E.setCell ⟨D,0,none⟩ x.s.T).setCell ⟨D,1,none⟩ x.s.R).setCell ⟨D,2,none⟩ x.I).heap[D]?=some (.cells #[x.s.T,x.s.R,x.I] 60 (0,0)):=Pr X
        have aD:ZU ((((E.setCell ⟨D,0,none⟩ x.s.T).setCell ⟨D,1,none⟩ x.s.R).setCell ⟨D,2,none⟩ x.I).setCell ⟨O,2,none⟩ (.int .i64 (XM x).I)) D x:=(YV _ _ _ _ aQ).trans aB
        have aC:ZU ((((E.setCell ⟨D,0,none⟩ x.s.T).setCell ⟨D,1,none⟩ x.s.R).setCell ⟨D,2,none⟩ x.I).setCell ⟨O,2,none⟩ (.int .i64 (XM x).I)) O (XM x):=Pq ab
        have tk:Qd (λk=>k=D\/k=O) E ((((E.setCell ⟨D,0,none⟩ x.s.T).setCell ⟨D,1,none⟩ x.s.R).setCell ⟨D,2,none⟩ x.I).setCell ⟨O,2,none⟩ (.int .i64 (XM x).I)):=((((Qd.refl _ E).setCell (p:=⟨D,0,none⟩) (λ_=>.inl rfl) _).setCell (p:=⟨D,1,none⟩) (λ_=>.inl rfl) _).setCell (p:=⟨D,2,none⟩) (λ_=>.inl rfl) _).setCell (p:=⟨O,2,none⟩) (λ_=>.inr rfl) _
        have a9:∀k,k=D\/k=O->w.heap.size<=k/\∃a4,E.heap[k]?=some (.cells a4 60 (0,0)):=λk J=>by
         rcases J with rfl|rfl
         ·exact⟨cm,_,X⟩
         ·exact⟨ck,_,a5⟩
        have ax:=Ul aq.o tk (λk a4 fr J h=>by obtain⟨_,c',h'⟩:=a9 k J;rw[h] at h';cases h')
        obtain⟨m',bp,D',aU,bd,B',aw⟩:=ap.o
        have av:=aw.keep tk (λk J=>⟨(a9 k J).1,by obtain⟨_,c',h'⟩:=a9 k J;exact⟨_,_,_,h',by decide⟩⟩)
        have dd:=Pi x
        have aZ:=Ki aD
        have aY:=Ki aC
        have aX:=Ki ax
        have aW:=Ki av
        clear X a5 ab aB aD aC tk a9 ax aw av ap ao an aq
        go_wp2
        go_roundw
        case rel=>exact⟨j+1,by have:=HJ.o;omega,by go_num,by rw[aJ.o.1];exact aZ.o,by rw[aJ.o.2];exact aY.o,aX.o,m',bp,D',aU,bd,B',by rw[bs.o];exact aW.o⟩
        case measure=>simp[intOf];omega
      ·have cR:j=ps.length:=by omega
       subst cR
       have bY:ps.take ps.length=ps:=X6
       rw[bY] at hG
       have cv:=Ki (show ∃m m2 a3 D2 Y B,GM (Qx (R.take (k+1))) (Qx (R.take (k+1))) w Z bm bh m m2 a3 D2 Y B from⟨_,_,_,_,_,_,by rw[cu.o];exact hG⟩)
       clear hG hP ah a7 bY hj
       go_wp2
       go_roundw
       case rel=>exact⟨k+1,by omega,by go_num,cv.o⟩
       case measure=>simp[intOf];omega
   ·obtain rfl:k=R.length:=by omega
    rw[X6] at hG
    have ac:=Ki hG
    have ae:=hG.rows.map
    clear hG J
    obtain⟨W3,cX,bk,bf,cZ⟩:=ae.range Xp CZ
    go_wp2
    have bQ:Below w.heap.size w W3:=ac.o.bel.grown bf ac.o.bel.size (λj hj=>by cases hj)
    have bJ:Xa W3 w.heap.size bm m a3 Y B:=ac.o.rows.touch (F:=λ_=>False) (Qd.grown (Qd.refl _ _) bf (λj hj _=>by cases hj)) (λh=>h) (λ_ _ _ h=>h)
    obtain⟨r,hr⟩:∃r,wo.heap.size=r:=⟨_,rfl⟩
    have cY:w.heap.size<=r:=by have:=ac.o.bel.size;omega
    rw[hr] at bk |-
    have aH:=Ki bJ
    have aE:=Ki bQ
    have bt:=Ki ac.o.gat
    have br:=Ki ac.o.rows.fm
    have dl:=Ki ac.o.lo
    clear bf cZ ae hr cX bJ bQ ac
    go_loopw [14] (λ_ wr=>T6 B a3 Y bm r m w wr) (λ_ wr=>wr.rangeLeft bm r)
    case atStart=>exact⟨_,_,[],B,bk,Yo.start _ a3,aH.o,λx=>List.Perm.refl _,(λx hx=>by cases hx),aE.o⟩
    case round=>
     clear bk aH aE
     obtain⟨left,cnt,b3,S,aA,hC,hM,hP,hS,hb⟩:=hrel
     obtain⟨Z,rfl⟩:∃Z:World,Z=wr:=⟨_,rfl⟩
     have HM:=Ki hM
     have HC:=Ki hC
     have HP:=Ki hP
     have HS:=Ki hS
     have bx:=Ki aA
     have HB:=Ki hb
     clear hM hC hP hS hb
     go_wp2_with (at_next;refine wpList_next_ranges _ rfl _ rfl 60 Xp (Z7 QX) Qa QX (λkey kl J=>by obtain⟨a,h,_⟩:=Va J;exact⟨a,h⟩) (λv y hv=>by obtain⟨a,h,_⟩:=Kt hv;exact⟨a,h⟩) bm r m _ _ _ rfl aA ?_ ?_)
     ·intro dt c5
      have bP:∀x,C5 (S x):=λx=>by
       cases hx:Y x with
       |none=>rw[HM.o.nil_of hx];exact List.Pairwise.nil
       |some y=>
        refine HS.o x ((HC.o.2 x).2 ⟨?_,c5 _⟩)
        rw[br.o.has,Uk,hx]
        rfl
      have HE:=Ki (show Px R w (.returned (.map (some bm))) Z from⟨bm,m,a3,Y,S,rfl,HM.o,SM bt.o HP.o bP,HB.o⟩)
      clear aA bx c5 bP
      go_wp2
      go_ret
      exact HE.o
     ·intro x p kl y yp E cG c4 c6 hv al cf c7 bg d7 cN
      obtain⟨x',e1,rfl⟩:=Va c4
      obtain rfl:=Ks e1
      rw[Vt C2] at hv
      cases hv
      have be:Y x=p:=by
       have h1:=br.o x (.map [])
       rw[al] at h1
       unfold Uk at h1
       cases e:Y x with
       |none=>rw[e] at h1;cases h1
       |some q=>rw[e] at h1;cases h1;rfl
      obtain⟨dy,dz,dA,aR⟩:=Pt aA
      have bU:bm≠r:=λe=>by
       obtain⟨es,c,h1⟩:=HM.o.isMap
       rw[<-e,h1] at aR
       cases aR
      have b5:Xa E w.heap.size bm m a3 Y S:=HM.o.touch (F:=λk=>k=r) (Qd.grown (Qd.refl _ _) bg (λj hj _=>by cases hj;rfl)) bU (λz g hz hg=>by
       subst hg
       exact BV (HM.o.rows z) aR (λ_ _ h=>by cases h) hz.symm)
      have hb2:Below w.heap.size w E:=HB.o.grown bg HB.o.size (λj hj=>by cases hj;exact cY)
      have cn:=Ki (show Yo Ze a3 (λz=>left z&&!z.sameKey (Ze x)) (b3++[x]) from HC.o.step XJ c6 al)
      have aG:=Ki b5
      have aj:=Ki hb2
      have bz:=Ki cf
      have cw:=Ki c7
      have cg:Calls Tryz.prog 194 #[QX p,.func (.func 195) #[] #[]] E (λr w'=>r=.returned (.tuple #[])/\∃ys:List El,ys.Perm (S x)/\C5 ys/\w'.ownsRow w.heap.size 205 4 (QX p) ys.length (ys.flatMap QM)/\E.grownBy w' (QX p).ownBlock):=T5 (S x) (QX p) w.heap.size E (be▸b5.rows x) (by have:=(HP.o x).length_eq;have:=Pa bt.o x;have:=bq.o;omega)
      have cA:=Ki cg
      have aF:=Ki be
      unfold Qa at cN
      clear c4 c6 al cf aA bg d7 e1 aR bU b5 hb2 cg be c7
      go_wp2_with fail
      refine cA.o.mono ?_
      rintro e w3 ⟨rfl,ys,cb,ch,ae,aO⟩
      have bl:some bm≠(QX p).ownBlock/\some r≠(QX p).ownBlock:=by
       have aa:=aG.o.rows x
       rw[aF.o] at aa
       obtain⟨es,c,h1⟩:=aG.o.isMap
       obtain⟨_,_,_,h2⟩:=Pt bz.o
       exact⟨BV aa h1 (λ_ _ h=>by cases h),BV aa h2 (λ_ _ h=>by cases h)⟩
      have bA:=Ki (bz.o.kept aO bl.1 bl.2)
      have aE:=Ki (aj.o.grown aO aj.o.size (λk J=>by
       have aa:=aG.o.rows x
       rw[aF.o] at aa
       exact(aa.lt k J).1))
      have aH:=Ki (aG.o.turn (x:=x) (l:=ys) (aF.o.symm▸aO) (aF.o.symm▸ae))
      have cy:=Ki (show ∀y,(if y=x then ys else S y).Perm (B y) from λy=>by
       by_cases e:y=x
       ·rw[Q7 e,e];exact cb.trans (HP.o x)
       ·rw[Q6 e];exact HP.o y)
      have cB:=Ki (show ∀y∈b3++[x],C5 (if y=x then ys else S y) from λy hy=>by
       by_cases e:y=x
       ·rw[Q7 e];exact ch
       ·rw[Q6 e]
        rcases Qq.1 hy with hy|hy
        ·exact HS.o y hy
        ·rw[Qw] at hy;exact absurd hy e)
      clear cb ch ae aO bl
      go_wp2
      go_roundw
      case rel=>exact⟨_,cG,b3++[x],_,bA.o,cn.o,aH.o,cy.o,cB.o,aE.o⟩
      case measure=>rw[bA.o.left_eq,bx.o.left_eq];exact cw.o
theorem KY:type_of% @wpList_append_own_at:=@wpList_append_own_at
def Um(h j:Value):Prop:=∀g,h.ownBlock=some g->j.ownBlock≠some g
theorem Um.symm{j D:Value}(h:Um j D):Um D j:=λg E I=>h g I E
theorem Um.kept{D j:Value}(h:Um D j):j.ownBlock=none\/j.ownBlock≠D.ownBlock:=by
 cases e:j.ownBlock with
 |none=>exact .inl rfl
 |some g=>exact .inr (λE=>h g E.symm e)
theorem Um.new{O E I:Value}(h:Um O I){W:World}{base:Nat}{e:TypeId}{K n m:Nat}{xs:List Value}(U:W.ownsRow base e K I n xs)(Q:E.ownBlock=O.ownBlock\/E.ownBlock=some m)(hm:W<=m):Um E I:=by
 intro g D J;rcases Q with j|j;·exact h g (j.symm.trans D) J
 have:=(U.lt g J).2;rw[j] at D;cases D;omega
theorem Tb{W I:World}{b j:Nat}{e J:TypeId}{K E n X:Nat}{v D:Value}{xs Y:List Value}(h:W.ownsRow b e K v n xs)(O:I.ownsRow j J E D X Y)(hb:W<=j):Um v D:=by intro g Q U;have:=(h.lt g Q).2;have:=(O.lt g U).1;omega
theorem BX{w:World}{b j:Nat}{e:TypeId}{K n:Nat}{v:Value}{xs:List Value}(h:w.ownsRow b e K v n xs)(hb:j<=b):w.ownsRow j e K v n xs:=
 ⟨h.1,h.2.imp id λ⟨g,cap,D,E,I,r⟩=>⟨g,cap,D,E,Q9 hb I,r⟩⟩
theorem BY{w:World}{base:Nat}{e:TypeId}{K n:Nat}{v:Value}{xs:List Value}(h:w.ownsRow base e K v n xs):w.drew.ownsRow base e K v n xs:=h
abbrev Nd:=List Id×El
def YO(n:Nd):List Value:=QM n.2
def BZ(E:El->Prop)(h:World)(D I:Value)(wr:World):Prop:=
 ∃O j:List Nd,Ff Id.Lt El.id El.af Qf E O j/\wr.ownsRow h 205 4 D O.length (O.flatMap YO)/\wr.ownsRow h 205 4 I j.length (j.reverse.flatMap YO)/\Um D I/\Below h h wr
def Pz:Value->Nat|.slice _ n _=>n|_=>0
def PA(R:List Rn)(w:World)(e:Ending)(w':World):Prop:=
 ∃v O,e=.returned v/\JL Id.Lt El.id El.af Qf (ZP (Qx R)) O/\w'.ownsRow w 205 4 v O.length (O.flatMap YO)/\O.length<=(Qx R).length/\Below w w w'
theorem Tc{F:List El}{O j:List Nd}(h:Ff Id.Lt El.id El.af Qf (ZP F) O j):O.length+j.length<=F.length:=by have:=P4 Zv (Ex F) h.so h.nodes (L:=F) (λe D=>Vv D);rwa [Qj] at this
theorem PB(S:Id->List El)(p:List Id)(x:Id):(J1 El.id S p x).reverse.flatMap YO=(S x).flatMap QM:=by unfold J1;rw[List.map_reverse,Oc,List.flatMap_map];rfl
theorem PC(S:Id->List El)(p:List Id)(x:Id):(J1 El.id S p x).length=(S x).length:=by simp[J1]
theorem Td(R:List Rn)(A:Option Addr)(n c aa:Nat)(w:World)(hR:Rd w aa 7 (.slice A n c) n (R.flatMap XL))(hB:aa<=w)(hT:ZD w)(hF:(Qx R).length<=100000)(aK:∀r∈R,r.tx.size<=100000):Calls Tryz.prog 98 #[.slice A n c] w (PA R w):=by
 obtain⟨i0,hi,aM,aN,aO⟩:=Zc Pw;have HG:=Ki (Ta R A n c aa w hR hB hT hF aK);have HF:=Ki hF;have HN:=Ki (Ex (Qx R));clear hR hT hF aK;go_enter Tryz.func98,Tryz.ntmps98;go_wp2_with fail;refine HG.o.mono ?_;rintro e D ⟨bm,m,ba,hd,S,rfl,hM,hS,aB⟩;have HM:=Ki (λaY (I:Below D D aY)=>hM.below I);have HS:=Ki hS;have ab:=Ki aB;have HE:=Ki (Pk (w:=D.alloc (.cells #[] 205)) (base:=D.heap.size) (K:=4) (Q3 _) (Qi D _));have a5:Below D D (D.alloc (.cells #[] 205)):=(Qc _ D).alloc (Q3 _) _;have a3:=(hM.below a5).look Qf;have h0:Qa Qf=.agg #[(0:Int),(0:Int),(0:Int)]:=rfl;rw[h0] at a3;have ah:∀x,(S x).length<=100000:=λx=>by have h1:(S x).Nodup:=((hS x).1.imp (λ{a b} a4 e=>by rw[e] at a4;exact Zv.irrefl _ a4));have:=C0 h1 (M:=Qx R) (λe he=>Vv (((hS x).2 e).1 he).1);have:=HF.o;omega
 have ap:=Ki (SZ (S Qf) (hd Qf) w (D.alloc (.cells #[] 205)) ((hM.below a5).rows Qf) (by have:=ah Qf;omega));have aT:=Ki ah;have ac:=Ki a5;clear hM hS aB a5 h0 ah HG;go_wp2_with fail;refine ap.o.mono ?_;rintro e w2 ⟨v,rfl,hv,hb2⟩;obtain⟨Av,cv,rfl,_,_⟩:=(Rd.of_own hv).form
 have aI:BZ (ZP (Qx R)) D (.slice (D.heap.size,0) 0 0) (.slice Av (S Qf).length cv) w2:=
  ⟨[],J1 El.id S [] Qf,SG HS.o HN.o,QB HE.o hb2,by rw[PB,PC];exact BX hv (by simp),Tb HE.o hv (Q3 _),ac.o.trans (hb2.mono ac.o.size)⟩
 have au:=Ki aI;clear hv hb2 aI a3 HE ap ac;go_wp2;go_loopw [4,5] (λal aP wr=>BZ (ZP (Qx R)) D al aP wr) (λal aP _=>(Qx R).length-Pz al);case atStart=>exact au.o
 case round=>
  clear au
  obtain⟨O,Wt,I,hO,Q,hA,hb⟩:=hrel
  obtain⟨Ao,co,rfl,_,_⟩:=(Rd.of_own hO).form
  obtain⟨Aw,cw,rfl,_,_⟩:=(Rd.of_own Q).form
  obtain⟨h,rfl⟩:∃h:World,h=wr:=⟨_,rfl⟩
  have a2:=Tc I
  have b6:=HF.o
  cases Wt with
  |nil=>have HE:=Kj (PA R w (.returned (.slice Ao O.length co)) h) ⟨_,O,rfl,SI I,BX hO ab.o.size,by simpa using a2,ab.o.trans (hb.mono ab.o.size)⟩;clear hO Q hA I hb a2 b6;go_wp2;go_ret;exact HE.o
  |cons x rest=>
   obtain⟨j,W⟩:=ex (rest.length);have ai:(x::rest).length=j+1:=(by rw[Z4,W]);rw[ai] at hA Q a2 |-;have b5:j+1<=cw:=(by have:=Q.1;obtain⟨_,_,a4,h2,_⟩:=(Rd.of_own Q).form;cases a4;exact h2);have aF:(x::rest).reverse.length=j+1:=(by rw[G0,ai]);have aG:=Q;obtain⟨Y,ow,b3,bc,Z⟩:=Qr YO 4 (λ_=>rfl) (by decide) (show Rd h h 4 (.slice Aw (x::rest).reverse.length cw) (x::rest).reverse.length ((x::rest).reverse.flatMap YO) from by rw[aF];exact Rd.of_own Q) (show j<(x::rest).reverse.length by omega);subst b3;have aC:(x::rest).reverse[j]'(by omega)=x:=(by simp only[B0];rw[List.getElem_append_right (by simp[W])];simp[W]);rw[aC] at Z;have aj:=SH HS.o HN.o I;have aH:(x::rest).reverse.flatMap YO=rest.reverse.flatMap YO++YO x:=(by rw[B0,Zb,Xf]);have hcut:=BQ aG (show j<=j+1 by omega);have aJ:(List.flatMap YO (x::rest).reverse).take (j*4)=rest.reverse.flatMap YO:=(by rw[aH,O5 (by rw[CY];simp[YO,QM,W,List.map_const']),Zk (by rw[CY];simp[YO,QM,W,List.map_const'])]);rw[aJ] at hcut;have af:(J1 El.id S x.1 x.2.id++rest).length=j+(S x.2.id).length:=(by rw[Qj,PC,W];omega);have ag:(J1 El.id S x.1 x.2.id++rest).reverse.flatMap YO=rest.reverse.flatMap YO++(S x.2.id).flatMap QM:=(by rw[Dk,Zb,PB]);obtain⟨p,e⟩:=x;have c0:h.cell? (Y,ow+j*4)=e.id.s.T:=Z 0 _ rfl;have c1:h.cell? (Y,ow+j*4+1)=e.id.s.R:=Z 1 _ rfl;have c2:h.cell? (Y,ow+j*4+2)=e.id.I:=Z 2 _ rfl
   have c3:h.cell? (Y,ow+j*4+3)=e.pc:=Z 3 _ rfl;dsimp only at af ag aj;have bg:(0:Int)<((j+1:Nat):Int):=(by omega);have i1:(0:Int)<=(j:Int):=(by omega);have i2:(j:Int)<((j+1:Nat):Int):=(by omega);have i3:(j:Int)<=(cw:Int):=(by omega);have be:=aT.o e.id;have aX:=Ki aj;have aq:=Ki hcut;have aR:=Ki af;have aS:=Ki ag;have HO:=Ki hO;have HA:=Ki hA;have ad:=Ki Q;have bb:=Ki W;have aU:=Ki a2;have bd:O.length<=100000:=(by omega);have bf:j<=100000:=(by omega);clear aF aG Z aC aj aH hcut aJ af ag hO Q hA W ai a2 I b5;go_wp2_with (at_builtin;refine KY _ rfl _ _ 202 rfl D 205 i0 _ 4 40 CT hi aM aN aO rfl (by decide) _ O.length (O.flatMap YO) rfl ((HO.o.alloc (.cells (QM e).toArray 205)).alloc (.cells (QM e).toArray 205)) ⟨h.heap.size+1,0,none⟩ 1 1 (QM e) rfl rfl ?qc (BK e) ?q2 ?q3 ?q4 ?_);case qc=>have:=Zd (h.alloc (.cells (QM e).toArray 205)) (QM e) 205;rw[Qy] at this;exact this
   case q2=>unfold maxLen;omega
   case q3=>omega
   case q4=>have:=hb.size;simp;omega
   intro v1 E aD a7 _ az;have aL:=hb.size;have ae:E.ownsRow D 205 4 v1 (O.length+1) ((O++[(p,e)]).flatMap YO):=(by rw[Zb,Xf];exact aD);have aw:=HA.o.new ad.o az (by omega);obtain⟨g4,aZ,R4,rfl,_⟩:=V9 ae (Nat.succ_pos _);have ax:=((aq.o.alloc _).alloc _).kept a7 HA.o.kept;have a0:Below D D E:=((hb.alloc aL (.cells (QM e).toArray 205)).alloc (by simp;omega) (.cells (QM e).toArray 205)).grown a7 (by simp;omega) (λak hj=>(HO.o.lt ak hj).1)
   have X:E.heap[h.heap.size]?=some (.cells (QM e).toArray 205 (0,0)):=
    (a7.block h (by simp;omega) (λe'=>by have:=(HO.o.lt _ e'.symm).2;omega)).trans ((Z5 _ _ _ (by simp)).trans (Qi h _))
   have b7:=(ad.o.lt Y rfl).2;have a1:=(Q5.1 X).1
   have av:=Ki (λU (I:Below E E U)=>(show U.cell? (h.heap.size,0)=e.id.s.T/\U.cell? (h.heap.size,1)=e.id.s.R/\U.cell? (h.heap.size,2)=e.id.I from
    ⟨(I.cell (p:=(h.heap.size,0)) a1).trans (cR 0 X),(I.cell (p:=(h.heap.size,1)) a1).trans (cR 1 X),(I.cell (p:=(h.heap.size,2)) a1).trans (cR 2 X)⟩))
   obtain⟨J,a6⟩:∃k,h.heap.size=k:=⟨_,rfl⟩;rw[a6] at X av b7;have a3:=(HM.o E.drew a0.drew).look e.id;unfold Qa at a3;have aV:=Ki ((HM.o E.drew a0.drew).rows e.id);have ar:=Ki ae;have ao:=Ki (BY ax);have am:=Ki aw;have an:=Ki a0;have aQ:=Ki X;have b9:=a0.size;have k1:Below E E E.drew:=(Qc _ E).drew;have b4:J<E:=(by rw[<-a6];exact a1);clear aD a7 az ae aw ax a0 X a1 c0 c1 c2 c3 aL HO HA ad aq;simp only[a6];clear a6;go_wp2
   go_region_held3 (λU=>U.cell? (J,0)=e.id.s.T/\U.cell? (J,1)=e.id.s.R/\U.cell? (J,2)=e.id.I)
    (first|exact av.o _ k1|exact ay|go_keep)
    (first
     |(refine SX _ (by rfl) _ _ _ (by rfl) D 205 i0 _ 4 40 CT hi aM aN aO rfl (by omega) _ j _ (by rfl) ao.o (QX (hd e.id)) w (S e.id).length _ (by rfl) aV.o (Pj _) (by unfold maxLen;omega) (by omega) b9 ?_;intro v' W5 aE a8 aA;have a9:W5.heap[J]?=some (.cells (QM e).toArray 205 (0,0)):=(a8.block J b4 (λe'=>by have:J=Y:=(by simpa [Value.ownBlock] using e');omega)).trans aQ.o;have ay:W5.cell? ⟨J,0,none⟩=some (.int .i64 e.id.s.T)/\W5.cell? ⟨J,1,none⟩=some (.int .i64 e.id.s.R)/\W5.cell? ⟨J,2,none⟩=some (.int .i64 e.id.I):=⟨cR 0 a9,cR 1 a9,cR 2 a9⟩))
   have b8:(O++[(p,e)]).length=O.length+1:=(by simp)
   have aW:=Ki (show BZ (ZP (Qx R)) D (.slice (g4,0) (O.length+1) aZ) v' W5 from
    ⟨O++[(p,e)],J1 El.id S p e.id++rest,aX.o,by rw[b8];exact(BY ar.o).kept a8 am.o.symm.kept,by rw[aR.o,aS.o];exact aE,(am.o.symm.new (BY ar.o) aA (Q3 _)).symm,an.o.drew.grown a8 an.o.size (λak hj=>(ao.o.lt ak hj).1)⟩)
   clear aE a8 aA a9 ay a3 k1;go_wp2;go_roundw;case rel=>exact aW.o
   case measure=>have:=aU.o;simp[Pz];omega
end
section
open Go Go.RowKit
def Zh(L:List El):List UInt8:=(L.map (λe=>e.pc.data.toList)).flatten
theorem Tn(L:List El)(e:El):Zh (L++[e])=Zh L++e.pc.data.toList:=by simp[Zh]
theorem Aq(a b:List UInt8):Lib.byteCells (a++b)=Lib.byteCells a++Lib.byteCells b:=by simp[Lib.byteCells]
theorem To(n:Nat):(madeCells #[.int .i64 0,.int .i64 0,.int .i64 0] (n*3)).toList=List.replicate (n*3) (.int .i64 0):=by
 apply B4;·simp[madeCells]
 intro i j D;simp only[List.getElem_replicate];have hm:i % 3=0\/i % 3=1\/i % 3=2:=by omega
 simp only[madeCells,Od,Array.getElem_map,Array.getElem_range];rcases hm with h|h|h<;>simp[h]
theorem Tp{B b g:Nat}{j:List Value}{w w':World}(h:Lib.IsBuilderF 87 5 B b j w)(hg:g<B)(J:∀k,k≠g->w'.heap[k]?=w.heap[k]?):Lib.IsBuilderF 87 5 B b j w':=by
 have key:∀p,Lib.BuilderAtF 87 5 B b p j w->Lib.BuilderAtF 87 5 B b p j w':=by
  rintro p ⟨hB,v,U,I,W⟩;refine⟨hB,v,(J b (by omega)).trans U,⟨I.1,?_⟩,W⟩;rcases I.2 with D|⟨E,cap,O,Q,D,X,Y,Z⟩;·exact .inl D
  exact .inr ⟨E,cap,O,Q,D,X,(J E (by omega)).trans Y,Z⟩
 exact h.imp (key _) (key _)
theorem Tq{w:World}{g k a b c:Nat}{v u z:Value}(h:k≠g):(((w.setCell (g,a) v).setCell (g,b) u).setCell (g,c) z).heap[k]?=w.heap[k]?:=by rw[YV _ _ _ _ h,YV _ _ _ _ h,YV _ _ _ _ h]
def C7(L:List El)(w:World)(b g:Nat)(i:Value)(wr:World):Prop:=
 ∃k:Nat,k<=L.length/\i=.int .i64 k/\Lib.IsBuilderF 87 5 b b (Lib.byteCells (Zh (L.take k))) wr/\wr.ownsRow w.heap.size 60 3 (.slice (some ⟨g,0,none⟩) L.length L.length) L.length (((L.take k).map El.id).flatMap Qe++List.replicate ((L.length-k)*3) (.int .i64 0))/\Below w.heap.size w wr
def Ts(L:List El)(w:World)(e:Ending)(w':World):Prop:=
 ∃v,e=.returned (.tuple #[v,.string (Q8 (Zh L))])/\w'.ownsRow w 60 3 v L.length ((L.map El.id).flatMap Qe)/\Below w w w'
theorem Tt:(Tryz.prog.info? 60).map (λi=>(i.zero,i.size,i.bytes))=some (some (.agg #[(0:Int),(0:Int),(0:Int)]),3,24):=by kernel_rfl
theorem Tu(L:List El)(k:Nat):(Zh (L.take k)).length<=(Zh L).length:=by
 have:Zh L=Zh (L.take k)++Zh (L.drop k):=by unfold Zh;rw[<-E5,<-ZC,XU]
 rw[this,Qj];omega
theorem Tv(L:List El)(A:Option Addr)(n c B0:Nat)(w:World)(hR:Rd w B0 4 (.slice A n c) n (L.flatMap QM))(hB:B0<=w)(hn:L.length<=100000)(X:(Zh L).length<=1000000000):Calls Tryz.prog 96 #[.slice A n c] w (Ts L w):=by
 obtain⟨_,aO,aD⟩:=hR.len;unfold maxLen at aD;obtain rfl:=QL QM 4 (λ_=>rfl) (by decide) hR.1;have HR:=Ki (λW (hW:Below w w W)=>hR.below' hW hB);have HX:=Ki X;clear hR X;obtain⟨i0,hi,aI,aJ,aK⟩:=Zc Tt;go_enter Tryz.func96,Tryz.ntmps96;go_wp2_with (at_make;refine wpList_make_full _ rfl _ _ 66 rfl w 60 i0 _ 3 V0 hi aI aJ .i64 .i64 _ _ L.length rfl rfl rfl rfl (by rw[aK];omega) (by unfold maxLen;omega) (Q3 _) ?_;intro E a8 al);have ae:Below w w E:=(Qc _ w).grown al (Q3 _) (λj hj=>by cases hj);have a7:E.ownsRow w.heap.size 60 3 (.slice (some ⟨w.heap.size,0,none⟩) L.length L.length) L.length (((L.take 0).map El.id).flatMap Qe++List.replicate ((L.length-0)*3) (.int .i64 0)):=by have e:=To L.length;have h1:(madeCells (Value.cells (.agg #[.int .i64 0,.int .i64 0,.int .i64 0])) (L.length*3)).toList=List.replicate (L.length*3) (.int .i64 0):=e;rw[h1] at a8;simpa using a8
 have aF:w.heap.size<E.heap.size:=by obtain⟨_,h2⟩:=a7.lt w rfl;exact h2
 have ab:=Ki a7;have a4:=Ki ae;clear a8 al a7 ae;go_wp2;obtain⟨w2,a3⟩:∃W,E.alloc (.cells #[.pointer none,.slice none 0 0] 87)=W:=⟨_,rfl⟩;have ak:Lib.IsBuilderF 87 5 E E (Lib.byteCells (Zh (L.take 0))) w2:=by rw[<-a3];exact Lib.IsBuilderF.of (Lib.fresh_isBuilder 87 5 E)
 have hb2:Below E E w2:=by rw[<-a3];exact(Qc _ E).alloc (Q3 _) _
 have ao:C7 L w E w (0:Int) w2:=⟨0,Qh _,rfl,ak,QB ab.o hb2,a4.o.trans (hb2.mono a4.o.size)⟩;have O:=Ki ao;rw[a3];obtain⟨b,ah⟩:∃k,E.heap.size=k:=⟨_,rfl⟩;obtain⟨g,a0⟩:∃k,w.heap.size=k:=⟨_,rfl⟩;have Y:=Ki a0;have aE:g<b:=by omega
 rw[ah] at O |-;simp only[a0];rw[show C7 L w b w (0:Int) w2=C7 L w b g (0:Int) w2 by rw[a0]] at O;clear a3 ak hb2 ao ah a0 aF ab a4;go_loopw [13] (λi wr=>C7 L w b g i wr) (λi _=>L.length-(intOf i).toNat);case atStart=>exact O.o
 case round=>
  clear O;obtain⟨k,hk,rfl,Q,I,hb⟩:=hrel;obtain⟨D,rfl⟩:∃D:World,D=wr:=⟨_,rfl⟩;have aM:b<D:=by rcases Q with⟨_,v,h1,_⟩|⟨_,v,h1,_⟩<;>exact(Q5.1 h1).1
  by_cases am:k<L.length
  ·obtain⟨gr,og,rfl,aL,U⟩:=Qr QM 4 (λ_=>rfl) (by decide) (HR.o D hb) am;have a1:=QQ am;have a2:=Tn (L.take k) L[k];have Z:=Tu L (k+1);rw[a1] at Z;rw[a2] at Z;have aH:=HX.o;obtain⟨e,he⟩:∃e,L[k]=e:=⟨_,rfl⟩;rw[he] at U a1 a2 Z;have c0:D.cell? (gr,og+k*4)=e.id.s.T:=U 0 _ rfl;have c1:D.cell? (gr,og+k*4+1)=e.id.s.R:=U 1 _ rfl;have c2:D.cell? (gr,og+k*4+2)=e.id.I:=U 2 _ rfl;have c3:D.cell? (gr,og+k*4+3)=e.pc:=U 3 _ rfl;have aC:(Lib.byteCells (Zh (L.take k))).length+e.pc.size<=140737488355328:=(by rw[Qj] at Z;have:(Lib.byteCells (Zh (L.take k))).length=(Zh (L.take k)).length:=(by simp[Lib.byteCells]);have h2:e.pc.data.toList.length=e.pc.size:=(Jc e.pc).symm;omega);have i1:(0:Int)<=(k:Int):=(by omega);have i2:(k:Int)<(L.length:Int):=(by omega);have au:List.replicate ((L.length-k)*3) (Value.int .i64 0)=[.int .i64 0,.int .i64 0,.int .i64 0]++List.replicate ((L.length-(k+1))*3) (Value.int .i64 0):=(by have:(L.length-k)*3=(L.length-(k+1))*3+1+1+1:=(by omega);rw[this,List.replicate_succ,List.replicate_succ,List.replicate_succ];rfl);have a6:(((L.take k).map El.id).flatMap Qe).length=k*3:=(by rw[XG Qe 3 (λ_=>rfl),Xh,Zi];omega);rw[au,<-Y7] at I;have f0:=YY I (by omega)
   have hq:∀j u,([(0:Int),(0:Int),(0:Int)]:List Value)[j]?=some u->D.cell? (g,k*3+j)=some u:=λj u hu=>(X8 I (k*3+j) u (by
    rw[Y7,JZ (by omega),a6,U6,VK (Kb.1 hu).1]
    exact hu)).1
   have q0:D.cell? (g,k*3)=(0:Int):=hq 0 _ rfl;have q1:D.cell? (g,k*3+1)=(0:Int):=hq 1 _ rfl;have q2:D.cell? (g,k*3+2)=(0:Int):=hq 2 _ rfl;have aN:g<D:=(by omega);have aP:D.heap.size≠g:=(by omega);have aQ:g≠D.heap.size:=(by omega);have Zf:=VQ I (Qe e.id) rfl (by omega);rw[a6] at Zf;have an:((((D.setCell ⟨g,k*3,none⟩ (.int .i64 e.id.s.T)).setCell ⟨g,k*3+1,none⟩ (.int .i64 e.id.s.R)).setCell ⟨g,k*3+2,none⟩ (.int .i64 e.id.I)).alloc (.cells #[.int .i64 e.id.s.T,.int .i64 e.id.s.R,.int .i64 e.id.I,.string e.pc] 205)).ownsRow w.heap.size 60 3 (.slice (some ⟨g,0,none⟩) L.length L.length) L.length (((L.take k).map El.id).flatMap Qe++Qe e.id++List.replicate ((L.length-(k+1))*3) (.int .i64 0)):=World.ownsRow.alloc Zf _;have ai:Lib.IsBuilderF 87 5 b b (Lib.byteCells (Zh (L.take k))) ((((D.setCell (g,k*3) e.id.s.T).setCell (g,k*3+1) e.id.s.R).setCell (g,k*3+2) e.id.I).alloc (.cells #[e.id.s.T,e.id.s.R,e.id.I,.string e.pc] 205)):=(Tp (w':=(((D.setCell (g,k*3) e.id.s.T).setCell (g,k*3+1) e.id.s.R).setCell (g,k*3+2) e.id.I)) Q aE (λj hj=>Tq hj)).alloc _;have af:Below w w ((((D.setCell (g,k*3) e.id.s.T).setCell (g,k*3+1) e.id.s.R).setCell (g,k*3+2) e.id.I).alloc (.cells #[e.id.s.T,e.id.s.R,e.id.I,.string e.pc] 205)):=((((hb.setCell (p:=(g,k*3)) (by rw[Y.o];exact Q3 _) _).setCell (p:=(g,k*3+1)) (by rw[Y.o];exact Q3 _) _).setCell (p:=(g,k*3+2)) (by rw[Y.o];exact Q3 _) _).alloc (by have:=hb.size;simpa using this) _)
   have ap:b<=((((D.setCell (g,k*3) e.id.s.T).setCell (g,k*3+1) e.id.s.R).setCell (g,k*3+2) e.id.I).alloc (.cells #[e.id.s.T,e.id.s.R,e.id.I,.string e.pc] 205)).heap.size:=(by simp;omega);have aG:b<((((D.setCell (g,k*3) e.id.s.T).setCell (g,k*3+1) e.id.s.R).setCell (g,k*3+2) e.id.I).alloc (.cells #[e.id.s.T,e.id.s.R,e.id.I,.string e.pc] 205)).heap.size:=(by simp;omega);have ac:=Ki an;have aa:=Ki ai;have a9:=Ki af;have ad:=Ki a1;have aA:=Ki a2;have ar:w.heap.size=g:=Y.o;have aB:=Ki ar;clear ar Zf an ai af a6 au hq Q I a1 a2 Z aH U he hb;go_wp2_with fail;obtain⟨w5,aq⟩:∃W,((((D.setCell (g,k*3) e.id.s.T).setCell (g,k*3+1) e.id.s.R).setCell (g,k*3+2) e.id.I).alloc (.cells #[e.id.s.T,e.id.s.R,e.id.I,.string e.pc] 205))=W:=⟨_,rfl⟩;rw[aq] at ac aa a9 ap aG |-;clear aq c0 c1 c2 c3 q0 q1 q2 f0;refine(Tm b b _ e.pc w5 aa.o aC ap).mono ?_;rintro r w6 ⟨rfl,aj,J,_⟩;have ag:Below w w w6:=a9.o.trans (J.mono (by rw[aB.o];omega));have a5:=Ki ag;have av:=Ki (show Lib.IsBuilderF 87 5 b b (Lib.byteCells (Zh (L.take (k+1)))) w6 by rw[ad.o,aA.o,Aq];exact .inr aj)
   have az:=Ki (show w6.ownsRow w.heap.size 60 3 (.slice (some ⟨g,0,none⟩) L.length L.length) L.length (((L.take (k+1)).map El.id).flatMap Qe++List.replicate ((L.length-(k+1))*3) (.int .i64 0)) by
    rw[ad.o,ZC,Zb];simp only[ZW,Kf,XA,List.flatMap_nil,ZB]
    exact Yn ac.o (Below.touch' (F:=λx=>b<=x) J (λx _ h=>h)) (λx X h=>by have:x=g:=(by simpa [Value.ownBlock] using X.symm);omega))
   clear aj J ag;go_wp2;go_roundw;case rel=>exact⟨k+1,by omega,by go_num,av.o,az.o,a5.o⟩
   case measure=>simp[intOf];omega
  obtain rfl:k=L.length:=by omega
  rw[X6] at Q I;rw[GV,Ef,List.replicate_zero,ZB] at I;have O:=Ki (Tryz.Builder_String_any_k b b (Zh L) D Q (by omega));have ay:=Ki I;have aw:=Ki hb;clear Q I hb hk;go_wp2_with fail;refine O.o.mono ?_;rintro r w6 ⟨rfl,_,J,_⟩;have a5:=Ki (aw.o.trans (J.mono (by rw[Y.o];omega)));have ax:=Ki (Yn ay.o (Below.touch' (F:=λx=>b<=x) J (λx _ h=>h)) (λx X h=>by have:x=g:=(by simpa [Value.ownBlock] using X.symm);omega));clear J;go_wp2;go_ret2;exact⟨_,rfl,ax.o,a5.o⟩
end
section
open Go.RowKit
theorem TF:liesAt Tryz.prog Tryz.prog.depth 89 (2 / Tryz.prog.cellsOf 89) 0 87 1=true:=by kernel_rfl
theorem TG(b:Nat)(w:World)(I:w.cell? (b,0)=some (.pointer none))(D:w.shape? b=some (89,2))(J:w.frozen? (b,0)=false):Calls Tryz.prog 61 #[.pointer (b,0)] w λe w'=>e=.returned (.tuple #[])/\w'=w.setCell (b,0) (.pointer (b,0)):=by obtain⟨j,h,E⟩:=FY.1 sizeBuilder;go_enter Tryz.func61,Tryz.ntmps61;go_wp2;rw[Lib.run_to_unsafe w ⟨b,0,none⟩ CU Tryz.underlying219 h (by rw[E];decide) D (Nat.zero_lt_succ 1)];simp only[Result.andThen];rw[Dt];go_wp2;rw[run_callFunc_extern Tryz.func110 (by kernel_rfl) (by kernel_rfl) (by kernel_rfl) (e:=Extern.AbiNoEscape.same) (by kernel_rfl)];rw[Lib.run_noEscape];simp only[Result.andThen];rw[Dt];go_wp2;rw[Lib.run_from_unsafe w ⟨b,0,none⟩ Tryz.underlying219 CU h D TF];simp only[Result.andThen];rw[Dt];go_wp2;go_end0;exact⟨rfl,rfl⟩
theorem TH(B b:Nat)(j:List Value)(w:World)(h:Lib.IsBuilderF 89 5 B b j w):Calls Tryz.prog 61 #[.pointer (b,0)] w λe w'=>e=.returned (.tuple #[])/\(Lib.BuilderAtF 89 5 B b (.pointer (b,0)) j w'/\Below B w w'/\Lib.OthersKept 5 (some b) w w'):=by
 rcases h with h|h;·refine(TG b w h.cell0 h.shape h.frozen0).mono ?_;rintro e w' ⟨rfl,rfl⟩;exact⟨rfl,h.used _,(Qc B w).setCell (p:=(b,0)) h.1 _,(E7 _ _ w).setCell (b,0) rfl _⟩
 refine(PE b w h.cell0).mono ?_;rintro e w' ⟨rfl,rfl⟩;exact⟨rfl,h,Qc B _,E7 _ _ _⟩
theorem PK(B b:Nat)(j:List Value)(s:ByteArray)(w:World)(h:Lib.IsBuilderF 89 5 B b j w)(a8:j.length+s.size<=140737488355328)(a7:B<=w):Calls Tryz.prog 30 #[.pointer (b,0),.string s] w λe w'=>e=.returned (.tuple #[s.size,.nilIface])/\(Lib.BuilderAtF 89 5 B b (.pointer (b,0)) (j++Lib.strCells s) w'/\Below B w w'/\Lib.OthersKept 5 (some b) w w'):=by
 obtain⟨i0,hi,a3,a4,a5⟩:=info_parts infoByte;go_enter Tryz.func30,Tryz.ntmps30;go_wp2_with (go_at_call 61;refine(TH B b j _ h).mono ?_);rintro e E ⟨rfl,h1,J,a0⟩;obtain⟨X,v,D,Q,a2⟩:=h1;have c0:E.cell? (b,0)=some (.pointer (b,0)):=by rw[G3 D];rfl
 have c1:E.cell? (b,1)=some v:=by rw[G3 D];rfl
 go_wp2_with (at_builtin;refine Lib.wpList_append_own_stringF _ rfl _ _ 85 9 rfl B 5 i0 Tryz.underlying85 GH hi a3 a4 a5 _ _ _ rfl Q s rfl ?c3 ?c4 ?c5 ?_);case c3=>unfold maxLen;omega
 case c4=>omega
 case c5=>have:=J.size;omega
 intro v' U Y O _
 have a1:b<E:=by
  rcases UH b E.heap.size with I|I;·exact I
  simp[Array.getElem?_eq_none I] at D
 have hb2:U.heap[b]?=some (.cells #[.pointer (b,0),v] 89 (0,0)):=by rw[O.block b a1 (λe=>a2 e.symm)];exact D
 have d0:U.cell? (b,0)=some (.pointer (b,0)):=by rw[G3 hb2];rfl
 have d1:U.cell? (b,1)=some v:=by rw[G3 hb2];rfl
 have f1:=Lib.frozen_of_heap hb2 1
 obtain⟨W,Z,cap,rfl⟩:∃W Z cap,v'=.slice W Z cap:=by
  rcases Y.2 with⟨hv,_⟩|⟨g,cap,a6,fz,hv,_⟩;·exact⟨_,_,_,hv⟩
  exact⟨_,_,_,hv⟩
 go_wp2;go_ret2;refine⟨rfl,?_,?_,(a0.grown O (Lib.ownsRowF_kind Q)).setCell (b,1) rfl _⟩;·exact Lib.BuilderAtF.put (T:=89) (e:=5) X hb2 (bs':=j++Lib.strCells s) (by simpa [Lib.strCells_length] using Y) (by decide)
 exact(J.grown O (by have:=J.size;omega) (λk hk=>(Q.lt k hk).1)).setCell (p:=(b,1)) X _
theorem TI(B b:Nat)(l:List UInt8)(w:World)(h:Lib.IsBuilderF 89 5 B b (Lib.byteCells l) w)(I:l≠[]):Calls Tryz.prog 32 #[.pointer (b,0)] w λe w'=>e=.returned (.string ⟨l.toArray⟩)/\Below B w w':=by
 obtain⟨p,hp,W⟩:∃p,(p=.pointer none\/p=.pointer (b,0))/\Lib.BuilderAtF 89 5 B b p (Lib.byteCells l) w:=by
  rcases h with h|h;·exact⟨_,.inl rfl,h⟩
  exact⟨_,.inr rfl,h⟩
 obtain⟨hB,v,J,E,a6⟩:=W;have U:l.length≠0:=by simpa using I
 rw[Lib.byteCells_length] at E
 obtain⟨g,cap,j,D,rfl,X,Q,Z,a1,O,Y,a2⟩:∃g cap j D,v=.slice (g,0) l.length cap/\B<=g/\w.heap[g]?=some (.cells j 5 D)/\D.2<=l.length*1/\l.length<=cap/\cap<=maxLen/\j.size=cap*1/\j.toList.take (l.length*1)=Lib.byteCells l:=by
  rcases E.2 with⟨_,hz⟩|⟨g,cap,j,D,hv,r⟩;·exact absurd hz U
  exact⟨g,cap,j,D,hv,r⟩
 have c1:w.drew.cell? (b,1)=some (.slice (g,0) l.length cap):=by have:w.drew.heap[b]?=some (.cells #[p,.slice (g,0) l.length cap] 89 (0,0)):=J;rw[G3 this];rfl
 have a4:(Builtin.unsafeSliceData_ #[85] 146 #[.slice (g,0) l.length cap]).run Tryz.prog w.drew=.ok (.pointer (g,0)) w.drew:=
  Lib.run_unsafeSliceData_row _ _ _ _ _ _ (by omega)
 have a5:(Builtin.unsafeString_ #[146,3] 9 #[.pointer (g,0),l.length]).run Tryz.prog w.drew=.ok (.string ⟨l.toArray⟩) (w.drew.freeze ⟨g,0,none⟩ l.length):=by refine Lib.run_unsafeString_row w.drew 146 3 9 5 Tryz.underlying146 Tryz.Builder_Extra_169.cellsByte g j.size (by have a0:w.drew.heap[g]?=some (.cells j 5 D):=Q;simp[World.shape?,a0]) l I (by omega) (by unfold maxLen at O;omega) ?_;intro a3 x hx;have:=E.cells (g:=g) rfl a3 (.int .u8 x.toNat) (by simp[Lib.byteCells,hx]);exact this
 have a7:=Tryz.lays169.mixed;clear hp Z Y a2 U I a1 O E J Q;go_enter Tryz.func32,Tryz.ntmps32;go_wp2;go_region_o;all_goals (go_wp2;go_ret;exact⟨rfl,Lib.below_freeze (Below.drew (Qc B w)) (p:=(g,0)) X _⟩)
end
section
open Go Go.RowKit Go.Maps
theorem PL{B b:Nat}{p:Value}{D:List Value}{W j:World}(h:Lib.BuilderAtF 89 5 B b p D W)(hb:Below W W j):Lib.BuilderAtF 89 5 B b p D j:=by
 have J:=h.lt
 obtain⟨E,v,hv,Q,O⟩:=h
 refine⟨E,v,(hb.block b J).trans hv,Q.kept (row:=none) ⟨hb.os,hb.tape,hb.output,hb.size,λk I _=>hb.block k I⟩ ?_,O⟩
 cases v.ownBlock with
 |none=>exact .inl rfl
 |some k=>exact .inr (λe=>by cases e)
theorem PM{B b:Nat}{D:List Value}{W j:World}(h:Lib.IsBuilderF 89 5 B b D W)(hb:Below W W j):Lib.IsBuilderF 89 5 B b D j:=h.imp (λx=>PL x hb) (λx=>PL x hb)
def Vz(b n:Nat)(w:World):Prop:=∃l:List UInt8,l.length=n/\Lib.IsBuilderF 89 5 b b (Lib.byteCells l) w
theorem AC{b:Nat}{w W:World}(h:Below w w W):Lib.OthersKept 5 (some b) w W:=λk _ j _ _=>(h.block k (Q5.1 j).1).trans j
theorem PN(b m:Nat)(xs:List Int)(hx:∀x∈xs,0<=x/\x<128)(g c:Nat)(w:World)(hb:Vz b m w)(hm:m<=1000)(hn:xs.length<=1000)(Z:w.heap[g]?=some (.cells (xs.map (λx=>Value.int .i64 x)).toArray 3 (0,0)))(ag:g≠b)(X:b<=w):Calls Tryz.prog 28 #[.pointer (b,0),.slice (g,0) xs.length c] w λe w'=>e=.returned (.tuple #[])/\Vz b (m+xs.length) w'/\Below b w w'/\Lib.OthersKept 5 (some b) w w':=by
 have HX:=Ki hx;have HG:=Ki Z;have a5:=Ki hb;have aa:=Kj (some g≠some b) (λe=>ag (Jr e));clear hx Z hb;go_enter Tryz.func28,Tryz.ntmps28;go_wp2;go_loopw [10] (λi wr=>∃k:Nat,k<=xs.length/\i=k/\Vz b (m+k) wr/\Below b w wr/\Lib.OthersKept 5 (some b) w wr) (λi _=>xs.length-(intOf i).toNat);case atStart=>exact⟨0,Qh _,rfl,a5.o,Qc _ _,E7 _ _ _⟩
 case round=>
  obtain⟨k,hk,rfl,I,hb,D⟩:=hrel;have Q:=Ki I;have j:=Ki hb;have U:=Ki D;by_cases a1:k<xs.length
  ·obtain⟨x,O⟩:=ex (xs[k]);have a4:=HX.o x (by rw[<-O];exact Zt a1);have a0:=D g _ HG.o aa.o (λc fz e=>by injection e with _ e _;exact absurd e (by decide));have c0:wr.cell? (g,k)=x:=(cR k a0).trans (by rw[List.getElem?_toArray,B1,X3 a1,O];rfl);have HN:=Ki (TE x a4.1 a4.2 wr);have ah:(0:Int)<=(k:Int):=(by omega);have ai:(k:Int)<(xs.length:Int):=(by omega);clear I hb D O a0;go_wp2_with fail;refine HN.o.mono ?_;rintro e w1 ⟨rfl,h⟩;have J:(strOfNums [x]).size=1:=rfl;obtain⟨E,a3⟩:∃s,strOfNums [x]=s:=⟨_,rfl⟩;rw[a3] at J |-;obtain⟨l,hl,W⟩:=Q.o;have ae:(Lib.byteCells l).length+E.size<=140737488355328:=(by have h1:(Lib.byteCells l).length=l.length:=(by simp[Lib.byteCells]);omega);have HW:=Ki (PK b b (Lib.byteCells l) E w1 (PM W h) ae (Q9 X (Q9 j.o.size h.size)));have a7:=Ki (j.o.trans (h.mono (Q9 X j.o.size)));have ab:=Ki (U.o.trans (AC h));have a9:=Ki hl;have ad:=Ki J;clear h W hl a3 J c0;go_wp2_with fail;refine HW.o.mono ?_;rintro e w2 ⟨rfl,Y,hb2,a2⟩;have a6:=Kj (Vz b (m+(k+1)) w2) ⟨l++E.data.toList,by rw[Qj,a9.o,show E.data.toList.length=1 from ad.o];omega,by rw[Aq];exact .inr Y⟩;have a8:=Ki (a7.o.trans hb2);have ac:=Ki (ab.o.trans a2);clear Y hb2 a2;go_wp2;go_roundw;case rel=>exact⟨k+1,by omega,by go_num,a6.o,a8.o,ac.o⟩
   case measure=>simp[intOf];omega
  have af:k=xs.length:=(by omega);subst af;clear I hb D;go_wp2;go_end0;exact⟨rfl,Q.o,j.o,U.o⟩
theorem Vz.below{b n:Nat}{w W:World}(h:Vz b n w)(hb:Below w w W):Vz b n W:=by obtain⟨l,e,h⟩:=h;exact⟨l,e,PM h hb⟩
theorem TJ(b m:Nat)(x:Id)(h:0<=x.s.T/\x.s.T<128)(j:0<=x.s.R/\x.s.R<128)(O:0<=x.I/\x.I<128)(w:World)(hb:Vz b m w)(hm:m<=1000)(a1:b<w):Calls Tryz.prog 62 #[.pointer (b,0),Qa x] w λe w'=>e=.returned (.tuple #[])/\Vz b (m+3) w'/\Below b w w'/\Lib.OthersKept 5 (some b) w w':=by
 have HN:=Ki (λg W (hB:Vz b m W) hg a2 hs=>PN b m [x.s.T,x.s.R,x.I] (λy hy=>by
  simp only[QI,V3,JD] at hy;rcases hy with rfl|rfl|rfl;·exact h
  ·exact j
  exact O) g 3 W hB hm (by simp) hg a2 hs)
 have HB:=Ki hb;have E:=Ki a1;unfold Qa;clear h j O hb;go_enter Tryz.func62,Tryz.ntmps62;go_upto_region 1 with fail;obtain⟨J,D⟩:∃W,w.alloc (.cells x 60)=W:=⟨_,rfl⟩;have h:=bn D;have U:=bl D;rw[D];obtain⟨b3,X⟩:∃b,w.heap.size=b:=⟨_,rfl⟩;have I:=Ki U;rw[X] at h |-;have c0:=cr0 h;have c1:=cr1 h;have c2:=cr2 h;clear D h U X;go_wp2_with fail;have hb2:Below w w (J.alloc (.cells x 3)):=I.o.alloc I.o.size _;refine(HN.o J _ (HB.o.below hb2) (Qi J _) (by have h:=I.o.size;have j:=E.o;omega) (by have h:=hb2.size;have j:=E.o;omega)).mono ?_;rintro e w2 ⟨rfl,Q,Y,Z⟩;have a0:=Ki Q;have HL:=Ki ((hb2.mono (Xn E.o)).trans Y);have HO:=Ki ((AC hb2 (b:=b)).trans Z);clear Q Y Z hb2;go_wp2;go_end0;exact⟨rfl,a0.o,HL.o,HO.o⟩
theorem TK(s:ByteArray)(Y:s.size<128)(w:World):Calls Tryz.prog 63 #[.string s] w λe w'=>e=.returned (.string (strOfNums [(s.size:Int)]++s))/\Below w w w':=by
 have I:=Ki (AB (s.size:Int) (by omega) (by omega) w);have Z:IntKind.u64.wrap (s.size:Int)=(s.size:Int):=by unfold IntKind.wrap;simp[IntKind.signed,IntKind.bits];omega
 obtain⟨D,h⟩:∃t,strOfNums [(s.size:Int)]=t:=⟨_,rfl⟩;rw[h];have O:=Kj (D.size=1) (by rw[<-h];rfl);have J:=Ki h;clear h;go_enter Tryz.func63,Tryz.ntmps63;go_wp2_with fail;refine I.o.mono ?_;rintro e U ⟨⟨g,c,rfl,j⟩,hb⟩;have E:=Ki hb
 have Q:=CW (P:=Tryz.prog) U 85 5 Dc CR g 0 1 c [(s.size:Int)] rfl (λi W=>by
  obtain rfl:i=0:=by omega
  exact j) 9 GH
 rw[J.o] at Q;have hz:=O.o;have X:¬9223372036854775807<D.size+s.size:=by omega
 clear hb j;go_wp2;go_ret;exact⟨rfl,E.o⟩
end
section
open Go Go.RowKit
theorem UG:type_of% @World.ownsRow.lt:=@World.ownsRow.lt
structure Z3 where
 e:TypeId
 K:Nat
 v:Value
 n:Nat
 xs:List Value
def Z3.own(r:Z3)(w:World)(base:Nat):Prop:=w.ownsRow base r.e r.K r.v r.n r.xs
structure Zr(w:World)(base:Nat)(X:Nat->Prop)(rs:List Z3):Prop where
 own:∀r∈rs,r.own w base
 free:∀r∈rs,∀b,r.v.ownBlock=some b->¬X b
 apart:∀i j:Nat,i≠j->∀r s:Z3,rs[i]?=some r->rs[j]?=some s->∀b,r.v.ownBlock=some b->s.v.ownBlock≠some b
section
variable {w w':World} {base:Nat} {X F:Nat->Prop} {rs:List Z3}
theorem Zr.touch(h:Zr w base X rs)(t:Qd F w w')(D:∀x,F x->X x):Zr w' base X rs:=
 ⟨λr j=>Yn (h.own r j) t (λg I E=>h.free r j g I (D g E)),h.free,h.apart⟩
theorem Zr.below(h:Zr w base X rs)(hb:Below w w w'):Zr w' base X rs:=h.touch (Below.touch hb (λ_=>False)) (λ_ h=>h.elim)
theorem Zr.lt(h:Zr w base X rs){r:Z3}(j:r∈rs){b:Nat}(hb:r.v.ownBlock=some b):base<=b/\b<w:=UG (h.own r j) b hb
theorem Zr.put(h:Zr w base X rs){i:Nat}{r:Z3}(hi:rs[i]?=some r){g cap n:Nat}{xs:List Value}(a6:w'.ownsRow base r.e r.K (.slice (g,0) n cap) n xs)(a4:w.grownBy w' r.v.ownBlock){H:Nat}(hg:r.v.ownBlock=some g\/g=H)(hH:w<=H)(hX:∀b,X b->b<w):Zr w' base X (rs.set i ⟨r.e,r.K,.slice (g,0) n cap,n,xs⟩):=by
 have hr:=J9 hi;have a5:=(Kb.1 hi).1
 have old:∀(j:Nat)(s:Z3),j≠i->rs[j]?=some s->s.own w' base/\(s.v.ownBlock≠some g):=λj s U D=>by
  have a2:=J9 D;have a1:∀b,s.v.ownBlock=some b->r.v.ownBlock≠some b:=λb hb=>h.apart j i U s r D hi b hb;refine⟨World.ownsRow.kept (h.own s a2) a4 ?_,λhb=>?_⟩
  ·cases hv:s.v.ownBlock with
   |none=>exact .inl rfl
   |some c=>exact .inr (λe=>a1 c hv e.symm)
  rcases hg with I|I;·exact a1 g hb I
  have:=(h.lt a2 hb).2;omega
 constructor
 ·intro s D;obtain⟨j,U,rfl⟩:=U9.1 D;by_cases E:j=i;·subst E;rw[List.getElem_set_self];exact a6
  rw[List.getElem_set_ne (λe=>E e.symm)];exact(old j _ E (X3 (by simpa using U))).1
 ·intro s D b hb;obtain⟨j,U,rfl⟩:=U9.1 D;by_cases E:j=i
  ·subst E;rw[List.getElem_set_self] at hb;have e:g=b:=(by simpa [Value.ownBlock] using hb);subst e;rcases hg with I|I;·exact h.free r hr g I
   intro hx;have:=hX g hx;omega
  rw[List.getElem_set_ne (λe=>E e.symm)] at hb;exact h.free _ (Zt _) b hb
 intro a c a0 s u D W b hb hb2;have Q:∀(k:Nat)(z:Z3),k≠i->(rs.set i ⟨r.e,r.K,.slice (g,0) n cap,n,xs⟩)[k]?=some z->rs[k]?=some z:=λk z hk Y=>by rwa [List.getElem?_set_ne (λe=>hk e.symm)] at Y
 have a3:∀z:Z3,(rs.set i ⟨r.e,r.K,.slice (g,0) n cap,n,xs⟩)[i]?=some z->z.v.ownBlock=some g:=λz Y=>by rw[List.getElem?_set_self a5] at Y;cases Y;rfl
 by_cases J:a=i;·have O:c≠i:=λe=>a0 (J.trans e.symm);rw[J] at D;have Z:=a3 s D;rw[Z] at hb;cases hb;exact(old c u O (Q c u O W)).2 hb2
 by_cases O:c=i;·rw[O] at W;have Z:=a3 u W;rw[Z] at hb2;cases hb2;exact(old a s J (Q a s J D)).2 hb
 exact h.apart a c a0 s u (Q a s J D) (Q c u O W) b hb hb2
end
end
section
open Go Go.RowKit Go.Maps
def XN(_:Unit):Value:=.agg #[]
theorem UR{a b:Unit}(_:XN a=XN b):a=b:=rfl
theorem AJ{a b:Bool}(h:Value.bool a=Value.bool b):a=b:=by cases h;rfl
structure Vw(w:World)(base p m1 m2 n1 n2:Nat)(fo:Q4->Option Unit)(fd:Id->Option Bool)(gr nm at_ td hv gn:Z3):Prop where
 box:w.heap[p]?=some (.cells #[gr.v,nm.v,.map (some m1),at_.v,td.v,.map (some m2),hv.v,gn.v] 117 (0,0))
 fam:Zr w base (λb=>b=p\/b=m1\/b=m2) [gr,nm,at_,td,hv,gn]
 on:∃D,w.ownsMap Tryz.prog 27 (Z7 XN) m1 n1 D/\Xu YL fo D
 dirs:∃D,w.ownsMap Tryz.prog 60 (Z7 Value.bool) m2 n2 D/\Xu Ze fd D
 ne:p≠m1/\p≠m2/\m1≠m2
 base_le:base<=p/\base<=m1/\base<=m2
section
variable {w w':World} {base p m1 m2 n1 n2:Nat} {fo:Q4->Option Unit} {fd:Id->Option Bool} {gr nm at_ td hv gn:Z3}
theorem Vw.lt(h:Vw w base p m1 m2 n1 n2 fo fd gr nm at_ td hv gn):p<w:=(Q5.1 h.box).1
theorem Vw.below(h:Vw w base p m1 m2 n1 n2 fo fd gr nm at_ td hv gn)(hb:Below w w w'):Vw w' base p m1 m2 n1 n2 fo fd gr nm at_ td hv gn:=by obtain⟨j,E,I⟩:=h.on;obtain⟨D,b1,b2⟩:=h.dirs;exact⟨(hb.block p h.lt).trans h.box,h.fam.below hb,⟨j,Xo E (Below.touch hb (λ_=>False)) (λh=>h),I⟩,⟨D,Xo b1 (Below.touch hb (λ_=>False)) (λh=>h),b2⟩,h.ne,h.base_le⟩
end
theorem Fp(w:World):(zeroValue 119).run Tryz.prog w=.ok (XN ()) w:=(zero_of_info (P:=Tryz.prog) (t:=119) (v:=.agg #[]) (n:=0) (by kernel_rfl)).1 w
theorem L8{w:World}{base p m1 m2 n1 n2:Nat}{fo:Q4->Option Unit}{fd:Id->Option Bool}{gr nm at_ td hv gn:Z3}(h:Vw w base p m1 m2 n1 n2 fo fd gr nm at_ td hv gn)(s:Q4):Calls Tryz.prog 51 #[.pointer (p,0),QU s] w λe w'=>e=.returned (.bool (fo s).isSome)/\Q0 w w':=by
 have Q:=Ki h;obtain⟨b,hb⟩:=ex ((fo s).isSome);have O:=Ki hb;clear h hb;have a0:=Q.o.lt;unfold QU;go_enter Tryz.func51,Tryz.ntmps51;go_wp2;obtain⟨Z,j⟩:∃W,w.alloc (.cells #[s.T,s.R] 27)=W:=⟨_,rfl⟩;have U:Q0 w Z:=by rw[<-j];exact(Q0.refl w).alloc _
 have D:=bn j;rw[j];have E:=Q.o.below U.below;obtain⟨D1,I,J⟩:=E.on;have c0:=cr0 D;have c1:=cr1 D;have c2:=cr2 E.box;have X:=F9 Vs UR I.drew Tryz.underlying112 () (Fp _) J s;have Y:=F9 Vs UR ((I.alloc (.cells #[] 119)).drew) Tryz.underlying112 () (Fp _) J s;rw[O.o] at X Y;unfold QU XN at X Y;have q1:=(Q5.1 D).1;have q2:=E.lt;clear j D E I J;go_region;all_goals go_wp2;go_ret;exact⟨by rw[O.o];rfl,(U.alloc _).drewN 1⟩
end
end Go.Proofs.YtfpafikfjjckeaaGreatDoor
