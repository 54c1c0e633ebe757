import Derived.Test.YtfpafikfjjckeaaGreatDoorZ20
set_option maxRecDepth 100000
set_option maxHeartbeats 200000000
namespace Go.Proofs.YtfpafikfjjckeaaGreatDoor
open Go.RowKit
theorem MO:(Tryz.prog.info? 81).map (λi=>(i.zero,i.size,i.bytes))=some (some (.agg #[(0:Int),(0:Int),(0:Int),(0:Int)]),4,32):=by kernel_rfl
theorem CH{w:World}{base:Nat}{e:TypeId}{I:Nat}{v:Value}{n:Nat}{xs:List Value}(h:w.ownsRow base e I v n xs)(Q:0<n):∃g cap,v=.slice (g,0) n cap/\base<=g/\g<w/\n<=cap/\cap<=maxLen:=by
 rcases h.2 with⟨_,O⟩|⟨g,cap,J,hv,hb,E,j,D,_⟩;·omega
 exact⟨g,cap,hv,hb,(Q5.1 E).1,j,D⟩
theorem MP{W:World}{base g cap f a x y:Nat}{R:List R4}(h:W.ownsRow base 81 4 (.slice (g,0) (R.length+1) cap) (R.length+1) (ZM (R++YB (some (f,a))))):((W.setCell (g,R.length*4+2) (.int .i64 (x:Nat))).setCell (g,R.length*4+3) (.int .i64 (y:Nat))).ownsRow base 81 4 (.slice (g,0) (R.length+1) cap) (R.length+1) (ZM (R++[(f,a,x,y)])):=by
 have I:=(h.stored (R.length*4+2) (.int .i64 (x:Nat))).1;have j:=(I.stored (R.length*4+3) (.int .i64 (y:Nat))).1
 have e:((ZM (R++YB (some (f,a)))).set (R.length*4+2) (.int .i64 (x:Nat))).set (R.length*4+3) (.int .i64 (y:Nat))=ZM (R++[(f,a,x,y)]):=by
  have J:=CG R;have D:ZM (R++YB (some (f,a)))=ZM R++Jz (f,a,0,0):=by rw[Gx];rfl
  have E:ZM (R++[(f,a,x,y)])=ZM R++Jz (f,a,x,y):=by rw[Gx,ET]
  rw[D,E,List.set_append_right _ _ (by omega),List.set_append_right _ _ (by omega),J,U6,U6];rfl
 rw[e] at j;exact j
theorem MQ{w:World}{k j:Nat}{s:ByteArray}(h:w.heap[k]?=some (.stringIter s j)){p:Addr}(D:k≠p.block)(u:Value):(w.setCell p u).heap[k]?=some (.stringIter s j):=
 (YV w p u k D).trans h
theorem MR(w:World)(cs:List Value)(t:TypeId):∀j u,cs[j]?=some u->(w.alloc (.cells cs.toArray t)).cell? ((⟨w.heap.size,0,none⟩:Addr).add j)=some u:=by
 intro j u D;have h:(⟨w.heap.size,0,none⟩:Addr).add j=⟨w.heap.size,j,none⟩:=by unfold Addr.add;split<;>simp_all
 rw[h,cell_of_row _ _ j cs.toArray t (0,0) (Qi w _)];simpa using D
def Q1G(ps:List Bs)(w:World)(K:Nat)(D E j:Value)(wr:World):Prop:=
 ∃(k:Nat)(R:List R4) (h:Option (Nat×Nat)),k<=ps.length/\Jl ps=R++Jk (ps.drop k) (ps.take k).flatten.length k h/\(R++YB h).length<=k /\
  j=.int .i64 (k:Nat)/\E=.bool h.isSome/\wr.heap[K]?=some (.stringIter (Q8 ps.flatten) (ps.take k).flatten.length) /\
  wr.ownsRow w 81 4 D (R++YB h).length (ZM (R++YB h))/\Below w w wr
theorem Q1H(p:Bs):(0:Int)<=((Lib.decodeL p).1:Nat)/\(((Lib.decodeL p).1:Nat):Int)<=2147483647:=by have:=Lib.decodeL_rune p;omega
theorem Q1I(ps:List Bs)(av:Zg ps)(w:World)(hl:ps.flatten.length<=1000000):Calls Tryz.prog 54 #[.string (Q8 ps.flatten)] w λe w'=>∃v,e=.returned v/\w'.ownsRow w 81 4 v (Jl ps).length (ZM (Jl ps))/\Below w w w':=by
 obtain⟨i0,hi,aF,aG,aH⟩:=info_parts MO;have aI:=UJ ps av;go_enter Tryz.func54,Tryz.ntmps54;go_wp2;go_loopw [3,4,5] (λvo vp va wr=>Q1G ps w (w.heap.size+1) vo vp va wr) (λ_ _ _ wr=>(Q8 ps.flatten).size-wr.iterPos (w.heap.size+1))
 case atStart=>
  refine⟨0,[],none,Qh _,rfl,Q3 _,rfl,rfl,?_,?_,?_⟩;·have:=World.iter_heap (w.alloc (Obj.cells #[] 81)) (Q8 ps.flatten) 0;simpa using this
  ·exact(World.ownsRow_made w #[] 0 (Q3 _) (Qh _) rfl).alloc _
  exact((Qc _ _).alloc (Q3 _) _).alloc (by simp) _
 case round=>
  obtain⟨k,R,st,hk,I,ab,rfl,rfl,E,D,a4⟩:=hrel;obtain⟨K,aa⟩:=ex (w.heap.size+1);have hK:w<=K:=by omega
  rw[aa] at E |-;obtain⟨s,Z⟩:=ex (Q8 ps.flatten);rw[Z] at E |-;by_cases ad:k<ps.length
  ·have hp:=av _ (Zt ad);obtain⟨n1,n2,n3⟩:=Be hp s (ps:=ps.take k) (qs:=ps.drop (k+1)) (by rw[<-Z];congr 1;exact Ou ps k ad);have ae:=λty=>Lib.run_next_any_at (P:=Tryz.prog) wr K s _ ty E n1;rw[n2,n3] at ae;have ac:=Bb ps k ad;have ah:=Q1v ps k ad;rw[ah] at I;obtain⟨q,hq⟩:=ex (ps[k]);rw[hq] at ae ac hp I;obtain⟨c0,c1⟩:=Q1H q;have J:=λw=>MF _ w c0 c1;have an:Vg (((Lib.decodeL q).1:Nat):Int)=Jj q:=rfl;rw[an] at J;obtain⟨c,hc⟩:=ex ((Lib.decodeL q).1);rw[hc] at ae J;obtain⟨j,af⟩:=ex ((ps.take k).flatten.length);rw[af] at ae E n1 I;have aJ:j<=1000000:=(by have:=Ok ps k;omega);have aj:=Lib.iterAt_heap wr K s j (j+q.length) E;have h:=Oj D E (j+q.length);have U:=DJ a4 hK s (j+q.length);have aK:=hp.pos;have O:=Ki (show(ps.take (k+1)).flatten.length=j+q.length by rw[ac,Qj,af]);have a8:=Ki E;have Q:=Ki aj;have HS:=Ki Z;have W:=Ki I;have a9:=Ki ab;cases a1:Jj q
   ·rw[a1] at J;have a0:=Ki J;have a2:=Ki a1;clear n2 n3 hq hc af aj ac Z D a4 E aa J a1 ah I an ab c0 c1;rcases st with _|⟨f,a⟩
    ·
     have am:=h
     clear h
     go_wp2_with (go_at_call 72;refine(a0.o _).mono ?_;rintro e w' ⟨rfl,rfl⟩)
     go_roundw
     case rel=>
      refine⟨k+1,R,none,by omega,?_,by have:=a9.o;omega,by go_num,rfl,?_,am,U⟩;·rw[O.o,W.o];simp only[Jk,a2.o];simp
      rw[O.o,HS.o];exact Q.o
     case measure=>rw[JG Q.o,JG a8.o];omega
    ·
     have a7:(R++YB (some (f,a))).length=R.length+1:=by simp[YB]
     have a5:ZM (R++YB (some (f,a)))=ZM R++Jz (f,a,0,0):=by rw[Gx];rfl
     rw[a7] at h
     obtain⟨g,cap,hv,a3,aC,aB,ag⟩:=CH h (by omega)
     unfold maxLen at ag
     subst hv
     have X:=h.cellAt (R.length*4+2) (by omega)
     have Y:=h.cellAt (R.length*4+3) (by omega)
     have f2:=h.frozenAt (R.length*4+2)
     have f3:=h.frozenAt (R.length*4+3)
     have a6:=CG R
     rw[a5,JZ (by omega),a6,U6] at X Y
     have ax:=X
     have ay:(wr.iterAt K s (j+q.length)).cell? (g,R.length*4+3)=(0:Int):=Y
     have aq:g≠K:=by intro e;subst e;exact DK h Q.o rfl
     have HO:=Ki h
     clear a7 a5 X Y a6 h
     go_wp2_with (go_at_call 72;refine(a0.o _).mono ?_;rintro e w' ⟨rfl,rfl⟩)
     have au:=Ki (MQ (MQ Q.o (p:=⟨g,R.length*4+2,none⟩) (XF aq) (.int .i64 (j:Nat))) (p:=⟨g,R.length*4+3,none⟩) (XF aq) (.int .i64 (k:Nat)))
     have aA:=Ki ((U.setCell (p:=⟨g,R.length*4+2,none⟩) a3 (.int .i64 (j:Nat))).setCell (p:=⟨g,R.length*4+3,none⟩) a3 (.int .i64 (k:Nat)))
     have al:=Ki (MP (x:=j) (y:=k) HO.o)
     go_roundw
     case rel=>
      refine⟨k+1,R++[(f,a,j,k)],none,by omega,?_,by have:=a9.o;simp[YB] at this |-;omega,by go_num,rfl,?_,?_,aA.o⟩;·rw[O.o,W.o];simp only[Jk,a2.o];simp
      ·rw[O.o,HS.o];exact au.o
      have:=al.o;simpa [YB] using this
     case measure=>rw[JG au.o,JG a8.o];omega
   rw[a1] at J;have a0:=Ki J;have a2:=Ki a1;clear n2 n3 hq hc af aj ac Z D a4 E aa J a1 ah I an ab c0 c1;rcases st with _|⟨f,a⟩
   ·
    have hR:(R++YB none)=R:=by simp[YB]
    rw[hR] at h
    have aL:R.length<=k:=by have:=a9.o;rw[hR] at this;exact this
    clear hR
    go_wp2_with (first|(go_at_call 72;refine(a0.o _).mono ?_;rintro e w' ⟨rfl,rfl⟩)|(at_builtin;refine wpList_append_own _ rfl _ _ 77 rfl w 81 i0 (.agg #[(0:Int),(0:Int),(0:Int),(0:Int)]) 4 32 Tryz.underlying77 hi aF aG aH rfl (by decide) _ _ _ rfl (h.alloc _) ⟨(wr.iterAt K s (j+q.length)).heap.size,0,none⟩ 1 1 (Jz (j,k,0,0)) rfl rfl ?c1 ?c2 ?c3 ?c4 ?c5 ?_))
    case c1=>exact MR _ (Jz (j,k,0,0)) _
    case c2=>exact λu hu=>MH [(j,k,0,0)] u (by rw[ET];exact hu)
    case c3=>simp only[maxLen];omega
    case c4=>omega
    case c5=>have:=U.size;simp;omega
    intro v' w2 aE ai _
    have ar:=Or (Ot Q.o _) ai (DK h Q.o)
    have az:Below w w w2:=(U.alloc U.size _).grown ai (by have:=U.size;simp;omega) (λk hk=>(h.lt k hk).1)
    clear ai h U
    have H3:=Ki ar
    clear ar
    go_wp2_with (go_at_call 72;refine(a0.o _).mono ?_;rintro e w' ⟨rfl,rfl⟩)
    go_roundw
    case rel=>
     refine⟨k+1,R,some (j,k),by omega,?_,by simp[YB];omega,by go_num,rfl,?_,?_,az⟩;·rw[O.o,W.o];simp only[Jk,a2.o];simp
     ·rw[O.o,HS.o];exact H3.o
     simp only[YB,Qj,XZ];rw[Gx,ET];exact aE
    case measure=>rw[JG H3.o,JG a8.o];omega
   ·
    have am:=h
    clear h
    go_wp2_with (go_at_call 72;refine(a0.o _).mono ?_;rintro e w' ⟨rfl,rfl⟩)
    go_roundw
    case rel=>
     refine⟨k+1,R,some (f,a),by omega,?_,by have:=a9.o;omega,by go_num,rfl,?_,am,U⟩;·rw[O.o,W.o];simp only[Jk,a2.o];simp
     rw[O.o,HS.o];exact Q.o
    case measure=>rw[JG Q.o,JG a8.o];omega
  have ak:ps.take k=ps:=Zk (by omega);have ao:s.size=ps.flatten.length:=(by rw[<-Z,Y8]);have hn:=λty=>Lib.run_next_end_at (P:=Tryz.prog) wr K s _ ty E (by rw[ak,ao];omega);have aD:k=ps.length:=(by omega);have ap:ps.drop k=[]:=List.drop_eq_nil_of_le (by omega);rw[ap,ak] at I;have aw:=Ki ao;have W:=Ki I;have aM:s.size<=1000000:=(by omega);clear ak Z E ao aD aa ap I;rcases st with _|⟨f,a⟩;·have hR:(R++YB none)=R:=(by simp[YB]);rw[hR] at D;have HO:=Ki D;clear hR D;go_wp2;go_ret;exact⟨_,rfl,by rw[W.o];simpa [Jk] using HO.o,a4⟩
  have a7:(R++YB (some (f,a))).length=R.length+1:=(by simp[YB]);have a5:ZM (R++YB (some (f,a)))=ZM R++Jz (f,a,0,0):=(by rw[Gx];rfl);rw[a7] at D ab;obtain⟨g,cap,hv,a3,aC,aB,ag⟩:=CH D (by omega);unfold maxLen at ag;subst hv;have X:=D.cellAt (R.length*4+2) (by omega);have Y:=D.cellAt (R.length*4+3) (by omega);have f2:=D.frozenAt (R.length*4+2);have f3:=D.frozenAt (R.length*4+3);have a6:=CG R;rw[a5,JZ (by omega),a6,U6] at X Y;have ax:=X;have ay:=Y;have al:=Ki (MP (x:=s.size) (y:=k) D);clear a7 a5 X Y a6 D;go_wp2;go_ret;refine⟨_,rfl,?_,(a4.setCell (p:=(g,R.length*4+2)) a3 _).setCell (p:=(g,R.length*4+3)) a3 _⟩;have e:Jl ps=R++[(f,a,s.size,k)]:=(by rw[W.o];simp only[Jk];rw[aw.o]);rw[e,Qj,XZ];exact al.o
end Go.Proofs.YtfpafikfjjckeaaGreatDoor
