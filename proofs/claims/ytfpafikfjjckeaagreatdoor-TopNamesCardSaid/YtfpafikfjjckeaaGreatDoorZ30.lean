import Derived.Test.YtfpafikfjjckeaaGreatDoorZ29
set_option maxRecDepth 100000
set_option maxHeartbeats 200000000
namespace Go.Proofs.YtfpafikfjjckeaaGreatDoor
section
open Go Go.RowKit Go.Maps
theorem Xq.le{K j:Nat}{l:List Q1}(h:Xq K l)(D:K<=j):Xq j l:=⟨Q9 h.1 D,λg E=>(h.2 g E).mono D⟩
def Rj(w:World)(j:Nat)(i:Value)(wr:World):Prop:=∃(k:Nat)(l:List Q1)(I:List KV)(D E:Value),k<=16/\i=.int .i64 k/\wr.heap[j]?=some (.cells #[D,E] 51 (0,0))/\(∀h,Qd (λq=>q=j) wr h->GF k l I D E h)/\Below w.heap.size w wr
theorem Q4Q(L:List Uz)(A:Option Addr)(n c B:Nat)(w:World)(hR:Rd w B 6 (.slice A n c) n (L.flatMap GE))(hB:B<=w):Calls Tryz.prog 5 #[.slice A n c] w λe w'=>(∃v l,e=.returned v/\Xi w' w'.heap.size v l/\Xq 16 l)/\Below w.heap.size w w':=by
 obtain rfl:=QL GE 6 (λ_=>rfl) (by decide) hR.1;have HR:=Ki (λa5 (I:Below w.heap.size w a5)=>hR.below' I hB);have ap:=Ki hR.len;clear hR;go_enter Tryz.func5,Tryz.ntmps5;go_upto_region 2 with fail;obtain⟨W2,a1⟩:∃a5,(w.alloc (.cells #[.slice none 0 0,.slice none 0 0,.slice none 0 0] 28)).alloc (.cells #[.slice none 0 0,.slice (w.heap.size,0) 3 3] 51)=a5:=⟨_,rfl⟩;have h1:W2.heap[w.heap.size]?=some (.cells #[.slice none 0 0,.slice none 0 0,.slice none 0 0] 28 (0,0)):=by rw[<-a1];(simp only[Zs,Qy,reduceIte];repeat (first|rw[Q7 (by omega)]|rw[Q6 (by omega)]))
 have h2:W2.heap[w.heap.size+1]?=some (.cells #[.slice none 0 0,.slice (w.heap.size,0) 3 3] 51 (0,0)):=by rw[<-a1];(simp only[Zs,Qy,reduceIte];repeat (first|rw[Q7 (by omega)]|rw[Q6 (by omega)]))
 have hb2:Below w.heap.size w W2:=by rw[<-a1];exact(((Q0.refl w).alloc _).alloc _).below
 rw[a1];have aa:W2.ownsRow w.heap.size 28 1 (.slice (w.heap.size,0) 3 3) 3 [.slice none 0 0,.slice none 0 0,.slice none 0 0]:=⟨rfl,.inr ⟨w.heap.size,3,#[.slice none 0 0,.slice none 0 0,.slice none 0 0],rfl,Q3 _,h1,Q3 _,by decide,rfl,rfl⟩⟩;obtain⟨E,a7⟩:∃b,w.heap.size+1=b:=⟨_,rfl⟩;have af:=Ki a7
 have a4:=Ki (show Rj w (w.heap.size+1) (.int .i64 (0:Nat)) W2 from⟨0,[],[⟨⟨none,0,0⟩,[]⟩,⟨⟨none,0,0⟩,[]⟩,⟨⟨none,0,0⟩,[]⟩],_,_,Qh _,rfl,h2,λh hT=>⟨⟨Qh _,λg hg=>by cases hg⟩,rfl,λq J=>⟨(by
  simp only[QI,V3,JD] at J
  rcases J with rfl|rfl|rfl<;>exact Qh _),λx hx=>(by
  simp only[QI,V3,JD] at J
  rcases J with rfl|rfl|rfl<;>cases hx)⟩,⟨Rd.nil _ _ _,λg hg=>by cases hg⟩,Rd.of_own (Yn aa hT (λq J e=>by
   have e2:w.heap.size=q:=(by simpa [Value.ownBlock] using J)
   omega)),λq J=>(by
  simp only[QI,V3,JD] at J
  rcases J with rfl|rfl|rfl<;>exact Rd.nil _ _ _)⟩,hb2⟩)
 rw[a7] at a4 |-;clear a1 h1 h2 hb2 aa a7;go_wp2;go_loopw [4] (λi wr=>Rj w E i wr) (λi _=>16-(intOf i).toNat);case atStart=>exact a4.o
 case round=>
  clear a4;obtain⟨k,l,kn,gv,kv,hk,rfl,O,U,hb⟩:=hrel;obtain⟨W,Z,rfl,_,_⟩:=(U wr (Qd.refl _ _)).g.r.form;obtain⟨Ak,ck,rfl,_,_⟩:=(U wr (Qd.refl _ _)).k.form;have H3:=Ki O;have HS:=Ki U;have a0:=Ki hb;by_cases ao:k<L.length/\k<16
  ·obtain⟨ab,am⟩:=ao;have a2:=U wr (Qd.refl _ _);obtain⟨j,D,rfl,aj,Q⟩:=Qr GE 6 (λ_=>rfl) (by decide) (HR.o wr hb) ab;obtain⟨d,hd⟩:=ex (L[k]);rw[hd] at Q;have kd:Below wr.heap.size wr wr.drew:=(Qc _ wr).drew;have an:=(Q5.1 O).1
   have a9:=Ki (Q4P k (by omega) l kn d (.slice W l.length Z) (.slice Ak kn.length ck) (λq=>q=E) wr.drew (λq e=>by rw[e];exact an) (λq e=>⟨#[.slice W l.length Z,.slice Ak kn.length ck],51,(0,0),(by rw[show q=E from e];exact O),λi u hu=>by
    match i,hu with
    |0,hu=>cases hu;exact⟨_,_,_,rfl⟩
    |1,hu=>cases hu;exact⟨_,_,_,rfl⟩⟩) (λh hT=>U h ((Below.touch kd _).trans hT (λ_ _ a6=>a6))))
   unfold FW at a9;have X:=Kj (j<wr) (Z1 aj (Q9 hB hb.size));have a3:=Ki (λh (I:Below wr.heap.size wr h)=>(show(h.cell? (E,0)=some (.slice W l.length Z)/\h.cell? (E,1)=some (.slice Ak kn.length ck))/\h.cell? (j,D+k*6)=some (.int .u8 d.w)/\h.cell? (j,D+k*6+1)=some (.int .u8 d.r)/\h.cell? (j,D+k*6+2)=some (.int .u8 d.a)/\h.cell? (j,D+k*6+3)=some (.int .u8 d.b)/\h.cell? (j,D+k*6+4)=some (.int .u8 d.c)/\h.cell? (j,D+k*6+5)=some (.bool d.see) from⟨⟨cR 0 (Yd O I),cR 1 (Yd O I)⟩,(I.cell (p:=(j,D+k*6)) X.o).trans (Q 0 _ rfl),(I.cell (p:=(j,D+k*6+1)) X.o).trans (Q 1 _ rfl),(I.cell (p:=(j,D+k*6+2)) X.o).trans (Q 2 _ rfl),(I.cell (p:=(j,D+k*6+3)) X.o).trans (Q 3 _ rfl),(I.cell (p:=(j,D+k*6+4)) X.o).trans (Q 4 _ rfl),(I.cell (p:=(j,D+k*6+5)) X.o).trans (Q 5 _ rfl)⟩));have q1:(k:Int)<(L.length:Int):=(by omega);have q2:(k:Int)<16:=(by omega);have q3:(0:Int)<=(k:Int):=(by omega);clear Q hd a2 U hb O;go_upto_region 5 with fail;refine Jt rfl ?_;change wpAny _ _ _ _ 7 #[false,false,false,false,false,false,false] _ (World.drew _);refine' T0 1 ?_;try simp only[Act.put,PS]
   refine' T0 2 ?_;try simp only[Act.put,PS]
   refine Qn.of (n:=6) (g:=1) (S:=(λh=>(h.cell? (E,0)=some (.slice W l.length Z)/\h.cell? (E,1)=some (.slice Ak kn.length ck))/\h.cell? (j,D+k*6)=some (.int .u8 d.w)/\h.cell? (j,D+k*6+1)=some (.int .u8 d.r)/\h.cell? (j,D+k*6+2)=some (.int .u8 d.a)/\h.cell? (j,D+k*6+3)=some (.int .u8 d.b)/\h.cell? (j,D+k*6+4)=some (.int .u8 d.c)/\h.cell? (j,D+k*6+5)=some (.bool d.see))) 4 _ _ _ ?_;refine' T3 0 (a3.o _ kd) ?_;try simp only[Act.put,PS]
   refine' T3 3 (a3.o _ kd) ?_;try simp only[Act.put,PS]
   refine' T3 4 (a3.o _ kd) ?_;try simp only[Act.put,PS]
   refine Qn.all (rs:=[5]) (by kernel_rfl) rfl ?_;refine QH.cons rfl (by kernel_rfl) (λK hK=>?_) QH.nil;go_simp;go_at_call 14;(with_reducible refine a9.o.mono ?_);rintro e9 Y ⟨aq,ar,l',ac,rfl,a8,al⟩;obtain⟨ad,ag,rfl,_,_⟩:=(a8 Y (Qd.refl _ _)).g.r.form;obtain⟨ae,ah,rfl,_,_⟩:=(a8 Y (Qd.refl _ _)).k.form;have k9:Below wr.heap.size wr Y:=kd.trans (al.mono kd.size);refine hK.out _ _ (a3.o _ k9) (λak=>?_);clear hK K ak;try simp only[PS]
   refine Qn.done (by kernel_rfl) ?_;refine Yk (rs:=[6]) (by kernel_rfl) (by simp) (Yi rfl (λK hK=>?_) Yj);rw[Q7 (by rfl)];have ai:=Yd H3.o k9;refine V6 51 _ _ rfl E _ rfl rfl 51 _ ai (by kernel_rfl) rfl (by kernel_rfl) (hK _ _ ?_);clear hK K;try simp only[PS]
   refine YD (by kernel_rfl) ?_ _;go_wp2;go_roundw;case rel=>exact⟨k+1,l',ac,.slice ad l'.length ag,.slice ae ac.length ah,am,by go_num,X7 Y E _ _ 51 _ (Yd H3.o k9),λh hT=>a8 h ((Y6 Y E _).trans hT (λ_ _ a6=>a6)),(a0.o.trans (k9.mono a0.o.size)).trans ((Y6 Y E _).below (Q9 a0.o.size k9.size) (λy hy e=>by have:=af.o;omega))⟩
   case measure=>simp[intOf];omega
  have a2:=U wr (Qd.refl _ _);have HF:=Kj (Xi wr wr.heap.size (.slice W l.length Z) l/\Xq 16 l) ⟨a2.g,a2.lim.le hk⟩;have c0:wr.cell? (E,0)=some (.slice W l.length Z):=cR 0 O;clear a2 U hb O;by_cases ab:k<L.length;·have q1:(k:Int)<(L.length:Int):=(by omega);have q2:¬(k:Int)<16:=(by omega);go_wp2;go_ret;exact⟨⟨_,rfl,l,HF.o.1,HF.o.2⟩,a0.o⟩
  have q1:¬(k:Int)<(L.length:Int):=(by omega);go_wp2;go_ret;exact⟨⟨_,rfl,l,HF.o.1,HF.o.2⟩,a0.o⟩
def U5:List UInt8:=[110,111,119,104,101,114,101]
theorem Rk:FV U5:=⟨by unfold U5 U4;decide,by kernel_rfl,by decide,by decide⟩
theorem Rl:Jo U5=true:=by kernel_rfl
theorem Q4R(z:Nat)(h:z<6):∃xs,(⟨#[117,118,119,120,121,122]⟩:ByteArray).extract z (z+1)=Q8 xs/\FV xs/\Jo xs=true/\xs≠U5/\xs≠[]:=by rw[show(⟨#[117,118,119,120,121,122]⟩:ByteArray)=Q8 [117,118,119,120,121,122] from rfl,Ej];refine⟨_,rfl,?_⟩;rcases (by omega:z=0\/z=1\/z=2\/z=3\/z=4\/z=5) with rfl|rfl|rfl|rfl|rfl|rfl;all_goals exact⟨⟨by unfold U4;decide,by kernel_rfl,by decide,by decide⟩,by kernel_rfl,by unfold U5;decide,by decide⟩
def Rm(l:List Q1)(s:Q4)(E:List UInt8)(b:ByteArray)(hb:b.size<=4611686018427387903)(I:List QE)(J:Value)(h D j:Nat)(w:World)(O i:Value)(wr:World):Prop:=
 ∃(k:Nat) (F:List (Id×List Id)) (os:List Qt),k<=I.length/\i=k/\Xl l E (I.take k) F/\YR s b hb F os/\Zr wr w (λb=>b<=h) [X5 O os,VY J I]/\(∀o∈os,K5 wr w o)/\JA wr h D j F.length s b/\Below w w wr
theorem Q4S(w:World)(g:Nat)(x:Value)(h:w.cell? (g,0)=some x):(loadVar 3 ⟨g,0,none⟩).run Tryz.prog w=.ok x w:=by have j:(isAgg 3).run Tryz.prog w=.ok false w:=Tryz.isAgg3 w;simp[loadVar,j,h,Result.andThen]
theorem O2{j:Func}{a p u:Tmp}(h:j.results=#[.tmp a,.cell p 3,.tmp u])(tmps:Array Value)(w:World)(g:Nat)(x:Value)(E:tmps.getD p undef=.pointer (g,0))(D:w.cell? (g,0)=some x):(results j tmps).run Tryz.prog w=.ok (.tuple #[tmps.getD a undef,x,tmps.getD u undef]) w:=by
 have I:tmps[p]?.getD undef=.pointer (g,0):=by simpa using E
 simp[results,h,I,asAddr,Q4S w g x D,Result.andThen]
theorem Ro(l:List Q1)(j:Uv l)(hp:N0 l)(s:Q4)(old nw:List UInt8)(D:Jo old=true)(hw:Jo nw=true)(bI:old≠nw)(aH:old.length<=1000)(bJ:nw.length<=1000)(b5:old≠[])(hb:(Q8 nw).size<=4611686018427387903)(A:Option Addr)(n c B:Nat)(w:World)(hG:Xi w B (.slice A n c) l)(hB:B<=w)(hT:ZD w):Calls Tryz.prog 7 #[.slice A n c,.agg #[s.T,s.R],.string (Q8 old),.string (Q8 nw)] w (CI l s old (Q8 nw) hb w):=by
 have ba:=Ki (λW=>Q1T old nw D hw bI aH bJ W);have bi:=Ki (λW (J:Below w w W)=>Q1p l j A n c B W ⟨hG.r.below' J hB,λg O=>⟨(hG.a g O).d.below' J hB,(hG.a g O).i,(hG.a g O).o.below' J hB,λo D=>⟨((hG.a g O).a o D).d.below' J hB,((hG.a g O).a o D).e.below' J hB⟩⟩⟩ (Q9 hB J.size) (hT.below J));have bR:=Ki (λx W (J:Below w w W)=>Q1q l x j A n c B W ⟨hG.r.below' J hB,λg O=>⟨(hG.a g O).d.below' J hB,(hG.a g O).i,(hG.a g O).o.below' J hB,λo D=>⟨((hG.a g O).a o D).d.below' J hB,((hG.a g O).a o D).e.below' J hB⟩⟩⟩ (Q9 hB J.size) (hT.below J));have bQ:=Ki (λW (J:Below w w W)=>hT.below J);have bP:=Ki hp;have c2:=Kj (Jo old=true/\old≠[]/\old.length<=1000) ⟨D,b5,aH⟩;have bW:(Q8 nw).size<=1000:=by rw[Y8];exact bJ
 have be:=Ki (λx ids ps h1 h2 h3 h4 h5 A' n' c' h bs bb N W h6 h7 h8 h9 ar bU=>Q1Y x ids ps h1 h2 old D (Q8 nw) hb bW h3 aH h4 h5 A' n' c' h bs bb N s W h6 h7 h8 h9 ar bU b5);generalize Q8 nw=Z at *;obtain⟨oo,bK⟩:∃b,Q8 old=b:=⟨_,rfl⟩;rw[bK] at ba be |-;obtain⟨i0,hi,z0,z1,z2⟩:=Zc MZ;clear hG hT j hp D hw bI b5 aH bK;go_enter Tryz.func7,Tryz.ntmps7;go_upto_region 1 with(fail);obtain⟨W1,ag⟩:∃W,((w.alloc (.cells #[s.T,s.R] 27)).alloc (.cells #[.string Z] 9)).alloc (.cells #[(0:Int)] 3)=W:=⟨_,rfl⟩;have bA:Below w w W1:=by rw[<-ag];exact((((Q0.refl w).alloc _).alloc _).alloc _).below
 have h0:W1.heap[w.heap.size]?=some (.cells #[s.T,s.R] 27 (0,0)):=by rw[<-ag];(simp only[Zs,Qy,reduceIte];repeat (first|rw[Q7 (by omega)]|rw[Q6 (by omega)]))
 have h1:W1.heap[w.heap.size+1]?=some (.cells #[.string Z] 9 (0,0)):=by rw[<-ag];(simp only[Zs,Qy,reduceIte];repeat (first|rw[Q7 (by omega)]|rw[Q6 (by omega)]))
 have h2:W1.heap[w.heap.size+2]?=some (.cells #[(0:Int)] 3 (0,0)):=by rw[<-ag];(simp only[Zs,Qy,reduceIte];repeat (first|rw[Q7 (by omega)]|rw[Q6 (by omega)]))
 rw[ag];have bk:=Kj (JA W1 (w.heap.size+2) w (w.heap.size+1) 0 s Z) ⟨h2,h0,h1⟩;have b9:=Ki bA;have e1:W1.cell? (w.heap.size+1,0)=Z:=cR 0 h1;clear ag bA h0 h1 h2;obtain⟨h,aq⟩:∃b,w.heap.size+2=b:=⟨_,rfl⟩;obtain⟨bb,ap⟩:∃b,w.heap.size+1=b:=⟨_,rfl⟩;obtain⟨bs,aG⟩:∃b,w.heap.size=b:=⟨_,rfl⟩;have a5:=Kj (bs=w.heap.size/\bb=w.heap.size+1/\h=w.heap.size+2) ⟨aG.symm,ap.symm,aq.symm⟩;rw[aq,ap,aG] at bk;rw[ap] at e1;try rw[show w.heap.size+1+1=h from aq]
 try rw[aq]
 rw[ap,aG];clear aq ap aG;go_wp2_with fail;refine(ba.o W1).mono ?_;rintro e2 W2 ⟨rfl,hb2⟩;have bo:=Ki (bk.o.below hb2);have av:=Ki (b9.o.trans (hb2.mono b9.o.size));clear hb2 e1;have bh:=Ki (bi.o W2 av.o);go_wp2_with fail;refine bh.o.mono ?_;rintro e3 w3 ⟨vi,I,rfl,aC,bw,c4,aY⟩;obtain⟨Ai,ci,rfl,_,_⟩:=(Rd.of_own aC).form;have aM:=Ki bw
 have br:=Ki (show Rm l s old Z hb I (.slice Ai I.length ci) h bs bb w (.slice none 0 0) (.int .i64 (0:Nat)) w3 from⟨0,[],[],Qh _,rfl,.nil,.nil,Cv (show(X5 (.slice none 0 0) []).own w3 w.heap.size from⟨rfl,.inl ⟨rfl,rfl⟩⟩) (Yp aC av.o.size) (λk j=>by cases j) (λk j hx=>by
  have:=(UG aC k j).1;have h1:=(Q5.1 bo.o.n).1;have h2:=a5.o
  omega) (λk j=>by cases j),(λo D=>by cases D),bo.o.below aY,av.o.trans (aY.mono av.o.size)⟩)
 clear aC bw aY bh bi;go_wp2;go_loopw [8,28] (λvo i wr=>Rm l s old Z hb I (.slice Ai I.length ci) h bs bb w vo i wr) (λ_ i _=>I.length-(intOf i).toNat);case atStart=>exact br.o
 case round=>
  clear br;obtain⟨k,F,os,j,rfl,ad,af,hF,aD,am,aF⟩:=hrel;obtain⟨X,Y,rfl,_,_⟩:=(Rd.of_own (show wr.ownsRow w 72 18 u8 os.length (os.flatMap Qp) from hF.own (X5 u8 os) (by simp))).form;by_cases bH:k<I.length
  ·obtain⟨bg,og,e1,c3,aZ⟩:=Qr ZV 6 (λ_=>rfl) (by decide) (Rd.of_own (show wr.ownsRow w 65 6 (.slice Ai I.length ci) I.length (I.flatMap ZV) from hF.own (VY (.slice Ai I.length ci) I) (by simp))) bH;obtain⟨E,ar⟩:∃q,I[k]=q:=⟨_,rfl⟩;rw[ar] at aZ;have bS:=Ki aZ;have aU:=Ki (show I.take (k+1)=I.take k++[E] by rw[QQ bH,ar]);have aa:=Ki ad;have ak:=Ki af;have ay:=Ki hF;have aP:=Ki aD;have a6:=Ki am;have ax:=Ki aF;have bD:F.length<=k:=Q9 ad.le (by rw[Zi];omega);have aL:=Ki bD;have aj:=Ki af.len;have cb:(0:Int)<=(k:Int):=(by omega);have bY:(k:Int)<(I.length:Int):=(by omega);subst e1;clear aZ ar ad af hF aD am aF bD;go_upto_region 8 with(first|((with_reducible refine Ql 65 ?_);refine QA rfl 65 _ rfl _ _ _ rfl bS.o (by kernel_rfl) (Tryz.isAgg65 _) ?_)|((with_reducible refine Zm 65 ?_);refine Zp rfl 65 _ _ rfl _ _ rfl rfl _ _ (Qi _ _) (by kernel_rfl) rfl (by kernel_rfl) ?_;rw[Xm,Zn]));obtain⟨W4,aE⟩:∃W,wr.alloc (.cells (ZV E).toArray 65)=W:=⟨_,rfl⟩;have h4:W4.heap[wr.heap.size]?=some (.cells (ZV E).toArray 65 (0,0)):=(by rw[<-aE];exact Qi wr _);have ao:=bl aE;rw[aE];have bc:=Ki (ay.o.below ao);have aw:=Ki (ax.o.trans (ao.mono ax.o.size));have aN:=Ki (a6.o.below ao);have bp:=Ki (λo D=>(aP.o o D).kind (Below.touch ao (λ_=>False)) (λ_ _ _ al=>al.elim));obtain⟨b6,a2⟩:∃b,wr.heap.size=b:=⟨_,rfl⟩;rw[a2] at h4 |-;have H4:=Ki h4;have t4:W4.cell? (b6,4)=some (.bool E.dir):=cR 4 h4;clear aE h4 ao a2;obtain⟨d,hd⟩:=ex (E.dir);rw[hd] at t4
   have HD:=Ki hd;clear hd;rcases d with _|_
   ·have t0:W4.cell? (b6,0)=E.nd.s.T:=cR 0 H4.o;have t1:W4.cell? (b6,1)=E.nd.s.R:=cR 1 H4.o;have t2:W4.cell? (b6,2)=E.nd.I:=cR 2 H4.o;have bt:=Ki (bR.o E.nd W4 aw.o);unfold Qa at bt;go_wp2_with fail;refine bt.o.mono ?_;rintro e6 W6 ⟨v6,a1,rfl,Q,aX,a2⟩;obtain⟨A6,c6,rfl,_,_⟩:=(Rd.of_own Q).form;obtain⟨q1,q2,q3,q4⟩:=bP.o E.nd a1 aX;have bu:=Ki aX;have bL:=Ki q4;have ac:=Ki (aw.o.trans (a2.mono aw.o.size));have bd:=Ki (bc.o.below a2);have bq:=Ki (λo D=>(bp.o o D).kind (Below.touch a2 (λ_=>False)) (λ_ _ _ al=>al.elim));have az:=Ki (aN.o.below a2);have H6:=Ki ((a2.block b6 (Q5.1 H4.o).1).trans H4.o);have bO:=Ki (Q5.1 aN.o.n).1
    have bx:∀W,Qd (λb=>b=h) W6 W->∃B,Rd W B 3 (.slice A6 a1.length c6) a1.length ((a1.map El.id).flatMap Qe):=λW J=>⟨_,Rd.of_own (Yn Q J (λg O e=>by
     have h1:=(UG Q g O).1;have h2:=bO.o
     omega))⟩
    have aK:=Ki (be.o E.nd (a1.map El.id) (a1.map (λe:El=>e.pc.data.toList)) q1 q2 q3 (by simp) (by simpa using q4) A6 a1.length c6 h bs bb F.length W6 bx (bQ.o W6 ac.o) az.o (by have:=aL.o;omega) (decide ((a1.map (λe:El=>e.pc.data.toList)).flatten=old)) rfl);unfold Qa at aK;have p0:W6.cell? (b6,0)=E.nd.s.T:=cR 0 H6.o;have p1:W6.cell? (b6,1)=E.nd.s.R:=cR 1 H6.o;have p2:W6.cell? (b6,2)=E.nd.I:=cR 2 H6.o;have p3:W6.cell? (bb,0)=Z:=cR 0 az.o.b;obtain⟨tx,a0⟩:∃t,Zh a1=t:=⟨_,rfl⟩;have bv:=Ki a0;rw[show(a1.map (λe:El=>e.pc.data.toList)).flatten=tx from a0] at aK;rw[a0];clear Q aX a2 q1 q2 q3 q4 bx a0;go_wp2_with fail;refine aK.o.mono ?_;rintro e7 W7 ⟨v7,cd,rfl,Q,bz,hm,hh,ae,a7⟩;by_cases a0:tx=old
    ·obtain⟨G,ev,rfl,b4,bF,b3⟩:=hh (QF a0);rw[Q7 (by simp[a0])] at ae;have aV:=Ki a0;have t7:Below w W6 W7:=a7.below ac.o.size (λx hx e=>by have:=a5.o;omega);have a8:=Ki (ac.o.trans t7);have ai:=Ki ae;have a9:=Ki (bd.o.touch a7 (λx e=>by rw[e];exact Q3 _));have aQ:=Ki (λo D=>(bq.o o D).kind a7 (λk aA fr e U=>by subst e;rw[az.o.n] at U;cases U));have bf:=Kj (G.Perm (a1.map El.id)/\G.Pairwise (λa b=>0<=b.cmp a)) ⟨b4,bF.imp (λal=>by omega)⟩;have ca:G.length<=2000:=(by rw[b4.length_eq,Xh];exact bL.o);have bN:=Ki (Yp b3 ac.o.size);obtain⟨A9,c9,bB,_,_⟩:=(Rd.of_own b3).form;obtain⟨g7,c7,_,rfl,bX,_⟩:=V9 Q (Nat.succ_pos _);have c1:=(X8 Q 35 ev.v rfl).1;rw[bB] at c1;have ab:=Kj (W7.ownsRow w 72 18 (.slice X os.length Y) os.length (os.flatMap Qp)) (a9.o.own (X5 (.slice X os.length Y) os) (by simp));have aS:=Ki (Rd.of_own Q);have aT:=Ki a8.o.size;have c0:os.length<=2000:=(by have h1:=aj.o;have h2:=aL.o;omega);have bE:¬(2000:Int)<(G.length:Int):=(by omega);clear Q bz hm hh ae a7 a0 t7 b4 bF b3 bX bB;go_wp2_with (at_builtin;refine KE rfl _ _ 29 rfl w 72 i0 _ 18 192 Tryz.underlying29 hi z0 z1 z2 rfl (by decide) _ os.length _ rfl ab.o _ _ 2 _ rfl aS.o (Kn Ip _) (by unfold maxLen;omega) (by omega) aT.o ?_);intro v8 W8 Q a4 an;have au:=(Q5.1 ai.o.n).1;have t8:=(Qd.refl (λk=>(Value.slice X os.length Y).ownBlock=some k) W7).grown a4 (λk j _=>j)
     have a3:∀k,k<=h->¬(Value.slice X os.length Y).ownBlock=some k:=λk j e=>a9.o.free (X5 (.slice X os.length Y) os) (by simp) k e j;have bC:=a9.o.put2 (i:=0) (r:=X5 (.slice X os.length Y) os) rfl Q a4 an (λb hb=>Nat.lt_of_le_of_lt hb au)
     have aJ:=Ki (show Zr W8 w (λb=>b<=h) [X5 v8 (os++[XR E.nd (Yc s F.length Z.size) Z hb,J4 E.nd ev G]),VY (.slice (bg,og) I.length ci) I] from by
      unfold X5;rw[Qj,Zb]
      exact bC)
     have aR:=Ki (show ∀o∈os++[XR E.nd (Yc s F.length Z.size) Z hb,J4 E.nd ev G],K5 W8 w o from λo D=>K5.kind (w:=W7) (by
       rcases Qq.1 D with h1|h1
       ·exact aQ.o o h1
       ·rcases QI.1 h1 with rfl|h2
        ·exact⟨⟨rfl,rfl⟩,⟨rfl,.inl ⟨rfl,rfl⟩⟩⟩
        ·rw[Qw.1 h2];exact⟨⟨rfl,rfl⟩,bN.o⟩) t8 (λk aA fr j U=>by
      rcases ab.o.2 with⟨h0,_⟩|⟨g,cap,bT,h0,_,O,_⟩
      ·rw[h0] at j;cases j
      ·rw[h0] at j
       cases j
       rw[O] at U
       injection U with U
       injection U with _ h2
       exact absurd h2 (by decide)))
     have aO:=Ki (ai.o.touch t8 (a3 h (Q3 _)) (a3 bs (by have:=a5.o;omega)) (a3 bb (by have:=a5.o;omega)));have aI:=Ki (a8.o.grown a4 a8.o.size (λb8 hj=>(UG ab.o b8 hj).1));obtain⟨A8,c8,rfl,_,_⟩:=(Rd.of_own Q).form;clear Q a4 an au t8 a3 bC;go_wp2;go_roundw;case rel=>exact⟨k+1,F++[(E.nd,a1.map El.id)],os++[XR E.nd (Yc s F.length Z.size) Z hb,J4 E.nd ev G],by omega,by go_num,by rw[aU.o];exact .hit aa.o HD.o bu.o (by rw[bv.o];exact aV.o),.snoc ak.o bf.o.1 (bf.o.2.imp (λal=>by omega)),aJ.o,aR.o,by rw[Qj];exact aO.o,aI.o⟩
     case measure=>simp[intOf];omega
    have bZ:=hm (Zo a0);subst bZ;rw[Q6 (by simp[a0])] at ae;have aV:=Ki a0;have t7:Below w W6 W7:=a7.below ac.o.size (λx hx e=>by have:=a5.o;omega);have a8:=Ki (ac.o.trans t7);have ai:=Ki ae;have a9:=Ki (bd.o.touch a7 (λx e=>by rw[e];exact Q3 _));have aQ:=Ki (λo D=>(bq.o o D).kind a7 (λk aA fr e U=>by subst e;rw[az.o.n] at U;cases U));have b7:W7.ownsRow W6 72 18 v7 0 []:=Q;obtain⟨A7,c7,rfl,_,_⟩:=(Rd.of_own b7).form;have ab:=Kj (W7.ownsRow w 72 18 (.slice X os.length Y) os.length (os.flatMap Qp)) (a9.o.own (X5 (.slice X os.length Y) os) (by simp));have aS:=Ki (Rd.of_own b7);have aT:=Ki a8.o.size;have c0:os.length<=2000:=(by have h1:=aj.o;have h2:=aL.o;omega);clear Q bz hm hh ae a7 a0 t7 b7;go_wp2_with (at_builtin;refine KE rfl _ _ 29 rfl w 72 i0 _ 18 192 Tryz.underlying29 hi z0 z1 z2 rfl (by decide) _ os.length _ rfl ab.o _ _ 0 _ rfl aS.o (by simp) (by unfold maxLen;omega) (by omega) aT.o ?_);intro v8 W8 Q a4 an;have au:=(Q5.1 ai.o.n).1;have t8:=(Qd.refl (λk=>(Value.slice X os.length Y).ownBlock=some k) W7).grown a4 (λk j _=>j);have a3:∀k,k<=h->¬(Value.slice X os.length Y).ownBlock=some k:=λk j e=>a9.o.free (X5 (.slice X os.length Y) os) (by simp) k e j;have aJ:=Kj (Zr W8 w (λb=>b<=h) [X5 v8 os,VY (.slice (bg,og) I.length ci) I]) (a9.o.put2 (i:=0) (r:=X5 (.slice X os.length Y) os) rfl Q a4 an (λb hb=>Nat.lt_of_le_of_lt hb au))
    have aR:=Ki (λo D=>(aQ.o o D).kind t8 (λk aA fr j U=>by
     rcases ab.o.2 with⟨h0,_⟩|⟨g,cap,bT,h0,_,O,_⟩;·rw[h0] at j;cases j
     rw[h0] at j;cases j;rw[O] at U;injection U with U;injection U with _ h2
     exact absurd h2 (by decide)))
    have aO:=Ki (ai.o.touch t8 (a3 h (Q3 _)) (a3 bs (by have:=a5.o;omega)) (a3 bb (by have:=a5.o;omega)));have aI:=Ki (a8.o.grown a4 a8.o.size (λb8 hj=>(UG ab.o b8 hj).1));obtain⟨A8,c8,rfl,_,_⟩:=(Rd.of_own Q).form;clear Q a4 an au t8 a3;go_wp2;go_roundw;case rel=>exact⟨k+1,F,os,by omega,by go_num,by rw[aU.o];exact .miss aa.o HD.o bu.o (by rw[bv.o];exact aV.o),ak.o,aJ.o,aR.o,aO.o,aI.o⟩
    case measure=>simp[intOf];omega
   go_wp2;go_roundw;case rel=>exact⟨k+1,F,os,by omega,by go_num,by rw[aU.o];exact .dir aa.o HD.o,ak.o,bc.o,bp.o,aN.o,aw.o⟩
   case measure=>simp[intOf];omega
  have bG:k=I.length:=(by omega);have aa:=Kj (Xl l old I F) (by rw[bG,X6] at ad;exact ad);have ak:=Ki af;have ay:=Ki hF;have aP:=Ki aD;have a6:=Ki am;have ax:=Ki aF;have aj:=Ki af.len;have n0:wr.cell? (h,0)=some (.int .i64 (F.length:Int)):=cR 0 am.n;have bY:¬((k:Int)<(I.length:Int)):=(by omega);clear ad af hF aD am aF bG;have H8:=Kj (wr.ownsRow w 72 18 (.slice X os.length Y) os.length (os.flatMap Qp)) (ay.o.own (X5 (.slice X os.length Y) os) (by simp));have aW:=Ki (λx=>(show Below w w (wr.setCell (h,0) x) from ax.o.setCell (by have:=a5.o;show w<=h;omega) x));have c5:h<wr:=(Q5.1 a6.o.n).1;have f0:wr.frozen? (h,0)=false:=(by simp[World.frozen?,a6.o.n]);by_cases aB:F.length=0;·rw[aB] at n0;have bM:=Ki (VM.1 aB);have ah:=Kj ((wr.setCell (h,0) (0:Int)).cell? (h,0)=(0:Int)) (cR 0 (Zf a6.o.n));clear aB;go_wp2;refine XE (O2 rfl _ _ h _ rfl ah.o) rfl ?_;exact⟨I,F,aM.o,aa.o,aW.o _,.inl ⟨bM.o,rfl⟩⟩
  have cc:¬((F.length:Int)=0):=(by omega);by_cases bV:100<F.length;·have bE:(200:Int)<(os.length:Int):=(by have:=aj.o;omega);have ah:=Kj ((wr.setCell (h,0) (0:Int)).cell? (h,0)=(0:Int)) (cR 0 (Zf a6.o.n));go_wp2;refine XE (O2 rfl _ _ h _ rfl ah.o) rfl ?_;exact⟨I,F,aM.o,aa.o,aW.o _,.inr (.inl ⟨bV,rfl⟩)⟩
  have bE:¬(200:Int)<(os.length:Int):=(by have:=aj.o;omega);have bj:=Kj (F≠[]/\F.length<=100) ⟨λe=>aB (by rw[e];rfl),by omega⟩;have ht:=(Qd.setCell (F:=λb=>b=h) (p:=(h,0)) (Qd.refl _ wr) (λ_=>rfl) (.int .i64 (F.length:Int))).drew;have HP:=Kj (CI l s old Z hb w (.returned (.tuple #[.slice X os.length Y,.int .i64 (F.length:Int),(0:Int)])) (wr.setCell (h,0) (.int .i64 (F.length:Int))).drew) ⟨I,F,aM.o,aa.o,(aW.o _).drew,.inr (.inr ⟨bj.o.1,bj.o.2,_,os,rfl,ak.o,Yn H8.o ht (λg O e=>ay.o.free (X5 (.slice X os.length Y) os) (by simp) g O (by rw[e];exact Q3 _)),λo D=>(aP.o o D).kind ht (λk aA fr e U=>by subst e;rw[a6.o.n] at U;cases U)⟩)⟩;have ah:=Ki (show(wr.setCell ⟨h,0,none⟩ (.int .i64 (F.length:Int))).drew.cell? ⟨h,0,none⟩=some (.int .i64 (F.length:Int)) from cell_of_row _ h 0 _ _ _ (show(wr.setCell ⟨h,0,none⟩ (.int .i64 (F.length:Int))).heap[h]?=_ from Zf a6.o.n));clear ht;go_wp2;go_region;all_goals go_wp2;refine XE (O2 rfl _ _ h _ rfl ah.o) rfl ?_;exact HP.o
end
section
open Go Go.RowKit
theorem Q4T:Tryz.prog.underlying 43=some (.struct (Tryz.prog.fieldsOf 43)):=by kernel_rfl
theorem Q4U:Tryz.prog.stoodInHeld 43=false:=by kernel_rfl
theorem Q4V:Tryz.prog.eqGuardType Tryz.prog.depth 43=false:=by kernel_rfl
def GG(e:XP):Value:=.agg #[.string e.path,.bool e.dir,.string e.text]
theorem O3{a b:Bool}(h:a=b):Ending.returned (.bool a)=.returned (.bool b):=by rw[h]
theorem Q4W(n:Nat)(p q:XP)(w:World):(Op.equalIn (n+4) 43 (GG p) (GG q)).run Tryz.prog w=.ok (decide (p=q)) w:=by
 have u4:=Tryz.underlying4;have Q:=Tryz.isAgg4;have X:=Tryz.sizeOf4;have u9:=GH;have U:=Tryz.isAgg9;have Y:=Tryz.sizeOf9;unfold GG;rw[run_equalIn_agg w (n+3) 43 _ _ Q4T Q4U];simp only[Program.fieldsOf,Tryz.underlying43];go_simp;by_cases h:p=q;·subst h;simp
 rw[Zo h];obtain⟨I,J,O⟩:=p;obtain⟨b1,b2,W⟩:=q;have hb:∀x y:ByteArray,x.toList=y.toList↔x=y:=λx y=>⟨λe=>by rw[Jb,Jb] at e;exact Go.WideShapes.bytes_inj e,λe=>by rw[e]⟩;simp only[hb];split
 ·split
  ·split
   ·rename_i j D E;try simp only at j D E
    subst j;subst D;subst E;exact absurd rfl h
   rfl
  rfl
 rfl
theorem Q4X(p q:XP)(w:World):(binOp .neq 43 (GG p) (GG q)).run Tryz.prog w=.ok (.bool (!decide (p=q))) w:=by have h:=Q4W 9996 p q w;unfold GG at h |-;rw[run_neq_struct,show(10000:Nat)=9996+4 from rfl,h];rfl
theorem Q4Y(L M:List XP)(A A':Option Addr)(n c Z c' B:Nat)(w:World)(Q:Rd w B 3 (.slice A n c) n (L.flatMap YH))(U:Rd w B 3 (.slice A' Z c') Z (M.flatMap YH)):Calls Tryz.prog 11 #[.slice A n c,.slice A' Z c'] w λe w'=>e=.returned (.bool (decide (L=M)))/\Q0 w w':=by
 obtain⟨_,ac,a6⟩:=Q.len;obtain⟨_,ad,a7⟩:=U.len;unfold maxLen at a6 a7;obtain rfl:=QL YH 3 (λ_=>rfl) (by decide) Q.1;obtain rfl:=QL YH 3 (λ_=>rfl) (by decide) U.1;have HR:=Ki Q;have a4:=Ki U;clear Q U;by_cases J:L.length=M.length
 ·have a8:((L.length:Int) != (M.length:Int))=false:=by simp[J]
  have HL:=Ki J;clear J;go_enter Tryz.func11,Tryz.ntmps11;go_wp2;go_loopw [5] (λi wr=>OE L M w i wr) (λi _=>L.length-(intOf i).toNat);case atStart=>exact⟨0,Qh _,rfl,rfl,0,rfl⟩
  case round=>
   obtain⟨k,hk,rfl,O,qn,rfl⟩:=hrel;by_cases a0:k<L.length
   ·have a1:k<M.length:=(by have:=HL.o;omega);obtain⟨b,o,rfl,a9,E⟩:=Qr YH 3 (λ_=>rfl) (by decide) HR.o a0;obtain⟨X,o',rfl,aa,I⟩:=Qr YH 3 (λ_=>rfl) (by decide) a4.o a1;have W:L[k]=M[k]->L.take (k+1)=M.take (k+1):=λh=>OD a0 a1 O h;have Uk:L[k]≠M[k]->L≠M:=λh e=>h (by subst e;rfl);obtain⟨p,hp⟩:=ex (L[k]);obtain⟨q,a2⟩:=ex (M[k]);rw[hp] at E W Uk;rw[a2] at I W Uk;have a5:=Ki W;have a3:=Ki Uk;clear hp a2 W Uk O;have d0:w.cell? (b,o+k*3)=p.path:=E 0 _ rfl;have d1:w.cell? (b,o+k*3+1)=some (.bool p.dir):=E 1 _ rfl;have d2:w.cell? (b,o+k*3+2)=p.text:=E 2 _ rfl;have e0:w.cell? (X,o'+k*3)=q.path:=I 0 _ rfl;have e1:w.cell? (X,o'+k*3+1)=some (.bool q.dir):=I 1 _ rfl;have e2:w.cell? (X,o'+k*3+2)=q.text:=I 2 _ rfl;clear E I;have Y:=Q4X p q;unfold GG at Y;have ab:=Q4V;by_cases D:p=q
    ·rw[QF D] at Y;have j:=Ki (a5.o D);clear D;go_wp2;go_quiet (fail);go_wp2;go_roundw;case rel=>exact⟨k+1,by omega,by go_num,j.o,qn+nq,rfl⟩
     case measure=>simp[intOf];omega
    rw[Zo D] at Y;have j:=Kj (decide (L=M)=false) (Zo (a3.o D));clear D;go_wp2;go_quiet (fail);go_wp2;go_ret;exact⟨O3 j.o.symm,((Q0.refl w).drewN qn).drewN nq⟩
   have j:=Kj (decide (L=M)=true) (QF (by rw[Zk (by omega),Zk (by have:=HL.o;omega)] at O;exact O));clear O;go_wp2;go_ret;exact⟨O3 j.o.symm,(Q0.refl w).drewN qn⟩
 have a8:((L.length:Int) != (M.length:Int))=true:=by simp;omega
 have j:=Kj (decide (L=M)=false) (Zo (by rintro rfl;exact J rfl));clear J;go_enter Tryz.func11,Tryz.ntmps11;go_wp2;go_ret;exact⟨O3 j.o.symm,Q0.refl w⟩
end
section
open Go Go.RowKit Go.Maps
def Rp(g:Q1)(v:Sl)(os:List Qt):Q1:=⟨g.s,g.n,g.dv,g.deps,g.un,v,os,g.hn⟩
def Ka(x:ByteArray)(a:List XP):Nat:=(a.filter (λe=>decide (e.text=x))).length
theorem Q4Z(x:ByteArray)(a:List XP):Ka x a<=a.length:=Vl ..
theorem Q50{x:ByteArray}{a:List XP}{k:Nat}(h:k<a.length):Ka x (a.take (k+1))=Ka x (a.take k)+if a[k].text=x then 1 else 0:=by
 unfold Ka;rw[QQ h,YU,Qj,Ec,List.filter_nil];by_cases j:a[k].text=x;·rw[Q7 j,Q7 (QF j)];rfl
 rw[Q6 j,Q6 (by simpa using j)];rfl
theorem Q51{l:List Q1}(hk:Uy l){Q:QE}{e:XP}(he:FH l Q e){xs:List UInt8}(hi:Jo xs=true)(a0:xs≠[])(a1:xs.length<=7)(w:World)(Z:ZD w):Calls Tryz.prog 10 #[.string e.text,.string (Q8 xs)] w λr w'=>(∃A n c U,r=.returned (.tuple #[.slice A n c,U,.int .i64 0])/\n=if e.text=Q8 xs then 1 else 0)/\Below w.heap.size w w':=by
 have key:∃ps:List (List UInt8),Zg ps/\(∀p∈ps,Jj p=true)/\ps.flatten.length<=1000/\e.text=Q8 ps.flatten:=by
  obtain⟨_,_,D,I⟩:=he
  cases Y:Q.dir with
  |true=>exact⟨[],λp O=>(by cases O),λp O=>(by cases O),Qh _,D Y⟩
  |false=>obtain⟨E,X,J⟩:=I Y;obtain⟨q1,q2,q3,_⟩:=IW hk Q.nd E X;exact⟨_,q1,q2,q3,J⟩
 obtain⟨ps,D,I,X,J⟩:=key;rw[J];refine(MW ps D xs hi w (by omega) (by omega) Z).mono ?_;rintro r w' ⟨v1,U,rfl,ho,_,hb⟩;obtain⟨A,c,rfl,_,_⟩:=(Rd.of_own ho).form;refine⟨⟨A,_,c,U,rfl,?_⟩,hb⟩;by_cases W:ps=[];·subst W;rw[Q6 (λj=>a0 (by have:=Oi j;simpa using this.symm))];rfl
 rw[MY I W];by_cases h:ps.flatten=xs;·rw[Q7 h,Q7 (by rw[h])];rfl
 rw[Q6 h,Q6 (λj=>h (Oi j))];rfl
theorem Rq{K:Nat}{l:List Q1}(O:Xq K l){I:List QE}{W:List UInt8}{F:List (Id×List Id)}(J:Xl l W I F):∀j∈I,j.dir=false->J7 l j.nd≠U5:=λj U Q e=>by obtain⟨E,D⟩:=J.text j U Q;rw[KW D] at e;have h:=Q4v O D 110 (by rw[e];decide);exact absurd h (by decide)
theorem CQ:(Q8 U5).size<=4611686018427387903:=by decide
def NmR(a:List XP)(x:ByteArray)(F:Nat)(h:World)(n i:Value)(wr:World):Prop:=∃k:Nat,k<=a.length/\i=.int .i64 k/\n=.int .i64 ((F:Int)-(Ka x (a.take k):Nat))/\Below h.heap.size h wr
theorem Q52(L:List Uz)(A:Option Addr)(n c:Nat)(a r:Nat)(_:a<256)(hr:r<256)(w:World)(hR:Rd w w.heap.size 6 (.slice A n c) n (L.flatMap GE))(hT:ZD w):Calls Tryz.prog 3 #[.slice A n c,.int .u8 (a:Int),.int .u8 (r:Int)] w λe w'=>e=.returned (.bool true)/\Below w.heap.size w w':=by
 have bE:=Ki (Q2D w hT);have bP:=Ki (λW (j:Below w.heap.size w W)=>Q4Q L A n c w.heap.size W (hR.below' j (Q3 _)) j.size);have a9:=Ki (λW (j:Below w.heap.size w W)=>hT.below j);obtain⟨z,hz⟩:=ex (a % 6);have d4:z<6:=by rw[<-hz];exact Ug _ (by decide)
 have z1:Int.tmod (a:Int) 6=(z:Int):=by rw[<-hz];exact(Ud a 6).symm
 have z2:IntKind.u8.wrap (z:Int)=(z:Int):=by unfold IntKind.wrap;simp[IntKind.signed,IntKind.bits];omega
 have z4:IntKind.u8.wrap ((z:Int)+1)=(z:Int)+1:=by unfold IntKind.wrap;simp[IntKind.signed,IntKind.bits];omega
 obtain⟨q,hq⟩:=ex (r % 4);have dh:q<4:=by rw[<-hq];exact Ug _ (by decide)
 have q1:Int.tmod (r:Int) 4=(q:Int):=by rw[<-hq];exact(Ud r 4).symm
 have q2:IntKind.i64.wrap (r:Int)=(r:Int):=QO _ (by omega);have q3:IntKind.i64.wrap (1+(q:Int))=1+(q:Int):=QO _ (by omega);obtain⟨xs,d3,cI,cG,cH,cF⟩:=Q4R z d4;have ae:=Ki cI;have b7:=Ki cG;have c4:=Ki cH;have c1:=Ki cF;obtain⟨xb,bA⟩:∃b,Q8 xs=b:=⟨_,rfl⟩;rw[bA] at d3;have aG:=Ki bA;clear hT hR hz hq cI cG cH cF bA;go_enter Tryz.func3,Tryz.ntmps3;go_wp2_with fail;refine bE.o.mono ?_;rintro e w1 ⟨rfl,bg⟩;have bF:=Ki bg;have bQ:=Ki (bP.o w1 bg);clear bg bE bP;go_wp2_with fail;refine bQ.o.mono ?_;rintro e w2 ⟨⟨v,l,rfl,hG,hH⟩,hb2⟩;obtain⟨Ag,cg,rfl,df,da⟩:=hG.r.form;have HG:=Ki (λW (j:Below w2.heap.size w2 W)=>hG.below j);have HH:=Ki hH;have af:=Ki (bF.o.trans (hb2.mono bF.o.size));have cw:∀g∈Qs l,0<=g.n/\g.n<=16:=λg hg=>(hH.2 g (XC hg)).n;have d1:XO (Qs l)<=16:=IZ (by decide) λg hg=>(hH.2 g (XC hg)).t.2;have bp:=O0 (K:=16) (by decide) cw (1+(q:Int));have ai:=Ki (Lm l (1+(q:Int)) Ag l.length cg w2.heap.size w2 hG (by have:=hH.1;omega) (Q3 _) (a9.o w2 af.o) (λg hg o ho=>Q9 ((hH.2 g hg).ops o ho).tx (by decide)) (by omega) (by omega) (by omega));clear hG hH hb2 bQ cw d1 bp;go_wp2_with fail;refine ai.o.mono ?_;rintro e w3 ⟨O,rfl,hN,cd,bi⟩;unfold Z2 Qg Sl.v;have HN:=Ki hN;have cS:=Ki cd;have aw:=Ki (af.o.trans (bi.mono af.o.size));have a5:=Ki bi;clear hN cd bi ai;go_upto_region 7 with(((with_reducible refine Zm 31 ?_);refine Zp rfl 31 _ _ rfl _ _ rfl rfl _ _ (Qi _ _) (by kernel_rfl) rfl (by kernel_rfl) ?_;rw[Xm,Zn]))
 obtain⟨W4,aI⟩:∃W,w3.alloc (.cells O 31)=W:=⟨_,rfl⟩;have aL:=bl aI;have aj:=bn aI;rw[aI];obtain⟨U,a3⟩:∃b,w3.heap.size=b:=⟨_,rfl⟩;have cN:=Ki a3;rw[a3] at aj |-;have bB:=Ki aj;have aV:=Ki (aw.o.trans (aL.mono aw.o.size));have bG:=Ki (a5.o.trans (aL.mono a5.o.size));have bH:=Ki aL;have p0:W4.cell? (U,0)=O.s.T:=cR 0 aj;have p1:W4.cell? (U,1)=O.s.R:=cR 1 aj;have aD:=Ki (HH.o.lok (by decide))
 have ad:=Ki (show Calls Tryz.prog 7 #[.slice Ag l.length cg,.agg #[.int .i64 O.s.T,.int .i64 O.s.R],.string xb,.string ⟨#[110,111,119,104,101,114,101]⟩] W4 (CI l O.s xs (Q8 U5) CQ W4) from by
  rw[<-aG.o]
  exact Ro l aD.o.ok (IW aD.o) O.s xs U5 b7.o Rl c4.o (by have:=ae.o.few;omega) (by decide) c1.o CQ Ag l.length cg w2.heap.size W4 (HG.o W4 bG.o) bG.o.size (a9.o W4 aV.o))
 clear aI aL aj a3;go_wp2_with fail;refine ad.o.mono ?_;rintro e w5 ⟨b9,F,hI,hF,ap,bk⟩;have cL:=Ki (aV.o.trans (ap.mono aV.o.size));rcases bk with⟨rfl,rfl⟩|⟨bw,rfl⟩|⟨cc,d8,vo,os,rfl,cl,a0,ao⟩;·clear hI hF ap p0 p1 ad;go_wp2;go_ret;exact⟨rfl,cL.o⟩
 ·have:=FU HH.o hI hF;exact absurd bw (by omega)
 obtain⟨Ao,co,rfl,_,_⟩:=(Rd.of_own a0).form;have ak:=Yd bB.o ap;have dd:U<W4:=(Q5.1 bB.o).1;have c6:w5.cell? (U,6)=some (.slice O.ov.A O.ov.n O.ov.c):=cR 6 ak;have br:w5.frozen? (U,6)=false:=by simp[World.frozen?,ak]
 have ah:=Ki hI;have a7:=Ki hF;have b4:=Ki cc;have bY:=Ki cl;have aQ:=FU HH.o hI hF;obtain⟨h,hh⟩:=ex (Rp O ⟨Ao,os.length,co⟩ os);have Z:=Kj (h.s=O.s/\h.n=O.n/\h.deps=O.deps/\h.un=O.un/\h.ops=os) (by rw[<-hh];exact⟨rfl,rfl,rfl,rfl,rfl⟩);have c8:(w5.setCell (U,6) (.slice Ao os.length co)).heap[U]?=some (.cells (Qg h).toArray 31 (0,0)):=by rw[<-hh];exact JV (cs:=O) ak 6 _
 have ab:=(Qd.refl (λk=>k=U) w5).setCell (p:=(U,6)) (λ_=>rfl) (.slice Ao os.length co);have aK:Below w3.heap.size w3 (w5.setCell (U,6) (.slice Ao os.length co)):=(bH.o.trans (ap.mono bH.o.size)).setCell (p:=(U,6)) (Eg cN.o) _
 have ar:X4 (w5.setCell (U,6) (.slice Ao os.length co)) (w5.setCell (U,6) (.slice Ao os.length co)).heap.size h:=by
  have Y:=(cS.o.below aK).more aK.size;rw[<-hh];refine⟨Y.d,Y.i,Rd.of_own (Yn a0 ab (λq hq e=>?_)),λo ho=>?_⟩;·have:=(a0.lt q hq).1;subst e;omega
  exact((ao o ho).kind ab (λk cY fr e I=>by
   subst e;rw[ak] at I;injection I with I;injection I with _ I _
   exact absurd I (by decide))).at_
 have bO:=Ki ar;have bC:=Ki c8;have ag:=Ki aK;clear hI hF ap cc cl a0 ao ak c8 ab ar aK hh ad p0 p1;go_upto_region 11 with fail;obtain⟨W6,cr⟩:∃W,w5.setCell (U,6) (.slice Ao os.length co)=W:=⟨_,rfl⟩;rw[cr] at bO bC ag |-;have bI:=Ki (aw.o.trans (ag.o.mono aw.o.size));have bN:=Ki (HG.o W6 (a5.o.trans (ag.o.mono a5.o.size)));have bZ:=Ki (Q9 a5.o.size ag.o.size);have c5:=Ki (Zz (cs:=h) bC.o);have b6:=Ki (Nn l h Ag l.length cg w2.heap.size W6 bN.o.r bZ.o (by have:=HH.o.1;omega));unfold Z2 Qg Sl.v at b6;clear cr c6 br;go_wp2_with (first|((with_reducible refine Ql 31 ?_);refine QA rfl 31 _ rfl _ _ _ rfl c5.o (by kernel_rfl) (Zl _) ?_));refine b6.o.mono ?_;rintro e w7 ⟨v7,rfl,bb,aq⟩;obtain⟨A7,c7,rfl,_,_⟩:=(Rd.of_own bb).form;have aW:=Ki (bI.o.trans (aq.mono bI.o.size));have av:=Ki ((a5.o.trans (ag.o.mono a5.o.size)).trans (aq.mono bZ.o))
 have aR:Xi w7 w7.heap.size (.slice A7 (l++[h]).length c7) (l++[h]):=⟨Rd.of_own bb,λg hg=>by
  rcases Qq.1 hg with Y|Y;·exact((HG.o w7 av.o).a g Y).more av.o.size
  rw[Qw.1 Y];exact(bO.o.below aq).more aq.size⟩
 obtain⟨bz,bx,cn⟩:=R6 HH.o HN.o (by omega) Z.o.1 Z.o.2.1 Z.o.2.2.1 Z.o.2.2.2.1 ae.o Rk (hb:=CQ) ah.o a7.o (by rw[Z.o.1,Z.o.2.2.2.2];exact bY.o) b4.o;have c0:=Ki bz;have aS:=bz.lok;have bv:(l++[h]).length<=17:=by rw[Qj,XZ];have:=HH.o.1;omega
 obtain⟨l2,bs⟩:∃L,l++[h]=L:=⟨_,rfl⟩;have a8:=Ki bs;rw[bs] at aR bx cn aS bv |-;have bp:=O0 (K:=17) (by decide) bx 2;have ai:=Ki (Lm l2 2 A7 l2.length c7 w7.heap.size w7 aR (by omega) (Q3 _) (a9.o w7 aW.o) (λg hg o ho=>Q9 (aS.ok.tx g hg o ho) (by decide)) (by decide) (by omega) (by omega));have b5:=Ki (λW (j:Below w7.heap.size w7 W)=>aR.below j);have bT:=Ki aS;have bU:=Ki bv;clear bb aq aR bz bx cn aS bs bp bv b6 c5 bN;go_wp2_with fail;refine ai.o.mono ?_;rintro e w8 ⟨Q,rfl,ck,ce,bj⟩;unfold Z2 Qg Sl.v;have cU:=Ki ck;have cT:=Ki ce;have ay:=Ki (aW.o.trans (bj.mono aW.o.size));have ax:=Ki bj;clear ck ce bj ai;go_upto_region 13 with(((with_reducible refine Zm 31 ?_);refine Zp rfl 31 _ _ rfl _ _ rfl rfl _ _ (Qi _ _) (by kernel_rfl) rfl (by kernel_rfl) ?_;rw[Xm,Zn]));obtain⟨W9,aJ⟩:∃W,w8.alloc (.cells Q 31)=W:=⟨_,rfl⟩;have aN:=bl aJ;have al:=bn aJ;rw[aJ];obtain⟨D,bh⟩:∃b,w8.heap.size=b:=⟨_,rfl⟩;have cO:=Ki bh;rw[bh] at al |-;have bD:=Ki al;have aY:=Ki (ay.o.trans (aN.mono ay.o.size));have bJ:=Ki (ax.o.trans (aN.mono ax.o.size));have bK:=Ki aN;have p0:W9.cell? (D,0)=Q.s.T:=cR 0 al;have p1:W9.cell? (D,1)=Q.s.R:=cR 1 al;have b8:=Ki (show(Q8 xs).size<=4611686018427387903 by rw[Y8];have:=ae.o.few;omega)
 have ad:=Ki (show Calls Tryz.prog 7 #[.slice A7 l2.length c7,.agg #[.int .i64 Q.s.T,.int .i64 Q.s.R],.string ⟨#[110,111,119,104,101,114,101]⟩,.string xb] W9 (CI l2 Q.s U5 (Q8 xs) b8.o W9) from by
  rw[<-aG.o]
  exact Ro l2 bT.o.ok (IW bT.o) Q.s U5 xs Rl b7.o (λe=>c4.o e.symm) (by decide) (by have:=ae.o.few;omega) (by decide) b8.o A7 l2.length c7 w7.heap.size W9 (b5.o W9 bJ.o) bJ.o.size (a9.o W9 aY.o))
 clear aJ aN al bh;go_wp2_with fail;refine ad.o.mono ?_;rintro e a4 ⟨I2,F2,ch,aH,a3,bk⟩;have e2:=CE ch (by rw[<-a8.o];exact c0.o.items);rw[e2] at aH;have cE:=R1 c0.o a7.o (by rw[a8.o];exact aH) (Rq HH.o a7.o);have bq:F2.length=F.length:=by have:=Xz List.length cE;simpa using this
 have aQ:=FU HH.o ah.o a7.o;rcases bk with⟨rfl,rfl⟩|⟨bw,rfl⟩|⟨cZ,d0,di,a1,rfl,cm,a0,ao⟩;·exact absurd (VM.1 bq.symm) b4.o
 ·exact absurd bw (by omega)
 obtain⟨Ap,cp,rfl,_,_⟩:=(Rd.of_own a0).form;have d5:=Ki (aY.o.trans (a3.mono aY.o.size));have am:=Yd bD.o a3;have de:D<W9:=(Q5.1 bD.o).1;have c6:a4.cell? (D,6)=some (.slice Q.ov.A Q.ov.n Q.ov.c):=cR 6 am;have br:a4.frozen? (D,6)=false:=by simp[World.frozen?,am]
 obtain⟨k,I⟩:∃h,Rp Q ⟨Ap,a1.length,cp⟩ a1=h:=⟨_,rfl⟩;have aa:k.s=Q.s/\k.n=Q.n/\k.deps=Q.deps/\k.un=Q.un/\k.ops=a1:=by rw[<-I];exact⟨rfl,rfl,rfl,rfl,rfl⟩
 have aA:=Ki (Q4x HH.o HN.o (by omega) Z.o.1 Z.o.2.1 Z.o.2.2.1 Z.o.2.2.2.1 ae.o Rk (hb:=CQ) ah.o a7.o (by rw[Z.o.1,Z.o.2.2.2.2];exact bY.o) b4.o (Rq HH.o a7.o) (k:=k) (by rw[a8.o];exact cU.o) aa.1 aa.2.1 aa.2.2.1 aa.2.2.2.1 (hb2:=b8.o) (F2:=F2) (by rw[a8.o];exact aH) (by rw[aa.1,aa.2.2.2.2];exact cm));have c9:(a4.setCell (D,6) (.slice Ap a1.length cp)).heap[D]?=some (.cells (Qg k).toArray 31 (0,0)):=by rw[<-I];exact JV (cs:=Q) am 6 _
 have ab:=(Qd.refl (λk=>k=D) a4).setCell (p:=(D,6)) (λ_=>rfl) (.slice Ap a1.length cp);have aM:Below w8.heap.size w8 (a4.setCell (D,6) (.slice Ap a1.length cp)):=(bK.o.trans (a3.mono bK.o.size)).setCell (p:=(D,6)) (Eg cO.o) _
 have ar:X4 (a4.setCell (D,6) (.slice Ap a1.length cp)) (a4.setCell (D,6) (.slice Ap a1.length cp)).heap.size k:=by
  have Y:=(cT.o.below aM).more aM.size;rw[<-I];refine⟨Y.d,Y.i,Rd.of_own (Yn a0 ab (λq hq e=>?_)),λo ho=>?_⟩;·have:=(a0.lt q hq).1;subst e;omega
  exact((ao o ho).kind ab (λk cY fr e I=>by
   subst e;rw[am] at I;injection I with I;injection I with _ I _
   exact absurd I (by decide))).at_
 have bR:=Ki ar;have a2:=Ki c9;have aX:=Ki aM;have cP:=Ki bq;clear ch aH a3 cE bq cZ d0 cm a0 ao am c9 ab ar aM I aa e2 ad p0 p1;go_upto_region 15 with fail;obtain⟨X,cq⟩:∃W,a4.setCell (D,6) (.slice Ap a1.length cp)=W:=⟨_,rfl⟩;rw[cq] at bR a2 aX |-;have ac:=Ki (ay.o.trans (aX.o.mono ay.o.size));have a6:=Ki (ax.o.trans (aX.o.mono ax.o.size));have aU:=Ki (av.o.trans (a6.o.mono av.o.size));clear cq c6 br;have k1:Below X.heap.size X X.drew:=(Qc _ X).drew;have aZ:=Ki (Ii l aD.o.ok Ag l.length cg w2.heap.size X.drew (HG.o _ (aU.o.trans (k1.mono aU.o.size))) (Q9 aU.o.size k1.size) (a9.o _ (ac.o.trans (k1.mono ac.o.size))));unfold CF at aZ;have bu:=aA.o.lok;rw[a8.o] at bu;have cD:(l2++[k]).length<=100:=by rw[Qj,XZ];have:=bU.o;omega
 have aF:=Ki (λW (j:Below X.heap.size X W)=>Nn l2 k A7 l2.length c7 w7.heap.size W (b5.o W (a6.o.trans (j.mono a6.o.size))).r (Q9 a6.o.size j.size) (by have:=bU.o;omega));unfold Z2 Qg Sl.v at aF
 have bV:=Ki (λW (j:Below X.heap.size X W) g (hg:g∈l2++[k])=>(show X4 W W.heap.size g from by
  rcases Qq.1 hg with Y|Y;·exact((b5.o W (a6.o.trans (j.mono a6.o.size))).a g Y).more (Q9 a6.o.size j.size)
  rw[Qw.1 Y];exact(bR.o.below j).more j.size))
 have b3:=Ki (λA n c W (j:Below X.heap.size X W) hG=>Ii (l2++[k]) bu.ok A n c W.heap.size W hG (Q3 _) (a9.o W (ac.o.trans (j.mono ac.o.size))));unfold CF at b3;obtain⟨l3,bt⟩:∃L,l2++[k]=L:=⟨_,rfl⟩;have bS:=Ki bt;rw[bt] at aF bV b3 cD;have d7:=Kj (List.flatMap (λg:Q1=>[.int .i64 g.s.T,.int .i64 g.s.R,.int .i64 g.n,.slice g.dv.A g.dv.n g.dv.c,.int .i64 g.un.T,.int .i64 g.un.R,.slice g.ov.A g.ov.n g.ov.c]) l3=l3.flatMap Qg) rfl;have aE:=Ki (λJ (j:Below X.heap.size X J)=>(show J.cell? (D,0)=k.s.T/\J.cell? (D,1)=k.s.R/\J.cell? (D,2)=k.n/\J.cell? (D,3)=some (.slice k.dv.A k.dv.n k.dv.c)/\J.cell? (D,4)=k.un.T/\J.cell? (D,5)=k.un.R/\J.cell? (D,6)=some (.slice k.ov.A k.ov.n k.ov.c) from⟨cR 0 (Yd a2.o j),cR 1 (Yd a2.o j),cR 2 (Yd a2.o j),cR 3 (Yd a2.o j),cR 4 (Yd a2.o j),cR 5 (Yd a2.o j),cR 6 (Yd a2.o j)⟩));clear bu bt
 go_region_held3 (λJ=>J.cell? (D,0)=k.s.T/\J.cell? (D,1)=k.s.R/\J.cell? (D,2)=k.n/\J.cell? (D,3)=some (.slice k.dv.A k.dv.n k.dv.c)/\J.cell? (D,4)=k.un.T/\J.cell? (D,5)=k.un.R/\J.cell? (D,6)=some (.slice k.ov.A k.ov.n k.ov.c)) (first|exact aE.o _ k1|exact aE.o _ kA|exact aE.o _ kB|exact aE.o _ kC|go_keep)
  (first
   |(go_at_call 9;refine bL.o.mono ?_;rintro eC WC ⟨vC,I3,eb,rfl,bf,cj,ba,d2,aP⟩;have kC:=kB.trans (aP.mono kB.size))
   |(go_at_call 8;refine(aF.o _ kA).mono ?_;rintro eB WB ⟨vB,rfl,bd,aO⟩;obtain⟨A3,c3,rfl,_,_⟩:=(Rd.of_own bd).form;have kB:=kA.trans (aO.mono kA.size);have bL:=Ki (b3.o A3 l3.length c3 WB kB ⟨Rd.of_own bd,bV.o WB kB⟩))
   |(go_at_call 9;refine aZ.o.mono ?_;rintro eA WA ⟨vA,I1,E,rfl,bc,ci,an,cC,cu⟩;have kA:=k1.trans (cu.mono k1.size)))
 obtain⟨Aa,ca,rfl,_,_⟩:=(Rd.of_own bc).form;obtain⟨Ab,cb,rfl,_,_⟩:=(Rd.of_own bf).form;have e1:=CE ci ah.o;have e3:=CE cj (by rw[<-bS.o,<-a8.o];exact aA.o.items);rw[e1] at an;rw[e3] at ba;have cK:=Kj (E=eb) (aA.o.ents E eb an (by rw[a8.o,bS.o];exact ba));have cM:=Kj (Ka xb E=F.length) (by rw[<-aG.o];exact aA.o.cnt E an);have bM:=Ki an;have bX:=Ki (λW (j:Below WC.heap.size WC W)=>(show Rd W WC.heap.size 3 (.slice Aa E.length ca) E.length (E.flatMap YH) from((((Rd.of_own bc).below aO).more aO.size).below (aP)).more aP.size |>.below j));have cV:=Ki (λW (j:Below WC.heap.size WC W)=>(show Rd W WC.heap.size 3 (.slice Ab eb.length cb) eb.length (eb.flatMap YH) from(Rd.of_own bf).below j));have az:=Ki (ac.o.trans (kC.mono ac.o.size));have aQ:=FU HH.o ah.o a7.o;have cQ:=Ki aQ;have d9:E.length<=1000:=cC;have bW:=Ki (λe it (he:FH l it e) W (j:Below WC.heap.size WC W)=>Q51 aD.o he b7.o c1.o ae.o.few W (a9.o W (az.o.trans (j.mono az.o.size))));rw[aG.o] at bW;have d6:=Ki (show(F2.length:Int)=F.length by have:=cP.o;omega);clear e1 e3 an ba ci cj bc bd bf cu aO aP cC d2 kA kB kC k1 aQ cD bL aZ aF;go_wp2;go_loopw [13,23,24,25,26] (λn i _ _ _ wr=>NmR E xb F.length WC n i wr) (λ_ i _ _ _ _=>E.length-(intOf i).toNat);case atStart=>exact⟨0,Qh _,rfl,by simp[Ka],Qc _ _⟩
 case round=>
  obtain⟨k,I,rfl,rfl,hb⟩:=hrel;have aB:=Ki hb;have cv:Ka xb (E.take k)<=1000:=Q9 (Q4Z _ _) (by rw[Zi];omega);have dc:=cQ.o;by_cases aT:k<E.length
  ·obtain⟨be,oe,rfl,_,bo⟩:=Qr YH 3 (λ_=>rfl) (by decide) (bX.o wr hb) aT;have au:=Q50 (x:=xb) aT;have cA:k<b9.length:=(by rw[<-bM.o.1];exact aT);have cx:=bM.o.2 k b9[k] E[k] (X3 cA) (X3 aT);have aC:=Ki (bW.o E[k] b9[k] cx wr hb);obtain⟨en,cy⟩:∃e,E[k]=e:=⟨_,rfl⟩;rw[cy] at bo au aC;have c2:wr.cell? (be,oe+k*3+2)=en.text:=bo 2 _ rfl;obtain⟨d,hd⟩:=ex ((if en.text=xb then 1 else 0));rw[hd] at au aC;have db:d<=1:=(by rw[<-hd];split<;>omega);obtain⟨c,hc⟩:=ex (Ka xb (E.take k));rw[hc] at au cv |-;have cX:=Ki au;have w1:IntKind.i64.wrap ((F.length:Int)-(c:Int)-(d:Int))=(F.length:Int)-(c:Int)-(d:Int):=QO _ (by omega);have i0:(0:Int)<=(k:Int):=(by omega);have i1:(k:Int)<(E.length:Int):=(by omega);clear bo au cA cx cy hd hc hb;go_wp2_with fail;refine aC.o.mono ?_;rintro e w2 ⟨⟨Af,nf,cf,v2,rfl,rfl⟩,hb2⟩;have af:=Ki (aB.o.trans (hb2.mono aB.o.size));clear hb2 aC;go_wp2;go_roundw;case rel=>exact⟨k+1,by omega,by go_num,by rw[cX.o];congr 1;omega,af.o⟩
   case measure=>simp[intOf];omega
  have cB:E.take k=E:=Zk (by omega);rw[cB,cM.o];have cJ:(F.length:Int)-(F.length:Nat)=0:=(by omega);rw[cJ];have cW:=Ki (Q4Y E eb Aa Ab E.length ca eb.length cb WC.heap.size wr (bX.o wr hb) (cV.o wr hb));have dg:(0:Int)<=(F2.length:Int):=(by omega);clear cB cJ cv hb;go_wp2_with fail;refine cW.o.mono ?_;rintro e w2 ⟨rfl,cz⟩;have HF:=Ki (az.o.trans ((aB.o.trans (cz.below.mono aB.o.size)).mono az.o.size));rw[QF cK.o];clear cz;go_wp2;go_ret;exact⟨rfl,HF.o⟩
end
end Go.Proofs.YtfpafikfjjckeaaGreatDoor
