import Derived.Sort.Walk0
import Derived.Test.YtfpafikfjjckeaaGreatDoorZ18
set_option maxRecDepth 100000
set_option maxHeartbeats 200000000
namespace Go.Proofs.YtfpafikfjjckeaaGreatDoor
section
open Go Go.RowKit
theorem M1:∀{l:List (List UInt8)},l≠[]->TopTree.pathOf l=47::Lib.join l [47]
 |[],h=>absurd rfl h
 |[a],_=>by simp[TopTree.pathOf,Lib.join,List.intercalate]
 |a::b::t,_=>by
  have j:=M1 (l:=b::t) (by simp);have e:TopTree.pathOf (a::b::t)=47::a++TopTree.pathOf (b::t):=by simp[TopTree.pathOf]
  rw[e,j];simp[Lib.join,List.intercalate]
theorem M2:∀{l:List (List UInt8)},(∀x∈l,x.length<=100)->(TopTree.pathOf l).length<=101*l.length
 |[],_=>by simp[TopTree.pathOf]
 |a::l,h=>by
  have E:=M2 (l:=l) λx j=>h x (X2 _ j);have D:=h a (XT ..);have e:TopTree.pathOf (a::l)=47::a++TopTree.pathOf l:=by simp[TopTree.pathOf]
  rw[e,Qj,Z4,Z4];omega
theorem Q0N(l:List (List UInt8))(A:Option Addr)(n c B:Nat)(w:World)(E:Rd w B 1 (.slice A n c) n (l.map Xr))(hB:B<=w)(Q:l≠[])(a3:l.length<=1000)(Z:∀x∈l,x.length<=100):Calls Tryz.prog 145 #[.slice A n c] w λe w'=>e=.returned (.string (Q8 (TopTree.pathOf l)))/\Below w w w':=by
 obtain⟨_,a1,a2⟩:=E.len;have hn:n=l.length:=by have:=E.1;rw[Xh,Uf] at this;exact this.symm
 subst hn;obtain⟨b,o,rfl,hb,X⟩:=E.cells (Kc.2 Q);have Y:=M2 Z;have W:=M1 Q;have O:(Lib.join l [47]).length<=101000:=by rw[W,Z4] at Y;omega
 have U:(l.map Q8).map (λs=>s.data.toList)=l:=by
  rw[List.map_map];conv=>rhs;rw[<-List.map_id l]
  exact List.map_congr_left λx _=>Yw x
 have h:=Tryz.strings_Join b o c (l.map Q8) ⟨#[47]⟩ w (λj x D=>by
  rw[B1] at D
  cases J:l[j]? with
  |none=>rw[J] at D;cases D
  |some y=>
   rw[J] at D;cases D
   exact X j _ (by rw[B1,J];rfl)) (by omega) (by rw[Xh];omega) (by rw[Xh];exact a1) (by rw[U];exact Q9 O (by decide))
 rw[U,Xh] at h;obtain⟨t,I⟩:=ex ((⟨(Lib.join l [47]).toArray⟩:ByteArray));have a4:t.size<=101000:=by rw[<-I];exact O
 have HE:=Ki (show Q8 (TopTree.pathOf l)=(⟨#[47]⟩:ByteArray)++t by
  rw[<-I,W];show _=Q8 [47]++Q8 (Lib.join l [47]);rw[G8]
  rfl)
 have H:=Kj (Calls Tryz.prog 183 #[.slice (b,o) l.length c,.string ⟨#[47]⟩] w λe w'=>e=.returned t/\Below w w w') (by rw[<-I];exact h);clear h E X U W Y O I Q Z;go_enter Tryz.func145,Tryz.ntmps145;go_wp2_with fail;refine H.o.mono ?_;rintro e w1 ⟨rfl,a0⟩;go_wp2;go_ret;exact⟨by rw[HE.o];rfl,a0⟩
end
section
open Go Go.RowKit Go.Maps
def ES(h:Id->Option ByteArray)(l:List Id):List UInt8:=TopTree.pathOf ((l.map (λy=>((h y).getD ⟨#[]⟩).data.toList)).reverse)
def KI(h:Id->Option ByteArray)(y:Id):ByteArray:=(h y).getD ⟨#[]⟩
def Ut(h:Id->Option ByteArray)(y:Id):Value:=.string (KI h y)
def zS:Value:=.string ⟨#[]⟩
def M3(j:Id->Option ByteArray)(l:List Id)(h:World)(g:Nat)(i:Value)(wr:World):Prop:=
 ∃k:Nat,k<=l.length/\i=k/\wr.ownsRow h 9 1 (.slice (g,0) l.length l.length) l.length (List.replicate (l.length-k) zS++(l.take k).reverse.map (Ut j))/\Below h h wr
theorem Q0O:(Tryz.prog.info? 9).map (λi=>(i.zero,i.size,i.bytes))=some (some (.string ⟨#[]⟩),1,16):=by kernel_rfl
theorem Q0P(w:World):(zeroValue 9).run Tryz.prog w=.ok (Fy ⟨#[]⟩) w:=(zero_of_info (P:=Tryz.prog) (t:=9) (v:=.string ⟨#[]⟩) (n:=1) (by kernel_rfl)).1 w
theorem Q0Q(n:Nat):(madeCells (Value.cells (.string ⟨#[]⟩)) (n*1)).toList=List.replicate n zS:=by
 apply B4;·simp[madeCells,zS]
 intro i h j;simp only[madeCells,Od,Array.getElem_map,Array.getElem_range];simp[Value.cells,zS,Nat.mod_one]
theorem Q0R(x:Id)(l:List Id){w:World}{base p mo ml ms ma no nl ns na:Nat}{fo:Id->Option Q2}{fl fs:Id->Option Unit}{j:Id->Option ByteArray}(hT:Tr w base p mo ml ms ma no nl ns na fo fl fs j)(aL:no<=100000)(hl:XY fo x l)(aK:l.length<=1000)(ay:∀y∈l,(KI j y).size<=100):Calls Tryz.prog 89 #[.pointer (some ⟨p,0,none⟩),Qa x] w λe w'=>e=.returned (.string (Q8 (ES j l)))/\Below w w w':=by
 have HT:=Ki (λW (Z:Below w w W)=>hT.below Z);have HL:=Ki hl;have aF:=Ki ay;have aH:=Ki (λW (Z:Below w w W)=>LN x (hT.below Z) aL);obtain⟨i0,hi,z0,z1,z2⟩:=Zc Q0O;clear hT hl ay;unfold Qa at *;go_enter Tryz.func89,Tryz.ntmps89;go_upto_region 1 with(fail);obtain⟨O,a3⟩:∃W,w.alloc (.cells x 60)=W:=⟨_,rfl⟩;have a9:Below w w O:=by rw[<-a3];exact(Qc _ w).alloc (Q3 _) _
 have J:O.heap[w.heap.size]?=some (.cells x 60 (0,0)):=by rw[<-a3];exact Qi w _
 rw[a3];have x0:O.cell? ⟨w.heap.size,0,none⟩=some (.int .i64 x.s.T):=cR 0 J;have x1:O.cell? ⟨w.heap.size,1,none⟩=some (.int .i64 x.s.R):=cR 1 J;have x2:O.cell? ⟨w.heap.size,2,none⟩=some (.int .i64 x.I):=cR 2 J;have aI:=Ki (aH.o O a9);have ag:=Ki a9;clear a3 a9 J;go_wp2_with fail;refine aI.o.mono ?_;rintro e4 D ⟨aw,aj⟩
 obtain⟨h,v,aq,rfl,ad⟩:∃h v,XY fo x h/\e4=.returned (.tuple #[v,.bool true])/\D.ownsRow O 60 3 v h.length (h.flatMap Qe):=by
  rcases aw with⟨h,v,J,h2,h3⟩|⟨J,_⟩;·exact⟨h,v,J,h2,h3⟩
  exact absurd HL.o (J l)
 obtain rfl:=FB aq HL.o;obtain⟨Av,cv,rfl,_,_⟩:=(Rd.of_own ad).form;have a1:=Ki (ag.o.trans (aj.mono ag.o.size));have aE:=Ki (λW (Z:Below D D W)=>(Rd.of_own ad).below' Z (Q3 _));clear aw aq ad aj x0 x1 x2;go_upto_region 3 with(at_make;refine wpList_make_full _ rfl _ _ 258 rfl D 9 i0 _ 1 Tryz.underlying258 hi z0 z1 .i64 .i64 _ _ h.length rfl rfl rfl rfl (by rw[z2];omega) (by unfold maxLen;omega) (Q3 _) ?_;intro w5 ae ao);have ak:Below D D w5:=(Qc _ D).grown ao (Q3 _) (λaU hj=>by cases hj)
 have a7:=Ki (show M3 j h D D (.int .i64 (0:Nat)) w5 from⟨0,Qh _,rfl,by
  have e:=Q0Q h.length;rw[e] at ae
  simpa using ae,ak⟩)
 obtain⟨g,hg⟩:∃g,D.heap.size=g:=⟨_,rfl⟩;rw[hg] at a7 |-;have HG:=Ki hg;clear ao ae ak hg;go_wp2;go_loopw [21] (λi wr=>M3 j h D g i wr) (λi _=>h.length-(intOf i).toNat);case atStart=>exact a7.o
 case round=>
  clear a7;obtain⟨k,hk,rfl,X,hb⟩:=hrel;by_cases ar:k<h.length
  ·obtain⟨bg,og,e1,aO,a0⟩:=Qr Qe 3 (λ_=>rfl) (by decide) (aE.o wr hb) ar;obtain⟨I,af⟩:∃q,h[k]=q:=⟨_,rfl⟩;rw[af] at a0;have q0:wr.cell? ⟨bg,og+k*3,none⟩=some (.int .i64 I.s.T):=a0 0 _ rfl;have q1:wr.cell? ⟨bg,og+k*3+1,none⟩=some (.int .i64 I.s.R):=a0 1 _ rfl;have q2:wr.cell? ⟨bg,og+k*3+2,none⟩=some (.int .i64 I.I):=a0 2 _ rfl;have aG:=Ki (show h.take (k+1)=h.take k++[I] by rw[QQ ar,af]);obtain⟨r,hr⟩:∃r,h.length=r+k+1:=⟨h.length-k-1,by omega⟩;have Y:=Ki hr;have aP:(0:Int)<=(k:Int):=(by omega);have aJ:(k:Int)<(h.length:Int):=(by omega);have aS:IntKind.i64.wrap ((h.length:Int)-1)=((r+k:Nat):Int):=(by rw[show((h.length:Int)-1)=((r+k:Nat):Int) by omega];exact QO _ (by omega));have aT:IntKind.i64.wrap (((r+k:Nat):Int)-(k:Int))=(r:Int):=(by rw[show(((r+k:Nat):Int)-(k:Int))=(r:Int) by omega];exact QO _ (by omega));have aQ:(0:Int)<=(r:Int):=(by omega);have aR:(r:Int)<(h.length:Int):=(by omega);have HO:=Ki X;have HB:=Ki hb;subst e1;clear a0 af X hb hr;go_upto_region 6 with(fail);obtain⟨E,a4⟩:∃W,wr.alloc (.cells I 60)=W:=⟨_,rfl⟩;have aa:Below wr wr E:=(by rw[<-a4];exact(Qc _ wr).alloc (Q3 _) _);have U:E.heap[wr.heap.size]?=some (.cells I 60 (0,0)):=(by rw[<-a4];exact Qi wr _);rw[a4];obtain⟨b6,al⟩:∃b,wr.heap.size=b:=⟨_,rfl⟩;have a8:Below D D E:=HB.o.trans (aa.mono HB.o.size);have az:=Ki a8;have a2:=HT.o E (a1.o.trans (a8.mono a1.o.size))
   have a6:=Ki (QB HO.o aa);rw[al] at U |-;have u0:E.cell? ⟨b6,0,none⟩=some (.int .i64 I.s.T):=cR 0 U;have u1:E.cell? ⟨b6,1,none⟩=some (.int .i64 I.s.R):=cR 1 U;have u2:E.cell? ⟨b6,2,none⟩=some (.int .i64 I.I):=cR 2 U;have c3:E.cell? ⟨p,3,none⟩=some (.map (some ma)):=cR 3 a2.box;have aN:p<E:=a2.lt;have aM:b6<E:=(Q5.1 U).1;have ab:=(a2.drew.as_.look Ly Tryz.underlying186 ⟨#[]⟩ Q0P I).1;obtain⟨Q,ac⟩:∃b,(j I).getD ⟨#[]⟩=b:=⟨_,rfl⟩;rw[ac] at ab;have aC:=Kj (KI j I=Q) ac;unfold Qa Fy at ab;have av:0<h.length:=(by omega);have f0:E.frozen? ⟨g,r,none⟩=false:=YY a6.o av r;have v0:E.cell? ⟨g,r,none⟩=some zS:=(X8 a6.o r zS (by rw[VK (by rw[List.length_replicate];have:=Y.o;omega),List.getElem?_replicate,Q7 (by have:=Y.o;omega)])).1;unfold zS at v0;clear q0 q1 q2 a4 aa U al a2 a8 ac av;go_region
   all_goals
    have ax:(E.setCell ⟨g,r,none⟩ (.string Q)).ownsRow D 9 1 (.slice (some ⟨g,0,none⟩) h.length h.length) h.length (List.replicate (h.length-(k+1)) zS++(h.take (k+1)).reverse.map (Ut j)):=(by have e1:List.replicate (h.length-k) zS++(h.take k).reverse.map (Ut j)=List.replicate r zS++[zS]++(h.take k).reverse.map (Ut j):=(by rw[<-List.replicate_succ',show h.length-k=r+1 by have:=Y.o;omega]);have ai:=a6.o;rw[e1] at ai;have h2:=VQ (A:=List.replicate r zS) (old:=[zS]) (C:=(h.take k).reverse.map (Ut j)) ai [.string Q] rfl (by have:=Y.o;omega);rw[List.length_replicate] at h2;rw[aG.o,Dk,List.reverse_singleton,O9,ZW,show h.length-(k+1)=r by have:=Y.o;omega,show Ut j I=.string Q by unfold Ut;rw[aC.o]];have h3:(E.setCell ⟨g,r,none⟩ (.string Q)).ownsRow D 9 1 (.slice (some ⟨g,0,none⟩) h.length h.length) h.length (List.replicate r zS++[.string Q]++(h.take k).reverse.map (Ut j)):=h2;simpa using h3);obtain⟨W7,a5⟩:∃W,(E.setCell ⟨g,r,none⟩ (.string Q)).drew=W:=⟨_,rfl⟩;have aD:=Kj (W7.ownsRow D 9 1 (.slice (some ⟨g,0,none⟩) h.length h.length) h.length (List.replicate (h.length-(k+1)) zS++(h.take (k+1)).reverse.map (Ut j))) (by rw[<-a5];exact ZY ax);have aA:=Kj (Below D D W7) (by rw[<-a5];exact(Xd az.o (by have:=HG.o;omega)).drew);rw[a5];clear ax a5 ab f0 v0 u0 u1 u2 c3 aN aM;go_wp2;go_roundw;case rel=>exact⟨k+1,by omega,by go_num,aD.o,aA.o⟩
    case measure=>simp[intOf];omega
  have ap:h.take k=h:=Zk (by omega);rw[ap,show h.length-k=0 by omega,List.replicate_zero,VN] at X;have aJ:¬((k:Int)<(h.length:Int)):=(by omega);have an:h.reverse.map (Ut j)=((h.map (λy=>(KI j y).data.toList)).reverse).map Xr:=(by rw[<-List.map_reverse,List.map_map];refine List.map_congr_left λy _=>?_;show Value.string (KI j y)=.string (Q8 (KI j y).data.toList);rw[UK]);rw[an] at X;have au:(h.map (λy=>(KI j y).data.toList)).reverse≠[]:=(by have J:h≠[]:=(by cases HL.o<;>simp);simpa using J)
  have HJ:=Ki (Q0N _ _ _ _ _ wr (Rd.of_own X) (Q3 _) au (by simpa using aK) (λz hz=>by
   obtain⟨y,hy,rfl⟩:=QZ.1 (GK.1 hz);rw[Array.length_toList]
   exact aF.o y hy))
  have ah:=Ki (a1.o.trans (hb.mono a1.o.size));clear X ap an au hb;go_wp2_with fail;refine HJ.o.mono ?_;rintro e8 W8 ⟨rfl,am⟩;have aB:=Ki (ah.o.trans (am.mono ah.o.size));clear am;go_wp2;go_ret;exact⟨rfl,aB.o⟩
end
section
section
variable {α ε:Type} {lt:α->α->Prop} {idf af:ε->α} {z:α} {E:ε->Prop}
inductive KJ(idf af:ε->α):α->List ε->Prop
 |nil (x:α):KJ idf af x []
 |cons {x:α} {e:ε} {c:List ε}:af e=x->KJ idf af (idf e) c->KJ idf af x (e::c)
def KK(idf:ε->α):List α->List ε->List (List α×ε)|_,[]=>[]|q,e::c=>(q++[idf e],e)::KK idf (q++[idf e]) c
theorem CB:∀(q:List α)(c:List ε),(KK idf q c).map (λn=>n.2)=c|_,[]=>rfl|q,e::c=>by rw[KK,ZW,CB]
theorem I6:∀{c:List ε}{q:List α}{x:α},Jh idf af z E q x->KJ idf af x c->(∀e∈c,E e)->∀n∈KK idf q c,VU idf af z E n
 |[],_,_,_,_,_,n,h=>by cases h
 |e::c,q,x,U,O,D,n,h=>by
  cases O with
  |cons I J=>
   have j:VU idf af z E (q++[idf e],e):=⟨D e (XT ..),q,by rw[I];exact U,rfl⟩;rcases QI.1 h with rfl|h;·exact j
   exact I6 (Fe j) J (λg Q=>D g (X2 _ Q)) n h
theorem M4:∀{c:List ε}{q:List α}{n:List α×ε},n∈KK idf q c->∃a r,n.1=q++a::r
 |[],_,_,h=>by cases h
 |e::c,q,n,h=>by
  rcases QI.1 h with rfl|h;·exact⟨_,[],rfl⟩
  obtain⟨a,r,j⟩:=M4 h;exact⟨idf e,a::r,by rw[j];simp⟩
theorem M5:∀(c:List ε)(q:List α),(KK idf q c).Pairwise (λu v=>Jg lt u.1 v.1)|[],_=>List.Pairwise.nil|e::c,q=>by rw[KK];refine List.Pairwise.cons (λn j=>?_) (M5 c _);obtain⟨a,r,h⟩:=M4 j;rw[h];exact BH _ _ _
theorem I7(T:Je lt):∀{L M:List (List α×ε)},L.Pairwise (λu v=>Jg lt u.1 v.1)->M.Pairwise (λu v=>Jg lt u.1 v.1)->(∀n,n∈L↔n∈M)->L=M
 |[],[],_,_,_=>rfl
 |[],b::M,_,_,h=>by have:=(h b).2 (XT ..);cases this
 |a::L,[],_,_,h=>by have:=(h a).1 (XT ..);cases this
 |a::L,b::M,Z,hm,h=>by
  obtain⟨I,O⟩:=Yh.1 Z;obtain⟨J,Q⟩:=Yh.1 hm
  have Y:a=b:=by
   rcases QI.1 ((h a).1 (XT ..)) with rfl|U;·rfl
   rcases QI.1 ((h b).2 (XT ..)) with rfl|W;·rfl
   exact absurd (OY T _ _ _ (I b W) (J a U)) (Eu T _)
  subst Y
  have X:=I7 T O Q λn=>by
   constructor
   ·intro j;rcases QI.1 ((h n).1 (X2 _ j)) with rfl|D;·exact absurd (I n j) (Eu T _)
    exact D
   intro j;rcases QI.1 ((h n).2 (X2 _ j)) with rfl|D;·exact absurd (J n j) (Eu T _)
   exact D
  rw[X]
theorem Q0S(T:Je lt)(N:UP idf z E){O:List (List α×ε)}(j:JL lt idf af z E O){c:List ε}{q:List α}{x:α}(U:Jh idf af z E q x)(J:KJ idf af x c)(I:∀e∈c,E e){p:ε->Bool}(Q:∀n∈O,p n.2=true↔n.2∈c):(O.map (λn=>n.2)).filter p=c:=by
 have W:O.filter (λn=>p n.2)=KK idf q c:=I7 T (j.1.filter _) (M5 c q) λn=>by
  rw[V5];constructor;·rintro⟨h,a0⟩;have hm:=(Q n h).1 a0;rw[<-CB (idf:=idf) q c] at hm;obtain⟨m,Y,Z⟩:=QZ.1 hm;have:=BI N ((j.2 n).1 h) (I6 U J I m Y) (by rw[Z]);rwa [this]
  intro h;have D:=(j.2 n).2 (I6 U J I n h);refine⟨D,(Q n D).2 ?_⟩;rw[<-CB (idf:=idf) q c];exact QZ.2 ⟨n,h,rfl⟩
 have X:(O.map (λn=>n.2)).filter p=(O.filter (λn=>p n.2)).map (λn=>n.2):=by rw[List.filter_map];rfl
 rw[X,W,CB]
end
theorem M6{x:Id}(h:x.I<9223372036854775807):(XM x).s=x.s/\(XM x).I=x.I+1:=by refine⟨rfl,?_⟩;show(if x.I=9223372036854775807 then _ else x.I+1)=_;rw[Q6 (by omega)]
theorem FE:∀(ps:List (List UInt8)) (af x:Id),x.I+ps.length<9223372036854775807->∀e∈Zy af x ps,e.id.s=x.s/\x.I<=e.id.I/\e.id.I<x.I+ps.length
 |[],_,_,_,_,j=>by cases j
 |p::ps,af,x,h,e,j=>by
  rw[Z4] at h |-;rcases QI.1 j with rfl|j;·exact⟨rfl,Ei _,by show x.I<_;omega⟩
  obtain⟨I,J⟩:=M6 (x:=x) (by omega);obtain⟨D,O,Q⟩:=FE ps x (XM x) (by omega) e j;rw[I] at D;exact⟨D,by omega,by omega⟩
theorem M7:∀(ps:List (List UInt8)) (af x:Id),x.I+ps.length<9223372036854775807->∀e∈Zy af x ps,(Zy af x ps).find? (λg=>decide (g.id=e.id))=some e
 |[],_,_,_,_,j=>by cases j
 |p::ps,af,x,h,e,j=>by
  rw[Z4] at h;rw[Zy];rcases QI.1 j with rfl|j;·rw[List.find?_cons_of_pos (by simp)]
  obtain⟨I,J⟩:=M6 (x:=x) (by omega);obtain⟨_,O,_⟩:=FE ps x (XM x) (by omega) e j
  rw[List.find?_cons_of_neg (by
   simp only[XD];intro D;have:x.I=e.id.I:=(by rw[<-D])
   omega)]
  exact M7 ps x (XM x) (by omega) e j
theorem M8:∀(ps:List (List UInt8)) (af x:Id),KJ El.id El.af af (Zy af x ps)|[],af,_=>KJ.nil af|_::ps,_,x=>KJ.cons rfl (M8 ps x (XM x))
theorem M9:∀(ps:List (List UInt8)) (af x:Id),Zh (Zy af x ps)=ps.flatten|[],_,_=>rfl|p::ps,_,x=>by have h:=M9 ps x (XM x);unfold Zh at h |-;rw[Zy,ZW,UF,UF,h];rfl
theorem Q0T{R:List Rn}{r:Rn}{ps:List (List UInt8)}(a5:Zg ps)(a6:r.tx.data.toList=ps.flatten)(a0:r.af=Qf)(J:0<=r.el.I/\r.el.I+ps.length<9223372036854775807)(hz:r.el.s≠Qf.s){I:List Q4}{gone:List Id}(a2:∀e∈Qx R,e.id.s≠r.el.s)(a4:r.el.s∈I)(a1:∀x∈gone,x.s=r.el.s->x.I<r.el.I){O:List Nd}(a3:∀n∈O,n.2∈Qx R->Vy I gone n.2=true)(Q:JL Id.Lt El.id El.af Qf (ZP (Qx (R++[r]))) O):Xb I gone O=Zy r.af r.el ps/\Zh (Xb I gone O)=ps.flatten:=by
 have hF:Qx (R++[r])=Qx R++Zy r.af r.el ps:=by rw[BM,a6,Ev a5]
 rw[hF] at Q
 have Z:∀e∈Zy r.af r.el ps,ZP (Qx R++Zy r.af r.el ps) e:=λe U=>by
  obtain⟨j,X,Y⟩:=FE ps r.af r.el J.2 e U;refine⟨?_,λh=>hz ?_⟩
  ·unfold XK
   rw[GR,GL.2 (λg hg=>by
    simp only[XD];intro D
    exact a2 g hg (by rw[D,j])),Option.none_or]
   exact M7 ps r.af r.el J.2 e U
  rw[<-j,h]
 have key:Xb I gone O=Zy r.af r.el ps:=by
  unfold Xb els;refine Q0S Zv (Ex _) Q (q:=[]) (x:=Qf) .root (by rw[a0];exact M8 ps Qf r.el) Z λn W=>?_;have hm:=UN ((Q.2 n).1 W).1.1;constructor
  ·intro h;rcases Qq.1 hm with j|j;·rw[a3 n W j] at h;cases h
   exact j
  intro h;obtain⟨j,X,Y⟩:=FE ps r.af r.el J.2 _ h;unfold Vy;rw[Bool.not_eq_true',Bool.or_eq_false_iff];refine⟨Zo λD=>D (by rw[j];exact a4),Zo λD=>?_⟩;have:=a1 _ D j;omega
 exact⟨key,by rw[key];exact M9 ps r.af r.el⟩
end
section
structure K4(C:List Q1)(h:Q1):Prop where
 un:h.un=Qf.s
 new:∀g∈C,g.s.T<h.s.T
 pos:∀g∈C,0<g.s.T
 kind:∀o∈h.ops,o.k=3\/o.k=4
 dots:∀o∈h.ops,o.dots=[]
theorem Ma{l H:List Qm}{x:Qm}(h:EM l H)(E:∀g∈l,g.nm.Lt x.nm):EM (l++[x]) (H++[x]):=by
 have hm:∀a∈H,a∈l:=λa D=>Fb ((h.2 a).1 D);refine⟨GJ.2 ⟨h.1,GI _ _,λa D b hb=>?_⟩,λa=>?_⟩;·rw[Qw.1 hb];exact E a (hm a D)
 rw[DV,Qq,Qw,h.2 a];constructor
 ·rintro(j|j);·exact .inl j
  exact .inr ⟨j,λg I e=>YE.irrefl x.nm (e▸E g I)⟩
 rintro(j|j);·exact .inl j
 exact .inr j.1
theorem Mb{H:List Qm}{x:Qm}(h:∀g∈H,x.un≠g.nm):Gq (H++[x])=Gq H++[x.nm]:=by
 unfold Gq;rw[Dk,List.reverse_singleton,O9];have e:ZL [] (x::H.reverse)=x::ZL [] H.reverse:=by show ZL ([]++[x]) H.reverse=_;exact Ws x [] H.reverse (λg j=>h g (GK.1 j))
 rw[e,ZW,B0]
theorem Q0U{C:List Q1}{h:Q1}(E:K4 C h){L I:List Q4}(U:Jx (C.map Y4) L)(W:Jx ((C++[h]).map Y4) I):I=L++[h.s]:=by
 obtain⟨H,Q,rfl⟩:=U;refine W.same ⟨H++[Y4 h],?_,?_⟩;·rw[ZC];refine Ma Q λg D=>?_;obtain⟨a,j,rfl⟩:=QZ.1 D;exact .inl (E.new a j)
 symm;refine Mb λg D e=>?_;obtain⟨a,j,rfl⟩:=QZ.1 (Fb ((Q.2 g).1 D));have:=E.pos a j;have J:h.un=a.s:=e;rw[E.un] at J;rw[<-J] at this;exact absurd this (by decide)
theorem Q0V{L j:List Q4}:∀{C:List Q1}{S:VS},(∀g∈C,decide (g.s∈j)=decide (g.s∈L))->Yr j C S=Yr L C S:=by
 intro C
 induction C using JQ with
 |D=>intro S _;rfl
 |E C g E=>intro S h;rw[Gr,Gr,E (λx D=>h x (Qq.2 (.inl D))),h g (by simp)]
theorem Mc(s:Q4):∀(l:List Qt)(k:Nat)(S:VS),(∀o∈l,o.k=3\/o.k=4)->(∀o∈l,o.dots=[])->X0 s true k l S={ S with hv:=S.hv++l.map (λo=>(⟨o.node,s⟩:QP)) }
 |[],_,S,_,_=>by simp[X0]
 |o::l,k,S,D,j=>by
  have I:=D o (XT ..);have E:=j o (XT ..);have e:Z0 s true k o S={ S with hv:=S.hv++[⟨o.node,s⟩] }:=by unfold Z0;rw[Q6 (by omega),Q6 (by omega),Q7 ⟨rfl,by omega⟩,Q7 rfl,Q6 (by omega),E];simp
  rw[X0,e,Mc s l (k+1) _ (λx h=>D x (X2 _ h)) (λx h=>j x (X2 _ h))];simp
theorem Md{C:List Q1}{h:Q1}(E:K4 C h){L:List Q4}{g:Q1}(D:g∈C):g.s∈L++[h.s]↔g.s∈L:=by
 rw[Qq,Qw];constructor
 ·rintro(j|j);·exact j
  have:=E.new g D;rw[j] at this;omega
 exact .inl
theorem Q0W{C:List Q1}{h:Q1}(j:K4 C h)(L:List Q4):Yr (L++[h.s]) (C++[h]) S0={ Yr L C S0 with hv:=(Yr L C S0).hv++h.ops.map (λo=>(⟨o.node,h.s⟩:QP)) }:=by rw[Gr,Q0V (L:=L) (λg D=>Eb.2 (Md j D)),QF (by simp),Mc _ _ _ _ j.kind j.dots]
theorem Q0X{hv gn E:List QP}(hm:∀d∈E,Yb hv gn hv.length d.n)(y:Id):Yb (hv++E) gn (hv++E).length y↔Yb hv gn hv.length y:=by
 unfold Yb at *;simp only[X6] at *;constructor
 ·rintro⟨d,D,j,rfl⟩;rcases Qq.1 D with h|h;·exact⟨d,h,j,rfl⟩
  have:=hm d h;exact this
 rintro⟨d,D,j,h⟩;exact⟨d,Qq.2 (.inl D),j,h⟩
theorem Me{C:List Q1}{h:Q1}(E:K4 C h)(L:List Q4)(x:Id):Xy (L++[h.s]) (C++[h]) x=Xy L C x++h.ops.flatMap (Ys x true):=by
 rw[LH,QF (by simp)];congr 1;unfold Xy
 have:∀D:List Q1,(∀g∈D,g∈C)->D.flatMap (λg=>g.ops.flatMap (Ys x (decide (g.s∈L++[h.s]))))=D.flatMap (λg=>g.ops.flatMap (Ys x (decide (g.s∈L)))):=by
  intro D
  induction D with
  |nil=>intro _;rfl
  |cons g D J=>intro j;rw[XA,XA,J (λy I=>j y (X2 _ I)),Eb.2 (Md E (j g (XT ..)))]
 exact this C (λ_ h=>h)
section
variable {R:List Rn} {r:Rn} {O O':List Nd}
theorem Q0Y{s:Q4}(U:∀e∈Qx R,e.id.s≠s/\e.af.s≠s){F:List El}(J:∀e∈F,e∈Qx R\/e.id.s=s)(Q:∀e,ZP F e->e∈Qx R->ZP (Qx R) e):∀{q:List Id}{x:Id},Jh El.id El.af Qf (ZP F) q x->x.s≠s->Jh El.id El.af Qf (ZP (Qx R)) q x:=by
 intro q x h
 induction h with
 |root=>intro _;exact .root
 |step p e x y Y I D E X=>
  intro W
  have hm:e∈Qx R:=by
   rcases J e (Vv I) with j|j;·exact j
   rw[E] at j;exact absurd j W
  exact .step p e x y (X (by rw[<-D];exact(U e hm).2)) (Q e I hm) D E
end
theorem Q0Z{D E:List Q4}{gone j:List Id}{O:List Nd}(h:∀n∈O,Vy E j n.2=Vy D gone n.2):Xb E j O=Xb D gone O:=by unfold Xb els;refine List.filter_congr λe I=>?_;obtain⟨n,J,rfl⟩:=QZ.1 I;rw[h n J]
theorem Mf{F:List El}{O O':List Nd}(h:JL Id.Lt El.id El.af Qf (ZP F) O)(j:JL Id.Lt El.id El.af Qf (ZP F) O'):O'=O:=
 I7 Zv j.1 h.1 λn=>(j.2 n).trans (h.2 n).symm
theorem Mg{R:List Rn}{r:Rn}:Qx (R++[r])=Qx R++Zy r.af r.el (Yx r.tx.data.toList):=BM R r
theorem Q10{C:List Q1}{h:Q1}(U:K4 C h){L:List Q4}{x:Id}(E:∀e∈Qx (Za C x),e.id.s≠h.s)(Q:h.ops.flatMap (Zu x)=[])(I:h.ops.flatMap (Ys x true)=[]){O O':List Nd}(j:JL Id.Lt El.id El.af Qf (ZP (Qx (Za C x))) O)(D:JL Id.Lt El.id El.af Qf (ZP (Qx (Za (C++[h]) x))) O'):Xb (L++[h.s]) (Xy (L++[h.s]) (C++[h]) x) O'=Xb L (Xy L C x) O:=by rw[Cw,Q,ZB] at D;rw[Me U,I,ZB,Mf j D];refine Q0Z λn J=>?_;have:=E n.2 (Vv ((j.2 n).1 J).1);unfold Vy;rw[Eb.2 (show n.2.id.s∉L++[h.s]↔n.2.id.s∉L by rw[Qq,Qw];simp[this])]
theorem Q11{C:List Q1}{h:Q1}(hw:K4 C h){L:List Q4}{x:Id}(Q:∀e∈Qx (Za C x),e.id.s≠h.s/\e.af.s≠h.s){r:Rn}{G:List Id}(hr:h.ops.flatMap (Zu x)=[r])(hg:h.ops.flatMap (Ys x true)=G){O O':List Nd}(Z:JL Id.Lt El.id El.af Qf (ZP (Qx (Za C x))) O)(U:JL Id.Lt El.id El.af Qf (ZP (Qx (Za (C++[h]) x))) O')(X:∀y,y∈G↔y∈(Xb L (Xy L C x) O).map El.id){ps:List (List UInt8)}(a3:Zg ps)(a4:r.tx.data.toList=ps.flatten)(a6:r.af=Qf)(I:r.el.s=h.s)(Y:0<=r.el.I/\r.el.I+ps.length<9223372036854775807)(hz:h.s≠Qf.s)(a7:∀y∈Xy L C x,y.s≠h.s):Xb (L++[h.s]) (Xy (L++[h.s]) (C++[h]) x) O'=Zy r.af r.el ps/\Zh (Xb (L++[h.s]) (Xy (L++[h.s]) (C++[h]) x) O')=ps.flatten:=by
 rw[Cw,hr] at U;rw[Me hw,hg];have a2:∀n∈O,n.2.id.s≠h.s:=λn J=>(Q n.2 (Vv ((Z.2 n).1 J).1)).1;have a5:∀y∈G,y.s≠h.s:=λy W=>by obtain⟨e,D,rfl⟩:=QZ.1 ((X y).1 W);unfold Xb els at D;obtain⟨n,J,rfl⟩:=QZ.1 (V5.1 D).1;exact a2 n J
 refine Q0T a3 a4 a6 Y (by rw[I];exact hz) (λe D=>by rw[I];exact(Q e D).1) (by rw[I];simp) (λy W e=>?_) (λn J hm=>?_) U
 ·rw[I] at e;rcases Qq.1 W with j|j;·exact absurd e (a7 y j)
  exact absurd e (a5 y j)
 obtain⟨hc,q,hq,e1⟩:=(U.2 n).1 J
 have a0:∀e,ZP (Qx (Za C x++[r])) e->e∈Qx (Za C x)->ZP (Qx (Za C x)) e:=λe D hm=>by
  refine⟨?_,D.2⟩
  have j:=D.1
  unfold XK at j |-
  rw[Mg,GR] at j
  cases E:(Qx (Za C x)).find? (λg=>decide (g.id=e.id)) with
  |none=>exact absurd (GL.1 E e hm) (by simp)
  |some g=>rw[E] at j;exact j
 have hF:∀e∈Qx (Za C x++[r]),e∈Qx (Za C x)\/e.id.s=h.s:=λe D=>by
  rw[Mg,a4,Ev a3] at D;rcases Qq.1 D with j|j;·exact .inl j
  exact .inr ((FE ps r.af r.el Y.2 e j).1.trans I)
 have a1:=(Z.2 n).2 ⟨a0 _ hc hm,q,Q0Y Q hF a0 hq (Q n.2 hm).2,e1⟩;unfold Vy;by_cases j:n.2.id.s∈L
 ·by_cases E:n.2.id∈Xy L C x;·simp[E]
  have h3:n.2.id∈G:=(X _).2 (QZ.2 ⟨n.2,by
   unfold Xb els
   exact V5.2 ⟨QZ.2 ⟨n,a1,rfl⟩,by unfold Vy;simp[j,E]⟩,rfl⟩)
  simp[h3]
 have:=a2 n a1;simp[j,this]
end
section
open Go
theorem Mh(fo:Id->Option Q2):∀(L P:List Id),L.Nodup->∀i (h:i<L.length),K3 fo P L L[i]=some (JT fo (P++L.take i) L[i])
 |[],_,_,i,h=>absurd h (by simp)
 |a::L,P,D,0,_=>by show(if a=a then some (JT fo P a) else _)=_;rw[Q7 rfl];simp
 |a::L,P,D,i+1,h=>by
  have E:=GS.1 D;have j:i<L.length:=by simpa using h
  show(if L[i]=a then _ else K3 fo (P++[a]) L L[i])=_;rw[Q6 (λe:L[i]=a=>E.1 (by rw[<-e];exact Zt j)),Mh fo L (P++[a]) E.2 i j];simp
theorem Mi{L:List Id}(h:L.Pairwise Id.Lt):L.Nodup:=List.Pairwise.imp (λ{a b:Id}(h:Id.Lt a b)(e:a=b)=>Zv.irrefl a (by rw[<-e] at h;exact h)) h
theorem Mj{fo:Id->Option Q2}{L:List Id}(Q:L.Pairwise Id.Lt){x:Id}(U:x∈L):∃P,Jy fo L x=some (JT fo P x)/\∀y,y∈P↔y∈L/\y.Lt x:=by
 obtain⟨i,D,rfl⟩:=U9.1 U;refine⟨L.take i,by unfold Jy;rw[Mh fo L [] (Mi Q) i D];simp,λy=>?_⟩;have O:=De.1 Q;constructor;·intro I;obtain⟨j,E,rfl⟩:=U9.1 I;rw[Zi] at E;rw[List.getElem_take];exact⟨Zt _,O j i (by omega) D (by omega)⟩
 rintro⟨I,J⟩;obtain⟨j,E,rfl⟩:=U9.1 I
 have W:j<i:=by
  rcases Nat.lt_trichotomy j i with h|h|h;·exact h
  ·subst h;exact absurd J (Zv.irrefl _)
  exact absurd (Zv.trans _ _ _ J (O i j D E h)) (Zv.irrefl _)
 exact U9.2 ⟨j,by rw[Zi];omega,by rw[List.getElem_take]⟩
def VX(fo:Id->Option Q2)(x:Id):List UInt8:=match fo x with|none=>[]|some q=>q.nm.data.toList
def I8(fo:Id->Option Q2)(L:List Id)(x:Id):List UInt8:=((Jy fo L x).getD ⟨#[]⟩).data.toList
theorem Gv(l:List UInt8):(Q8 l).data.toList=l:=Yw l
theorem Mk{fo:Id->Option Q2}{x y:Id}{q r:Q2}(Q:fo x=some q)(U:fo y=some r):JS fo y=some (q.pa,q.nm)↔VE fo y=VE fo x/\VX fo y=VX fo x:=by
 unfold JS VE VX;rw[Q,U];constructor;·intro h;have j:=Jr h;have E:=Xz Prod.fst j;have I:=Xz Prod.snd j;dsimp only at E I |-;rw[E,I];exact⟨rfl,rfl⟩
 rintro⟨j,O⟩;dsimp only at j O;have I:r.nm=q.nm:=by have:=Xz Q8 O;rwa [UK,UK] at this
 have E:r.pa=q.pa:=by
  by_cases J:r.pa=Qf
  ·by_cases D:q.pa=Qf;·rw[J,D]
   rw[Q7 J,Q6 D] at j;cases j
  by_cases D:q.pa=Qf;·rw[Q6 J,Q7 D] at j;cases j
  rw[Q6 J,Q6 D] at j;exact Jr j
 show some (r.pa,r.nm)=_;rw[E,I]
theorem I9{fo:Id->Option Q2}{L:List Id}(Z:L.Pairwise Id.Lt)(I:∀y∈L,∃q,fo y=some q):TopTree.Named (VE fo) (VX fo) (I8 fo L) YG Id.Lt (·∈L):=by
 intro x W;obtain⟨P,X,O⟩:=Mj (fo:=fo) Z W;obtain⟨q,D⟩:=I x W;have U:VX fo x=q.nm.data.toList:=by unfold VX;rw[D]
 have key:(∃y∈P,JS fo y=some (q.pa,q.nm))↔∃y,y∈L/\y.Lt x/\VE fo y=VE fo x/\VX fo y=VX fo x:=by
  constructor;·rintro⟨y,hy,e⟩;obtain⟨j,E⟩:=(O y).1 hy;obtain⟨r,J⟩:=I y j;exact⟨y,j,E,(Mk D J).1 e⟩
  rintro⟨y,j,E,Y⟩;obtain⟨r,J⟩:=I y j;exact⟨y,(O y).2 ⟨j,E⟩,(Mk D J).2 Y⟩
 have Q:I8 fo L x=(JT fo P x).data.toList:=by unfold I8;rw[X];rfl
 by_cases j:∃y∈P,JS fo y=some (q.pa,q.nm);·refine .inl ⟨key.1 j,?_⟩;rw[Q,I5 D j,Gv,U];rfl
 refine .inr ⟨λh=>j (key.2 h),?_⟩;rw[Q,I4 D j,U]
theorem Q12{x y:Id}(j:YA x)(D:YA y)(h:YG x=YG y):x=y:=by
 obtain⟨W,X,Y,Z,a5,a6⟩:=j;obtain⟨b1,b2,b3,b4,b5,b6⟩:=D;unfold YG at h;obtain⟨e1,e2,e3⟩:=TopTree.idText_inj h;obtain⟨⟨J,I,_,_⟩,E,_⟩:=x;obtain⟨⟨U,Q,_,_⟩,O,_⟩:=y;dsimp only at *;obtain rfl:J=U:=by omega
 obtain rfl:I=Q:=by omega
 obtain rfl:E=O:=by omega
 rfl
theorem Q13{fo:Id->Option Q2}{L:List Id}(hs:L.Pairwise Id.Lt)(E:∀y∈L,YA y/\∃q,fo y=some q/\XI q.nm.data.toList=true){x y:Id}{l m:List Id}(hx:XY fo x l)(Q:XY fo y m)(Y:∀z∈l,z∈L)(hm:∀z∈m,z∈L)(h:ES (Jy fo L) l=ES (Jy fo L) m):x=y:=by
 have J:∀z∈L,(47:UInt8)∉VX fo z/\(126:UInt8)∉VX fo z:=λz D=>by obtain⟨_,q,O,Z⟩:=E z D;unfold VX;rw[O];exact S8 Z
 have U:=I9 (fo:=fo) hs (λy Q=>by obtain⟨_,q,O,_⟩:=E y Q;exact⟨q,O⟩);refine TopTree.paths_unlike U (λa b X=>?_) (λz D=>(J z D).2) (λa b W hb e=>Q12 (E a W).1 (E b hb).1 e) (λz D=>?_) hx.way Q.way Y hm ?_
 ·rcases Zv.total a b with j|j|j;·exact .inl j
  ·exact absurd j X
  exact .inr j
 ·rcases U z D with⟨_,e⟩|⟨_,e⟩
  ·rw[e];intro hm;rcases Qq.1 hm with j|j;·exact(J z D).1 j
   rcases QI.1 j with I|I;·cases I
   exact TopTree.idText_no (by decide) I
  rw[e];exact(J z D).1
 rw[List.map_reverse,List.map_reverse];exact h
end
section
open Go Go.RowKit Go.Maps Go.Sort
structure QE where
 nd:Id
 path:ByteArray
 dir:Bool
 back:Bool
deriving DecidableEq
def ZV(a:QE):List Value:=[a.nd.s.T,a.nd.s.R,a.nd.I,.string a.path,.bool a.dir,.bool a.back]
theorem Ia(x:QE):∀u∈ZV x,u.oneCell'=true:=by intro u h;simp[ZV] at h;rcases h with rfl|rfl|rfl|rfl|rfl|rfl<;>rfl
def Ve(a b:ByteArray):Int:=if Op.bytesLess a.toList b.toList then -1 else if a.toList==b.toList then 0 else 1
theorem Q14(a b:ByteArray)(w:World):Calls Tryz.prog 92 #[.string a,.string b] w λe w'=>e=.returned (.int .i64 (Ve a b))/\Q0 w w':=by
 obtain⟨lt,E⟩:∃x,Op.bytesLess a.toList b.toList=x:=⟨_,rfl⟩;obtain⟨j,D⟩:∃x,(a.toList==b.toList)=x:=⟨_,rfl⟩;have h:=Ki (show Ve a b=if lt then -1 else if j then 0 else 1 by unfold Ve;rw[E,D]);go_enter Tryz.func92,Tryz.ntmps92;rcases lt with _|_
 ·rcases j with _|_;·go_wp2;go_ret;exact⟨by rw[h.o];rfl,Q0.refl _⟩
  go_wp2;go_ret;exact⟨by rw[h.o];rfl,Q0.refl _⟩
 go_wp2;go_ret;exact⟨by rw[h.o];rfl,Q0.refl _⟩
def FF(a b:QE):Int:=Ve a.path b.path
theorem Q15(a b:QE)(w:World):Calls Tryz.prog 91 #[.agg (ZV a).toArray,.agg (ZV b).toArray] w λe w'=>e=.returned (.int .i64 (FF a b))/\Q0 w w':=by
 have H:=Ki (λW=>Q14 a.path b.path W);have J:=Kj (FF a b=Ve a.path b.path) rfl;generalize FF a b=z at *;generalize Ve a.path b.path=y at *;unfold ZV;go_enter Tryz.func91,Tryz.ntmps91;go_upto_region 1 with(fail);obtain⟨j,h⟩:∃W,(w.alloc (.cells #[a.nd.s.T,a.nd.s.R,a.nd.I,.string a.path,.bool a.dir,.bool a.back] 65)).alloc (.cells #[b.nd.s.T,b.nd.s.R,b.nd.I,.string b.path,.bool b.dir,.bool b.back] 65)=W:=⟨_,rfl⟩;have U:Q0 w j:=by rw[<-h];exact((Q0.refl w).alloc _).alloc _
 have D:j.heap[w.heap.size]?=some (.cells #[a.nd.s.T,a.nd.s.R,a.nd.I,.string a.path,.bool a.dir,.bool a.back] 65 (0,0)):=by rw[<-h];(simp only[Zs,Qy,reduceIte];repeat (first|rw[Q7 (by omega)]|rw[Q6 (by omega)]))
 have E:j.heap[w.heap.size+1]?=some (.cells #[b.nd.s.T,b.nd.s.R,b.nd.I,.string b.path,.bool b.dir,.bool b.back] 65 (0,0)):=by rw[<-h];(simp only[Zs,Qy,reduceIte];repeat (first|rw[Q7 (by omega)]|rw[Q6 (by omega)]))
 rw[h];have O:=cr3 D;have Q:=cr3 E;clear h D E;go_wp2_with fail;refine(H.o j).mono ?_;rintro Z Y ⟨rfl,I⟩;have X:=U.trans I;clear I O Q;go_wp2;go_ret;exact⟨by rw[J.o];rfl,X⟩
theorem Ml(a b:ByteArray):Op.bytesLess a.toList b.toList=true↔a.toList<b.toList:=by rw[bytesLess_eq];exact decide_eq_true_iff
theorem KL(a b:ByteArray):Ve a b<0↔a.toList<b.toList:=by
 unfold Ve;by_cases h:Op.bytesLess a.toList b.toList=true;·rw[Q7 h];exact⟨λ_=>(Ml a b).1 h,λ_=>by decide⟩
 rw[Q6 h];refine⟨λj=>?_,λj=>absurd ((Ml a b).2 j) h⟩;split at j<;>omega
theorem KM:Je (λa b:List UInt8=>a<b) where
 irrefl a:=List.lt_irrefl a
 trans a b c h k:=List.lt_trans h k
 total a b:=by
  by_cases j:a<b;·exact .inl j
  by_cases D:b<a;·exact .inr (.inr D)
  exact .inr (.inl (List.le_antisymm (List.not_lt.1 D) (List.not_lt.1 j)))
theorem Q16:SWO (Go.Proofs.ltOf Ve) where
 irrefl x:=by
  rcases h:Go.Proofs.ltOf Ve x x with _|_;·rfl
  exact absurd ((KL x x).1 (Y0 h)) (KM.irrefl _)
 trans x y z h1 h2:=QF ((KL x z).2 (KM.trans _ _ _ ((KL x y).1 (Y0 h1)) ((KL y z).1 (Y0 h2))))
 ntrans x y z h1 h2:=by
  have I:¬x.toList<y.toList:=λh=>by rw[show Go.Proofs.ltOf Ve x y=true from QF ((KL x y).2 h)] at h1;cases h1
  have E:¬y.toList<z.toList:=λh=>by rw[show Go.Proofs.ltOf Ve y z=true from QF ((KL y z).2 h)] at h2;cases h2
  rcases h:Go.Proofs.ltOf Ve x z with _|_;·rfl
  exfalso;have D:=(KL x z).1 (Y0 h);rcases KM.total x.toList y.toList with j|j|j;·exact I j
  ·rw[j] at D;exact E D
  exact E (KM.trans _ _ _ j D)
instance : Inhabited QE:=⟨⟨Qf,⟨#[]⟩,false,false⟩⟩
theorem Q17(xs:List QE)(v:Value)(base:Nat)(w:World)(j:w.ownsRow base 65 6 v xs.length (xs.flatMap ZV))(D:xs.length<4611686018427387904):Calls Tryz.prog 90 #[v,.func (.func 91) #[] #[]] w λr w'=>r=.returned (.tuple #[])/\∃h:List QE,h.Perm xs/\h.Pairwise (λa b=>¬FF b a<0)/\w'.ownsRow base 65 6 v h.length (h.flatMap ZV)/\Go.RowKit.Below base w w':=
 Ey Tryz.laysSlF06_f90 6 Tryz.isAgg65 Tryz.sizeOf65 ZV (λ_=>rfl) Ia FF (EA Q16 QE.path) 91 #[] (G6 Tryz.func91 (by kernel_rfl) rfl) (λx y W=>Q15 x y W) xs v 65 base w j D
end
section
open Go Go.RowKit Go.Maps
def KN(fo:Id->Option Q2)(D j:List Id)(h:QE):Prop:=∃l,XY fo h.nd l/\h.path=Q8 (ES (Jy fo j) l)/\h.dir=Us fo h.nd/\h.back=!decide (h.nd∈D)
def Ib(fo:Id->Option Q2)(j h:List Id):Prop:=h.Pairwise Id.Lt/\∀y,y∈h↔∃x∈j,∃l,XY fo x l/\y∈l
def CC(L:List Q2)(D:List Id)(I:List QE):Prop:=∃h,Ib (Yz L) D h/\I.Pairwise (λa b=>a.path.toList<b.path.toList)/\∀j,j∈I↔j.nd∈h/\KN (Yz L) D h j
theorem Q18{L:List Q2}{O:List Id}{I J:List QE}(h:CC L O I)(k:CC L O J):I=J:=by obtain⟨Y,j,Q,U⟩:=h;obtain⟨Z,E,W,X⟩:=k;obtain rfl:=Bk Zv j.1 E.1 (λy=>(j.2 y).trans (E.2 y).symm);exact Fc (lt:=λa b:QE=>a.path.toList<b.path.toList) (λa=>KM.irrefl _) (λa b c=>KM.trans _ _ _) Q W (λD=>(U D).trans (X D).symm)
theorem Ic{fo:Id->Option Q2}{D j:List Id}{a b:QE}(h:KN fo D j a)(k:KN fo D j b)(e:a.nd=b.nd):a=b:=by obtain⟨l,E,I,J,O⟩:=h;obtain⟨m,Q,U,W,X⟩:=k;obtain⟨an,ap,Z,Y⟩:=a;obtain⟨bn,bp,bd,bb⟩:=b;dsimp only at *;subst e;obtain rfl:=FB E Q;rw[I,J,O,U,W,X]
def Mm(fo:Id->Option Q2)(Q J:List Id)(j:World)(U r E:Nat)(D:DataW Unit)(v:Value)(wr:World):Prop:=
 ∃left cnt h,∃I:List QE,wr.ranges Tryz.prog 60 (Z7 XN) U r E D left cnt/\Yo Ze D left h/\h.length+cnt<=E/\I.map QE.nd=h/\(∀O∈I,KN fo Q J O)/\wr.ownsRow j 65 6 v h.length (I.flatMap ZV)/\Below j j wr
def Q19(L:List Q2)(h:List Id)(w:World)(e:Ending)(w':World):Prop:=
 ∃(v:Value)(I:List QE),e=.returned v/\w'.ownsRow w 65 6 v I.length (I.flatMap ZV)/\CC L h I/\I.length<=L.length/\Below w w w'
theorem Q1a(a b c h j c':Int)(s:ByteArray)(d:Bool)(w:World):(Instr.field 124 (.agg #[a,b,c,h,j,c',.string s,.bool d]) 3).run Tryz.prog w=.ok (.bool d) w:=by kernel_rfl
theorem Mn:(Tryz.prog.info? 65).map (λi=>(i.zero,i.size,i.bytes))=some (some (.agg #[(0:Int),(0:Int),(0:Int),.string ⟨#[]⟩,.bool false,.bool false]),6,48):=by kernel_rfl
theorem Q1b{fo:Id->Option Q2}{Z D:List Id}(Y:Ib fo Z D)(hf:∀y∈D,YA y/\∃q,fo y=some q/\XI q.nm.data.toList=true){I U:List QE}(J:U.Perm I)(hn:(I.map QE.nd).Nodup)(O:∀j∈I,KN fo Z D j)(hm:∀x,x∈I.map QE.nd↔x∈D)(ho:U.Pairwise (λa b=>¬FF b a<0)):U.Pairwise (λa b=>a.path.toList<b.path.toList)/\∀j,j∈U↔j.nd∈D/\KN fo Z D j:=by
 have a6:=((J.map QE.nd).nodup_iff).2 hn;have a3:∀x∈D,∀l,XY fo x l->∀z∈l,z∈D:=λx hx l hl z hz=>by obtain⟨y,hy,m,a2,a7⟩:=(Y.2 x).1 hx;obtain⟨m1,X,h3⟩:=a2.from _ a7;obtain rfl:=FB X hl;exact(Y.2 z).2 ⟨y,hy,m,a2,h3.subset hz⟩
 refine⟨?_,λj=>⟨λh=>?_,λ⟨W,X⟩=>?_⟩⟩
 ·have W:=UE.1 a6;refine List.Pairwise.imp_of_mem (λ{a b} Q hb h=>?_) (W.and ho);obtain⟨a5,a4⟩:=h;have a0:=J.mem_iff.1 Q;have a1:=J.mem_iff.1 hb;rcases KM.total a.path.toList b.path.toList with E|E|E;·exact E
  ·exfalso;obtain⟨l,k1,k2,_⟩:=O a a0;obtain⟨m,k3,k4,_⟩:=O b a1;have ma:=(hm a.nd).1 (QZ.2 ⟨a,a0,rfl⟩);have mb:=(hm b.nd).1 (QZ.2 ⟨b,a1,rfl⟩);refine a5 (Q13 Y.1 hf k1 k3 (a3 _ ma l k1) (a3 _ mb m k3) ?_);rw[k2,k4,Jb,Jb,Yw,Yw] at E;exact E
  exact absurd ((KL b.path a.path).2 E) a4
 ·have h':=J.mem_iff.1 h;exact⟨(hm j.nd).1 (QZ.2 ⟨j,h',rfl⟩),O j h'⟩
 obtain⟨a,Q,e⟩:=QZ.1 ((hm j.nd).2 W);rw[<-Ic (O a Q) X e];exact J.mem_iff.2 Q
theorem Q1c{fo:Id->Option Q2}{L:List Id}{x:Id}{q:Q2}(I:YA x)(D:fo x=some q)(j:XI q.nm.data.toList=true):(JT fo L x).size<=100:=by
 have J:q.nm.data.toList.length<=32:=by unfold XI at j;simp only[ZJ,XD] at j;exact j.1.1.1.2
 have E:∀b:ByteArray,b.size=b.data.toList.length:=λb=>by rw[Array.length_toList];rfl
 by_cases h:∃y∈L,JS fo y=some (q.pa,q.nm);·rw[I5 D h,E,Gv];unfold KH;have:=LS I;rw[Qj,Z4];omega
 rw[I4 D h,E];omega
theorem Q1d(L:List Q2)(Z:List Id)(A A':Option Addr)(n c n' c' B:Nat)(w:World)(hR:Rd w B 8 (.slice A n c) n (L.flatMap Qb))(aH:Rd w B 3 (.slice A' n' c') n' (Z.flatMap Qe))(hB:B<=w)(hn:n<=1000)(bx:n'<=1000)(bE:∀q∈L,q.nm.size<=1000000)(bC:∀q∈L,YA q.nd):Calls Tryz.prog 49 #[.slice A n c,.slice A' n' c'] w (Q19 L Z w):=by
 obtain rfl:=QL Qb 8 (λ_=>rfl) (by decide) hR.1;obtain rfl:=QL Qe 3 (λ_=>rfl) (by decide) aH.1;have c5:=Ki (Q0h L Z A A' _ c _ c' B w hR aH hB (by omega) (by omega) bE);have c0:=Ki bC;clear hR aH bE bC;obtain⟨i0,hi,z0,z1,z2⟩:=Zc Mn;go_enter Tryz.func49,Tryz.ntmps49;go_wp2_with fail;refine c5.o.mono ?_;rintro e1 w1 ⟨p,mo,ml,E,ma,no,cr,rfl,ar,bk⟩;obtain⟨fo,av⟩:∃f,Yz L=f:=⟨_,rfl⟩;have bg:∀y q,fo y=some q->YA y/\XI q.nm.data.toList=true:=λy q h=>by rw[<-av] at h;obtain⟨J,h2,_,h4⟩:=LC L y q h;exact⟨J▸c0.o q h2,h4⟩
 have b3:=Ki av;rw[av] at ar;have b4:=Ki bg;have aY:=Ki ar.base_le;have bR:=Ki (Q0t Z (by rw[LA];exact ar) (by omega) (w:=w1));have aU:=Ki bk;clear ar bk bg av;go_wp2_with fail;refine bR.o.mono ?_;rintro e2 w2 ⟨sl,rfl,ak,aI,bF⟩;have hb2:Below w w w2:=aU.o.trans (bF.below aU.o.size (λx hx e=>by have:=aY.o.2.2.2.1;omega));have bZ:=Ki ak;have cw:sl.length<=no:=by obtain⟨Do,ad,aF⟩:=aI.of;exact Q9 (EQ ad aF ak.1 ak.2.1) (Gt ad)
 have aV:=Ki hb2
 have ap:=Ki (show ∀y∈sl,YA y/\∃q,fo y=some q/\XI q.nm.data.toList=true from λy hy=>by
  have h:=ak.2.1 y hy
  cases Y:fo y with
  |none=>rw[Y] at h;cases h
  |some q=>exact⟨(b4.o y q Y).1,q,rfl,(b4.o y q Y).2⟩)
 have bS:=Ki (Q0M sl aI (by omega) (by omega) ap.o);clear ak aI bF hb2;go_wp2_with fail;refine bS.o.mono ?_;rintro e3 I ⟨X,na,rfl,bD,aO,cq,ae,bG⟩;have bo:Below w w I:=aV.o.trans (bG.below aV.o.size (λx hx e=>by have:=aY.o.2.2.2.2;omega));have ab:=Kj (Ib fo Z X) ⟨bD,λy=>(aO y).trans (bZ.o.2.2 y)⟩;have a9:=Ki aO;have az:=Ki bo;obtain⟨a3,hD,hF⟩:=ae.seen;have HF:=Ki hF;have hN:=Gt hD;obtain⟨N,aG⟩:=ex (Maps.size a3);have ba:=Ki aG;rw[aG] at hN;have bd:=Ki (λW (hW:Below I I W)=>ae.below hW);have c2:=cr2 ae.box;have cj:=ae.lt;clear bD aO ae bG bo hF aG;go_upto_region 5 with(first|(at_len;refine wpList_len_own _ rfl _ 185 rfl 60 119 UA _ E sl.length a3 rfl hD ?_;rw[ba.o])|(at_make;refine wpList_make_own _ rfl _ _ 62 rfl I 65 i0 _ 6 Tryz.underlying62 hi z0 z1 .i64 .i64 _ N rfl rfl rfl (by rw[z2];omega) (by unfold maxLen;omega) (Q3 _) ?_;intro w4 bA a2));have ag:Below I I w4:=⟨a2.os,a2.tape,a2.output,a2.size,λk hk=>a2.block k hk (by simp)⟩;have bf:=hD.kept a2 (by simp);have aJ:=bd.o w4 ag;have d2:=cr2 aJ.box;have ck:=aJ.lt;have bb:=Ki bA;clear a2 aJ bA c2 cj hD;go_wp2_with (at_range;refine wpList_range_own _ rfl _ 185 rfl 60 119 Xp UA (Z7 XN) E sl.length a3 rfl bf ?_;intro W5 bB a7 cf);(try go_frame);have a5:Below w4 w4 W5:=⟨a7.os,a7.tape,a7.output,a7.size,λk hk=>a7.block k hk (by simp)⟩
 have aC:=Kj (Mm fo Z X I E w4 sl.length a3 (.slice (I.heap.size,0) 0 N) W5) ⟨_,_,[],[],bB,Yo.start _ a3,by rw[ba.o];simpa using hN,rfl,(λit h=>by cases h),QB bb.o a5,ag.trans (a5.mono ag.size)⟩;obtain⟨r,hr⟩:=ex (w4.heap.size);have bY:=Ki (hr▸ag.size);rw[hr] at aC |-;clear bB a7 cf a5 hr ag bf d2 ck bb;go_loopw [6] (λv wr=>Mm fo Z X I E r sl.length a3 v wr) (λ_ wr=>wr.rangeLeft E r);case atStart=>exact aC.o
 case round=>
  clear aC;obtain⟨left,cnt,O,a1,aj,hC,co,bj,bh,hO,hb⟩:=hrel;obtain⟨Av,cv,rfl,c6,c7⟩:=(Rd.of_own hO).form;have HC:=Ki hC;have HO:=Ki hO;have HB:=Ki hb;have am:=Ki bj;have b8:=Ki bh;have bq:=aj.left_eq;have aB:=Ki aj;obtain⟨wo,rfl⟩:∃wo:World,wo=wr:=⟨_,rfl⟩;clear hC hO hb c6 c7 bj bh;go_wp2_with (at_next;refine wpList_next_ranges _ rfl _ rfl 60 Xp (Z7 XN) Qa (λ_:Unit=>.agg #[]) (λkey kl hk=>by obtain⟨a,h,_⟩:=Va hk;exact⟨a,h⟩) (λv y hv=>⟨(),by obtain⟨a,rfl,_⟩:=Kt hv;rfl⟩) E r sl.length _ _ _ rfl aj ?_ ?_)
  ·intro cn bu;have HL:=Ki bu;have bi:O.length=a1.length:=(by rw[<-am.o,Xh]);have b9:=Ki bi;have c3:=Ki (Q17 a1 (.slice Av O.length cv) I wo (by rw[<-b9.o];exact HO.o) (by omega));clear aj aB bu bq bi;go_wp2_with fail;refine c3.o.mono ?_;rintro e5 W5 ⟨rfl,ys,hp,hs,ho,a5⟩;have HP:=Ki hp;have HS:=Ki hs;have bU:=Ki ho;have bI:=Ki (az.o.trans ((HB.o.trans a5).mono az.o.size));clear hp hs ho a5;go_wp2;go_ret;have hm:∀x,x∈a1.map QE.nd↔x∈X:=λx=>by rw[am.o,HC.o.2 x,HF.o.has x,Fz,HL.o,a9.o x];simp
   obtain⟨q1,q2⟩:=Q1b ab.o (λy hy=>ap.o y ((a9.o y).1 hy)) HP.o (by rw[am.o];exact HC.o.1) b8.o hm (HS.o.imp (λJ=>by omega));refine⟨_,ys,rfl,Yp bU.o az.o.size,⟨X,by rw[b3.o];exact ab.o,q1,by rw[b3.o];exact q2⟩,by rw[HP.o.length_eq,<-b9.o];omega,bI.o⟩
  intro d kl y yp w5 aD bt a8 hv af aS cd aM cg bs;obtain⟨x,e1,rfl⟩:=Va bt;obtain rfl:=Ks e1;have cu:=bY.o;have hb2:Below I I w5:=HB.o.grown aM HB.o.size (λbH hj=>by cases hj;omega)
  have bT:=Ki (HO.o.kept aM (by
   have:=(Cy aB.o HO.o).2
   cases h:(Value.slice Av O.length cv).ownBlock with
   |none=>exact .inl rfl
   |some c=>exact .inr (λe=>this (by rw[h];exact e))))
  have br:d∈X:=(by have J:=has_true_of_atKey af;rw[HF.o.has d,Fz,XD] at J;exact(a9.o d).2 J);have aZ:=Ki br;have bL:=Ki (HC.o.step XJ a8 af);have bX:=Ki aS;have ca:=aS.left_eq;have bP:=Ki (show aD<wo.rangeLeft E r by omega);have c8:(O++[d]).length+aD<=sl.length:=(by simp;omega);have aW:=Ki hb2;have c4:=Ki (bd.o w5 hb2);clear bt a8 hv af aS aj aM cg e1 HC HB bq cd aB hb2 ca HO br;unfold Qa at bs |-;go_upto_region 8 with(fail);obtain⟨W6,au⟩:∃W,w5.alloc (.cells d 60)=W:=⟨_,rfl⟩;have aL:=bl au;have h6:=bn au;rw[au];obtain⟨j,bp⟩:∃b,w5.heap.size=b:=⟨_,rfl⟩;have ac:=Ki (c4.o.below aL);have b5:=Ki aL;rw[bp] at h6 |-;have H6:=Ki h6;have x0:=cr0 h6;have x1:=cr1 h6;have x2:=cr2 h6;have c1:=cr1 ac.o.box;have cl:=ac.o.lt;have aT:=(Q5.1 h6).1;have a8:=(ac.o.drew.live.look UR UA () Fp d).2;have aN:=((ac.o.below ((Qc _ W6).alloc (Q3 _) (.cells #[] 119))).drew.live.look UR UA () Fp d).2;obtain⟨Q,ay⟩:∃b,(Xk Z d).isSome=b:=⟨_,rfl⟩;rw[ay] at a8 aN;rw[Fz] at ay;have bQ:=Ki ay;unfold Qa XN at a8 aN;clear au aL h6 bp ay bs;go_region
  all_goals
   obtain⟨W7,aK⟩:∃W,(W6.alloc (.cells #[] 119)).drew=W:=⟨_,rfl⟩;have ah:Below W6 W6 W7:=(by rw[<-aK];exact((Qc _ W6).alloc (Q3 _) _).drew);rw[aK];have a4:=Ki (ac.o.below ah);have aw:=b5.o.trans (ah.mono b5.o.size);have b6:=Ki aw;have aq:W7.drew.heap[j]?=some (.cells d 60 (0,0))/\W7.drew.heap[p]?=some (.cells #[.map (some mo),.map (some ml),.map (some E),.map (some ma)] 188 (0,0)):=⟨(ah.block j aT).trans H6.o,a4.o.box⟩;have ao:=Ki (λD (h:D.heap[j]?=some (.cells #[d.s.T,d.s.R,d.I] 60 (0,0))/\D.heap[p]?=some (.cells #[.map (some mo),.map (some ml),.map (some E),.map (some ma)] 188 (0,0)))=>(show D.cell? ⟨j,0,none⟩=some (.int .i64 d.s.T)/\D.cell? ⟨j,1,none⟩=some (.int .i64 d.s.R)/\D.cell? ⟨j,2,none⟩=some (.int .i64 d.I)/\D.cell? ⟨p,0,none⟩=some (.map (some mo)) from⟨cell_of_row D _ 0 _ _ _ h.1,cell_of_row D _ 1 _ _ _ h.1,cell_of_row D _ 2 _ _ _ h.1,cell_of_row D _ 0 _ _ _ h.2⟩));have bK:=Ki (λ(W:World)(o:Obj) (h:W.heap[j]?=some (.cells d 60 (0,0))/\W.heap[p]?=some (.cells #[.map (some mo),.map (some ml),.map (some E),.map (some ma)] 188 (0,0)))=>(show(W.alloc o).heap[j]?=some (.cells d 60 (0,0))/\(W.alloc o).heap[p]?=some (.cells #[.map (some mo),.map (some ml),.map (some E),.map (some ma)] 188 (0,0)) from⟨(Z5 W o j (Q5.1 h.1).1).trans h.1,(Z5 W o p (Q5.1 h.2).1).trans h.2⟩))
   obtain⟨m,hm⟩:∃m,XY fo d m/\∀z∈m,z∈X:=by obtain⟨y,hy,m,bv,ch⟩:=(ab.o.2 d).1 aZ.o;obtain⟨m1,h2,h3⟩:=bv.from _ ch;exact⟨m1,h2,λz hz=>(ab.o.2 z).2 ⟨y,hy,m,bv,h3.subset hz⟩⟩
   obtain⟨q,Y⟩:∃q,fo d=some q:=by obtain⟨_,q,Y,_⟩:=ap.o d ((a9.o d).1 aZ.o);exact⟨q,Y⟩
   have bw:m.length<=1000:=(by obtain⟨Do,ad,aF⟩:=a4.o.of;have J:=EQ ad aF hm.1.nodup hm.1.all_has;have h2:=Gt ad;omega)
   have aA:=Ki (Q0R d m a4.o.drew (by omega) hm.1 bw (λz hz=>by
    obtain⟨J,q',ce,bx⟩:=ap.o z ((a9.o z).1 (hm.2 z hz));obtain⟨P,h2,_⟩:=Mj (fo:=fo) ab.o.1 (hm.2 z hz);unfold KI;rw[h2]
    exact Q1c J ce bx))
   obtain⟨U,aQ⟩:∃b,Q8 (ES (Jy fo X) m)=b:=⟨_,rfl⟩;rw[aQ] at aA;have ax:=(a4.o.drew.of.look JO Kd Jw (UD) d).1;have an:=Ki (λW (hW:Below W7.drew.heap.size W7.drew W)=>((a4.o.drew.below hW).of.look JO Kd Jw (UD) d).1);rw[Y] at ax an;have bN:=Kj (KN fo Z X ⟨d,U,q.dir,!Q⟩) ⟨m,hm.1,aQ.symm,by unfold Us;rw[Y],by rw[bQ.o]⟩;simp only[Option.getD_some] at ax an;unfold Qa ZA at ax;unfold Qa ZA at an;unfold Qa at aA;have bV:=Ki (QB bT.o aw);have aX:=Ki (aW.o.trans (aw.mono aW.o.size));have cm:=a4.o.lt;have ci:=Z1 aT ah.size;clear aK ah a8 aN x0 x1 x2 c1 cl aT hm Y aQ bw aw;have cp:=Q1a q.nd.s.T q.nd.s.R q.nd.I q.pa.s.T q.pa.s.R q.pa.I q.nm q.dir;go_upto_region 9 with(fail)
   go_region_held3 (λD=>D.cell? (j,0)=d.s.T/\D.cell? (j,1)=d.s.R/\D.cell? (j,2)=d.I/\D.cell? (p,0)=some (.map (some mo))) (first|exact ao.o _ aq|exact ao.o _ aE|exact ao.o _ a0|exact ao.o _ be|go_keep)
    (first
     |(go_at_call 89;refine aA.o.mono ?_;rintro e9 W9 ⟨rfl,a6⟩;have aE:W9.heap[j]?=some (.cells d 60 (0,0))/\W9.heap[p]?=some (.cells #[.map (some mo),.map (some ml),.map (some E),.map (some ma)] 188 (0,0)):=⟨(a6.block j ci).trans aq.1,(a6.block p cm).trans aq.2⟩;have cc:=an.o W9 a6;have a0:=bK.o W9 (.cells #[.int .i64 d.s.T,.int .i64 d.s.R,.int .i64 d.I,.string U,.bool q.dir,.bool (!Q)] 65) aE;have al:=Ki (aX.o.drew.trans (a6.mono aX.o.drew.size));have aa:=Ki (QB (ZY bV.o) a6);have bM:=Ki (b6.o.drew.trans (a6.mono b6.o.drew.size)))
     |(refine Ja _ (by rfl) _ _ _ (by rfl) I 65 i0 _ 6 48 Tryz.underlying62 hi z0 z1 z2 rfl (by omega) _ O.length _ (by rfl) (aa.o.alloc _) ⟨W9.heap.size,0,none⟩ 1 1 [.int .i64 d.s.T,.int .i64 d.s.R,.int .i64 d.I,.string U,.bool q.dir,.bool (!Q)] (by rfl) (by rfl) (Zd W9 [.int .i64 d.s.T,.int .i64 d.s.R,.int .i64 d.I,.string U,.bool q.dir,.bool (!Q)] 65) (Ia ⟨d,U,q.dir,!Q⟩) (by omega) (by unfold maxLen;omega) (by omega) (by have:=al.o.size;simp;omega) _ (by rfl) ?_;intro g cap WA bz ai af c9;have be:WA.heap[j]?=some (.cells d 60 (0,0))/\WA.heap[p]?=some (.cells #[.map (some mo),.map (some ml),.map (some E),.map (some ma)] 188 (0,0)):=⟨(ai.block j (Q5.1 a0.1).1 (λe=>ZN (r:=⟨65,6,.slice Av O.length cv,O.length,a1.flatMap ZV⟩) (aa.o.alloc _) a0.1 (show(60:TypeId)≠65 by decide) e.symm)).trans a0.1,(ai.block p (Q5.1 a0.2).1 (λe=>ZN (r:=⟨65,6,.slice Av O.length cv,O.length,a1.flatMap ZV⟩) (aa.o.alloc _) a0.2 (show(188:TypeId)≠65 by decide) e.symm)).trans a0.2⟩))
   all_goals
    have aR:=(FA bX.o (Below.touch bM.o (λ_=>False)) (λh=>h) (λh=>h)).alloc (.cells #[d.s.T,d.s.R,d.I,.string U,.bool q.dir,.bool (!Q)] 65);have aP:=Cy aR (aa.o.alloc (.cells #[d.s.T,d.s.R,d.I,.string U,.bool q.dir,.bool (!Q)] 65));have bc:=Ki (aR.kept ai (λe=>aP.1 e.symm) (λe=>aP.2 e.symm));have bJ:=Ki ((al.o.alloc al.o.size (.cells #[d.s.T,d.s.R,d.I,.string U,.bool q.dir,.bool (!Q)] 65)).grown ai (by have:=al.o.size;simp;omega) (λbH hj=>((aa.o.alloc (.cells #[d.s.T,d.s.R,d.I,.string U,.bool q.dir,.bool (!Q)] 65)).lt bH hj).1));have bW:=Ki (show WA.ownsRow I 65 6 (.slice (g,0) (O.length+1) cap) (O++[d]).length ((a1++[(⟨d,U,q.dir,!Q⟩:QE)]).flatMap ZV) by rw[Zb,Xf,Qj];exact bz);have cb:=bc.o.left_eq;have bO:=Ki (show WA.rangeLeft E r<wo.rangeLeft E r by have:=bP.o;omega);clear bz ai af c9 aR aP cb aq aE a0 be ax cc;go_wp2;(try go_frame);go_roundw
    case rel=>exact⟨_,aD,O++[d],a1++[⟨d,U,q.dir,!Q⟩],bc.o,bL.o,c8,by rw[ZC,am.o];rfl,λit h=>by
     rcases Qq.1 h with J|J;·exact b8.o it J
     rw[Qw.1 J];exact bN.o,bW.o,bJ.o⟩
    case measure=>exact bO.o
def KO(fd:Id->Option Bool)(x:Q2):Bool:=!(fd x.nd).isSome
theorem Q1e{w:World}{base p m1 m2 n1 n2 I:Nat}{fo:Q4->Option Unit}{fd:Id->Option Bool}{gr nm at_ td hv gn:Z3}(h:Vw w base p m1 m2 n1 n2 fo fd gr nm at_ td hv gn)(J:w.heap[I]?=some (.cells #[.pointer (p,0)] 73 (0,0)))(x:Q2):Calls Tryz.prog 48 #[ZA x,.pointer (I,0)] w λe w'=>e=.returned (.bool (KO fd x))/\Q0 w w':=by
 have Q:=Ki h;have a0:=Ki J;obtain⟨b,hb⟩:=ex ((fd x.nd).isSome);have Z:=Ki hb;have HU:=Ki (show KO fd x=!b by unfold KO;rw[hb]);have a5:=Q.o.lt;have a4:=(Q5.1 J).1;clear h hb J;unfold ZA;go_enter Tryz.func48,Tryz.ntmps48;go_wp2;obtain⟨W0,D⟩:∃a3,w.alloc (.cells x 124)=a3:=⟨_,rfl⟩;have O:Q0 w W0:=by rw[<-D];exact(Q0.refl w).alloc _
 have j:=bn D;rw[D];have E:=Q.o.below O.below;obtain⟨D2,U,W⟩:=E.dirs;have Y:=(O.below.block I a4).trans a0.o;have c0:=cr0 j;have c1:=cr1 j;have c2:=cr2 j;have c3:=cr5 E.box;have c4:=cr0 Y;have X:=F9 XJ AJ U.drew Tryz.underlying113 false (Tryz.zeroValue4 _) W x.nd;rw[Z.o] at X;unfold Qa at X;have q1:=(Q5.1 j).1;have q2:=E.lt;clear D j E U W Y;go_region;all_goals go_wp2;go_ret;exact⟨by rw[HU.o];rfl,O.drewN 1⟩
def Q1f(q:Q2->Bool)(L:List Q2)(w:World)(i:Value)(wr:World):Prop:=∃k:Nat,k<=L.length/\i=k/\(∀e∈L.take k,q e=false)/\Q0 w wr
def Q1g(q:Q2->Bool)(L:List Q2)(z:Int):Prop:=(∃(k:Nat)(h:k<L.length),z=k/\q L[k]=true/\∀e∈L.take k,q e=false)\/(z = -1/\∀e∈L,q e=false)
theorem Q1h(L:List Q2)(q:Q2->Bool)(bv:Nat)(A:Option Addr)(n c B0:Nat)(Q w:World)(hw:Below Q Q w)(O:Rd w B0 8 (.slice A n c) n (L.flatMap Qb))(hB:B0<=w)(U:∀e W,Below Q Q W->Calls Tryz.prog 48 #[ZA e,.pointer (some ⟨bv,0,none⟩)] W λr W'=>r=.returned (.bool (q e))/\Q0 W W'):Calls Tryz.prog 85 #[.slice A n c,.func (.func 48) #[] #[.pointer (some ⟨bv,0,none⟩)]] w λr w'=>(∃z,r=.returned (.int .i64 z)/\Q1g q L z)/\Q0 w w':=by
 obtain⟨_,a8,a6⟩:=O.len;unfold maxLen at a6;obtain rfl:=QL Qb 8 (λ_=>rfl) (by decide) O.1;have HR:=Ki (λW (Y:Q0 w W)=>O.below' Y.below hB);have HW:=Ki (λW (Y:Q0 w W)=>hw.trans (Y.below.mono hw.size));have U:=Ki U;clear O hw;go_enter Tryz.func85,Tryz.ntmps85;go_wp2;go_loopw [8] (λi wr=>Q1f q L w i wr) (λi _=>L.length-(intOf i).toNat);case atStart=>exact⟨0,Qh _,rfl,by simp,Q0.refl w⟩
 case round=>
  obtain⟨k,hk,rfl,I,D⟩:=hrel;obtain⟨h,rfl⟩:∃h:World,h=wr:=⟨_,rfl⟩;by_cases a0:k<L.length
  ·obtain⟨b,o,rfl,a7,j⟩:=Qr Qb 8 (λ_=>rfl) (by decide) (HR.o h D) a0;have a1:=QQ a0;obtain⟨x,he⟩:∃x,L[k]=x:=⟨_,rfl⟩;have HE:=Ki he;rw[he] at j a1;have c0:h.cell? (b,o+k*8)=x.nd.s.T:=j 0 _ rfl;have c1:h.cell? (b,o+k*8+1)=x.nd.s.R:=j 1 _ rfl;have c2:h.cell? (b,o+k*8+2)=x.nd.I:=j 2 _ rfl;have c3:h.cell? (b,o+k*8+3)=x.pa.s.T:=j 3 _ rfl;have c4:h.cell? ⟨b,o+k*8+4,none⟩=some (.int .i64 x.pa.s.R):=j 4 _ rfl;have c5:h.cell? ⟨b,o+k*8+5,none⟩=some (.int .i64 x.pa.I):=j 5 _ rfl;have c6:h.cell? ⟨b,o+k*8+6,none⟩=some (.string x.nm):=j 6 _ rfl;have c7:h.cell? ⟨b,o+k*8+7,none⟩=some (.bool x.dir):=j 7 _ rfl;have i1:(0:Int)<=(k:Int):=(by omega);have i2:(k:Int)<(L.length:Int):=(by omega);have J:=Ki I;have X:=Ki D;have a5:=Ki a1;have a2:=Ki (U.o x h (HW.o h D));unfold ZA at a2;clear j he a1 I D;go_wp2_with fail;refine a2.o.mono ?_;rintro r w1 ⟨rfl,a4⟩;have a3:=Ki (X.o.trans a4);clear a4 c0 c1 c2 c3 c4 c5 c6 c7;obtain⟨d,Z⟩:=ex (q x);have HD:=Ki Z;rw[Z];clear Z;cases d
   ·go_wp2;go_roundw
    case rel=>
     refine⟨k+1,by omega,by go_num,?_,a3.o⟩;rw[a5.o];intro y E;rcases Qq.1 E with E|E;·exact J.o y E
     rw[Qw] at E;rw[E];exact HD.o
    case measure=>simp[intOf];omega
   go_wp2;go_ret;exact⟨⟨_,rfl,.inl ⟨k,a0,rfl,by rw[HE.o];exact HD.o,J.o⟩⟩,a3.o⟩
  obtain rfl:k=L.length:=by omega
  rw[X6] at I;have J:=Ki I;have X:=Ki D;clear I D hk;go_wp2;go_ret;exact⟨⟨_,rfl,.inr ⟨rfl,J.o⟩⟩,X.o⟩
def Uu(n:Nat):List Value:=(Builtin.zeroCells #[(0:Int),(0:Int),(0:Int),(0:Int),(0:Int),(0:Int),.string ⟨#[]⟩,.bool false] n).toList
theorem Ie(n:Nat):(Uu n).length=n*8:=by simp[Uu,Builtin.zeroCells]
theorem Q1i(n:Nat):∀v∈Uu n,v.oneCell'=true:=by
 intro v hv;simp only[Uu,Builtin.zeroCells,Array.toList_map,QZ] at hv;obtain⟨i,_,rfl⟩:=hv;have:i % 8=0\/i % 8=1\/i % 8=2\/i % 8=3\/i % 8=4\/i % 8=5\/i % 8=6\/i % 8=7:=by omega
 rcases this with h|h|h|h|h|h|h|h<;>simp[h,Value.oneCell']
theorem Q1j(w:World)(J:TypeId)(b o n c:Nat)(O:0<n)(D:∀j,j<n*8->(w.cell? (b,o+j)).isSome=true)(E:∀j,j<n*8->w.frozen? (b,o+j)=false):(Builtin.clear_ #[114] J #[.slice (b,o) n c]).run Tryz.prog w=.ok (.tuple #[]) (w.setCells b o (Uu n)):=by have hv:=UD;have h:=run_storeCells_cells (P:=Tryz.prog) b o (Uu n) 0 w (by rw[Ie];simpa using D) (by rw[Ie];simpa using E) (Q1i n);simp only[UI] at h;obtain⟨m,rfl⟩:∃m,n=m+1:=⟨n-1,by omega⟩;have I:(Builtin.zeroCells (Value.cells (.agg #[(0:Int),(0:Int),(0:Int),(0:Int),(0:Int),(0:Int),.string ⟨#[]⟩,.bool false])) (m+1)).toList=Uu (m+1):=rfl;simp[Builtin.clear_,GP Tryz.underlying114,hv,I,h]
def CD(q:Q2->Bool)(L:List Q2)(base g c:Nat)(w:World)(i j:Value)(wr:World):Prop:=
 ∃(h:Nat)(F M:List Q2),h<=L.length/\j=h/\i=F.length/\F=(L.take h).filter (λe=>!q e)/\F.length+M.length=h/\0<M.length /\
  wr.ownsRow base 124 8 (.slice (g,0) L.length c) L.length ((F++M++L.drop h).flatMap Qb)/\Below base w wr
def If(q:Q2->Bool)(L:List Q2)(base:Nat)(w:World)(r:Ending)(w':World):Prop:=
 ∃v,r=.returned v/\w'.ownsRow base 124 8 v (L.filter (λe=>!q e)).length ((L.filter (λe=>!q e)).flatMap Qb)/\Below base w w'
theorem Mo{q:Q2->Bool}{L:List Q2}(h:∀e∈L,q e=false):L.filter (λe=>!q e)=L:=by rw[List.filter_eq_self];intro e j;rw[h e j];rfl
theorem Q1k(L:List Q2)(q:Q2->Bool)(bv:Nat)(v:Value)(base:Nat)(W w:World)(hw:Below W W w)(ho:w.ownsRow base 124 8 v L.length (L.flatMap Qb))(ax:W<=base)(aa:base<=w)(hL:L.length<=1000000)(HC:∀e a7,Below W W a7->Calls Tryz.prog 48 #[ZA e,.pointer (some ⟨bv,0,none⟩)] a7 λr W'=>r=.returned (.bool (q e))/\Q0 a7 W'):Calls Tryz.prog 47 #[v,.func (.func 48) #[] #[.pointer (some ⟨bv,0,none⟩)]] w (If q L base w):=by
 obtain⟨A,c,rfl,aG,aE⟩:=(Rd.of_own ho).form;have HI:=Ki (Q1h L q bv A L.length c w W w hw (Rd.of_own ho) (Q3 _) HC);have HC:=Ki HC;have HO:=Ki ho;have HW:=Ki hw;clear ho hw;go_enter Tryz.func47,Tryz.ntmps47;go_wp2_with fail;refine HI.o.mono ?_;rintro r w1 ⟨⟨z,rfl,hz⟩,X⟩;have aB:=Ki X;rcases hz with⟨k,hk,rfl,an,a1⟩|⟨rfl,a1⟩
 ·obtain⟨g,cap,_,e1,O,_⟩:=V9 HO.o (by omega);cases e1;have aH:((k:Int) == -1)=false:=by simp
  have ap:CD q L base g c w k (.int .i64 ((k:Int)+1)) w1:=by have aA:(L.take (k+1)).filter (λe=>!q e)=L.take k:=(by rw[QQ hk,YU,Mo a1];simp[an]);refine⟨k+1,L.take k,[L[k]],by omega,by simp,by rw[Zi,JC (by omega)],aA.symm,by rw[Zi,JC (by omega)];rfl,by simp,?_,X.below.mono aa⟩;have e:L.take k++[L[k]]++L.drop (k+1)=L:=(by rw[<-QQ hk,XU]);rw[e];exact QB HO.o X.below
  have af:=Ki ap;clear ap an a1 X;go_wp2;go_loopw [5,6] (λi j wr=>CD q L base g c w i j wr) (λ_ j _=>L.length-(intOf j).toNat);case atStart=>exact af.o
  case round=>
   clear af;obtain⟨j,F,M,hj,rfl,rfl,Z,a0,hM,E,hb⟩:=hrel;obtain⟨h,rfl⟩:∃h:World,h=wr:=⟨_,rfl⟩;have a9:(F++M++L.drop j).length=L.length:=(by simp;omega);have aF:g<h:=(E.lt g rfl).2;have a2:Below W W h:=HW.o.trans (hb.mono ax);by_cases am:j<L.length
   ·have ab:L.drop j=L[j]::L.drop (j+1):=VL am;obtain⟨gr,og,a6,av,I⟩:=Qr Qb 8 (λ_=>rfl) (by decide) (show Rd h h 8 (.slice (some ⟨g,0,none⟩) (F++M++L.drop j).length c) (F++M++L.drop j).length ((F++M++L.drop j).flatMap Qb) from by rw[a9];exact Rd.of_own E) (show j<(F++M++L.drop j).length by omega);have al:(F++M++L.drop j)[j]'(by omega)=L[j]:=(by rw[List.getElem_append_right (by simp;omega)];simp[a0]);rw[al] at I;have ay:g=gr/\0=og:=(by injection a6 with a6;injection a6 with h1 h2;exact⟨h1,h2⟩);obtain⟨rfl,rfl⟩:=ay;have ac:=QQ am;obtain⟨e,he⟩:∃e,L[j]=e:=⟨_,rfl⟩;rw[he] at I ab ac;rw[ab] at E
    obtain⟨m,U,rfl⟩:∃m U,M=m::U:=by
     cases M with
     |nil=>simp at hM
     |cons m U=>exact⟨m,U,rfl⟩
    have c0:h.cell? ⟨g,j*8,none⟩=some (.int .i64 e.nd.s.T):=(by have:=I 0 _ rfl;simpa using this);have c1:h.cell? ⟨g,j*8+1,none⟩=some (.int .i64 e.nd.s.R):=(by have:=I 1 _ rfl;simpa using this);have c2:h.cell? ⟨g,j*8+2,none⟩=some (.int .i64 e.nd.I):=(by have:=I 2 _ rfl;simpa using this);have c3:h.cell? ⟨g,j*8+3,none⟩=some (.int .i64 e.pa.s.T):=(by have:=I 3 _ rfl;simpa using this);have c4:h.cell? ⟨g,j*8+4,none⟩=some (.int .i64 e.pa.s.R):=(by have:=I 4 _ rfl;simpa using this);have c5:h.cell? ⟨g,j*8+5,none⟩=some (.int .i64 e.pa.I):=(by have:=I 5 _ rfl;simpa using this);have c6:h.cell? ⟨g,j*8+6,none⟩=some (.string e.nm):=(by have:=I 6 _ rfl;simpa using this);have c7:h.cell? ⟨g,j*8+7,none⟩=some (.bool e.dir):=(by have:=I 7 _ rfl;simpa using this);have i1:(0:Int)<=(j:Int):=(by omega);have i2:(j:Int)<(L.length:Int):=(by omega);have aw:F.length<L.length:=(by simp at a0;omega);have i3:(0:Int)<=(F.length:Int):=(by omega);have i4:(F.length:Int)<(L.length:Int):=(by omega);have ar:=Ki E;have HB:=Ki hb;have aC:=Ki a2;have HF:=Ki Z;have ag:=Ki ac;have ae:=Ki a0;have aq:(h.alloc (.cells (Qb e).toArray 124)).heap[h.heap.size]?=some (.cells (Qb e).toArray 124 (0,0)):=Qi h _;have au:=Ki aq;have ad:=Ki (HC.o e (h.alloc (.cells (Qb e).toArray 124)) (a2.alloc a2.size _));unfold ZA at ad;clear I al a9 he ab ac E hb a2 Z a0 hM aq a6 av;go_wp2_with fail;refine ad.o.mono ?_;rintro r D ⟨rfl,a5⟩
    have J:D.heap[h.heap.size]?=some (.cells (Qb e).toArray 124 (0,0)):=(a5.below.block _ (by simp)).trans au.o;have a3:=QB (ar.o.alloc (.cells (Qb e).toArray 124)) a5.below;have hb2:Below base w D:=(HB.o.alloc (Q9 aa HB.o.size) _).trans (a5.below.mono (by have:=HB.o.size;simp;omega));obtain⟨d,hd⟩:∃d,q e=d:=⟨_,rfl⟩;have HD:=Ki hd;rw[hd];clear hd c0 c1 c2 c3 c4 c5 c6 c7 a5;cases d
    ·have Y:(F.flatMap Qb).length=F.length*8:=XG Qb 8 (λ_=>rfl) F;have a4:D.ownsRow base 124 8 (.slice (some ⟨g,0,none⟩) L.length c) L.length (F.flatMap Qb++Qb m++(U++e::L.drop (j+1)).flatMap Qb):=(by simpa using a3);have Zf:=VQ a4 (Qb e) rfl (by omega);rw[Y] at Zf;have ao:((((((((D.setCell ⟨g,F.length*8,none⟩ e.nd.s.T).setCell ⟨g,F.length*8+1,none⟩ e.nd.s.R).setCell ⟨g,F.length*8+2,none⟩ e.nd.I).setCell ⟨g,F.length*8+3,none⟩ e.pa.s.T).setCell ⟨g,F.length*8+4,none⟩ e.pa.s.R).setCell ⟨g,F.length*8+5,none⟩ e.pa.I).setCell ⟨g,F.length*8+6,none⟩ (.string e.nm)).setCell ⟨g,F.length*8+7,none⟩ (.bool e.dir)).ownsRow base 124 8 (.slice (some ⟨g,0,none⟩) L.length c) L.length (F.flatMap Qb++Qb e++(U++e::L.drop (j+1)).flatMap Qb):=Zf
     have Q:∀i u,(Qb m)[i]?=some u->D.cell? ⟨g,F.length*8+i,none⟩=some u:=λi u hu=>(X8 a4 (F.length*8+i) u (by
      rw[Y7,JZ (by omega),Y,U6,VK (Kb.1 hu).1]
      exact hu)).1
     have q0:D.cell? ⟨g,F.length*8,none⟩=some (.int .i64 m.nd.s.T):=Q 0 _ rfl;have q1:D.cell? ⟨g,F.length*8+1,none⟩=some (.int .i64 m.nd.s.R):=Q 1 _ rfl;have q2:D.cell? ⟨g,F.length*8+2,none⟩=some (.int .i64 m.nd.I):=Q 2 _ rfl;have q3:D.cell? ⟨g,F.length*8+3,none⟩=some (.int .i64 m.pa.s.T):=Q 3 _ rfl;have q4:D.cell? ⟨g,F.length*8+4,none⟩=some (.int .i64 m.pa.s.R):=Q 4 _ rfl;have q5:D.cell? ⟨g,F.length*8+5,none⟩=some (.int .i64 m.pa.I):=Q 5 _ rfl;have q6:D.cell? ⟨g,F.length*8+6,none⟩=some (.string m.nm):=Q 6 _ rfl;have q7:D.cell? ⟨g,F.length*8+7,none⟩=some (.bool m.dir):=Q 7 _ rfl;have f0:=YY a4 (by omega);have d0:D.cell? (h.heap.size,0)=e.nd.s.T:=cR 0 J;have d1:D.cell? (h.heap.size,1)=e.nd.s.R:=cR 1 J;have d2:D.cell? (h.heap.size,2)=e.nd.I:=cR 2 J;have d3:D.cell? (h.heap.size,3)=e.pa.s.T:=cR 3 J;have d4:D.cell? (h.heap.size,4)=e.pa.s.R:=cR 4 J;have d5:D.cell? (h.heap.size,5)=e.pa.I:=cR 5 J;have d6:D.cell? (h.heap.size,6)=e.nm:=cR 6 J;have d7:D.cell? (h.heap.size,7)=some (.bool e.dir):=cR 7 J
     have ai:Below base w ((((((((D.setCell ⟨g,F.length*8,none⟩ e.nd.s.T).setCell ⟨g,F.length*8+1,none⟩ e.nd.s.R).setCell ⟨g,F.length*8+2,none⟩ e.nd.I).setCell ⟨g,F.length*8+3,none⟩ e.pa.s.T).setCell ⟨g,F.length*8+4,none⟩ e.pa.s.R).setCell ⟨g,F.length*8+5,none⟩ e.pa.I).setCell ⟨g,F.length*8+6,none⟩ (.string e.nm)).setCell ⟨g,F.length*8+7,none⟩ (.bool e.dir)):=(((((((hb2.setCell (p:=⟨g,F.length*8,none⟩) O _).setCell (p:=⟨g,F.length*8+1,none⟩) O _).setCell (p:=⟨g,F.length*8+2,none⟩) O _).setCell (p:=⟨g,F.length*8+3,none⟩) O _).setCell (p:=⟨g,F.length*8+4,none⟩) O _).setCell (p:=⟨g,F.length*8+5,none⟩) O _).setCell (p:=⟨g,F.length*8+6,none⟩) O _).setCell (p:=⟨g,F.length*8+7,none⟩) O _
     have HR:=Ki (show CD q L base g c w (.int .i64 ((F++[e]).length:Nat)) (.int .i64 ((j+1:Nat):Int)) ((((((((D.setCell ⟨g,F.length*8,none⟩ e.nd.s.T).setCell ⟨g,F.length*8+1,none⟩ e.nd.s.R).setCell ⟨g,F.length*8+2,none⟩ e.nd.I).setCell ⟨g,F.length*8+3,none⟩ e.pa.s.T).setCell ⟨g,F.length*8+4,none⟩ e.pa.s.R).setCell ⟨g,F.length*8+5,none⟩ e.pa.I).setCell ⟨g,F.length*8+6,none⟩ (.string e.nm)).setCell ⟨g,F.length*8+7,none⟩ (.bool e.dir)) from
      ⟨j+1,F++[e],U++[e],by omega,rfl,rfl,by rw[ag.o,YU,<-HF.o];simp[HD.o],by have:=ae.o;simp at this |-;omega,by simp,by simpa using ao,ai⟩)
     clear a3 hb2 J a4 Zf ao Q ai;go_wp2;go_roundw;case rel=>simpa using HR.o
     case measure=>simp[intOf];omega
    have HR:=Ki (show CD q L base g c w F.length (.int .i64 ((j+1:Nat):Int)) D from
     ⟨j+1,F,m::U++[e],by omega,rfl,rfl,by rw[ag.o,YU,<-HF.o];simp[HD.o],by have:=ae.o;simp at this |-;omega,by simp,by simpa using a3,hb2⟩)
    clear a3 hb2 J;go_wp2;go_roundw;case rel=>exact HR.o
    case measure=>simp[intOf];omega
   obtain rfl:j=L.length:=by omega
   rw[X6] at Z;have ak:L.drop L.length=[]:=List.drop_length;rw[ak,ZB] at E;have aw:F.length<L.length:=(by omega);have Y:=XG Qb 8 (λ_=>rfl) F;have a8:(M.flatMap Qb).length=(L.length-F.length)*8:=(by rw[XG Qb 8 (λ_=>rfl)];omega);rw[Zb] at E;have ah:h.ownsRow base 124 8 (.slice (g,0) L.length c) L.length (F.flatMap Qb++M.flatMap Qb++[]):=(by simpa using E);have Zf:=VQ ah (Uu (L.length-F.length)) (by rw[Ie,a8]) (by omega);rw[Y,ZB] at Zf
   have aD:=λty c'=>Q1j h ty g (F.length*8) (L.length-F.length) c' (by omega) (λi hi=>by
    have az:i<(M.flatMap Qb).length:=(by rw[a8];exact hi)
    have:=(X8 E (F.length*8+i) ((M.flatMap Qb)[i]) (by
     rw[JZ (by omega),Y,U6,X3 az])).1
    rw[this]
    rfl) (λi _=>YY E (by omega) _)
   have hcut:=BQ Zf (show F.length<=L.length by omega);rw[O5 (by omega),Zk (by omega)] at hcut;have aj:=Jd hb O (F.length*8) (Uu (L.length-F.length));have HP:=Kj (If q L base w (.returned (.slice (g,0) F.length c)) (h.setCells g (F.length*8) (Uu (L.length-F.length)))) ⟨_,rfl,by rw[<-Z];exact hcut,aj⟩;have i1:(0:Int)<=(F.length:Int):=(by omega);have i2:(F.length:Int)<=(L.length:Int):=(by omega);have i3:(L.length:Int)<=(c:Int):=(by omega);have i4:(F.length:Int)<(c:Int):=(by omega);clear E ah Zf hcut aj Z ak Y a8 a0 hM a9 a2 hb;go_wp2;go_ret;exact HP.o
 have HP:=Kj (If q L base w (.returned (.slice A L.length c)) w1) ⟨_,rfl,by rw[Mo a1];exact QB HO.o X.below,X.below.mono aa⟩;clear a1 X;go_wp2;go_ret;exact HP.o
theorem Mp{p:Q2}:∀{L:List Q2}{q:Q2},q∈XW p L->q.nm=p.nm\/∃r∈L,q.nm=r.nm
 |[],q,h=>.inl (by rw[Qw.1 (h)])
 |a::L,q,h=>by
  unfold XW at h;split at h
  ·rcases QI.1 h with j|j;·exact .inl (by rw[j])
   exact .inr ⟨q,X2 _ j,rfl⟩
  split at h
  ·rcases QI.1 h with j|j;·exact .inl (by rw[j])
   exact .inr ⟨q,j,rfl⟩
  rcases QI.1 h with j|j;·exact .inr ⟨a,XT ..,by rw[j]⟩
  rcases Mp j with D|⟨r,D,E⟩;·exact .inl D
  exact .inr ⟨r,X2 _ D,E⟩
theorem Mq{n:Nat}:∀(T:List QJ),(∀t∈T,t.p.nm.size<=n)->∀q∈Xv T,q.nm.size<=n:=by
 intro T
 induction T using JQ with
 |D=>intro _ q h;cases h
 |E T t O=>
  intro h q j;rw[OU] at j;have E:=O (λx J=>h x (Qq.2 (.inl J)));unfold Y3 at j;split at j;·exact E q j
  rcases Mp j with D|⟨r,D,I⟩;·rw[D];exact h t (by simp)
  rw[I];exact E r D
theorem Mr{a:List Id}{b:List Q2}{t:QJ}(h:t∈Y5 a b):t.at_∈a/\t.p∈b:=by unfold Y5 at h;obtain⟨i,j,rfl⟩:=U9.1 h;rw[List.getElem_zipWith];exact⟨Zt _,Zt _⟩
theorem Q1l(w:World):(zeroValue 4).run Tryz.prog w=.ok (.bool false) w:=(zero_of_info (P:=Tryz.prog) (t:=4) (v:=.bool false) (n:=1) (by kernel_rfl)).1 w
theorem Q1m{hv gn:List QP}{j:List Id}(E:j.Pairwise Id.Lt)(hm:∀y,y∈j↔Yb hv gn hv.length y):j.length<=hv.length:=by
 have h:=Gg (M:=hv.map QP.n) (Mi E) (λy I=>by
  obtain⟨d,D,_,e⟩:=(hm y).1 I
  exact QZ.2 ⟨d,U8 D,e⟩)
 rwa [Xh] at h
def JU(fd:Id->Option Bool)(q:Q2):Q2:={ q with dir:=(fd q.nd).getD false }
def FG(fd:Id->Option Bool)(T:List QJ):List Q2:=((Xv T).filter (λe=>!KO fd e)).map (JU fd)
def KP(S:VS)(I:List QE):Prop:=∃T h,Fd (Y5 S.at_ S.td) T/\h.Pairwise Id.Lt/\(∀y,y∈h↔Yb S.hv S.gn S.hv.length y)/\CC (FG S.fd T) h I
theorem Q1n{S:VS}{I J:List QE}(h:KP S I)(k:KP S J):I=J:=by obtain⟨T,Z,j,D,E,O⟩:=h;obtain⟨Y,a0,Q,U,W,X⟩:=k;obtain rfl:=SB j Q;obtain rfl:=Bk Zv D U (λy=>(E y).trans (W y).symm);exact Q18 O X
def Ms(fd:Id->Option Bool)(h:List Q2)(j:World)(A:Option Addr)(c:Nat)(i:Value)(wr:World):Prop:=
 ∃k:Nat,k<=h.length/\i=k/\wr.ownsRow j 124 8 (.slice A h.length c) h.length (((h.take k).map (JU fd)++h.drop k).flatMap Qb)/\Below j j wr
def Mt(S:VS)(w:World)(e:Ending)(w':World):Prop:=
 ∃(v:Value)(I:List QE),e=.returned v/\w'.ownsRow w 65 6 v I.length (I.flatMap ZV)/\KP S I/\I.length<=1000/\Below w w w'
theorem Mu{w:World}{base p m1 m2 n1 n2:Nat}{fo:Q4->Option Unit}{S:VS}{gr nm:Z3}{va vt vh vg:Value}(hV:Vw w base p m1 m2 n1 n2 fo S.fd gr nm (ZH va S.at_) (ZI vt S.td) (QV vh S.hv) (J3 vg S.gn))(hS:Sz S 900 900000)(aK:∀q∈S.td,q.nm.size<=1000000)(aG:∀y,(S.fd y).isSome=true->YA y):Calls Tryz.prog 24 #[.pointer (p,0)] w (Mt S w):=by
 obtain⟨z1,z2,z3,z4⟩:=hS;have HV:=Ki (λW (J:Below w w W)=>hV.below J);have b6:=Ki aK;have aX:=Ki aG;obtain⟨Aa,ca,bo,_,_⟩:=(Rd.of_own (show w.ownsRow base 60 3 va S.at_.length (S.at_.flatMap Qe) from hV.fam.own (ZH va S.at_) (by simp))).form;obtain⟨At,ct,br,_,_⟩:=(Rd.of_own (show w.ownsRow base 124 8 vt S.td.length (S.td.flatMap Qb) from hV.fam.own (ZI vt S.td) (by simp))).form;obtain⟨Ah,ch,bq,_,_⟩:=(Rd.of_own (show w.ownsRow base 171 5 vh S.hv.length (S.hv.flatMap QR) from hV.fam.own (QV vh S.hv) (by simp))).form;obtain⟨Ag,cg,bp,_,_⟩:=(Rd.of_own (show w.ownsRow base 171 5 vg S.gn.length (S.gn.flatMap QR) from hV.fam.own (J3 vg S.gn) (by simp))).form;subst bo br bq bp
 have HR:=Ki (λW (J:Below w w W)=>(show Rd W W 3 (.slice Aa S.at_.length ca) S.at_.length (S.at_.flatMap Qe)/\Rd W W 8 (.slice At S.td.length ct) S.td.length (S.td.flatMap Qb)/\Rd W W 5 (.slice Ah S.hv.length ch) S.hv.length (S.hv.flatMap QR)/\Rd W W 5 (.slice Ag S.gn.length cg) S.gn.length (S.gn.flatMap QR) from
  ⟨Rd.of_own ((HV.o W J).fam.own (ZH _ S.at_) (by simp)),Rd.of_own (show W.ownsRow base 124 8 _ S.td.length (S.td.flatMap Qb) from(HV.o W J).fam.own (ZI _ S.td) (by simp)),Rd.of_own (show W.ownsRow base 171 5 _ S.hv.length (S.hv.flatMap QR) from(HV.o W J).fam.own (QV _ S.hv) (by simp)),Rd.of_own (show W.ownsRow base 171 5 _ S.gn.length (S.gn.flatMap QR) from(HV.o W J).fam.own (J3 _ S.gn) (by simp))⟩))
 obtain⟨U,ak⟩:∃c,c=(#[gr.v,nm.v,.map (some m1),.slice Aa S.at_.length ca,.slice At S.td.length ct,.map (some m2),.slice Ah S.hv.length ch,.slice Ag S.gn.length cg]:Array Value):=⟨_,rfl⟩;have aU:=Ki (λW (J:Below w w W)=>(show W.heap[p]?=some (.cells U 117 (0,0)) from by rw[ak];exact(HV.o W J).box));have a1:=Kj (U[3]?=some (.slice Aa S.at_.length ca)/\U[4]?=some (.slice At S.td.length ct)/\U[5]?=some (.map (some m2))/\U[6]?=some (.slice Ah S.hv.length ch)/\U[7]?=some (.slice Ag S.gn.length cg)) (by rw[ak];exact⟨rfl,rfl,rfl,rfl,rfl⟩);have bj:=hV.lt;clear hV aK aG ak;go_enter Tryz.func24,Tryz.ntmps24;go_upto_region 1 with(fail);obtain⟨I,a9⟩:∃W,w.alloc (.cells #[.pointer (p,0)] 73)=W:=⟨_,rfl⟩;have a3:=bl a9;have h1:=bn a9;rw[a9];obtain⟨Q,aE⟩:∃b,w.heap.size=b:=⟨_,rfl⟩;have a0:=Ki a3;rw[aE] at h1 |-;have bs:=(Q5.1 h1).1;have bz:=Z1 bj a3.size;have a5:=Ki (a3.size);have HX:=Ki (λW (J:Below I I W)=>(show W.heap[Q]?=some (.cells #[.pointer (p,0)] 73 (0,0))/\W.heap[p]?=some (.cells U 117 (0,0)) from⟨(J.block Q bs).trans h1,aU.o W (a0.o.trans (J.mono a5.o))⟩))
 have aq:=Ki (λE (h:E.heap[Q]?=some (.cells #[.pointer (some ⟨p,0,none⟩)] 73 (0,0))/\E.heap[p]?=some (.cells U 117 (0,0)))=>(show E.cell? ⟨Q,0,none⟩=some (.pointer (some ⟨p,0,none⟩))/\E.cell? ⟨p,3,none⟩=some (.slice Aa S.at_.length ca)/\E.cell? ⟨p,4,none⟩=some (.slice At S.td.length ct) from⟨cell_of_row E _ 0 _ _ _ h.1,(cell_of_row E _ 3 _ _ _ h.2).trans a1.o.1,(cell_of_row E _ 4 _ _ _ h.2).trans a1.o.2.1⟩));have aM:=HX.o I.drew (Qc _ I).drew;obtain⟨r1,r2,_,_⟩:=HR.o I.drew a3.drew;have b9:=Ki (WV S.at_ S.td Aa At _ ca _ ct I.drew.heap.size I.drew r1 r2 (Q3 _) (by omega));clear a9 a3 h1 aE r1 r2
 go_region_held3 (λE=>E.cell? (Q,0)=some (.pointer (p,0))/\E.cell? (p,3)=some (.slice Aa S.at_.length ca)/\E.cell? (p,4)=some (.slice At S.td.length ct)) (first|exact aq.o _ aM|exact aq.o _ aN|go_keep)
  ((go_at_call 46;refine b9.o.mono ?_;rintro e2 W2 ⟨v2,T,rfl,az,bd,ax,hb2⟩;have a2:Below I I W2:=(Qc _ I).drew.trans hb2;have aN:=HX.o W2 a2))
 all_goals
  have ag:=ax;have bt:T.length<=900:=by omega
  have bx:(Xv T).length<=T.length:=by have:=EP T T.length (Q3 _);rwa [X6] at this
  have au:=Ki az;have aR:=Ki a2;have aV:=Ki (Q1k (Xv T) (KO S.fd) Q v2 I I W2 a2 ag (Q3 _) a2.size (by omega) (λe W J=>Q1e (HV.o W (a0.o.trans (J.mono a5.o))) (HX.o W J).1 e));obtain⟨A2,c2,rfl,_,_⟩:=(Rd.of_own ag).form;clear ax ag az bd hb2 a2 aM aN;go_wp2_with fail;refine aV.o.mono ?_;rintro e3 W3 ⟨v3,rfl,a8,aC⟩;obtain⟨D,a7⟩:∃l,(Xv T).filter (λe=>!KO S.fd e)=l:=⟨_,rfl⟩;have bw:D.length<=900:=by rw[<-a7];exact Q9 (Vl _ _) (by omega)
  have ad:=Ki a7;rw[a7] at a8;obtain⟨A3,c3,rfl,_,_⟩:=(Rd.of_own a8).form;have ar:=Kj (Ms S.fd D I A3 c3 (.int .i64 (0:Nat)) W3) ⟨0,Qh _,rfl,by simpa using a8,aR.o.trans aC⟩;clear a7 a8 aC;go_wp2;go_loopw [20] (λi wr=>Ms S.fd D I A3 c3 i wr) (λi _=>D.length-(intOf i).toNat);case atStart=>exact ar.o
  case round=>
   clear ar;obtain⟨k,hk,rfl,X,hb⟩:=hrel;by_cases aJ:k<D.length
   ·obtain⟨q,hq⟩:=ex (D[k]);have al:D.drop k=q::D.drop (k+1):=(by rw[VL aJ,hq]);have bg:((D.take k).map (JU S.fd)++D.drop k).length=D.length:=(by simp;omega);have bk:=Rd.of_own X;have am:k<((D.take k).map (JU S.fd)++D.drop k).length:=(by omega);obtain⟨g,hg⟩:∃g,A3=some ⟨g,0,none⟩:=by obtain⟨g,_,_,e,_⟩:=V9 X (by omega);injection e with e;exact⟨g,e⟩
    subst hg;have aF:=X8 X;have be:∀i,wr.frozen? (g,i)=false:=λi=>YY X (by omega) i;have aB:∀j u,(Qb q)[j]?=some u->(((D.take k).map (JU S.fd)++D.drop k).flatMap Qb)[k*8+j]?=some u:=λj u hu=>by have h:=YJ Qb 8 (λ_=>rfl) ((D.take k).map (JU S.fd)) (D.drop (k+1)) q j u hu;rw[Xh,Zi,JC (by omega)] at h;rw[al];exact h
    have av:=Kj (∀j u,(Qb q)[j]?=some u->wr.cell? (g,k*8+j)=some u) (λj u hu=>(aF (k*8+j) u (aB j u hu)).1);have bb:=Ki (show D.take (k+1)=D.take k++[q] by rw[QQ aJ,hq]);have aW:=Ki al;have HO:=Ki X;have HB:=Ki hb;have bu:(0:Int)<=(k:Int):=(by omega);have bf:(k:Int)<(D.length:Int):=(by omega);clear hq al bg bk am aF aB X hb be;go_upto_region 6 with(first|((with_reducible refine Ql 124 ?_);refine QA rfl 124 _ rfl _ _ _ rfl av.o (by kernel_rfl) (GO _) ?_)|((with_reducible refine Zm 124 ?_);refine Zp rfl 124 _ _ rfl _ _ rfl rfl _ _ (Qi _ _) (by kernel_rfl) rfl (by kernel_rfl) ?_;rw[Xm,Zn]));obtain⟨W6,aa⟩:∃W,wr.alloc (.cells (Qb q).toArray 124)=W:=⟨_,rfl⟩;have ac:=bl aa;have h6:=bn aa;rw[aa];have a6:=HB.o.trans (ac.mono HB.o.size);have aS:=Ki a6;have ap:=Ki (QB HO.o ac);have a4:=HX.o W6 a6;have aA:=HV.o W6 (a0.o.trans (a6.mono a5.o));obtain⟨b5,aD⟩:∃b,wr.heap.size=b:=⟨_,rfl⟩;rw[aD] at h6 |-;have y0:=cr0 h6;have y1:=cr1 h6;have y2:=cr2 h6;have e0:=cr0 a4.1;have e5:=(cR 5 a4.2).trans a1.o.2.2.1;have f7:W6.frozen? (g,k*8+7)=false:=YY ap.o (by omega) _
    have v7:W6.cell? (g,k*8+7)=some (.bool q.dir):=(ac.cell (p:=(g,k*8+7)) (by
     have:=HO.o.lt g rfl
     exact this.2)).trans (av.o 7 _ rfl)
    have l5:=(Q5.1 h6).1;have l6:=(Q5.1 a4.1).1;have l7:=(Q5.1 a4.2).1;obtain⟨D2,q1,q2⟩:=aA.drew.dirs;have an:=Lz XJ AJ q1 Tryz.underlying113 false (Q1l _) q2 q.nd;obtain⟨d,hd⟩:=ex ((S.fd q.nd).getD false);rw[hd] at an;have ba:=Kj (JU S.fd q=⟨q.nd,q.pa,q.nm,d⟩) (by unfold JU;rw[hd]);unfold Qa at an;have aY:=Ki ((HO.o.lt g rfl).1);clear aa ac h6 a6 a4 aA aD q1 q2 hd;go_region
    all_goals
     have aL:(W6.setCell (g,k*8+7) (.bool d)).ownsRow I 124 8 (.slice (g,0) D.length c3) D.length (((D.take (k+1)).map (JU S.fd)++D.drop (k+1)).flatMap Qb):=by
      have h:=ap.o;rw[aW.o,Zb,XA] at h;have hl:(((D.take k).map (JU S.fd)).flatMap Qb++([q.nd.s.T,q.nd.s.R,q.nd.I,q.pa.s.T,q.pa.s.R,q.pa.I,.string q.nm]:List Value)).length=k*8+7:=(by rw[Qj,XG Qb 8 (λ_=>rfl),Xh,Zi,JC (by omega)];rfl)
      have h2:=VQ (A:=((D.take k).map (JU S.fd)).flatMap Qb++[.int .i64 q.nd.s.T,.int .i64 q.nd.s.R,.int .i64 q.nd.I,.int .i64 q.pa.s.T,.int .i64 q.pa.s.R,.int .i64 q.pa.I,.string q.nm]) (old:=[.bool q.dir]) (C:=(D.drop (k+1)).flatMap Qb) (by
       have e:Qb q=([q.nd.s.T,q.nd.s.R,q.nd.I,q.pa.s.T,q.pa.s.R,q.pa.I,.string q.nm]:List Value)++[.bool q.dir]:=rfl;rw[e,Y7,<-Y7,<-Y7] at h
       exact h) [.bool d] rfl (by omega)
      rw[hl] at h2;have h3:=h2;rw[bb.o,ZC,Zb,Zb,List.map_singleton,Xf,ba.o];have e:Qb ⟨q.nd,q.pa,q.nm,d⟩=([q.nd.s.T,q.nd.s.R,q.nd.I,q.pa.s.T,q.pa.s.R,q.pa.I,.string q.nm]:List Value)++[.bool d]:=rfl;rw[e,<-Y7];exact h3
     obtain⟨W7,ab⟩:∃W,(W6.setCell (g,k*8+7) (.bool d)).drew=W:=⟨_,rfl⟩;have b7:=Kj (W7.ownsRow I 124 8 (.slice (g,0) D.length c3) D.length (((D.take (k+1)).map (JU S.fd)++D.drop (k+1)).flatMap Qb)) (by rw[<-ab];exact ZY aL);have aT:=Kj (Below I I W7) (by rw[<-ab];exact(Xd aS.o aY.o).drew);rw[ab];clear aL ab an f7 v7 y0 y1 y2 e0 e5 l5 l6 l7;go_wp2;go_roundw;case rel=>exact⟨k+1,by omega,by go_num,b7.o,aT.o⟩
     case measure=>simp[intOf];omega
   have am:k=D.length:=(by omega);subst am;rw[X6,List.drop_length,ZB] at X;have bf:¬((D.length:Int)<(D.length:Int)):=(by omega);have aH:(D.map (JU S.fd)).length=D.length:=Xh ..;have ae:=Ki aH;have aO:=HX.o wr.drew hb.drew;have O:=Ki hb;have b8:=Ki X;obtain⟨_,_,r3,r4⟩:=HR.o wr.drew (a0.o.trans (hb.drew.mono a5.o));have b4:=Ki (Q0p S.hv S.gn Ah Ag _ ch _ cg wr.drew.heap.size wr.drew r3 r4 (Q3 _) (by omega));have af:=Ki (λE (h:E.heap[Q]?=some (.cells #[.pointer (some ⟨p,0,none⟩)] 73 (0,0))/\E.heap[p]?=some (.cells U 117 (0,0)))=>(show E.cell? ⟨Q,0,none⟩=some (.pointer (some ⟨p,0,none⟩))/\E.cell? ⟨p,6,none⟩=some (.slice Ah S.hv.length ch)/\E.cell? ⟨p,7,none⟩=some (.slice Ag S.gn.length cg) from⟨cell_of_row E _ 0 _ _ _ h.1,(cell_of_row E _ 6 _ _ _ h.2).trans a1.o.2.2.2.1,(cell_of_row E _ 7 _ _ _ h.2).trans a1.o.2.2.2.2⟩))
   have aZ:=Ki (λ(Y:List Id)(Al:Option Addr)(cl:Nat)(W:World)(J:Below wr.drew.heap.size wr.drew W) (hR:Rd W W 3 (.slice Al Y.length cl) Y.length (Y.flatMap Qe)) (bh:Y.length<=1000)=>Q1d (D.map (JU S.fd)) Y A3 Al D.length c3 Y.length cl W W (by rw[<-ae.o];exact(Rd.of_own (QB (ZY (by rw[ae.o];exact b8.o)) J))) hR (Q3 _) (by omega) bh (λq hq=>by
    obtain⟨r,hr,rfl⟩:=QZ.1 hq;rw[<-ad.o] at hr
    exact Mq T (λt ht=>by
     have:=(au.o.2 t).1 ht
     exact b6.o t.p (Mr (UN this)).2) r (V5.1 hr).1) (λq hq=>by
    obtain⟨r,hr,rfl⟩:=QZ.1 hq;rw[<-ad.o] at hr;have:=(V5.1 hr).2;unfold KO at this
    exact aX.o r.nd (by simpa using this)))
   clear X hb aH r3 r4;go_upto_region 8 with(fail)
   go_region_held3 (λE=>E.cell? (Q,0)=some (.pointer (p,0))/\E.cell? (p,6)=some (.slice Ah S.hv.length ch)/\E.cell? (p,7)=some (.slice Ag S.gn.length cg)) (first|exact af.o _ aO|exact af.o _ aP|exact af.o _ aQ|go_keep)
    (first
     |(go_at_call 50;refine b4.o.mono ?_;rintro e9 W9 ⟨v9,Y,rfl,ah,ai,ao,Z⟩;have aP:=HX.o W9 (O.o.drew.trans (Z.mono O.o.drew.size));obtain⟨A9,c9,rfl,_,_⟩:=(Rd.of_own ah).form;have bi:=Q1m ai ao;have b3:=Ki (aZ.o Y A9 c9 W9 Z (Rd.of_own ah) (by omega)))
     |(go_at_call 49;refine b3.o.mono ?_;rintro eA WA ⟨vA,bc,rfl,ay,aw,aI,aj⟩;have aQ:=HX.o WA ((O.o.drew.trans (Z.mono O.o.drew.size)).trans (aj.mono (O.o.drew.trans (Z.mono O.o.drew.size)).size))))
   all_goals have HF:=Kj (Mt S w (.returned vA) WA) ⟨vA,bc,rfl,Yp ay (Q9 a0.o.size (O.o.drew.trans (Z.mono O.o.drew.size)).size),⟨T,Y,au.o,ai,ao,by unfold FG;rw[ad.o];exact aw⟩,by rw[ae.o] at aI;omega,a0.o.trans (((O.o.drew.trans (Z.mono O.o.drew.size)).trans (aj.mono (O.o.drew.trans (Z.mono O.o.drew.size)).size)).mono a0.o.size)⟩;clear aO aP aQ ay aw aI aj ah ai ao Z bi;go_wp2;go_ret;exact HF.o
end
end Go.Proofs.YtfpafikfjjckeaaGreatDoor
