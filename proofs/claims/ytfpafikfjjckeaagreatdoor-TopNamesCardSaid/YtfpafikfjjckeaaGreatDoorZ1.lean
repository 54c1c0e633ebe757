import Derived.WideKeyEntry
import Derived.Carry
import Derived.Deep.CutRange
import Derived.Deep.RegionHeld3
import Derived.Deep.AppendLies
import Derived.Lib.SliceRun
import Derived.Lib.MapLaws
import Derived.WalkSmall
import Derived.Laws.Slices
import Derived.Test.YtfpafikfjjckeaaGreatDoorZ0
set_option maxRecDepth 100000
set_option maxHeartbeats 200000000
namespace Go.Proofs.YtfpafikfjjckeaaGreatDoor
section
structure Q2 where
 nd:Id
 pa:Id
 nm:ByteArray
 dir:Bool
deriving DecidableEq
structure QJ where
 at_:Id
 p:Q2
deriving DecidableEq
section
variable {α κ:Type} [DecidableEq κ]
def XK(key:α->κ)(l:List α)(h:α):Prop:=l.find? (λg=>decide (key g=key h))=some h
variable {key:α->κ}
theorem UN{l:List α}{h:α}(f:XK key l h):h∈l:=Df f
theorem BA{l:List α}{g h:α}(f:XK key l g)(k:XK key l h)(e:key g=key h):g=h:=by unfold XK at f k;rw[e] at f;exact Jr (f.symm.trans k)
theorem DW(l:List α)(x h:α):XK key (l++[x]) h↔XK key l h\/h=x/\∀g∈l,key g≠key x:=by
 unfold XK
 rw[GR]
 cases e:l.find? (λg=>decide (key g=key h)) with
 |some y=>
  simp only[Option.some_or,Dq];refine⟨λj=>.inl j,λj=>?_⟩;rcases j with j|⟨rfl,E⟩;·exact j
  have J:=B6 e;exact absurd (by simpa using J) (E y (Df e))
 |none=>
  rw[GL] at e;simp only[Option.none_or,reduceCtorEq,false_or];by_cases D:key x=key h
  ·simp only[Ed,D,decide_true,Dq];constructor;·rintro rfl;exact⟨rfl,λg I=>by simpa using e g I⟩
   rintro⟨rfl,_⟩;rfl
  simp only[Ed,D,decide_false,List.find?_nil,reduceCtorEq,false_iff];rintro⟨rfl,_⟩;exact D rfl
theorem BB{l:List α}{g:α}(D:g∈l):∃h,XK key l h/\key h=key g:=by
 cases e:l.find? (λk=>decide (key k=key g)) with
 |some y=>
  have j:key y=key g:=by have:=B6 e;simpa using this
  exact⟨y,by unfold XK;rw[j];exact e,j⟩
 |none=>rw[GL] at e;exact absurd (QF rfl) (e g D)
def VT(key:α->κ)(l:List α):Prop:=l.Pairwise (λa b=>key a≠key b)
omit [DecidableEq κ] in
theorem VT.eq{l:List α}(h:VT key l){a b:α}(I:a∈l)(hb:b∈l)(e:key a=key b):a=b:=by
 unfold VT at h
 induction l with
 |nil=>cases I
 |cons x l O=>
  obtain⟨E,J⟩:=Yh.1 h;rcases QI.1 I with D|D
  ·rcases QI.1 hb with j|j;·exact D.trans j.symm
   exact absurd (D▸e) (E b j)
  rcases QI.1 hb with j|j;·exact absurd (j▸e.symm) (E a D)
  exact O J D j
theorem VT.first{l:List α}(u:VT key l)(h:α):XK key l h↔h∈l:=by refine⟨UN,λhm=>?_⟩;obtain⟨g,j,e⟩:=BB (key:=key) hm;rw[<-u.eq (UN j) hm e];exact j
end
def Fd(l T:List QJ):Prop:=T.Pairwise (λx y=>x.at_.Lt y.at_)/\∀h,h∈T↔XK QJ.at_ l h
theorem SB{l H M:List QJ}(h:Fd l H)(m:Fd l M):H=M:=
 Fc (lt:=λx y:QJ=>x.at_.Lt y.at_) (λa=>Zv.irrefl a.at_) (λa b c=>Zv.trans a.at_ b.at_ c.at_) h.1 m.1 (λx=>(h.2 x).trans (m.2 x).symm)
def QD(L:List Q2)(x:Id):Option Q2:=L.find? (λp=>decide (p.nd=x))
def Zx(L:List Q2):Nat->Id->Id->Bool|0,_,_=>true|n+1,x,h=>if x=h then true else match QD L x with|none=>false|some p=>Zx L n p.pa h
def Qf:Id:=⟨⟨0,0,by decide,by decide⟩,0,by decide⟩
def XW(p:Q2):List Q2->List Q2|[]=>[p]|q::L=>if p.nd=q.nd then { p with dir:=q.dir }::L else if p.nd.cmp q.nd<0 then p::q::L else q::XW p L
def Y3(L:List Q2)(p:Q2):List Q2:=if p.nd=Qf\/Zx L (L.length+1) p.pa p.nd=true then L else XW p L
def Xv(T:List QJ):List Q2:=T.foldl (λL t=>Y3 L t.p) []
theorem OU(T:List QJ)(t:QJ):Xv (T++[t])=Y3 (Xv T) t.p:=by simp[Xv]
def ZT(L:List Q2):Prop:=L.Pairwise (λa b=>a.nd.Lt b.nd)
theorem DX{L:List Q2}{x:Id}{p:Q2}(h:QD L x=some p):p.nd=x:=by have:=B6 h;simpa using this
theorem BC{L:List Q2}{x:Id}{p:Q2}(h:QD L x=some p):p∈L:=Df h
theorem ZT.unlike{L:List Q2}(h:ZT L):VT Q2.nd L:=by unfold VT;unfold ZT at h;refine h.imp ?_;intro a b j e;rw[e] at j;exact Zv.irrefl b.nd j
theorem ZT.find{L:List Q2}(h:ZT L)(p:Q2):QD L p.nd=some p↔p∈L:=
 VT.first (key:=Q2.nd) h.unlike p
theorem Ku{L:List Q2}{x:Id}:QD L x=none↔∀p∈L,p.nd≠x:=by
 unfold QD;rw[GL];constructor;·intro h p j e;exact h p j (by simpa using e)
 intro h p j e;exact h p j (by simpa using e)
theorem SC{L M:List Q2}(h:ZT L)(m:ZT M)(e:∀x,QD L x=QD M x):L=M:=
 Fc (lt:=λx y:Q2=>x.nd.Lt y.nd) (λa=>Zv.irrefl a.nd) (λa b c=>Zv.trans a.nd b.nd c.nd) h m (λx=>by rw[<-h.find,<-m.find,e])
theorem OV{p:Q2}:∀{L:List Q2}{q:Q2},q∈XW p L->q.nd=p.nd\/q∈L
 |[],q,h=>by simp only[XW,Qw] at h;exact .inl (by rw[h])
 |a::L,q,h=>by
  rw[XW] at h;split at h
  ·rename_i e;rcases QI.1 h with rfl|h;·exact .inl rfl
   exact .inr (X2 _ h)
  split at h
  ·rcases QI.1 h with rfl|h;·exact .inl rfl
   exact .inr h
  rcases QI.1 h with rfl|h;·exact .inr (by simp)
  exact(OV h).imp id (X2 _)
theorem BD{p:Q2}:∀{L:List Q2},ZT L->ZT (XW p L)
 |[],_=>GI _ _
 |a::L,h=>by
  obtain⟨D,E⟩:=Yh.1 h;rw[XW];split;·rename_i e;exact Yh.2 ⟨λb hb=>(e▸D b hb),E⟩
  rename_i e;split
  ·rename_i j;have j:=(XV _ _).1 j;refine Yh.2 ⟨λb hb=>?_,h⟩;rcases QI.1 hb with rfl|hb;·exact j
   exact Zv.trans _ _ _ j (D b hb)
  rename_i j
  have J:a.nd.Lt p.nd:=by
   rcases Zv.total a.nd p.nd with t|t|t;·exact t
   ·exact absurd t.symm e
   exact absurd ((XV _ _).2 t) j
  refine Yh.2 ⟨λb hb=>?_,BD E⟩;rcases OV hb with I|hb;·exact I▸J
  exact D b hb
def UO(f:Option Q2)(p:Q2):Q2:=match f with|some q=>{ p with dir:=q.dir }|none=>p
theorem BE{p:Q2}:∀{L:List Q2},ZT L->∀x,QD (XW p L) x=if x=p.nd then some (UO (QD L p.nd) p) else QD L x
 |[],_,x=>by
  unfold XW QD;by_cases h:x=p.nd;·simp[h,UO]
  rw[Q6 h];simp[XF h]
 |a::L,h,x=>by
  obtain⟨Q,U⟩:=Yh.1 h;have Y:=BE (p:=p) U;have D:∀(b:Q2)(M:List Q2)(y:Id),QD (b::M) y=if b.nd=y then some b else QD M y:=by intro b M y;unfold QD;rw[Ed];by_cases e:b.nd=y<;>simp[e]
  rw[XW];split
  ·rename_i e;rw[D];by_cases j:x=p.nd;·subst j;rw[Q7 rfl,Q7 rfl,D,Q7 e.symm];rfl
   rw[Q6 (XF j),Q6 j,D,Q6 (λE:a.nd=x=>j (E.symm.trans e.symm))]
  rename_i e;split
  ·rename_i I;have I:=(XV _ _).1 I
   have W:QD (a::L) p.nd=none:=Ku.2 (λq X E=>by
    rcases QI.1 X with J|J;·exact e (J▸E.symm)
    have O:=Zv.trans _ _ _ I (Q q J);rw[E] at O
    exact Zv.irrefl _ O)
   rw[D,W];by_cases j:x=p.nd;·subst j;rw[Q7 rfl,Q7 rfl];rfl
   rw[Q6 (XF j),Q6 j]
  rw[D,Y,D a L p.nd,Q6 (XF e),D];by_cases j:x=p.nd;·subst j;rw[Q7 rfl,Q7 rfl,Q6 (XF e)]
  rw[Q6 j,Q6 j]
theorem BF{p:Q2}:∀{L:List Q2},ZT L->(XW p L).length=if QD L p.nd=none then L.length+1 else L.length
 |[],_=>by simp[XW,QD]
 |a::L,h=>by
  obtain⟨U,W⟩:=Yh.1 h;have Y:=BF (p:=p) W;rw[XW];split;·rename_i e;rw[Q6 (λj=>Ku.1 j a (by simp) e.symm)];rfl
  rename_i e;split
  ·rename_i I;have I:=(XV _ _).1 I
   have X:QD (a::L) p.nd=none:=Ku.2 (λq D O=>by
    rcases QI.1 D with J|J;·exact e (J▸O.symm)
    have Q:=Zv.trans _ _ _ I (U q J);rw[O] at Q
    exact Zv.irrefl _ Q)
   rw[Q7 X];rfl
  rw[Z4,Y]
  have:QD (a::L) p.nd=none↔QD L p.nd=none:=by
   rw[Ku,Ku];constructor;·intro j q D;exact j q (X2 _ D)
   intro j q D;rcases QI.1 D with rfl|D;·exact XF e
   exact j q D
  by_cases E:QD L p.nd=none;·rw[Q7 E,Q7 (this.2 E),Z4]
  rw[Q6 E,Q6 (λj=>E (this.1 j)),Z4]
theorem SD{L:List Q2}(h:ZT L)(p:Q2):ZT (Y3 L p):=by
 unfold Y3;split;·exact h
 exact BD h
theorem BG(T:List QJ):ZT (Xv T):=by
 unfold Xv
 have:∀(T:List QJ)(L:List Q2),ZT L->ZT (T.foldl (λL t=>Y3 L t.p) L):=by
  intro T
  induction T with
  |nil=>intro L h;exact h
  |cons t T j=>intro L h;exact j _ (SD h t.p)
 exact this T [] List.Pairwise.nil
def Vu(L:List Q2):Nat->Id->Prop|0,x=>QD L x=none|n+1,x=>∃p,QD L x=some p/\Vu L n p.pa
theorem Vu.unique{L:List Q2}:∀{n m:Nat}{x:Id},Vu L n x->Vu L m x->n=m|0,0,_,_,_=>rfl|0,m+1,x,h,⟨p,j,_⟩=>by rw[show QD L x=none from h] at j;cases j|n+1,0,x,⟨p,j,_⟩,h=>by rw[show QD L x=none from h] at j;cases j|n+1,m+1,x,⟨p,j,h⟩,⟨q,D,k⟩=>by rw[j] at D;cases D;rw[Vu.unique h k]
theorem Gg{α:Type}:∀{l M:List α},l.Nodup->(∀x∈l,x∈M)->l.length<=M.length
 |[],_,_,_=>Qh _
 |a::l,M,h,j=>by
  obtain⟨E,I⟩:=GS.1 h;obtain⟨s,t,rfl⟩:=List.append_of_mem (j a (by simp))
  have:=Gg (M:=s++t) I (λx D=>by
   have hm:=j x (X2 _ D);simp only[Qq,QI] at hm |-;rcases hm with hm|rfl|hm;·exact .inl hm
   ·exact absurd D E
   exact .inr hm)
  simp only[Z4,Qj] at this |-;omega
theorem OW{L:List Q2}:∀{n:Nat}{x:Id},Vu L n x->∃l:List Q2,l.length=n/\l.Nodup/\∀q∈l,q∈L/\∃i,i<=n/\Vu L i q.nd
 |0,x,_=>⟨[],rfl,Du,λ_ h=>by cases h⟩
 |n+1,x,⟨p,j,h⟩=>by
  obtain⟨l,J,O,I⟩:=OW h;refine⟨p::l,by simp[J],GS.2 ⟨λhm=>?_,O⟩,λq E=>?_⟩;·obtain⟨_,i,Q,D⟩:=I p hm;have:=Vu.unique D (DX j▸(⟨p,j,h⟩:Vu L (n+1) x):Vu L (n+1) p.nd);omega
  rcases QI.1 E with rfl|E;·exact⟨BC j,n+1,Q3 _,DX j▸⟨q,j,h⟩⟩
  obtain⟨a,i,Q,D⟩:=I q E;exact⟨a,i,by omega,D⟩
theorem OX{L:List Q2}{n:Nat}{x:Id}(h:Vu L n x):n<=L.length:=by obtain⟨l,j,D,E⟩:=OW h;rw[<-j];exact Gg D (λq I=>(E q I).1)
instance : Coe Q2 (List Go.Value):=⟨λo=>[.int .i64 o.nd.s.T,.int .i64 o.nd.s.R,.int .i64 o.nd.I,.int .i64 o.pa.s.T,.int .i64 o.pa.s.R,.int .i64 o.pa.I,.string o.nm,.bool o.dir]⟩
instance : Coe Q2 (Array Go.Value):=⟨λo=>#[.int .i64 o.nd.s.T,.int .i64 o.nd.s.R,.int .i64 o.nd.I,.int .i64 o.pa.s.T,.int .i64 o.pa.s.R,.int .i64 o.pa.I,.string o.nm,.bool o.dir]⟩
end
section
open Go Go.RowKit
theorem Ca(a:Q4)(w:World):Calls Tryz.prog 56 #[QU a] w λe w'=>e=.returned (.bool (right a))/\Q0 w w':=by
 obtain⟨j,h,_,_⟩:=a;unfold QU right;dsimp only;go_enter Tryz.func56,Tryz.ntmps56;go_wp2;all_goals go_ret;refine⟨Qo ?_,(Q0.refl w).alloc _⟩
 all_goals first|rfl|(simp[*];done)|(simp;omega)
theorem Cb(a:Q4)(w:World):Calls Tryz.prog 203 #[QU a] w λe w'=>e=.returned (.bool (right a))/\Q0 w w':=by
 obtain⟨j,h,_,_⟩:=a;unfold QU right;dsimp only;go_enter Tryz.func203,Tryz.ntmps203;go_wp2;all_goals go_ret;refine⟨Qo ?_,(Q0.refl w).alloc _⟩
 all_goals first|rfl|(simp[*];done)|(simp;omega)
theorem Ax(a:Id)(w:World):Calls Tryz.prog 141 #[Qa a] w λe w'=>e=.returned (.bool (ZS a))/\Q0 w w':=by
 have H:=Ki (λW=>Ca a.s W);have j:=Kj (ZS a=(right a.s&&decide (0<=a.I)&&decide (a.I<=400000))) rfl;generalize ZS a=z at *;generalize right a.s=y at *;unfold Qa at *;unfold QU at *;cases y;all_goals go_enter Tryz.func141,Tryz.ntmps141;go_wp2_with fail;refine(H.o _).mono ?_;rintro e I ⟨rfl,h⟩;obtain⟨D,E⟩:=GW h.below;go_wp2
 all_goals go_ret;refine⟨Qo ?_,((Q0.refl w).alloc _).trans h⟩;rw[j.o]
 all_goals first|rfl|(simp[*];done)|(simp;omega)
theorem Ay(a:Id)(w:World):Calls Tryz.prog 248 #[Qa a] w λe w'=>e=.returned (.bool (ZS a))/\Q0 w w':=by
 have H:=Ki (λW=>Cb a.s W);have j:=Kj (ZS a=(right a.s&&decide (0<=a.I)&&decide (a.I<=400000))) rfl;generalize ZS a=z at *;generalize right a.s=y at *;unfold Qa at *;unfold QU at *;cases y;all_goals go_enter Tryz.func248,Tryz.ntmps248;go_wp2_with fail;refine(H.o _).mono ?_;rintro e I ⟨rfl,h⟩;obtain⟨D,E⟩:=GW h.below;go_wp2
 all_goals go_ret;refine⟨Qo ?_,((Q0.refl w).alloc _).trans h⟩;rw[j.o]
 all_goals first|rfl|(simp[*];done)|(simp;omega)
theorem Yy(x:Int):(QS x).length=1:=rfl
theorem TC(l:List Int)(r:Int)(A:Option Addr)(n c B:Nat)(w:World)(j:Rd w B 1 (.slice A n c) n (l.flatMap QS))(Q:Qu r):Calls Tryz.prog 40 #[.slice A n c,r] w λe w'=>e=.returned (.int .i64 (Zw l r))/\w=w':=by
 obtain⟨_,Z,O⟩:=j.len;unfold maxLen at O;obtain rfl:=QL QS 1 Yy (by decide) j.1;unfold Qu at Q;by_cases D:r<1;·have h:=Kj (Zw l r=0) (Q7 D);go_enter Tryz.func40,Tryz.ntmps40;go_wp2;go_ret;exact⟨YX h.o.symm,rfl⟩
 by_cases U:r<=l.length
 ·obtain⟨k,rfl⟩:∃k:Nat,r=(k:Int)+1:=⟨(r-1).toNat,by omega⟩;have I:k<l.length:=(by omega);obtain⟨b,o,rfl,W,E⟩:=Qr QS 1 Yy (by decide) j I;have J:w.cell? (b,o+k*1)=some (.int .i64 l[k]):=E 0 _ rfl;rw[Uf] at J
  have h:=Ki (show Zw l ((k:Int)+1)=l[k] by
   unfold Zw
   rw[Q6 D,show((k:Int)+1-1).toNat=k by omega,X3 I])
  have a0:(k:Int)+1-1=k:=(by omega);have X:(0:Int)<=k:=(by omega);have Y:(k:Int)<l.length:=(by omega);generalize hx:Zw l ((k:Int)+1)=x at *;clear E j;go_enter Tryz.func40,Tryz.ntmps40;go_wp2;go_ret;exact⟨YX h.o.symm,rfl⟩
 have h:=Ki (show Zw l r=0 by
  unfold Zw
  rw[Q6 D,List.getElem?_eq_none (by omega)])
 clear j;go_enter Tryz.func40,Tryz.ntmps40;go_wp2;go_ret;exact⟨YX h.o.symm,rfl⟩
theorem PJ(l:List Int)(r:Int)(A:Option Addr)(n c B:Nat)(w:World)(h:Rd w B 1 (.slice A n c) n (l.flatMap QS))(j:Qu r):Calls Tryz.prog 17 #[.slice A n c,r] w λe w'=>e=.returned (.int .i64 (Zw l r))/\w=w':=by have H:=Ki (TC l r A n c B w h j);clear h;go_enter Tryz.func17,Tryz.ntmps17;go_wp2_with fail;refine H.o.mono ?_;rintro e D ⟨rfl,rfl⟩;go_wp2;go_ret;exact⟨rfl,rfl⟩
theorem Fj(l:List Int)(r:Int)(A:Option Addr)(n c B:Nat)(w:World)(j:Rd w B 1 (.slice A n c) n (l.flatMap QS))(Q:Qu r):Calls Tryz.prog 35 #[.slice A n c,r] w λe w'=>e=.returned (.int .i64 (Zw l r))/\w=w':=by
 obtain⟨_,Z,O⟩:=j.len;unfold maxLen at O;obtain rfl:=QL QS 1 Yy (by decide) j.1;unfold Qu at Q;by_cases D:r<1;·have h:=Kj (Zw l r=0) (Q7 D);go_enter Tryz.func35,Tryz.ntmps35;go_wp2;go_ret;exact⟨YX h.o.symm,rfl⟩
 by_cases U:r<=l.length
 ·obtain⟨k,rfl⟩:∃k:Nat,r=(k:Int)+1:=⟨(r-1).toNat,by omega⟩;have I:k<l.length:=(by omega);obtain⟨b,o,rfl,W,E⟩:=Qr QS 1 Yy (by decide) j I;have J:w.cell? (b,o+k*1)=some (.int .i64 l[k]):=E 0 _ rfl;rw[Uf] at J
  have h:=Ki (show Zw l ((k:Int)+1)=l[k] by
   unfold Zw
   rw[Q6 D,show((k:Int)+1-1).toNat=k by omega,X3 I])
  have a0:(k:Int)+1-1=k:=(by omega);have X:(0:Int)<=k:=(by omega);have Y:(k:Int)<l.length:=(by omega);generalize hx:Zw l ((k:Int)+1)=x at *;clear E j;go_enter Tryz.func35,Tryz.ntmps35;go_wp2;go_ret;exact⟨YX h.o.symm,rfl⟩
 have h:=Ki (show Zw l r=0 by
  unfold Zw
  rw[Q6 D,List.getElem?_eq_none (by omega)])
 clear j;go_enter Tryz.func35,Tryz.ntmps35;go_wp2;go_ret;exact⟨YX h.o.symm,rfl⟩
theorem AD{l:List Int}{w:World}{B:Nat}{A:Option Addr}{n c:Nat}(j:Rd w B 1 (.slice A n c) n (l.flatMap QS)){k:Nat}(I:k<=l.length):Rd w B 1 (.slice A k c) k ((l.take k).flatMap QS):=by
 obtain⟨_,J,E⟩:=j.len;obtain rfl:=QL QS 1 Yy (by decide) j.1;have h:=j.sub (i:=0) (k:=k) (Qh _) I A (λ_ b o e=>by rw[e];simp) (c':=c) (by omega) E;rw[Nat.sub_zero] at h
 have e:((l.flatMap QS).drop (0*1)).take (k*1)=(l.take k).flatMap QS:=by
  rw[Ef,List.drop_zero,Uf];have D:∀m:List Int,m.flatMap QS=m.map (.int .i64 ·):=λm=>by rw[List.map_eq_flatMap];rfl
  rw[D,D,List.map_take]
 rwa [e] at h
def TL(l:List Int)(A:Option Addr)(c:Nat)(w:World)(v:Value)(wr:World):Prop:=
 ∃k:Nat,k<=l.length/\v=.slice A k c/\(∀j (h:j<l.length),k<=j->l[j]=0)/\∃q,wr=w.drewN q
def PO:Value->Nat|.slice _ n _=>n|_=>0
theorem TM(l:List Int)(A:Option Addr)(n c B:Nat)(w:World)(J:Rd w B 1 (.slice A n c) n (l.flatMap QS)):Calls Tryz.prog 71 #[.slice A n c] w λe w'=>e=.returned (.slice A (ZO l) c)/\Q0 w w':=by
 obtain⟨_,a2,Y⟩:=J.len;unfold maxLen at Y;obtain rfl:=QL QS 1 Yy (by decide) J.1;have W:=Ki J;clear J;go_enter Tryz.func71,Tryz.ntmps71;go_wp2;go_loopw [0] (λv wr=>TL l A c w v wr) (λv _=>PO v);case atStart=>exact⟨_,Q3 _,rfl,λj h X=>absurd h (by omega),0,rfl⟩
 case round=>
  obtain⟨k,U,rfl,E,q,rfl⟩:=hrel;rcases k with _|k;·have I:=Ki (DQ l 0 U E (λh=>absurd h (by omega)));clear E;go_wp2;go_ret;exact⟨by rw[I.o];rfl,(Q0.refl w).drewN q⟩
  obtain⟨b,o,rfl,Z,Q⟩:=Qr QS 1 Yy (by decide) W.o (show k<l.length by omega);have O:w.cell? (b,o+k*1)=some (.int .i64 l[k]):=Q 0 _ rfl;rw[Uf] at O;clear Q;have a3:((k+1:Nat):Int)-1=k:=(by omega);have a0:(0:Int)<=k:=(by omega);have a1:(k:Int)<(k+1:Nat):=(by omega);by_cases D:l[k]=0
  ·have I:=Ki (show ∀j (h:j<l.length),k<=j->l[j]=0 from λj h X=>by
    by_cases e:j=k;·subst e;exact D
    exact E j h (by omega))
   clear E;rw[D] at O;clear D;go_wp2;go_roundw;case rel=>exact⟨k,by omega,rfl,I.o,_,rfl⟩
   case measure=>simp[PO]
  have I:=Ki (DQ l (k+1) U E (λ_=>by simpa using D));clear E;have a4:(l[k]==0)=false:=(by simpa using D);clear D;generalize l[k]=y at *;go_wp2;go_ret;exact⟨by rw[I.o];rfl,(Q0.refl w).drewN q⟩
theorem PP(l:List Int)(A:Option Addr)(n c B:Nat)(w:World)(h:Rd w B 1 (.slice A n c) n (l.flatMap QS)):Calls Tryz.prog 39 #[.slice A n c] w λe w'=>e=.returned (.slice A (ZO l) c)/\Q0 w w':=by have H:=Ki (TM l A n c B w h);clear h;go_enter Tryz.func39,Tryz.ntmps39;go_wp2_with fail;refine H.o.mono ?_;rintro e D ⟨rfl,j⟩;go_wp2;go_ret;exact⟨rfl,j⟩
def TN(l:List Int)(w:World)(v:Value)(wr:World):Prop:=
 ∃k:Nat,k<=l.length/\v=k/\(∀j (h:j<l.length),k<=j->l[j]=0)/\∃q,wr=w.drewN q
theorem AE(l:List Int)(A:Option Addr)(n c B:Nat)(w:World)(J:Rd w B 1 (.slice A n c) n (l.flatMap QS)):Calls Tryz.prog 64 #[.slice A n c] w λe w'=>e=.returned (.slice A (ZO l) c)/\Q0 w w':=by
 obtain⟨_,a2,Y⟩:=J.len;unfold maxLen at Y;obtain rfl:=QL QS 1 Yy (by decide) J.1;have W:=Ki J;clear J;go_enter Tryz.func64,Tryz.ntmps64;go_wp2;go_loopw [3] (λv wr=>TN l w v wr) (λv _=>(intOf v).toNat);case atStart=>exact⟨_,Q3 _,rfl,λj h X=>absurd h (by omega),0,rfl⟩
 case round=>
  obtain⟨k,U,rfl,E,q,rfl⟩:=hrel;rcases k with _|k;·have I:=Ki (DQ l 0 U E (λh=>absurd h (by omega)));clear E;go_wp2;go_ret;exact⟨by rw[I.o];rfl,(Q0.refl w).drewN q⟩
  obtain⟨b,o,rfl,Z,Q⟩:=Qr QS 1 Yy (by decide) W.o (show k<l.length by omega);have O:w.cell? (b,o+k*1)=some (.int .i64 l[k]):=Q 0 _ rfl;rw[Uf] at O;clear Q;have a3:((k+1:Nat):Int)-1=k:=(by omega);have a0:(0:Int)<=k:=(by omega);have a1:(k:Int)<(k+1:Nat):=(by omega);by_cases D:l[k]=0
  ·have I:=Ki (show ∀j (h:j<l.length),k<=j->l[j]=0 from λj h X=>by
    by_cases e:j=k;·subst e;exact D
    exact E j h (by omega))
   clear E;rw[D] at O;clear D;go_wp2;go_roundw;case rel=>exact⟨k,by omega,by go_num,I.o,_,rfl⟩
   case measure=>simp[intOf]
  have I:=Ki (DQ l (k+1) U E (λ_=>by simpa using D));clear E;have a4:(l[k]==0)=false:=(by simpa using D);clear D;generalize l[k]=y at *;go_wp2;go_ret;exact⟨by rw[I.o];rfl,(Q0.refl w).drewN q⟩
theorem Fk(l:List Int):ZO l<=l.length:=by unfold ZO;have:=(List.dropWhile_sublist (λx=>decide (x=0)) (l:=l.reverse)).length_le;rwa [G0] at this
def PQ(l:List Int)(w:World)(v:Value)(wr:World):Prop:=∃k:Nat,k<=l.length/\v=k/\(∀j (h:j<l.length),j<k->0<=l[j])/\∃q,wr=w.drewN q
theorem PR{l:List Int}{k:Nat}(h:k<l.length)(j:l[k]<0):Jf l=false:=by
 unfold Jf;have:l.all (λn=>decide (0<=n))=false:=by rw[B2];exact⟨_,Zt h,by simp;omega⟩
 rw[this];rfl
theorem PT{l:List Int}(h:∀j (h:j<l.length),0<=l[j]):Jf l=(decide (l.length<=16)&&decide (ZO l=l.length)):=by
 unfold Jf;have:l.all (λn=>decide (0<=n))=true:=by rw[V4];intro x E;obtain⟨i,D,rfl⟩:=U9.1 E;simpa using h i D
 rw[this];rfl
theorem TO(l:List Int)(A:Option Addr)(n c B:Nat)(w:World)(E:Rd w B 1 (.slice A n c) n (l.flatMap QS))(hB:B<=w):Calls Tryz.prog 101 #[.slice A n c] w λe w'=>e=.returned (.bool (Jf l))/\Q0 w w':=by
 obtain⟨_,a3,a1⟩:=E.len;unfold maxLen at a1;obtain rfl:=QL QS 1 Yy (by decide) E.1;have Z:=Ki E;have O:=Ki (λq=>PP l A _ c B (w.drewN q) (E.below' ((Q0.refl w).drewN q).below hB));have HN:=Ki (Fk l);clear E;go_enter Tryz.func101,Tryz.ntmps101;go_wp2;go_loopw [7] (λv wr=>PQ l w v wr) (λv _=>l.length-(intOf v).toNat);case atStart=>exact⟨0,Qh _,rfl,λj h W=>absurd W (by omega),0,rfl⟩
 case round=>
  obtain⟨k,hk,rfl,J,q,rfl⟩:=hrel;by_cases Y:k<l.length
  ·obtain⟨b,o,rfl,a2,X⟩:=Qr QS 1 Yy (by decide) Z.o Y;have d0:w.cell? (b,o+k*1)=some (.int .i64 l[k]):=X 0 _ rfl;rw[Uf] at d0;clear X;by_cases hx:l[k]<0;·have D:=Ki (PR Y hx);clear J;generalize l[k]=y at *;go_wp2;go_ret;exact⟨by rw[D.o];rfl,(Q0.refl w).drewN q⟩
   have D:=Ki (show ∀j (h:j<l.length),j<k+1->0<=l[j] from λj h W=>by
    by_cases e:j=k;·subst e;omega
    exact J j h (by omega))
   clear J;generalize l[k]=y at *;go_wp2;go_roundw;case rel=>exact⟨k+1,by omega,by go_num,D.o,_,rfl⟩
   case measure=>simp[intOf];omega
  have D:=Ki (PT (λj h=>J j h (by omega)));clear J;by_cases a0:l.length<=16
  ·by_cases I:ZO l=l.length;·rw[I] at O D;clear I;go_wp2_with fail;refine(O.o _).mono ?_;rintro e w1 ⟨rfl,U⟩;go_wp2;go_ret;exact⟨Qo (by rw[D.o];simp;omega),((Q0.refl w).drewN q).trans U⟩
   have a4:((ZO l:Int)==(l.length:Int))=false:=(by simpa using (λh=>I (by omega)));have Q:=Ki (show Jf l=false by rw[D.o];simp[I]);clear I D;generalize ZO l=y at *;go_wp2_with fail;refine(O.o _).mono ?_;rintro e w1 ⟨rfl,U⟩;go_wp2;go_ret;exact⟨Qo Q.o.symm,((Q0.refl w).drewN q).trans U⟩
  have Q:=Ki (show Jf l=false by rw[D.o];simp[a0]);clear D;go_wp2;go_ret;exact⟨Qo Q.o.symm,(Q0.refl w).drewN q⟩
theorem TP(L M:List Int)(A Q:Option Addr)(n c O c' B:Nat)(w:World)(I:Rd w B 1 (.slice A n c) n (L.flatMap QS))(J:Rd w B 1 (.slice Q O c') O (M.flatMap QS)):Calls Tryz.prog 240 #[.slice A n c,.slice Q O c'] w λe w'=>e=.returned (.bool (decide (L=M)))/\Q0 w w':=by
 obtain⟨_,a6,a1⟩:=I.len;obtain⟨_,a7,a2⟩:=J.len;unfold maxLen at a1 a2;obtain rfl:=QL QS 1 Yy (by decide) I.1;obtain rfl:=QL QS 1 Yy (by decide) J.1;have HR:=Ki I;have a0:=Ki J;clear I J;by_cases E:L.length=M.length
 ·have a3:((L.length:Int) != (M.length:Int))=false:=by simp[E]
  have U:=Ki E;clear E;go_enter Tryz.func240,Tryz.ntmps240;go_wp2;go_loopw [5] (λi wr=>OE L M w i wr) (λi _=>L.length-(intOf i).toNat);case atStart=>exact⟨0,Qh _,rfl,rfl,0,rfl⟩
  case round=>
   obtain⟨k,hk,rfl,j,q,rfl⟩:=hrel;by_cases Y:k<L.length
   ·have Z:k<M.length:=(by have:=U.o;omega);obtain⟨b,o,rfl,a4,W⟩:=Qr QS 1 Yy (by decide) HR.o Y;obtain⟨b',o',rfl,a5,X⟩:=Qr QS 1 Yy (by decide) a0.o Z;have d0:w.cell? (b,o+k*1)=some (.int .i64 L[k]):=W 0 _ rfl;have e0:w.cell? (b',o'+k*1)=some (.int .i64 M[k]):=X 0 _ rfl;rw[Uf] at d0 e0;clear W X;by_cases D:L[k]=M[k]
    ·have h:=Ki (OD Y Z j D);have hE:(L[k] != M[k])=false:=(by simp[D]);clear D j;generalize L[k]=x at *;generalize M[k]=y at *;go_wp2;go_quiet (fail);go_wp2;go_roundw;case rel=>exact⟨k+1,by omega,by go_num,h.o,q+nq,rfl⟩
     case measure=>simp[intOf];omega
    have h:=Kj (decide (L=M)=false) (Zo (by rintro rfl;exact D rfl));have hE:(L[k] != M[k])=true:=(by simp[D]);clear D j;generalize L[k]=x at *;generalize M[k]=y at *;go_wp2;go_quiet (fail);go_wp2;go_ret;exact⟨Qo h.o.symm,((Q0.refl w).drewN q).drewN nq⟩
   have h:=Ki (QF (by rw[Zk (by omega),Zk (by have:=U.o;omega)] at j;exact j));clear j;go_wp2;go_ret;exact⟨Qo h.o.symm,(Q0.refl w).drewN q⟩
 have a3:((L.length:Int) != (M.length:Int))=true:=by simp;omega
 have h:=Kj (decide (L=M)=false) (Zo (by rintro rfl;exact E rfl));clear E;go_enter Tryz.func240,Tryz.ntmps240;go_wp2;go_ret;exact⟨Qo h.o.symm,Q0.refl w⟩
theorem TQ{l:List Int}:decide (l=l.take (ZO l))=decide (ZO l=l.length):=by
 have:=Fk l;by_cases h:ZO l=l.length;·rw[h,X6,QF rfl,QF rfl]
 rw[Zo h,Zo λe=>h (by have:=Xz List.length e;rw[Zi] at this;omega)]
theorem TR(l:List Int)(A:Option Addr)(n c B:Nat)(w:World)(E:Rd w B 1 (.slice A n c) n (l.flatMap QS))(O:B<=w):Calls Tryz.prog 204 #[.slice A n c] w λe w'=>e=.returned (.bool (Jf l))/\Q0 w w':=by
 obtain⟨_,a4,a1⟩:=E.len;unfold maxLen at a1;obtain rfl:=QL QS 1 Yy (by decide) E.1;have HR:=Ki E;have HP:=Ki (λq=>AE l A _ c B (w.drewN q) (E.below' ((Q0.refl w).drewN q).below O));have HS:=Ki (λW (X:Q0 w W)=>TP l (l.take (ZO l)) A A _ c _ c B W (E.below' X.below O) (AD (E.below' X.below O) (Fk l)));clear E;go_enter Tryz.func204,Tryz.ntmps204;go_wp2;go_loopw [3] (λv wr=>PQ l w v wr) (λv _=>l.length-(intOf v).toNat);case atStart=>exact⟨0,Qh _,rfl,λj h Q=>absurd Q (by omega),0,rfl⟩
 case round=>
  obtain⟨k,hk,rfl,I,q,rfl⟩:=hrel;by_cases a0:k<l.length
  ·obtain⟨b,o,rfl,a3,Y⟩:=Qr QS 1 Yy (by decide) HR.o a0;have d0:w.cell? (b,o+k*1)=some (.int .i64 l[k]):=Y 0 _ rfl;rw[Uf] at d0;clear Y;by_cases hx:l[k]<0;·have D:=Ki (PR a0 hx);clear I;generalize l[k]=y at *;go_wp2;go_ret;exact⟨by rw[D.o];rfl,(Q0.refl w).drewN q⟩
   have D:=Ki (show ∀j (h:j<l.length),j<k+1->0<=l[j] from λj h Q=>by
    by_cases e:j=k;·subst e;omega
    exact I j h (by omega))
   clear I;generalize l[k]=y at *;go_wp2;go_roundw;case rel=>exact⟨k+1,by omega,by go_num,D.o,_,rfl⟩
   case measure=>simp[intOf];omega
  have D:=Ki (PT (λj h=>I j h (by omega)));clear I;by_cases U:l.length<=16;·have J:=Ki (show decide (l=l.take (ZO l))=Jf l by rw[D.o,TQ];simp[U]);clear D;generalize decide (l=l.take (ZO l))=y at *;go_wp2_with fail;refine(HP.o _).mono ?_;rintro e w1 ⟨rfl,Z⟩;go_wp2_with fail;refine(HS.o _ (((Q0.refl w).drewN q).trans Z)).mono ?_;rintro e w2 ⟨rfl,a2⟩;go_wp2;go_ret;exact⟨Qo J.o,(((Q0.refl w).drewN q).trans Z).trans a2⟩
  have J:=Ki (show Jf l=false by rw[D.o];simp[U]);clear D;go_wp2;go_ret;exact⟨Qo J.o.symm,(Q0.refl w).drewN q⟩
theorem QC{w:World}{b i:Nat}{v:Value}(hb:b<w)(h:w.cell? (b,i)=some v)(n:Nat)(os:Array Obj):(Sort.grow (w.drewN n) os).cell? (b,i)=some v:=by rw[Sort.cell?_grow _ _ _ hb];exact h
theorem Z9{w W:World}{n:Nat}{os:Array Obj}(h:W=Sort.grow (w.drewN n) os):Q0 w W:=⟨n,os,h⟩
def PU(g:Q1)(k:Int):List Value:=Qg g++[.int .i64 k]
def Xc(w:World)(h:Nat)(g:Q1)(k:Int):Prop:=w.heap[h]?=some (.cells (PU g k).toArray 139 (0,0))
theorem Xc.lt{w:World}{j:Nat}{g:Q1}{k:Int}(h:Xc w j g k):j<w:=(Q5.1 h).1
theorem Xc.cell{w:World}{j:Nat}{g:Q1}{k:Int}(h:Xc w j g k)(i:Nat)(v:Value)(hv:(PU g k)[i]?=some v):w.cell? (j,i)=some v:=by rw[cR i h];simpa using hv
theorem Xc.grows{w w':World}{j:Nat}{g:Q1}{k:Int}(h:Xc w j g k)(hb:Below w w w'):Xc w' j g k:=(hb.block j h.lt).trans h
theorem Fl(g:Q1)(k:Int)(x:Id)(Y:Nat)(w:World)(Z:Xc w Y g k):Calls Tryz.prog 106 #[.pointer (some ⟨Y,0,none⟩),Qa x] w λe w'=>e=.returned (.bool (Zq g.s k x))/\Q0 w w':=by
 have J:=Ki (λW=>Ax x W);have O:=Ki (λW=>Eo x.s g.s W);have Q:=Kj (Zq g.s k x=(ZS x&&(decide (x.s.cmp g.s<0)||decide (x.s=g.s)&&decide (x.I<k)))) rfl;have hE:=F3 x.s g.s;have a1:=Z.lt;generalize Zq g.s k x=r at *;generalize ZS x=y at *;generalize x.s.cmp g.s=z at *;generalize decide (x.s=g.s)=u at *;unfold Qa at *;unfold QU at *;go_enter Tryz.func106,Tryz.ntmps106;go_wp2;obtain⟨W0,U⟩:∃W,w.alloc (.cells #[x.s.T,x.s.R,x.I] 60)=W:=⟨_,rfl⟩;have I:Q0 w W0:=by rw[<-U];exact(Q0.refl w).alloc _
 have X:=bn U;have j:Xc W0 Y g k:=Z.grows I.below;rw[U];have f1:=λn os=>Ym X n os 0;have f2:=λn os=>Ym X n os 1;have f3:=λn os=>Ym X n os 2;have g1:=λn os=>QC j.lt (j.cell 0 _ rfl) n os;have g2:=λn os=>QC j.lt (j.cell 1 _ rfl) n os;have g3:=λn os=>QC j.lt (j.cell 7 _ rfl) n os;clear U X Z j;have hq:=GZ;have a0:=Kh;cases y
 ·refine QK (by kernel_rfl) (by kernel_rfl) ?_;iterate 33 (first|go_big_quiet_skip|quiet_step (first|(go_at_call 141;exact Qk (J.o _))|(go_at_call 57;exact Qk (O.o _))))
  refine QN ?_;rintro W ⟨⟨n,os⟩,h⟩;have D:=I.trans (Z9 h);clear h;go_wp2;go_ret;exact⟨Qo (by rw[Q.o];simp),D⟩
 rcases hz:decide (z<0) with _|_
 ·rcases u with _|_
  ·have E:=Ki hz;refine QK (by kernel_rfl) (by kernel_rfl) ?_;iterate 33 (first|go_big_quiet_skip|quiet_step (first|(go_at_call 141;exact Qk (J.o _))|(go_at_call 57;exact Qk (O.o _))))
   refine QN ?_;rintro W ⟨⟨n,os⟩,h⟩;have D:=I.trans (Z9 h);clear h;go_wp2;go_ret;exact⟨Qo (by rw[Q.o,E.o];simp),D⟩
  have E:=Ki hz;refine QK (by kernel_rfl) (by kernel_rfl) ?_;iterate 33 (first|go_big_quiet_skip|quiet_step (first|(go_at_call 141;exact Qk (J.o _))|(go_at_call 57;exact Qk (O.o _))))
  refine QN ?_;rintro W ⟨⟨n,os⟩,h⟩;have D:=I.trans (Z9 h);clear h;go_wp2;go_ret;exact⟨Qo (by rw[Q.o,E.o];simp),D⟩
 have E:=Ki hz;refine QK (by kernel_rfl) (by kernel_rfl) ?_;iterate 33 (first|go_big_quiet_skip|quiet_step (first|(go_at_call 141;exact Qk (J.o _))|(go_at_call 57;exact Qk (O.o _))))
 refine QN ?_;rintro W ⟨⟨n,os⟩,h⟩;have D:=I.trans (Z9 h);clear h;go_wp2;go_ret;exact⟨Qo (by rw[Q.o,E.o];simp),D⟩
theorem XE:type_of% @bodyPost_ret:=@bodyPost_ret
theorem Cc(x:Id):Xs x.s.T x.s.R x.I 0 0 0=ZX x:=by unfold Xs ZX;rw[Js];simp[and_assoc]
theorem AF(g:Q1)(k:Int)(x:Id)(h:Nat)(w:World)(D:Xc w h g k):Calls Tryz.prog 104 #[.pointer (h,0),Qa x] w λe w'=>e=.returned (.bool (X9 g.s k x))/\Q0 w w':=by
 have E:=Ki (λW (hb:Q0 w W)=>Fl g k x h W (D.grows hb.below));have j:=Kj (X9 g.s k x=(ZX x||Zq g.s k x)) rfl;have J:=Cc x;have Q:=Xt;have O:=ZR;generalize X9 g.s k x=r at *;generalize Zq g.s k x=z at *;clear D;unfold Qa at *;generalize ZX x=y at *;cases y;·go_enter Tryz.func104,Tryz.ntmps104;go_wp2_with fail;refine(E.o _ ((Q0.refl w).alloc _)).mono ?_;rintro e U ⟨rfl,I⟩;go_wp2;go_ret;exact⟨Qo (by rw[j.o];simp),((Q0.refl w).alloc _).trans I⟩
 go_enter Tryz.func104,Tryz.ntmps104;go_wp2;go_ret;exact⟨Qo (by rw[j.o];simp),(Q0.refl w).alloc _⟩
theorem PV(g:Q1)(k:Int)(j:Nat)(w:World)(h:Xc w j g k):Calls Tryz.prog 103 #[.pointer (j,0)] w λe w'=>e=.returned (.agg #[g.s.T,g.s.R,k])/\Q0 w w':=by
 have J:=h.lt;have D:=h.cell 0 _ rfl;have E:=h.cell 1 _ rfl;have I:=h.cell 7 _ rfl;go_enter Tryz.func103,Tryz.ntmps103;go_wp2;go_region;all_goals go_wp2
 all_goals refine XE (V2 rfl _ _ w 60 #[g.s.T,g.s.R,k] (0,0) _ rfl (Qi w _) UB rfl (by kernel_rfl)) rfl ⟨rfl,((Q0.refl w).alloc _).drewN 1⟩
theorem ED{s:Q4}{l:List Q4}{k:Nat}(h:k<l.length)(j:Ju s l k=false):Kl s l=false:=by
 unfold Kl;have:(List.range l.length).all (Ju s l)=false:=by rw[B2];exact⟨k,Uc.2 h,by rw[j];simp⟩
 rw[this];rfl
theorem TS{s:Q4}{l:List Q4}(h:∀j,j<l.length->Ju s l j=true):Kl s l=decide (l.length<=200):=by
 unfold Kl;have:(List.range l.length).all (Ju s l)=true:=by rw[V4];exact λj D=>h j (Uc.1 D)
 rw[this];rfl
theorem PW{s:Q4}{l:List Q4}{k:Nat}(h:k<l.length):Ju s l k=(right l[k]&&!decide (0<l[k].cmp s)&&(k==0||match l[k-1]? with|none=>true|some e=>decide (e.cmp l[k]<0))):=by unfold Ju;rw[X3 h];rfl
theorem TT{s:Q4}{l:List Q4}(h:0<l.length):Ju s l 0=(right l[0]&&!decide (0<l[0].cmp s)):=by rw[PW h];simp
theorem TU{s:Q4}{l:List Q4}{k:Nat}(h:k+1<l.length):Ju s l (k+1)=(right l[k+1]&&!decide (0<l[k+1].cmp s)&&decide (l[k].cmp l[k+1]<0)):=by rw[PW h];simp only[Nat.add_sub_cancel,X3 (show k<l.length by omega)];simp
def PX(h:Nat->Bool)(n:Nat)(w:World)(i:Value)(wr:World):Prop:=∃k:Nat,k<=n/\i=k/\(∀j,j<k->h j=true)/\Q0 w wr
theorem TV(g:Q1)(kc:Int)(l:List Q4)(cb:Nat)(A:Option Addr)(n c B:Nat)(w:World)(hc:Xc w cb g kc)(hR:Rd w B 2 (.slice A n c) n (l.flatMap Qv))(hB:B<=w):Calls Tryz.prog 107 #[.pointer (cb,0),.slice A n c] w λe w'=>e=.returned (.bool (Kl g.s l))/\Q0 w w':=by
 obtain⟨_,ag,a9⟩:=hR.len;unfold maxLen at a9;obtain rfl:=QL Qv 2 (λ_=>rfl) (by decide) hR.1;have HR:=Ki (λW (h:Q0 w W)=>hR.below' h.below hB);have HK:=Ki (λW (h:Q0 w W)=>hc.grows h.below);have H1:=Ki (λx W=>Ca x W);have H2:=Ki (λx y W=>Eo x y W);have af:=hc.lt;clear hR hc;go_enter Tryz.func107,Tryz.ntmps107;go_wp2;go_loopw [9] (λi wr=>PX (Ju g.s l) l.length w i wr) (λi _=>l.length-(intOf i).toNat);case atStart=>exact⟨0,Qh _,rfl,λj a3=>absurd a3 (by omega),Q0.refl w⟩
 case round=>
  obtain⟨k,hk,rfl,hz,hg⟩:=hrel;by_cases Y:k<l.length
  ·obtain⟨b,o,rfl,a7,X⟩:=Qr Qv 2 (λ_=>rfl) (by decide) (HR.o _ hg) Y;have d0:wr.cell? (b,o+k*2)=some (.int .i64 l[k].T):=X 0 _ rfl;have d1:wr.cell? (b,o+k*2+1)=some (.int .i64 l[k].R):=X 1 _ rfl;have HZ:=Ki hz;have ae:b<wr:=Z1 a7 (Q9 hB hg.below.size);clear X hz;obtain⟨d,hd⟩:∃d,l[k]=d:=⟨_,rfl⟩;have HD:=Ki hd;rw[hd] at d0 d1;clear hd;go_wp2;obtain⟨W0,a1⟩:∃W,wr.alloc (.cells #[d.T,d.R] 27)=W:=⟨_,rfl⟩;have a5:Q0 wr W0:=(by rw[<-a1];exact(Q0.refl wr).alloc _);have a2:W0.heap[wr.heap.size]?=some (.cells #[d.T,d.R] 27 (0,0)):=(by rw[<-a1];exact Qi wr _);obtain⟨bx,a4⟩:∃b,wr.heap.size=b:=⟨_,rfl⟩;have J:=hg.trans a5;have a0:=HK.o _ J;rw[a1];rw[a4] at a2 |-;have f1:=λn os=>Ym a2 n os 0;have f2:=λn os=>Ym a2 n os 1;have g1:=λn os=>QC a0.lt (a0.cell 0 _ rfl) n os;have g2:=λn os=>QC a0.lt (a0.cell 1 _ rfl) n os;have p0:k=0\/∃D,k=D+1:=(by cases k;exact .inl rfl;exact .inr ⟨_,rfl⟩);clear a1 a2 a0 d0 d1 a4 a5;have O:=Ki (λW=>H1.o d W);have Q:=Ki (λW=>H2.o d g.s W);unfold QU at O Q;rcases p0 with rfl|⟨D,rfl⟩
   ·have U:=Ki (show Ju g.s l 0=(right d&&!decide (0<d.cmp g.s)) by rw[TT Y,HD.o];rfl);generalize right d=y at *;generalize d.cmp g.s=z at *;cases y
    ·have E:=Ki (ED Y (by rw[U.o];simp));refine QK (by kernel_rfl) (by kernel_rfl) ?_;iterate 27 (first|go_big_quiet_skip|quiet_step (first|(go_at_call 56;exact Qk (O.o _))|(go_at_call 57;exact Qk (Q.o _))))
     refine QN ?_;rintro W ⟨⟨n,os⟩,h⟩;have I:=J.trans (Z9 h);clear h;go_wp2;go_ret;exact⟨Qo E.o.symm,I⟩
    rcases hz1:decide (0<z) with _|_
    ·have E:=Ki (show ∀j,j<0+1->Ju g.s l j=true from λj hj=>by
      obtain rfl:j=0:=by omega
      rw[U.o,hz1];rfl)
     refine QK (by kernel_rfl) (by kernel_rfl) ?_;iterate 27 (first|go_big_quiet_skip|quiet_step (first|(go_at_call 56;exact Qk (O.o _))|(go_at_call 57;exact Qk (Q.o _))))
     refine QN ?_;rintro W ⟨⟨n,os⟩,h⟩;have I:=J.trans (Z9 h);clear h;go_wp2;go_roundw;case rel=>exact⟨0+1,by omega,by go_num,E.o,I⟩
     case measure=>simp[intOf];omega
    have E:=Ki (ED Y (by rw[U.o,hz1];simp));refine QK (by kernel_rfl) (by kernel_rfl) ?_;iterate 27 (first|go_big_quiet_skip|quiet_step (first|(go_at_call 56;exact Qk (O.o _))|(go_at_call 57;exact Qk (Q.o _))))
    refine QN ?_;rintro W ⟨⟨n,os⟩,h⟩;have I:=J.trans (Z9 h);clear h;go_wp2;go_ret;exact⟨Qo E.o.symm,I⟩
   have ab:D<l.length:=(by omega);obtain⟨b2,o2,e2,a8,X⟩:=Qr Qv 2 (λ_=>rfl) (by decide) (HR.o _ J) ab;obtain⟨rfl,rfl⟩:b2=b/\o2=o:=by simp at e2;omega
   have hb2:=Z1 a8 (Q9 hB J.below.size);obtain⟨e,he⟩:=ex (l[D]);rw[he] at X;have q0:∀n os,(Sort.grow (W0.drewN n) os).cell? (b2,o2+D*2)=e.T:=λn os=>QC hb2 (X 0 _ rfl) n os;have q1:∀n os,(Sort.grow (W0.drewN n) os).cell? (b2,o2+D*2+1)=e.R:=λn os=>QC hb2 (X 1 _ rfl) n os;have U:=Ki (show Ju g.s l (D+1)=(right d&&!decide (0<d.cmp g.s)&&decide (e.cmp d<0)) by rw[TU Y,HD.o,he]);have Z:=Ki (λW=>H2.o e d W);unfold QU at Z
   have a6:=Ki (show ∀ok:Ju g.s l (D+1)=true,∀j,j<D+1+1->Ju g.s l j=true from λok j hj=>by
    by_cases aa:j=D+1;·rw[aa];exact ok
    exact HZ.o j (by omega))
   have i5:(0:Int)<=(D:Int):=(by omega);have i6:(D:Int)<(l.length:Int):=(by omega);have hw:IntKind.i64.wrap (D:Int)=D:=QO _ (by omega);have ah:(((D+1:Nat):Int))-1=D:=(by omega);have ai:=QF (by omega);clear he X e2;generalize right d=y at *;generalize d.cmp g.s=z at *;generalize e.cmp d=z2 at *;cases y
   ·have E:=Ki (ED Y (by rw[U.o];simp));refine QK (by kernel_rfl) (by kernel_rfl) ?_;iterate 12 (first|go_big_quiet_skip|quiet_step (first|(go_at_call 56;exact Qk (O.o _))|(go_at_call 57;exact Qk (Q.o _))))
    iterate 15 (first|go_big_quiet_skip|quiet_step ((go_at_call 57;exact Qk (Z.o _))))
    refine QN ?_;rintro W ⟨⟨n,os⟩,h⟩;have I:=J.trans (Z9 h);clear h;go_wp2;go_ret;exact⟨Qo E.o.symm,I⟩
   rcases hz1:decide (0<z) with _|_
   ·rcases hz2:decide (z2<0) with _|_
    ·have E:=Ki (ED Y (by rw[U.o,hz2];simp));have ac:decide (z2>=0)=true:=(by simpa using hz2);have ad:decide (0<=z2)=true:=(by simpa using hz2);clear hz2;refine QK (by kernel_rfl) (by kernel_rfl) ?_;iterate 12 (first|go_big_quiet_skip|quiet_step (first|(go_at_call 56;exact Qk (O.o _))|(go_at_call 57;exact Qk (Q.o _))))
     iterate 15 (first|go_big_quiet_skip|quiet_step ((go_at_call 57;exact Qk (Z.o _))))
     refine QN ?_;rintro W ⟨⟨n,os⟩,h⟩;have I:=J.trans (Z9 h);clear h;go_wp2;go_ret;exact⟨Qo E.o.symm,I⟩
    have E:=Ki (a6.o (by rw[U.o,hz1,hz2];rfl));have ac:decide (z2>=0)=false:=(by simp at hz2 |-;omega);have ad:decide (0<=z2)=false:=(by simp at hz2 |-;omega);clear hz2;refine QK (by kernel_rfl) (by kernel_rfl) ?_;iterate 12 (first|go_big_quiet_skip|quiet_step (first|(go_at_call 56;exact Qk (O.o _))|(go_at_call 57;exact Qk (Q.o _))))
    iterate 15 (first|go_big_quiet_skip|quiet_step ((go_at_call 57;exact Qk (Z.o _))))
    refine QN ?_;rintro W ⟨⟨n,os⟩,h⟩;have I:=J.trans (Z9 h);clear h;go_wp2;go_roundw;case rel=>exact⟨D+1+1,by omega,by go_num,E.o,I⟩
    case measure=>simp[intOf];omega
   have E:=Ki (ED Y (by rw[U.o,hz1];simp));refine QK (by kernel_rfl) (by kernel_rfl) ?_;iterate 12 (first|go_big_quiet_skip|quiet_step (first|(go_at_call 56;exact Qk (O.o _))|(go_at_call 57;exact Qk (Q.o _))))
   iterate 15 (first|go_big_quiet_skip|quiet_step ((go_at_call 57;exact Qk (Z.o _))))
   refine QN ?_;rintro W ⟨⟨n,os⟩,h⟩;have I:=J.trans (Z9 h);clear h;go_wp2;go_ret;exact⟨Qo E.o.symm,I⟩
  have E:=Ki (TS (λj a3=>hz j (by omega)));clear hz;go_wp2;go_ret;exact⟨Qo (by rw[E.o];simp;omega),hg⟩
theorem AG{s:Q4}{j:Int}{l:List Id}{k:Nat}(h:k<l.length)(D:J0 s j l k=false):Vr s j l=false:=by
 unfold Vr;have:(List.range l.length).all (J0 s j l)=false:=by rw[B2];exact⟨k,Uc.2 h,by rw[D];simp⟩
 rw[this];rfl
theorem TW{s:Q4}{D:Int}{l:List Id}(h:∀j,j<l.length->J0 s D l j=true):Vr s D l=(decide (1<=l.length)&&decide (l.length<=2000)):=by
 unfold Vr;have:(List.range l.length).all (J0 s D l)=true:=by rw[V4];exact λj E=>h j (Uc.1 E)
 rw[this];rfl
theorem PY{s:Q4}{j:Int}{l:List Id}{k:Nat}(h:k<l.length):J0 s j l k=(Zq s j l[k]&&(k==0||match l[k-1]? with|none=>true|some e=>decide (e.cmp l[k]<0))):=by unfold J0;rw[X3 h];rfl
theorem TX{s:Q4}{j:Int}{l:List Id}(h:0<l.length):J0 s j l 0=Zq s j l[0]:=by rw[PY h];simp
theorem TY{s:Q4}{j:Int}{l:List Id}{k:Nat}(h:k+1<l.length):J0 s j l (k+1)=(Zq s j l[k+1]&&decide (l[k].cmp l[k+1]<0)):=by rw[PY h];simp only[Nat.add_sub_cancel,X3 (show k<l.length by omega)];simp
theorem TZ(g:Q1)(E:Int)(l:List Id)(cb:Nat)(A:Option Addr)(n c B:Nat)(w:World)(hc:Xc w cb g E)(hR:Rd w B 3 (.slice A n c) n (l.flatMap Qe))(hB:B<=w):Calls Tryz.prog 109 #[.pointer (cb,0),.slice A n c] w λe w'=>e=.returned (.bool (Vr g.s E l))/\Q0 w w':=by
 obtain⟨_,af,a9⟩:=hR.len;unfold maxLen at a9;obtain rfl:=QL Qe 3 (λ_=>rfl) (by decide) hR.1;have HR:=Ki (λW (h:Q0 w W)=>hR.below' h.below hB);have H1:=Ki (λx W (h:Q0 w W)=>Fl g E x cb W (hc.grows h.below));have H2:=Ki (λx y W=>GX x y W);clear hR hc;go_enter Tryz.func109,Tryz.ntmps109;go_wp2;go_loopw [9] (λi wr=>PX (J0 g.s E l) l.length w i wr) (λi _=>l.length-(intOf i).toNat);case atStart=>exact⟨0,Qh _,rfl,λj a3=>absurd a3 (by omega),Q0.refl w⟩
 case round=>
  obtain⟨k,hk,rfl,hz,hg⟩:=hrel;by_cases Z:k<l.length
  ·obtain⟨b,o,rfl,a7,Q⟩:=Qr Qe 3 (λ_=>rfl) (by decide) (HR.o _ hg) Z;have d0:wr.cell? (b,o+k*3)=some (.int .i64 l[k].s.T):=Q 0 _ rfl;have d1:wr.cell? (b,o+k*3+1)=some (.int .i64 l[k].s.R):=Q 1 _ rfl;have d2:wr.cell? (b,o+k*3+2)=some (.int .i64 l[k].I):=Q 2 _ rfl;have HZ:=Ki hz;have ae:b<wr:=Z1 a7 (Q9 hB hg.below.size);clear Q hz;obtain⟨d,hd⟩:∃d,l[k]=d:=⟨_,rfl⟩;have HD:=Ki hd;rw[hd] at d0 d1 d2;clear hd;go_wp2;obtain⟨W0,a2⟩:∃W,wr.alloc (.cells d 60)=W:=⟨_,rfl⟩;have a5:Q0 wr W0:=(by rw[<-a2];exact(Q0.refl wr).alloc _);have a0:W0.heap[wr.heap.size]?=some (.cells d 60 (0,0)):=(by rw[<-a2];exact Qi wr _);obtain⟨bx,a4⟩:∃b,wr.heap.size=b:=⟨_,rfl⟩;have O:=hg.trans a5;rw[a2];rw[a4] at a0 |-;have f1:=λn os=>Ym a0 n os 0;have f2:=λn os=>Ym a0 n os 1;have f3:=λn os=>Ym a0 n os 2;have p0:k=0\/∃D,k=D+1:=(by cases k;exact .inl rfl;exact .inr ⟨_,rfl⟩);clear a2 a0 d0 d1 d2 a4 a5;have X:=Ki (λW h=>H1.o d W h);unfold Qa at X;rcases p0 with rfl|⟨D,rfl⟩
   ·have Y:=Ki (show J0 g.s E l 0=Zq g.s E d by rw[TX Z,HD.o]);generalize Zq g.s E d=y at *;cases y
    ·have J:=Ki (AG Z (by rw[Y.o]));refine QK (by kernel_rfl) (by kernel_rfl) ?_;iterate 18 (first|go_big_quiet_skip|quiet_step ((go_at_call 106;exact Qk (X.o _ (O.trans ⟨_,_,rfl⟩)))))
     refine QN ?_;rintro W ⟨⟨n,os⟩,h⟩;have U:=O.trans (Z9 h);clear h;go_wp2;go_ret;exact⟨Qo J.o.symm,U⟩
    have J:=Ki (show ∀j,j<0+1->J0 g.s E l j=true from λj hj=>by
     obtain rfl:j=0:=by omega
     rw[Y.o])
    refine QK (by kernel_rfl) (by kernel_rfl) ?_;iterate 18 (first|go_big_quiet_skip|quiet_step ((go_at_call 106;exact Qk (X.o _ (O.trans ⟨_,_,rfl⟩)))))
    refine QN ?_;rintro W ⟨⟨n,os⟩,h⟩;have U:=O.trans (Z9 h);clear h;go_wp2;go_roundw;case rel=>exact⟨0+1,by omega,by go_num,J.o,U⟩
    case measure=>simp[intOf];omega
   have ab:D<l.length:=(by omega);obtain⟨b2,o2,e2,a8,Q⟩:=Qr Qe 3 (λ_=>rfl) (by decide) (HR.o _ O) ab;obtain⟨rfl,rfl⟩:b2=b/\o2=o:=by simp at e2;omega
   have hb2:=Z1 a8 (Q9 hB O.below.size);obtain⟨e,he⟩:=ex (l[D]);rw[he] at Q;have q0:∀n os,(Sort.grow (W0.drewN n) os).cell? (b2,o2+D*3)=e.s.T:=λn os=>QC hb2 (Q 0 _ rfl) n os;have q1:∀n os,(Sort.grow (W0.drewN n) os).cell? (b2,o2+D*3+1)=e.s.R:=λn os=>QC hb2 (Q 1 _ rfl) n os;have q2:∀n os,(Sort.grow (W0.drewN n) os).cell? (b2,o2+D*3+2)=e.I:=λn os=>QC hb2 (Q 2 _ rfl) n os;have Y:=Ki (show J0 g.s E l (D+1)=(Zq g.s E d&&decide (e.cmp d<0)) by rw[TY Z,HD.o,he]);have a1:=Ki (λW=>H2.o e d W);unfold Qa at a1
   have a6:=Ki (show ∀ok:J0 g.s E l (D+1)=true,∀j,j<D+1+1->J0 g.s E l j=true from λok j hj=>by
    by_cases aa:j=D+1;·rw[aa];exact ok
    exact HZ.o j (by omega))
   have i5:(0:Int)<=(D:Int):=(by omega);have i6:(D:Int)<(l.length:Int):=(by omega);have hw:IntKind.i64.wrap (D:Int)=D:=QO _ (by omega);have ag:(((D+1:Nat):Int))-1=D:=(by omega);have ah:=QF (by omega);clear he Q e2;generalize Zq g.s E d=y at *;generalize e.cmp d=z2 at *;cases y
   ·have J:=Ki (AG Z (by rw[Y.o];simp));refine QK (by kernel_rfl) (by kernel_rfl) ?_;iterate 14 (first|go_big_quiet_skip|quiet_step ((go_at_call 106;exact Qk (X.o _ (O.trans ⟨_,_,rfl⟩)))))
    iterate 4 (first|go_big_quiet_skip|quiet_step ((go_at_call 43;exact Qk (a1.o _))))
    refine QN ?_;rintro W ⟨⟨n,os⟩,h⟩;have U:=O.trans (Z9 h);clear h;go_wp2;go_ret;exact⟨Qo J.o.symm,U⟩
   rcases hz2:decide (z2<0) with _|_
   ·have J:=Ki (AG Z (by rw[Y.o,hz2];simp));have ac:decide (z2>=0)=true:=(by simpa using hz2);have ad:decide (0<=z2)=true:=(by simpa using hz2);clear hz2;refine QK (by kernel_rfl) (by kernel_rfl) ?_;iterate 14 (first|go_big_quiet_skip|quiet_step ((go_at_call 106;exact Qk (X.o _ (O.trans ⟨_,_,rfl⟩)))))
    iterate 4 (first|go_big_quiet_skip|quiet_step ((go_at_call 43;exact Qk (a1.o _))))
    refine QN ?_;rintro W ⟨⟨n,os⟩,h⟩;have U:=O.trans (Z9 h);clear h;go_wp2;go_ret;exact⟨Qo J.o.symm,U⟩
   have J:=Ki (a6.o (by rw[Y.o,hz2];rfl));have ac:decide (z2>=0)=false:=(by simp at hz2 |-;omega);have ad:decide (0<=z2)=false:=(by simp at hz2 |-;omega);clear hz2;refine QK (by kernel_rfl) (by kernel_rfl) ?_;iterate 14 (first|go_big_quiet_skip|quiet_step ((go_at_call 106;exact Qk (X.o _ (O.trans ⟨_,_,rfl⟩)))))
   iterate 4 (first|go_big_quiet_skip|quiet_step ((go_at_call 43;exact Qk (a1.o _))))
   refine QN ?_;rintro W ⟨⟨n,os⟩,h⟩;have U:=O.trans (Z9 h);clear h;go_wp2;go_roundw;case rel=>exact⟨D+1+1,by omega,by go_num,J.o,U⟩
   case measure=>simp[intOf];omega
  have J:=Ki (TW (λj a3=>hz j (by omega)));clear hz;by_cases h1:1<=l.length;·go_wp2;go_ret;exact⟨Qo (by rw[J.o,Js];simp;omega),hg⟩
  go_wp2;go_ret;exact⟨Qo (by rw[J.o,Js];simp;omega),hg⟩
def UM(c:Nat):Bool:=decide (48<=c/\c<=57)||decide (65<=c/\c<=90)||decide (97<=c/\c<=122)||decide (c=46)||decide (c=45)||decide (c=95)
def JJ(l:List UInt8):Bool:=decide (l≠[])&&decide (l.length<=32)&&decide (l≠[46])&&decide (l≠[46,46])&&l.all (λb=>UM b.toNat)
def Sa(s:ByteArray)(w:World)(i:Value)(wr:World):Prop:=∃k:Nat,k<=s.size/\i=k/\(∀b∈s.toList.take k,UM b.toNat=true)/\Q0 w wr
theorem OL(c:Nat):UM c=(decide ((48<=c/\c<=57)\/(65<=c/\c<=90)\/(97<=c/\c<=122)\/c=46\/c=45\/c=95)):=by unfold UM;simp only[Bool.decide_or,Bool.or_assoc]
theorem Sb(s:ByteArray)(k:Nat)(h:k<s.size):s.toList[k]?=some s[k]:=by
 rw[Jb];have j:k<s.data.toList.length:=by rw[<-Jc];exact h
 rw[X3 j];rfl
theorem Sc{l:List UInt8}{k:Nat}{b:UInt8}(h:l[k]?=some b)(hb:UM b.toNat=false):l.all (λb=>UM b.toNat)=false:=by rw[B2];exact⟨b,J9 h,by simp[hb]⟩
theorem Km(s:ByteArray)(w:World)(hs:s.size<=9223372036854775807):Calls Tryz.prog 242 #[.string s] w λe w'=>e=.returned (.bool (JJ s.toList))/\Q0 w w':=by
 have j:=Ki (show JJ s.toList=(decide (s.toList≠[])&&decide (s.size<=32)&&decide (s.toList≠[46])&&decide (s.toList≠[46,46])&&s.toList.all (λb=>UM b.toNat)) by
  rw[Jc,<-Jb];rfl)
 by_cases I:s.toList=[];·go_enter Tryz.func242,Tryz.ntmps242;go_wp2;go_ret;exact⟨Qo (by rw[j.o];simp[I]),Q0.refl w⟩
 have e1:s.toList.isEmpty=false:=by simp[I]
 by_cases h2:¬(s.size:Int)>32
 ·have O:s.size<=32:=(by omega);by_cases Q:s.toList=[46];·go_enter Tryz.func242,Tryz.ntmps242;go_wp2;go_ret;exact⟨Qo (by show false=JJ [46];decide),Q0.refl w⟩
  by_cases U:s.toList=[46,46];·go_enter Tryz.func242,Tryz.ntmps242;go_wp2;go_ret;exact⟨Qo (by show false=JJ [46,46];decide),Q0.refl w⟩
  have e3:(s.toList==[46])=false:=(by simp[Q]);have e4:(s.toList==[46,46])=false:=(by simp[U]);go_enter Tryz.func242,Tryz.ntmps242;go_wp2;have H:=Kj (s.toList≠[]/\s.toList≠[46]/\s.toList≠[46,46]) ⟨I,Q,U⟩;clear I Q U e1 e3 e4;go_loopw [3] (λi wr=>Sa s w i wr) (λi _=>s.size-(intOf i).toNat);case atStart=>exact⟨0,Qh _,rfl,λb h=>by simp at h,Q0.refl w⟩
  case round=>
   obtain⟨k,hk,rfl,J,Y⟩:=hrel;by_cases a1:k<s.size
   ·have HZ:=Ki J;clear J;have W:=Sb s k a1;have a2:(0:Int)<=(k:Int):=(by omega);have a3:(k:Int)<(s.size:Int):=(by omega);go_upto_region 7 with fail;obtain⟨b,hb⟩:=ex (s[k]);rw[hb] at W |-;have Z:=Ki W;obtain⟨c,X⟩:=ex (b.toNat);have HC:=Ki X;rw[X];clear hb W X;go_cut [63] from 20 to 63 (λv wx=>v=.bool (!decide ((48<=c/\c<=57)\/(65<=c/\c<=90)\/(97<=c/\c<=122)\/c=46\/c=45\/c=95))/\wx=wr)
    case first=>clear j H HZ;have a:c<45\/c=45\/c=46\/c=47\/(48<=c/\c<=57)\/(58<=c/\c<=64)\/(65<=c/\c<=90)\/(91<=c/\c<=94)\/c=95\/c=96\/(97<=c/\c<=122)\/123<=c:=(by omega);rcases a with a|a|a|a|a|a|a|a|a|a|a|a;all_goals (first|have p1:(c:Int)>=48:=by omega|have p1:¬(c:Int)>=48:=by omega);(first|have p2:(c:Int)<=57:=by omega|have p2:¬(c:Int)<=57:=by omega);(first|have p3:(c:Int)>=65:=by omega|have p3:¬(c:Int)>=65:=by omega);(first|have p4:(c:Int)<=90:=by omega|have p4:¬(c:Int)<=90:=by omega);(first|have p5:(c:Int)>=97:=by omega|have p5:¬(c:Int)>=97:=by omega);(first|have p6:(c:Int)<=122:=by omega|have p6:¬(c:Int)<=122:=by omega);(first|have p7:((c:Int)==46)=true:=by simp;omega|have p7:((c:Int)==46)=false:=by simp;omega);(first|have p8:((c:Int)==45)=true:=by simp;omega|have p8:((c:Int)==45)=false:=by simp;omega);(first|have p9:((c:Int)==95)=true:=by simp;omega|have p9:((c:Int)==95)=false:=by simp;omega);have A:=Ki a;clear a;go_wp2;go_meet;case rel=>exact⟨Xz Value.bool (by have:=A.o;first|(rw[QF (by omega)];rfl)|(rw[Zo (by omega)];rfl)),rfl⟩
    case rest=>
     obtain⟨rfl,rfl⟩:=hcut;rcases E:decide ((48<=c/\c<=57)\/(65<=c/\c<=90)\/(97<=c/\c<=122)\/c=46\/c=45\/c=95) with _|_;·have D:=Ki (Sc Z.o (by rw[HC.o,OL,E]));clear E;go_wp2;go_ret;exact⟨Qo (by rw[j.o,D.o];simp),Y⟩
     have D:=Ki (show ∀x∈s.toList.take (k+1),UM x.toNat=true from λx a0=>by
      rw[List.take_add_one,Z.o] at a0;rcases Qq.1 a0 with h|h;·exact HZ.o x h
      rw[show x=b by simpa using h,HC.o,OL,E])
     clear E;go_wp2;go_roundw;case rel=>exact⟨k+1,by omega,by go_num,D.o,Y⟩
     case measure=>simp[intOf];omega
   have D:=Ki (show s.toList.all (λb=>UM b.toNat)=true from by
    rw[V4];intro x E
    exact J x (by rwa [Zk (by rw[Jb,<-Jc];omega)]))
   clear J;go_wp2;go_ret;exact⟨Qo (by rw[j.o,D.o,QF H.o.1,QF H.o.2.1,QF H.o.2.2,QF O];rfl),Y⟩
 have h2:(s.size:Int)>32:=(by omega);have O:¬s.size<=32:=(by omega);go_enter Tryz.func242,Tryz.ntmps242;go_wp2;go_ret;exact⟨Qo (by rw[j.o];simp[O]),Q0.refl w⟩
end
section
open Go Go.RowKit Go.Maps
theorem Q3n(a b:Q4):a.lt b=decide (a.cmp b<0):=by rw[Js,Kk,XD,Vq]
theorem Jq(x:Id)(w:World):Calls Tryz.prog 271 #[Qa x] w λe w'=>e=.returned (.bool (ZX x))/\Q0 w w':=by have h:=Cc x;have D:=Xt;have j:=ZR;generalize ZX x=y at *;unfold Qa;go_enter Tryz.func271,Tryz.ntmps271;go_wp2;go_ret;exact⟨rfl,(Q0.refl w).alloc _⟩
theorem KU(g:Q1)(x:Id)(k:Int)(w:World):Calls Tryz.prog 244 #[Z2 g,Qa x,k] w λe w'=>e=.returned (.bool (Zq g.s k x))/\Q0 w w':=by
 have H1:=Ki (λW=>Ay x W);have Q:=Ki (λW=>G9 x.s g.s W);rw[Q3n] at Q;have E:=Kj (Zq g.s k x=(ZS x&&(decide (x.s.cmp g.s<0)||decide (x.s=g.s)&&decide (x.I<k)))) rfl;have hE:=F3 x.s g.s;obtain⟨y,hy⟩:=ex (ZS x);obtain⟨z,hz⟩:=ex (decide (x.s.cmp g.s<0));obtain⟨u,hu⟩:∃z,decide (x.s=g.s)=z:=⟨_,rfl⟩;rw[hy] at H1 E;rw[hz] at Q E;rw[hu] at hE E;clear hy hz hu;have hq:=GZ;have a7:=Kh;unfold Z2 Qg Sl.v;unfold Qa at *;unfold QU at *;go_enter Tryz.func244,Tryz.ntmps244;go_upto_region 1 with fail;obtain⟨X,I⟩:∃W,(w.alloc (.cells g 31)).alloc (.cells x 60)=W:=⟨_,rfl⟩;have a5:=Kj (Q0 w X) (by rw[<-I];exact((Q0.refl w).alloc _).alloc _);have j:X.heap[w.heap.size]?=some (.cells g 31 (0,0)):=by rw[<-I];exact(Z5 _ _ _ (by simp)).trans (Qi w _)
 have h:X.heap[w.heap.size+1]?=some (.cells x 60 (0,0)):=by rw[<-I];have a6:=Qi (w.alloc (.cells g 31)) (.cells x 60);rwa [Qy] at a6
 rw[I];obtain⟨b0,a3⟩:∃b,w.heap.size=b:=⟨_,rfl⟩;obtain⟨b1,a4⟩:∃b,w.heap.size+1=b:=⟨_,rfl⟩;rw[a4] at h |-;rw[a3] at j |-;have J:=cr0 h;have O:=cr1 h;have d2:=cr2 h;have Y:=Ki j;have a2:=Ki h;clear I j h a3 a4;go_wp2_with fail;refine(H1.o _).mono ?_;rintro e W2 ⟨rfl,D⟩;have a1:=Ki (a5.o.trans D);have j:=(D.below.block b0 (Q5.1 Y.o).1).trans Y.o;have h:=(D.below.block b1 (Q5.1 a2.o).1).trans a2.o;clear D J O d2;have J:=cr0 h;have O:=cr1 h;have g0:=cr0 j;have g1:=cr1 j;have Z:=Ki j;have a0:=Ki h;clear j h;cases y;·go_wp2;go_ret;exact⟨Qo (by rw[E.o];simp),a1.o⟩
 go_wp2_with fail;refine(Q.o _).mono ?_;rintro e W3 ⟨rfl,D⟩;have U:=Ki (a1.o.trans D);have j:=(D.below.block b0 (Q5.1 Z.o).1).trans Z.o;have h:=(D.below.block b1 (Q5.1 a0.o).1).trans a0.o;clear D J O g0 g1;have J:=cr0 h;have O:=cr1 h;have d2:=cr2 h;have g0:=cr0 j;have g1:=cr1 j;clear j h;cases z
 ·cases u;·go_wp2;go_ret;exact⟨Qo (by rw[E.o];simp),U.o⟩
  go_wp2;go_ret;exact⟨Qo (by rw[E.o];simp),U.o⟩
 go_wp2;go_ret;exact⟨Qo (by rw[E.o];simp),U.o⟩
theorem VH(g:Q1)(x:Id)(k:Int)(w:World):Calls Tryz.prog 241 #[Z2 g,Qa x,k] w λe w'=>e=.returned (.bool (X9 g.s k x))/\Q0 w w':=by
 have Q:=Ki (λW=>Jq x W);have U:=Ki (λW=>KU g x k W);have I:=Kj (X9 g.s k x=(ZX x||Zq g.s k x)) rfl;obtain⟨y,hy⟩:=ex (ZX x);obtain⟨z,hz⟩:=ex (Zq g.s k x);rw[hy] at Q I;rw[hz] at U I;clear hy hz;unfold Z2 Qg Sl.v at *;unfold Qa at *;go_enter Tryz.func241,Tryz.ntmps241;go_upto_region 1 with fail;obtain⟨J,E⟩:∃W,(w.alloc (.cells g 31)).alloc (.cells x 60)=W:=⟨_,rfl⟩;have a2:=Kj (Q0 w J) (by rw[<-E];exact((Q0.refl w).alloc _).alloc _);have h:J.heap[w.heap.size]?=some (.cells g 31 (0,0)):=by rw[<-E];exact(Z5 _ _ _ (by simp)).trans (Qi w _)
 have j:J.heap[w.heap.size+1]?=some (.cells x 60 (0,0)):=by rw[<-E];have a4:=Qi (w.alloc (.cells g 31)) (.cells x 60);rwa [Qy] at a4
 rw[E];obtain⟨b0,a0⟩:∃b,w.heap.size=b:=⟨_,rfl⟩;obtain⟨b1,a1⟩:∃b,w.heap.size+1=b:=⟨_,rfl⟩;rw[a1] at j |-;rw[a0] at h |-;have Z:=cr0 j;have d1:=cr1 j;have d2:=cr2 j;have O:=Ki h;have Y:=Ki j;clear E h j a0 a1;go_wp2_with fail;refine(Q.o _).mono ?_;rintro e W2 ⟨rfl,D⟩;have X:=Ki (a2.o.trans D);have h:=(D.below.block b0 (Q5.1 O.o).1).trans O.o;have j:=(D.below.block b1 (Q5.1 Y.o).1).trans Y.o;clear D Z d1 d2;have Z:=cr0 j;have d1:=cr1 j;have d2:=cr2 j;have g0:=cr0 h;have g1:=cr1 h;have g2:=cr2 h;have g3:=cr3 h;have g4:=cr4 h;have g5:=cr5 h;have g6:=cr6 h;clear h j;cases y;·go_wp2_with fail;refine(U.o _).mono ?_;rintro e W3 ⟨rfl,D⟩;have a3:=Ki (X.o.trans D);clear D;go_wp2;go_ret;exact⟨Qo (by rw[I.o];simp),a3.o⟩
 go_wp2;go_ret;exact⟨Qo (by rw[I.o];simp),X.o⟩
theorem FL(o:Qt)(w:World):Calls Tryz.prog 243 #[Qz o,.bool true,.bool true,.bool false,.bool false,.bool false] w λe w'=>(∃b:Bool,e=.returned (.bool b))/\Q0 w w':=by
 have H1:=Ki (λW=>Jq o.up W);obtain⟨y1,a4⟩:∃y,ZX o.up=y:=⟨_,rfl⟩;rw[a4] at H1;clear a4;have H2:=Ki (λW=>Jq o.af W);obtain⟨y2,a5⟩:∃y,ZX o.af=y:=⟨_,rfl⟩;rw[a5] at H2;clear a5;have H3:=Ki (λW=>Jq o.el W);obtain⟨y3,a6⟩:∃y,ZX o.el=y:=⟨_,rfl⟩;rw[a6] at H3;clear a6;unfold Qa at H1 H2 H3;unfold Qz Qp Sl.v;go_enter Tryz.func243,Tryz.ntmps243;go_upto_region 1 with fail;obtain⟨J,a2⟩:∃W,w.alloc (.cells o 72)=W:=⟨_,rfl⟩;have j:=Kj (Q0 w J) (by rw[<-a2];exact(Q0.refl w).alloc _);have h1:=bn a2;rw[a2];obtain⟨D,a3⟩:∃b,w.heap.size=b:=⟨_,rfl⟩;rw[a3] at h1 |-
 have a7:=Ki (λW (hW:Q0 J W)=>(show W.cell? (D,4)=o.up.s.T/\W.cell? (D,5)=o.up.s.R/\W.cell? (D,6)=o.up.I/\W.cell? (D,7)=o.name/\W.cell? (D,8)=some (.bool o.dir)/\W.cell? (D,9)=some (.slice o.dv.A o.dv.n o.dv.c)/\W.cell? (D,10)=o.af.s.T/\W.cell? (D,11)=o.af.s.R/\W.cell? (D,12)=o.af.I/\W.cell? (D,13)=o.el.s.T/\W.cell? (D,14)=o.el.s.R/\W.cell? (D,15)=o.el.I/\W.cell? (D,16)=o.tx/\W.cell? (D,17)=some (.slice o.ev.A o.ev.n o.ev.c) from by
  have h:=(hW.below.block D (Q5.1 h1).1).trans h1
  exact⟨cR 4 h,cR 5 h,cR 6 h,cR 7 h,cR 8 h,cR 9 h,cR 10 h,cR 11 h,cR 12 h,cR 13 h,cR 14 h,cR 15 h,cR 16 h,cR 17 h⟩))
 have HX:=a7;have E:=j;have j:=Ki (Q0.refl J);clear a2 a3 h1;obtain⟨c4,c5,c6,c7,c8,c9,O,Q,U,X,Y,Z,a0,a1⟩:=HX.o J j.o;by_cases hd:(o.dv.n:Int)>0;·go_wp2;go_ret;exact⟨⟨_,rfl⟩,E.o.trans j.o⟩
 go_wp2_with fail;refine(H2.o _).mono ?_;rintro e V1 ⟨rfl,I⟩;replace j:=Ki (j.o.trans I);clear I c4 c5 c6 c7 c8 c9 O Q U X Y Z a0 a1;obtain⟨c4,c5,c6,c7,c8,c9,O,Q,U,X,Y,Z,a0,a1⟩:=HX.o V1 j.o;cases y2;·go_wp2;go_ret;exact⟨⟨_,rfl⟩,E.o.trans j.o⟩
 go_wp2_with fail;refine(H3.o _).mono ?_;rintro e V2 ⟨rfl,I⟩;replace j:=Ki (j.o.trans I);clear I c4 c5 c6 c7 c8 c9 O Q U X Y Z a0 a1;obtain⟨c4,c5,c6,c7,c8,c9,O,Q,U,X,Y,Z,a0,a1⟩:=HX.o V2 j.o;cases y3;·go_wp2;go_ret;exact⟨⟨_,rfl⟩,E.o.trans j.o⟩
 rcases ht:o.tx.toList.isEmpty with _|_;·go_wp2;go_ret;exact⟨⟨_,rfl⟩,E.o.trans j.o⟩
 by_cases he:o.ev.n=0;·have e1:((o.ev.n:Int)==0)=true:=(by simp[he]);clear he;go_wp2;go_ret;exact⟨⟨_,rfl⟩,E.o.trans j.o⟩
 have e1:((o.ev.n:Int)==0)=false:=(by simp[he]);clear he;go_wp2;go_ret;exact⟨⟨_,rfl⟩,E.o.trans j.o⟩
theorem FM(o:Qt)(w:World):Calls Tryz.prog 243 #[Qz o,.bool true,.bool false,.bool false,.bool false,.bool false] w λe w'=>(∃b:Bool,e=.returned (.bool b))/\Q0 w w':=by
 have H1:=Ki (λW=>Jq o.up W);obtain⟨y1,a6⟩:∃y,ZX o.up=y:=⟨_,rfl⟩;rw[a6] at H1;clear a6;have H2:=Ki (λW=>Jq o.af W);obtain⟨y2,a7⟩:∃y,ZX o.af=y:=⟨_,rfl⟩;rw[a7] at H2;clear a7;have H3:=Ki (λW=>Jq o.el W);obtain⟨y3,a8⟩:∃y,ZX o.el=y:=⟨_,rfl⟩;rw[a8] at H3;clear a8;unfold Qa at H1 H2 H3;unfold Qz Qp Sl.v;go_enter Tryz.func243,Tryz.ntmps243;go_upto_region 1 with fail;obtain⟨Q,a4⟩:∃W,w.alloc (.cells o 72)=W:=⟨_,rfl⟩;have j:=Kj (Q0 w Q) (by rw[<-a4];exact(Q0.refl w).alloc _);have h1:=bn a4;rw[a4];obtain⟨D,a5⟩:∃b,w.heap.size=b:=⟨_,rfl⟩;rw[a5] at h1 |-
 have a9:=Ki (λW (hW:Q0 Q W)=>(show W.cell? (D,4)=o.up.s.T/\W.cell? (D,5)=o.up.s.R/\W.cell? (D,6)=o.up.I/\W.cell? (D,7)=o.name/\W.cell? (D,8)=some (.bool o.dir)/\W.cell? (D,9)=some (.slice o.dv.A o.dv.n o.dv.c)/\W.cell? (D,10)=o.af.s.T/\W.cell? (D,11)=o.af.s.R/\W.cell? (D,12)=o.af.I/\W.cell? (D,13)=o.el.s.T/\W.cell? (D,14)=o.el.s.R/\W.cell? (D,15)=o.el.I/\W.cell? (D,16)=o.tx/\W.cell? (D,17)=some (.slice o.ev.A o.ev.n o.ev.c) from by
  have h:=(hW.below.block D (Q5.1 h1).1).trans h1
  exact⟨cR 4 h,cR 5 h,cR 6 h,cR 7 h,cR 8 h,cR 9 h,cR 10 h,cR 11 h,cR 12 h,cR 13 h,cR 14 h,cR 15 h,cR 16 h,cR 17 h⟩))
 have J:=a9;have E:=j;have j:=Ki (Q0.refl Q);clear a4 a5 h1;obtain⟨c4,c5,c6,c7,I,c9,U,X,Y,Z,a0,a1,a2,a3⟩:=J.o Q j.o;rcases hdr:o.dir with _|_
 ·rw[hdr] at I;have J:=Ki (λW hW=>by have h:=J.o W hW;rw[hdr] at h;exact h);clear hdr;by_cases hd:(o.dv.n:Int)>0;·go_wp2;go_ret;exact⟨⟨_,rfl⟩,E.o.trans j.o⟩
  go_wp2_with fail;refine(H2.o _).mono ?_;rintro e V3 ⟨rfl,O⟩;replace j:=Ki (j.o.trans O);clear O c4 c5 c6 c7 I c9 U X Y Z a0 a1 a2 a3;obtain⟨c4,c5,c6,c7,I,c9,U,X,Y,Z,a0,a1,a2,a3⟩:=J.o V3 j.o;cases y2;·go_wp2;go_ret;exact⟨⟨_,rfl⟩,E.o.trans j.o⟩
  go_wp2_with fail;refine(H3.o _).mono ?_;rintro e V4 ⟨rfl,O⟩;replace j:=Ki (j.o.trans O);clear O c4 c5 c6 c7 I c9 U X Y Z a0 a1 a2 a3;obtain⟨c4,c5,c6,c7,I,c9,U,X,Y,Z,a0,a1,a2,a3⟩:=J.o V4 j.o;cases y3;·go_wp2;go_ret;exact⟨⟨_,rfl⟩,E.o.trans j.o⟩
  rcases ht:o.tx.toList.isEmpty with _|_;·go_wp2;go_ret;exact⟨⟨_,rfl⟩,E.o.trans j.o⟩
  by_cases he:o.ev.n=0;·have e1:((o.ev.n:Int)==0)=true:=(by simp[he]);clear he;go_wp2;go_ret;exact⟨⟨_,rfl⟩,E.o.trans j.o⟩
  have e1:((o.ev.n:Int)==0)=false:=(by simp[he]);clear he;go_wp2;go_ret;exact⟨⟨_,rfl⟩,E.o.trans j.o⟩
 rw[hdr] at I;clear hdr;go_wp2;go_ret;exact⟨⟨_,rfl⟩,E.o.trans j.o⟩
theorem FN(o:Qt)(w:World):Calls Tryz.prog 243 #[Qz o,.bool false,.bool false,.bool true,.bool false,.bool false] w λe w'=>(∃b:Bool,e=.returned (.bool b))/\Q0 w w':=by
 have H1:=Ki (λW=>Jq o.up W);obtain⟨y1,a5⟩:∃y,ZX o.up=y:=⟨_,rfl⟩;rw[a5] at H1;clear a5;have H2:=Ki (λW=>Jq o.af W);obtain⟨y2,a6⟩:∃y,ZX o.af=y:=⟨_,rfl⟩;rw[a6] at H2;clear a6;have H3:=Ki (λW=>Jq o.el W);obtain⟨y3,a7⟩:∃y,ZX o.el=y:=⟨_,rfl⟩;rw[a7] at H3;clear a7;unfold Qa at H1 H2 H3;unfold Qz Qp Sl.v;go_enter Tryz.func243,Tryz.ntmps243;go_upto_region 1 with fail;obtain⟨W1,a3⟩:∃W,w.alloc (.cells o 72)=W:=⟨_,rfl⟩;have j:=Kj (Q0 w W1) (by rw[<-a3];exact(Q0.refl w).alloc _);have h1:=bn a3;rw[a3];obtain⟨D,a4⟩:∃b,w.heap.size=b:=⟨_,rfl⟩;rw[a4] at h1 |-
 have a8:=Ki (λW (hW:Q0 W1 W)=>(show W.cell? (D,4)=o.up.s.T/\W.cell? (D,5)=o.up.s.R/\W.cell? (D,6)=o.up.I/\W.cell? (D,7)=o.name/\W.cell? (D,8)=some (.bool o.dir)/\W.cell? (D,9)=some (.slice o.dv.A o.dv.n o.dv.c)/\W.cell? (D,10)=o.af.s.T/\W.cell? (D,11)=o.af.s.R/\W.cell? (D,12)=o.af.I/\W.cell? (D,13)=o.el.s.T/\W.cell? (D,14)=o.el.s.R/\W.cell? (D,15)=o.el.I/\W.cell? (D,16)=o.tx/\W.cell? (D,17)=some (.slice o.ev.A o.ev.n o.ev.c) from by
  have h:=(hW.below.block D (Q5.1 h1).1).trans h1
  exact⟨cR 4 h,cR 5 h,cR 6 h,cR 7 h,cR 8 h,cR 9 h,cR 10 h,cR 11 h,cR 12 h,cR 13 h,cR 14 h,cR 15 h,cR 16 h,cR 17 h⟩))
 have O:=a8;have E:=j;have j:=Ki (Q0.refl W1);clear a3 a4 h1;obtain⟨c4,c5,c6,c7,I,c9,Q,U,X,Y,Z,a0,a1,a2⟩:=O.o W1 j.o;go_wp2_with fail;refine(H1.o _).mono ?_;rintro e V5 ⟨rfl,J⟩;replace j:=Ki (j.o.trans J);clear J c4 c5 c6 c7 I c9 Q U X Y Z a0 a1 a2;obtain⟨c4,c5,c6,c7,I,c9,Q,U,X,Y,Z,a0,a1,a2⟩:=O.o V5 j.o;cases y1;·go_wp2;go_ret;exact⟨⟨_,rfl⟩,E.o.trans j.o⟩
 rcases hn:o.name.toList.isEmpty with _|_;·go_wp2;go_ret;exact⟨⟨_,rfl⟩,E.o.trans j.o⟩
 rcases hdr:o.dir with _|_
 ·rw[hdr] at I;have O:=Ki (λW hW=>by have h:=O.o W hW;rw[hdr] at h;exact h);clear hdr;go_wp2_with fail;refine(H2.o _).mono ?_;rintro e V6 ⟨rfl,J⟩;replace j:=Ki (j.o.trans J);clear J c4 c5 c6 c7 I c9 Q U X Y Z a0 a1 a2;obtain⟨c4,c5,c6,c7,I,c9,Q,U,X,Y,Z,a0,a1,a2⟩:=O.o V6 j.o;cases y2;·go_wp2;go_ret;exact⟨⟨_,rfl⟩,E.o.trans j.o⟩
  go_wp2_with fail;refine(H3.o _).mono ?_;rintro e V7 ⟨rfl,J⟩;replace j:=Ki (j.o.trans J);clear J c4 c5 c6 c7 I c9 Q U X Y Z a0 a1 a2;obtain⟨c4,c5,c6,c7,I,c9,Q,U,X,Y,Z,a0,a1,a2⟩:=O.o V7 j.o;cases y3;·go_wp2;go_ret;exact⟨⟨_,rfl⟩,E.o.trans j.o⟩
  rcases ht:o.tx.toList.isEmpty with _|_;·go_wp2;go_ret;exact⟨⟨_,rfl⟩,E.o.trans j.o⟩
  by_cases he:o.ev.n=0;·have e1:((o.ev.n:Int)==0)=true:=(by simp[he]);clear he;go_wp2;go_ret;exact⟨⟨_,rfl⟩,E.o.trans j.o⟩
  have e1:((o.ev.n:Int)==0)=false:=(by simp[he]);clear he;go_wp2;go_ret;exact⟨⟨_,rfl⟩,E.o.trans j.o⟩
 rw[hdr] at I;clear hdr;go_wp2;go_ret;exact⟨⟨_,rfl⟩,E.o.trans j.o⟩
theorem FO(o:Qt)(w:World):Calls Tryz.prog 243 #[Qz o,.bool false,.bool false,.bool false,.bool true,.bool false] w λe w'=>(∃b:Bool,e=.returned (.bool b))/\Q0 w w':=by
 have Y:=Ki (λW=>Jq o.up W);obtain⟨y1,a9⟩:∃y,ZX o.up=y:=⟨_,rfl⟩;rw[a9] at Y;clear a9;have H2:=Ki (λW=>Jq o.af W);obtain⟨y2,aa⟩:∃y,ZX o.af=y:=⟨_,rfl⟩;rw[aa] at H2;clear aa;have H3:=Ki (λW=>Jq o.el W);obtain⟨y3,ab⟩:∃y,ZX o.el=y:=⟨_,rfl⟩;rw[ab] at H3;clear ab;unfold Qa at Y H2 H3;unfold Qz Qp Sl.v;go_enter Tryz.func243,Tryz.ntmps243;go_upto_region 1 with fail;obtain⟨J,U⟩:∃W,w.alloc (.cells o 72)=W:=⟨_,rfl⟩;have D:=Kj (Q0 w J) (by rw[<-U];exact(Q0.refl w).alloc _);have Q:=bn U;rw[U];obtain⟨j,a8⟩:∃b,w.heap.size=b:=⟨_,rfl⟩;rw[a8] at Q |-
 have ac:=Ki (λW (Z:Q0 J W)=>(show W.cell? (j,4)=o.up.s.T/\W.cell? (j,5)=o.up.s.R/\W.cell? (j,6)=o.up.I/\W.cell? (j,7)=o.name/\W.cell? (j,8)=some (.bool o.dir)/\W.cell? (j,9)=some (.slice o.dv.A o.dv.n o.dv.c)/\W.cell? (j,10)=o.af.s.T/\W.cell? (j,11)=o.af.s.R/\W.cell? (j,12)=o.af.I/\W.cell? (j,13)=o.el.s.T/\W.cell? (j,14)=o.el.s.R/\W.cell? (j,15)=o.el.I/\W.cell? (j,16)=o.tx/\W.cell? (j,17)=some (.slice o.ev.A o.ev.n o.ev.c) from by
  have h:=(Z.below.block j (Q5.1 Q).1).trans Q
  exact⟨cR 4 h,cR 5 h,cR 6 h,cR 7 h,cR 8 h,cR 9 h,cR 10 h,cR 11 h,cR 12 h,cR 13 h,cR 14 h,cR 15 h,cR 16 h,cR 17 h⟩))
 have I:=ac;have E:=D;have D:=Ki (Q0.refl J);clear U a8 Q;obtain⟨c4,c5,c6,c7,O,c9,a0,a1,a2,a3,a4,a5,a6,a7⟩:=I.o J D.o;go_wp2_with fail;refine(Y.o _).mono ?_;rintro e V8 ⟨rfl,hg⟩;replace D:=Ki (D.o.trans hg);clear hg c4 c5 c6 c7 O c9 a0 a1 a2 a3 a4 a5 a6 a7;obtain⟨c4,c5,c6,c7,O,c9,a0,a1,a2,a3,a4,a5,a6,a7⟩:=I.o V8 D.o;cases y1;·go_wp2;go_ret;exact⟨⟨_,rfl⟩,E.o.trans D.o⟩
 rcases hn:o.name.toList.isEmpty with _|_;·go_wp2;go_ret;exact⟨⟨_,rfl⟩,E.o.trans D.o⟩
 rcases hdr:o.dir with _|_
 ·rw[hdr] at O;have I:=Ki (λW Z=>by have h:=I.o W Z;rw[hdr] at h;exact h);clear hdr;by_cases hd:(o.dv.n:Int)>0;·go_wp2;go_ret;exact⟨⟨_,rfl⟩,E.o.trans D.o⟩
  by_cases X:o.ev.n=0;·have e1:((o.ev.n:Int)==0)=true:=(by simp[X]);clear X;go_wp2;go_ret;exact⟨⟨_,rfl⟩,E.o.trans D.o⟩
  have e1:((o.ev.n:Int)==0)=false:=(by simp[X]);clear X;go_wp2;go_ret;exact⟨⟨_,rfl⟩,E.o.trans D.o⟩
 rw[hdr] at O;clear hdr;go_wp2;go_ret;exact⟨⟨_,rfl⟩,E.o.trans D.o⟩
theorem FP(o:Qt)(w:World):Calls Tryz.prog 243 #[Qz o,.bool false,.bool false,.bool false,.bool false,.bool true] w λe w'=>(∃b:Bool,e=.returned (.bool b))/\Q0 w w':=by
 have H1:=Ki (λW=>Jq o.up W);obtain⟨y1,a5⟩:∃y,ZX o.up=y:=⟨_,rfl⟩;rw[a5] at H1;clear a5;have H2:=Ki (λW=>Jq o.af W);obtain⟨y2,a6⟩:∃y,ZX o.af=y:=⟨_,rfl⟩;rw[a6] at H2;clear a6;have H3:=Ki (λW=>Jq o.el W);obtain⟨y3,a7⟩:∃y,ZX o.el=y:=⟨_,rfl⟩;rw[a7] at H3;clear a7;unfold Qa at H1 H2 H3;unfold Qz Qp Sl.v;go_enter Tryz.func243,Tryz.ntmps243;go_upto_region 1 with fail;obtain⟨W1,a3⟩:∃W,w.alloc (.cells o 72)=W:=⟨_,rfl⟩;have j:=Kj (Q0 w W1) (by rw[<-a3];exact(Q0.refl w).alloc _);have h1:=bn a3;rw[a3];obtain⟨D,a4⟩:∃b,w.heap.size=b:=⟨_,rfl⟩;rw[a4] at h1 |-
 have a8:=Ki (λW (hW:Q0 W1 W)=>(show W.cell? (D,4)=o.up.s.T/\W.cell? (D,5)=o.up.s.R/\W.cell? (D,6)=o.up.I/\W.cell? (D,7)=o.name/\W.cell? (D,8)=some (.bool o.dir)/\W.cell? (D,9)=some (.slice o.dv.A o.dv.n o.dv.c)/\W.cell? (D,10)=o.af.s.T/\W.cell? (D,11)=o.af.s.R/\W.cell? (D,12)=o.af.I/\W.cell? (D,13)=o.el.s.T/\W.cell? (D,14)=o.el.s.R/\W.cell? (D,15)=o.el.I/\W.cell? (D,16)=o.tx/\W.cell? (D,17)=some (.slice o.ev.A o.ev.n o.ev.c) from by
  have h:=(hW.below.block D (Q5.1 h1).1).trans h1
  exact⟨cR 4 h,cR 5 h,cR 6 h,cR 7 h,cR 8 h,cR 9 h,cR 10 h,cR 11 h,cR 12 h,cR 13 h,cR 14 h,cR 15 h,cR 16 h,cR 17 h⟩))
 have O:=a8;have E:=j;have j:=Ki (Q0.refl W1);clear a3 a4 h1;obtain⟨c4,c5,c6,c7,I,c9,Q,U,X,Y,Z,a0,a1,a2⟩:=O.o W1 j.o;go_wp2_with fail;refine(H1.o _).mono ?_;rintro e V9 ⟨rfl,J⟩;replace j:=Ki (j.o.trans J);clear J c4 c5 c6 c7 I c9 Q U X Y Z a0 a1 a2;obtain⟨c4,c5,c6,c7,I,c9,Q,U,X,Y,Z,a0,a1,a2⟩:=O.o V9 j.o;cases y1;·go_wp2;go_ret;exact⟨⟨_,rfl⟩,E.o.trans j.o⟩
 rcases hn:o.name.toList.isEmpty with _|_;·go_wp2;go_ret;exact⟨⟨_,rfl⟩,E.o.trans j.o⟩
 rcases hdr:o.dir with _|_
 ·rw[hdr] at I;have O:=Ki (λW hW=>by have h:=O.o W hW;rw[hdr] at h;exact h);clear hdr;by_cases hd:(o.dv.n:Int)>0;·go_wp2;go_ret;exact⟨⟨_,rfl⟩,E.o.trans j.o⟩
  go_wp2_with fail;refine(H2.o _).mono ?_;rintro e a9 ⟨rfl,J⟩;replace j:=Ki (j.o.trans J);clear J c4 c5 c6 c7 I c9 Q U X Y Z a0 a1 a2;obtain⟨c4,c5,c6,c7,I,c9,Q,U,X,Y,Z,a0,a1,a2⟩:=O.o a9 j.o;cases y2;·go_wp2;go_ret;exact⟨⟨_,rfl⟩,E.o.trans j.o⟩
  go_wp2_with fail;refine(H3.o _).mono ?_;rintro e aa ⟨rfl,J⟩;replace j:=Ki (j.o.trans J);clear J c4 c5 c6 c7 I c9 Q U X Y Z a0 a1 a2;obtain⟨c4,c5,c6,c7,I,c9,Q,U,X,Y,Z,a0,a1,a2⟩:=O.o aa j.o;cases y3;·go_wp2;go_ret;exact⟨⟨_,rfl⟩,E.o.trans j.o⟩
  rcases ht:o.tx.toList.isEmpty with _|_;·go_wp2;go_ret;exact⟨⟨_,rfl⟩,E.o.trans j.o⟩
  go_wp2;go_ret;exact⟨⟨_,rfl⟩,E.o.trans j.o⟩
 rw[hdr] at I;clear hdr;go_wp2;go_ret;exact⟨⟨_,rfl⟩,E.o.trans j.o⟩
def Nl(n:Nat)(w:World)(i:Value)(wr:World):Prop:=∃k:Nat,k<=n/\i=k/\Q0 w wr
theorem FQ(g:Q1)(l:List Q4)(A:Option Addr)(n c B:Nat)(w:World)(Y:Rd w B 2 (.slice A n c) n (l.flatMap Qv))(hB:B<=w):Calls Tryz.prog 245 #[Z2 g,.slice A n c] w λe w'=>(∃b:Bool,e=.returned (.bool b))/\Q0 w w':=by
 obtain⟨_,ac,a8⟩:=Y.len;unfold maxLen at a8;obtain rfl:=QL Qv 2 (λ_=>rfl) (by decide) Y.1;have HR:=Ki (λW (j:Q0 w W)=>Y.below' j.below hB);have H1:=Ki (λx W=>Cb x W);have H2:=Ki (λx y W=>G9 x y W);unfold Z2 Qg Sl.v;clear Y;go_enter Tryz.func245,Tryz.ntmps245;go_upto_region 1 with fail;obtain⟨W1,Z⟩:∃W,w.alloc (.cells g 31)=W:=⟨_,rfl⟩;have a2:=Kj (Q0 w W1) (by rw[<-Z];exact(Q0.refl w).alloc _);have X:=bn Z;rw[Z];obtain⟨b0,a6⟩:∃b,w.heap.size=b:=⟨_,rfl⟩;rw[a6] at X |-;have H0:=Ki (λW (j:Q0 W1 W)=>(j.below.block b0 (Q5.1 X).1).trans X);clear Z a6 X;go_wp2;go_loopw [5] (λi wr=>Nl l.length W1 i wr) (λi _=>l.length-(intOf i).toNat);case atStart=>exact⟨0,Qh _,rfl,Q0.refl _⟩
 case round=>
  obtain⟨k,hk,rfl,O⟩:=hrel;have I:=a2.o.trans O;by_cases aa:k<l.length
  ·obtain⟨b,o,rfl,a5,D⟩:=Qr Qv 2 (λ_=>rfl) (by decide) (HR.o _ I) aa;have a0:=Z1 a5 (Q9 hB I.below.size);obtain⟨d,hd⟩:=ex (l[k]);rw[hd] at D;have hx:=H0.o wr O;have a7:=(Q5.1 hx).1;have f0:∀n os,(Sort.grow (wr.drewN n) os).cell? (b,o+k*2)=d.T:=λn os=>QC a0 (D 0 _ rfl) n os;have f1:∀n os,(Sort.grow (wr.drewN n) os).cell? (b,o+k*2+1)=d.R:=λn os=>QC a0 (D 1 _ rfl) n os;have g0:∀n os,(Sort.grow (wr.drewN n) os).cell? (b0,0)=g.s.T:=λn os=>QC a7 (cR 0 hx) n os;have g1:∀n os,(Sort.grow (wr.drewN n) os).cell? (b0,1)=g.s.R:=λn os=>QC a7 (cR 1 hx) n os;have a4:=Ki O;have Q:=Ki (λW=>H1.o d W);have U:=Ki (λW=>H2.o g.s d W);unfold QU at Q U;obtain⟨y,hy⟩:=ex (right d);obtain⟨z,hz⟩:=ex (g.s.lt d);rw[hy] at Q;rw[hz] at U;have p0:k=0\/∃h,k=h+1:=(by cases k;exact .inl rfl;exact .inr ⟨_,rfl⟩);clear D hd hx O hy hz a5;rcases p0 with rfl|⟨h,rfl⟩
   ·simp only[Ef,UI] at f0 f1;go_upto_region 4 with fail;go_cut [43] from 6 to 43 (λv wx=>(∃t:Bool,v=.bool t)/\Q0 wr wx)
    case first=>
     cases y<;>cases z
     all_goals
      refine QK (by kernel_rfl) (by kernel_rfl) ?_;iterate 32 (first|go_big_quiet_skip|quiet_step (first|(go_at_call 203;exact Qk (Q.o _))|(go_at_call 120;exact Qk (U.o _))))
      refine QN ?_;rintro W ⟨⟨n,os⟩,j⟩;have a3:=Z9 j;clear j;go_wp2;go_meet;case rel=>exact⟨⟨_,rfl⟩,a3⟩
    case rest=>
     obtain⟨⟨t,rfl⟩,J⟩:=hcut;have E:=Ki (a4.o.trans J);clear f0 f1 g0 g1 J;cases t
     ·go_wp2;go_roundw;case rel=>exact⟨0+1,by omega,by go_num,E.o⟩
      case measure=>simp[intOf];omega
     go_wp2;go_ret;exact⟨⟨_,rfl⟩,a2.o.trans E.o⟩
   have a9:h<l.length:=(by omega);obtain⟨b2,o2,e2,ab,D⟩:=Qr Qv 2 (λ_=>rfl) (by decide) (HR.o _ I) a9;obtain⟨rfl,rfl⟩:b2=b/\o2=o:=by simp at e2;omega
   obtain⟨e,he⟩:=ex (l[h]);rw[he] at D;have q0:∀n os,(Sort.grow (wr.drewN n) os).cell? (b2,o2+h*2)=e.T:=λn os=>QC a0 (D 0 _ rfl) n os;have q1:∀n os,(Sort.grow (wr.drewN n) os).cell? (b2,o2+h*2+1)=e.R:=λn os=>QC a0 (D 1 _ rfl) n os;have a1:=Ki (λW=>H2.o e d W);unfold QU at a1;obtain⟨u,hu⟩:∃z,e.lt d=z:=⟨_,rfl⟩;rw[hu] at a1;have i3:(0:Int)<=(h:Int)+1:=(by omega);have i4:(h:Int)+1<(l.length:Int):=(by omega);have i5:(0:Int)<=(h:Int):=(by omega);have i6:(h:Int)<(l.length:Int):=(by omega);have hw:IntKind.i64.wrap (h:Int)=h:=QO _ (by omega);have ad:(((h+1:Nat):Int))-1=h:=(by omega);have ae:=QF (by omega);clear he D e2 hu I;go_upto_region 4 with fail;go_cut [43] from 6 to 43 (λv wx=>(∃t:Bool,v=.bool t)/\Q0 wr wx)
   case first=>
    cases y<;>cases z<;>cases u
    all_goals
     refine QK (by kernel_rfl) (by kernel_rfl) ?_;iterate 15 (first|go_big_quiet_skip|quiet_step (first|(go_at_call 203;exact Qk (Q.o _))|(go_at_call 120;exact Qk (U.o _))))
     iterate 17 (first|go_big_quiet_skip|quiet_step ((go_at_call 120;exact Qk (a1.o _))))
     refine QN ?_;rintro W ⟨⟨n,os⟩,j⟩;have a3:=Z9 j;clear j;go_wp2;go_meet;case rel=>exact⟨⟨_,rfl⟩,a3⟩
   case rest=>
    obtain⟨⟨t,rfl⟩,J⟩:=hcut;have E:=Ki (a4.o.trans J);clear f0 f1 g0 g1 q0 q1 J;cases t
    ·go_wp2;go_roundw;case rel=>exact⟨h+1+1,by omega,by go_num,E.o⟩
     case measure=>simp[intOf];omega
    go_wp2;go_ret;exact⟨⟨_,rfl⟩,a2.o.trans E.o⟩
  have E:=Ki I;clear O I;go_wp2;go_ret;exact⟨⟨_,rfl⟩,E.o⟩
theorem FR(g:Q1)(kc:Int)(l:List Id)(A:Option Addr)(n c B:Nat)(w:World)(hR:Rd w B 3 (.slice A n c) n (l.flatMap Qe))(hB:B<=w):Calls Tryz.prog 247 #[Z2 g,.slice A n c,kc] w λe w'=>(∃b:Bool,e=.returned (.bool b))/\Q0 w w':=by
 obtain⟨_,ab,a7⟩:=hR.len;unfold maxLen at a7;obtain rfl:=QL Qe 3 (λ_=>rfl) (by decide) hR.1;have HR:=Ki (λW (D:Q0 w W)=>hR.below' D.below hB);have H1:=Ki (λx W=>KU g x kc W);have H2:=Ki (λx y W=>GY x y W);unfold Z2 Qg Sl.v at *;clear hR;go_enter Tryz.func247,Tryz.ntmps247;go_upto_region 1 with fail;obtain⟨W1,a0⟩:∃W,w.alloc (.cells g 31)=W:=⟨_,rfl⟩;have a2:=Kj (Q0 w W1) (by rw[<-a0];exact(Q0.refl w).alloc _);have Z:=bn a0;rw[a0];obtain⟨b0,a6⟩:∃b,w.heap.size=b:=⟨_,rfl⟩;rw[a6] at Z |-;have H0:=Ki (λW (D:Q0 W1 W)=>(D.below.block b0 (Q5.1 Z).1).trans Z);clear a0 a6 Z;go_wp2;go_loopw [7] (λi wr=>Nl l.length W1 i wr) (λi _=>l.length-(intOf i).toNat);case atStart=>exact⟨0,Qh _,rfl,Q0.refl _⟩
 case round=>
  obtain⟨k,hk,rfl,X⟩:=hrel;have Q:=a2.o.trans X;by_cases a9:k<l.length
  ·obtain⟨b,o,rfl,a5,j⟩:=Qr Qe 3 (λ_=>rfl) (by decide) (HR.o _ Q) a9;have O:=Z1 a5 (Q9 hB Q.below.size);obtain⟨d,hd⟩:=ex (l[k]);rw[hd] at j;have E:=H0.o wr X;have J:=(Q5.1 E).1;have f0:∀n os,(Sort.grow (wr.drewN n) os).cell? (b,o+k*3)=d.s.T:=λn os=>QC O (j 0 _ rfl) n os;have f1:∀n os,(Sort.grow (wr.drewN n) os).cell? (b,o+k*3+1)=d.s.R:=λn os=>QC O (j 1 _ rfl) n os;have f2:∀n os,(Sort.grow (wr.drewN n) os).cell? (b,o+k*3+2)=d.I:=λn os=>QC O (j 2 _ rfl) n os;have g0:∀n os,(Sort.grow (wr.drewN n) os).cell? (b0,0)=g.s.T:=λn os=>QC J (cR 0 E) n os;have g1:∀n os,(Sort.grow (wr.drewN n) os).cell? (b0,1)=g.s.R:=λn os=>QC J (cR 1 E) n os;have g2:∀n os,(Sort.grow (wr.drewN n) os).cell? (b0,2)=g.n:=λn os=>QC J (cR 2 E) n os;have g3:∀n os,(Sort.grow (wr.drewN n) os).cell? (b0,3)=some (.slice g.dv.A g.dv.n g.dv.c):=λn os=>QC J (cR 3 E) n os;have g4:∀n os,(Sort.grow (wr.drewN n) os).cell? (b0,4)=g.un.T:=λn os=>QC J (cR 4 E) n os;have g5:∀n os,(Sort.grow (wr.drewN n) os).cell? (b0,5)=g.un.R:=λn os=>QC J (cR 5 E) n os;have g6:∀n os,(Sort.grow (wr.drewN n) os).cell? (b0,6)=some (.slice g.ov.A g.ov.n g.ov.c):=λn os=>QC J (cR 6 E) n os;have a4:=Ki X;have Y:=Ki (λW=>H1.o d W);unfold Qa at Y;obtain⟨y,hy⟩:=ex (Zq g.s kc d);rw[hy] at Y;have p0:k=0\/∃h,k=h+1:=(by cases k;exact .inl rfl;exact .inr ⟨_,rfl⟩);clear j hd E X hy a5;rcases p0 with rfl|⟨h,rfl⟩
   ·simp only[Ef,UI] at f0 f1 f2;go_upto_region 4 with fail;go_cut [38] from 8 to 38 (λv wx=>(∃t:Bool,v=.bool t)/\Q0 wr wx)
    case first=>
     cases y
     all_goals
      refine QK (by kernel_rfl) (by kernel_rfl) ?_;iterate 25 (first|go_big_quiet_skip|quiet_step ((go_at_call 244;exact Qk (Y.o _))))
      refine QN ?_;rintro W ⟨⟨n,os⟩,D⟩;have a3:=Z9 D;clear D;go_wp2;go_meet;case rel=>exact⟨⟨_,rfl⟩,a3⟩
    case rest=>
     obtain⟨⟨t,rfl⟩,U⟩:=hcut;have I:=Ki (a4.o.trans U);clear f0 f1 f2 g0 g1 g2 g3 g4 g5 g6 U;cases t
     ·go_wp2;go_roundw;case rel=>exact⟨0+1,by omega,by go_num,I.o⟩
      case measure=>simp[intOf];omega
     go_wp2;go_ret;exact⟨⟨_,rfl⟩,a2.o.trans I.o⟩
   have a8:h<l.length:=(by omega);obtain⟨b2,o2,e2,aa,j⟩:=Qr Qe 3 (λ_=>rfl) (by decide) (HR.o _ Q) a8;obtain⟨rfl,rfl⟩:b2=b/\o2=o:=by simp at e2;omega
   obtain⟨e,he⟩:=ex (l[h]);rw[he] at j;have q0:∀n os,(Sort.grow (wr.drewN n) os).cell? (b2,o2+h*3)=e.s.T:=λn os=>QC O (j 0 _ rfl) n os;have q1:∀n os,(Sort.grow (wr.drewN n) os).cell? (b2,o2+h*3+1)=e.s.R:=λn os=>QC O (j 1 _ rfl) n os;have q2:∀n os,(Sort.grow (wr.drewN n) os).cell? (b2,o2+h*3+2)=e.I:=λn os=>QC O (j 2 _ rfl) n os;have a1:=Ki (λW=>H2.o e d W);unfold Qa at a1;obtain⟨u,hu⟩:∃z,e.cmp d=z:=⟨_,rfl⟩;rw[hu] at a1;have i3:(0:Int)<=(h:Int)+1:=(by omega);have i4:(h:Int)+1<(l.length:Int):=(by omega);have i5:(0:Int)<=(h:Int):=(by omega);have i6:(h:Int)<(l.length:Int):=(by omega);have hw:IntKind.i64.wrap (h:Int)=h:=QO _ (by omega);have ac:(((h+1:Nat):Int))-1=h:=(by omega);have ad:=QF (by omega);clear he j e2 hu Q;go_upto_region 4 with fail;go_cut [38] from 8 to 38 (λv wx=>(∃t:Bool,v=.bool t)/\Q0 wr wx)
   case first=>
    cases y<;>rcases hu3:decide (u>=0) with _|_
    all_goals
     refine QK (by kernel_rfl) (by kernel_rfl) ?_;iterate 14 (first|go_big_quiet_skip|quiet_step ((go_at_call 244;exact Qk (Y.o _))))
     iterate 11 (first|go_big_quiet_skip|quiet_step ((go_at_call 123;exact Qk (a1.o _))))
     refine QN ?_;rintro W ⟨⟨n,os⟩,D⟩;have a3:=Z9 D;clear D;go_wp2;go_meet;case rel=>exact⟨⟨_,rfl⟩,a3⟩
   case rest=>
    obtain⟨⟨t,rfl⟩,U⟩:=hcut;have I:=Ki (a4.o.trans U);clear f0 f1 f2 g0 g1 g2 g3 g4 g5 g6 q0 q1 q2 U;cases t
    ·go_wp2;go_roundw;case rel=>exact⟨h+1+1,by omega,by go_num,I.o⟩
     case measure=>simp[intOf];omega
    go_wp2;go_ret;exact⟨⟨_,rfl⟩,a2.o.trans I.o⟩
  have I:=Ki Q;clear X Q;by_cases h1:(l.length:Int)>=1;·go_wp2;go_ret;exact⟨⟨_,rfl⟩,I.o⟩
  go_wp2;go_ret;exact⟨.inl rfl,I.o⟩
end
section
open Go Go.Lib
abbrev Bs:=List UInt8
def Vo(l:Bs):Prop:=(decodeL l).1=65533/\(decodeL l).2=1
instance (l:Bs):Decidable (Vo l):=by unfold Vo;infer_instance
def JE(p:Bs):Prop:=p≠[]/\¬Vo p/\(decodeL p).2=p.length
def Zg(ps:List Bs):Prop:=∀p∈ps,JE p
theorem Zg.nil:Zg []:=λ_ h=>by cases h
theorem Zg.cons{p:Bs}{ps:List Bs}(h:JE p)(D:Zg ps):Zg (p::ps):=λq j=>by
 rcases QI.1 j with rfl|j;·exact h
 exact D q j
theorem Zg.head{p:Bs}{ps:List Bs}(h:Zg (p::ps)):JE p:=h p XT
theorem Zg.tail{p:Bs}{ps:List Bs}(h:Zg (p::ps)):Zg ps:=λq j=>h q (X2 _ j)
theorem Zg.append{ps qs:List Bs}(h:Zg ps)(k:Zg qs):Zg (ps++qs):=λq j=>by
 rcases Qq.1 j with j|j;·exact h q j
 exact k q j
theorem Oe{l:Bs}(a1:l≠[])(hb:¬Vo l)(y:Bs):decodeL (l.take (decodeL l).2++y)=decodeL l:=by
 have hl:=Kc.2 a1
 have key:∀(n m:Nat)(b0 b1 b2 h D I O:Nat),¬((decodeN n b0 b1 b2 h).1=65533/\(decodeN n b0 b1 b2 h).2=1)->(decodeN n b0 b1 b2 h).2<=m ->
   (2<=(decodeN n b0 b1 b2 h).2->D=b1)->(3<=(decodeN n b0 b1 b2 h).2->I=b2)->(4<=(decodeN n b0 b1 b2 h).2->O=h)->decodeN m b0 D I O=decodeN n b0 b1 b2 h:=by
  intro n m b0 b1 b2 h D I O hv hm E J Q
  rcases decodeN_shape n b0 b1 b2 h with⟨c,e⟩|⟨W,X,Y,Z,e⟩|⟨W,X,Y,e4,Z,es,e⟩|⟨W,X,Y,e4,e5,Z,ew,e⟩|e
  ·rw[e];unfold decodeN;rw[Q7 c]
  ·rw[e] at hm E J Q |-
   obtain rfl:D=b1:=E (by simp)
   dsimp only at hm
   unfold decodeN
   rw[Q6 (by omega),Q7 (by omega),Q7 (by omega)]
  ·rw[e] at hm E J Q |-
   obtain rfl:D=b1:=E (by simp)
   obtain rfl:I=b2:=J (by simp)
   dsimp only at hm
   unfold decodeN
   rw[Q6 (by omega),Q6 (by omega),Q7 (by omega),Q7 (by omega)]
  ·rw[e] at hm E J Q |-
   obtain rfl:D=b1:=E (by simp)
   obtain rfl:I=b2:=J (by simp)
   obtain rfl:O=h:=Q (by simp)
   dsimp only at hm
   unfold decodeN
   rw[Q6 (by omega),Q6 (by omega),Q6 (by omega),Q7 (by omega),Q7 (by omega)]
  ·rw[e] at hv;exact absurd ⟨rfl,rfl⟩ hv
 have a2:=decodeL_le l a1;have hw:=decodeL_width l;unfold Vo at hb;obtain⟨k,U⟩:=ex ((decodeL l).2);have g:∀j,j<k->(l.take k++y).getD j 0=l.getD j 0:=by intro j hj;simp only[CS];rw[VK (by rw[Zi];omega),List.getElem?_take,Q7 hj]
 have a3:k<=(l.take k++y).length:=by rw[Qj,Zi];omega
 rw[U] at a2 hw |-;rw[decodeL_N (l.take k++y),g 0 (by omega)];rw[decodeL_N l] at U hb |-;refine key _ _ _ _ _ _ _ _ _ hb ?_ ?_ ?_ ?_;·rw[U];exact a3
 ·intro a0;rw[g 1 (by omega)]
 ·intro a0;rw[g 2 (by omega)]
 intro a0;rw[g 3 (by omega)]
theorem Of{l:Bs}(j:l≠[])(hb:¬Vo l):JE (l.take (decodeL l).2):=by
 have h:=Oe j hb [];rw[ZB] at h;have D:=Kc.2 j;have I:=decodeL_width l;have E:=decodeL_le l j;refine⟨?_,?_,?_⟩;·intro e;have:=Xz List.length e;rw[Zi,Ub] at this;omega
 ·unfold Vo at hb |-;rw[h];exact hb
 rw[h,Zi];omega
theorem JE.app{p:Bs}(h:JE p)(y:Bs):decodeL (p++y)=decodeL p:=by have:=Oe h.1 h.2.1 y;rwa [h.2.2,X6] at this
theorem JE.pos{p:Bs}(h:JE p):0<p.length:=Kc.2 h.1
theorem JE.four{p:Bs}(h:JE p):p.length<=4:=by rw[<-h.2.2,decodeL_N];rcases decodeN_shape p.length (p.getD 0 0).toNat (p.getD 1 0).toNat (p.getD 2 0).toNat (p.getD 3 0).toNat with⟨c,e⟩|⟨j,D,E,I,e⟩|⟨j,D,E,J,I,Q,e⟩|⟨j,D,E,J,O,I,U,e⟩|e;all_goals (rw[e];dsimp only;omega)
theorem UJ:∀ps:List Bs,Zg ps->ps.length<=ps.flatten.length|[],_=>by simp|p::ps,h=>by have:=UJ ps h.tail;have:=h.head.pos;simp only[Z4,UF,Qj];omega
theorem G7:∀ps:List Bs,Zg ps->validD ps.flatten=true|[],_=>rfl|p::ps,h=>by have j:=h.head;rw[UF,validD_step _ (by simp[j.1]),j.app,Q6 (show ¬((decodeL p).1=65533/\(decodeL p).2=1) from j.2.1),j.2.2,List.drop_left];exact G7 ps h.tail
theorem Og:∀(n:Nat)(l:Bs),l.length<=n->validD l=true->∃ps,Zg ps/\l=ps.flatten
 |0,l,h,_=>⟨[],Zg.nil,by simpa using h⟩
 |n+1,l,h,hv=>by
  by_cases j:l=[];·exact⟨[],Zg.nil,by simp[j]⟩
  have I:=Kc.2 j;rw[validD_step _ j] at hv;by_cases hb:(decodeL l).1=65533/\(decodeL l).2=1;·rw[Q7 hb] at hv;cases hv
  rw[Q6 hb] at hv;have J:=decodeL_width l;obtain⟨ps,D,E⟩:=Og n (l.drop (decodeL l).2) (by rw[Ds];omega) hv;exact⟨l.take (decodeL l).2::ps,Zg.cons (Of j hb) D,by rw[UF,<-E,XU]⟩
theorem B7{l:Bs}(h:validD l=true):∃ps,Zg ps/\l=ps.flatten:=Og l.length l (Q3 _) h
theorem B9:∀ps qs:List Bs,Zg ps->Zg qs->ps.flatten=qs.flatten->ps=qs
 |[],[],_,_,_=>rfl
 |[],q::qs,_,k,e=>by have:=k.head.pos;have h:=Xz List.length e;rw[UF,Qj,List.flatten_nil,Ub] at h;omega
 |p::ps,[],h,_,e=>by have:=h.head.pos;have h:=Xz List.length e;rw[UF,Qj,List.flatten_nil,Ub] at h;omega
 |p::ps,q::qs,h,k,e=>by
  rw[UF,UF] at e;have j:=h.head.app ps.flatten;rw[e,k.head.app qs.flatten] at j;have I:p.length=q.length:=by rw[<-h.head.2.2,<-k.head.2.2,j]
  obtain⟨D,E⟩:=List.append_inj e I;rw[D,B9 ps qs h.tail k.tail E]
end
end Go.Proofs.YtfpafikfjjckeaaGreatDoor
