/- The document's Order of floats. -/
import Derived.Test.YtjlghmjngiegaaaZG
import Derived.Test.YtjlghmjngiegaaaW4
namespace Go.Proofs.Ytjlghmjngiegaaa
open Go Go.Gauge Go.RowKit
theorem own_up {w : World} {base g cap n K : Nat} {e : TypeId} {xs : List Value} (h : w.ownsRow 0 e K (.slice (some ⟨g, 0, none⟩) n cap) n xs) (hb : base ≤ g) : w.ownsRow base e K (.slice (some ⟨g, 0, none⟩) n cap) n xs := by
  refine ⟨h.1, ?_⟩
  rcases h.2 with h1 | ⟨g', cap', cur, e1, _, h3⟩
  · exact .inl h1
  · injection e1 with e1 _ ec
    injection e1 with e1
    injection e1 with e1
    subst e1 ec
    exact .inr ⟨g, cap, cur, rfl, hb, h3⟩
theorem own_low0 {w : World} {base K n : Nat} {e : TypeId} {v : Value} {xs : List Value} (h : w.ownsRow base e K v n xs) : w.ownsRow 0 e K v n xs := by
  refine ⟨h.1, ?_⟩
  rcases h.2 with h1 | ⟨g, cap, cur, h1, _, h3⟩
  · exact .inl h1
  · exact .inr ⟨g, cap, cur, h1, Nat.zero_le _, h3⟩
def RoOut (zs : List F64) (w : World) (o i : Value) (wr : World) : Prop :=
  ∃ (k : Nat) (P : List Nat), k ≤ zs.length ∧ i = .int .i64 (k : Int) ∧ P.Perm (List.range k) ∧ P.Pairwise (Lex (fk zs)) ∧ wr.ownsRow w.heap.size 3 1 o k (P.flatMap nC) ∧ Below w.heap.size w wr
set_option maxRecDepth 100000 in
set_option maxHeartbeats 8000000 in
theorem rorder_any (zs : List F64) (A : Option Addr) (n c B0 : Nat) (w : World) (hR : Rd w B0 1 (.slice A n c) n (zs.map fl)) (hB0 : B0 ≤ w.heap.size) (hbig : n ≤ 100000) :
    Calls Try.prog 25 #[.slice A n c] w (OrPost zs w) := by
  have hl : zs.length = n := by have := hR.1; simpa using this
  subst hl
  obtain ⟨i0, hi, hz0, hz1, hz2⟩ := info_parts info3
  have HR := Lib.hid (fun W (hW : Below w.heap.size w W) => hR.below' hW hB0)
  obtain ⟨_, hnc, hcm⟩ := hR.len
  unfold maxLen at hcm
  clear hR
  go_enter Try.func25, Try.ntmps25
  go_wp2
  go_loopw [3, 4] (fun o i wr => RoOut zs w o i wr) (fun _ i _ => zs.length - (intOf i).toNat)
  case atStart => exact ⟨0, [], Nat.zero_le _, rfl, List.Perm.refl _, List.Pairwise.nil, World.ownsRow_nil _ _ _ _, Below.refl _ _⟩
  case round =>
    obtain ⟨x, P, hk, rfl, hP, hPL, hO, hb⟩ := hrel
    obtain ⟨Ao, co, rfl, hxc, hom⟩ := (Rd.of_own hO).form
    have HP := Lib.hid hP
    have HPL := Lib.hid hPL
    have HO := Lib.hid hO
    have HB := Lib.hid hb
    have hbs := hb.size
    clear hP hPL hO hb
    by_cases hlt : x < zs.length
    · have i1 : (x : Int) < (zs.length : Int) := by omega
      have hPl : P.length = x := perm_len HP.out
      have HPl := Lib.hid hPl
      have w1' : IntKind.i64.wrap ((x + 1 : Nat) : Int) - 1 = (x : Int) := by rw [IntWalk.i64_in _ (by omega)]; omega
      clear hPl w1'
      go_wp2_with (at_builtin; refine wpList_append_own_at _ rfl _ _ 40 rfl w.heap.size 3 i0 _ 1 8 Try.underlying40 hi hz0 hz1 hz2 rfl (by decide) _ _ _ rfl (HO.out.alloc _) ⟨wr.heap.size, 0, none⟩ 1 1 (nC x) rfl rfl ?qc (by simp [nC, Value.oneCell']) ?q2 ?q3 ?q4 ?_)
      case qc => exact cells_new wr (nC x) 3
      case q2 => unfold maxLen; omega
      case q3 => omega
      case q4 => simp; omega
      intro v7 w7 hown7 hgrow7 _ _
      have hb7 : Below w.heap.size w w7 := (HB.out.alloc hbs _).grown hgrow7 (by simp; omega) (fun j hj => (HO.out.lt j hj).1)
      have hown7 : w7.ownsRow w.heap.size 3 1 v7 (P.length + 1) (P.flatMap nC ++ nC x) := by rw [HPl.out]; exact hown7
      obtain ⟨g, cap, rfl, hg, hgc, hcapm, hown⟩ := own_snoc hown7
      rw [HPl.out] at hgc hown
      rw [HPl.out]
      have hS0 : St g cap w7 ([] ++ (P ++ [x]) ++ []) w7 := ⟨by rw [List.nil_append, List.append_nil, List.length_append, List.length_singleton, HPl.out]; exact own_low0 hown, Touch.refl _ _⟩
      have HIN := Lib.hid (show InsIn g cap w7 (fk zs) P [] x 0 [] (.int .i64 (x : Int)) w7 from ⟨x, P, [], by simp, by have := HPl.out; omega, rfl, fun y hy => (by cases hy), hS0⟩)
      have HB7 := Lib.hid hb7
      have hgs : g < w7.heap.size := (hown.lt g rfl).2
      have HG := Lib.hid (show w.heap.size ≤ g ∧ g < w7.heap.size from ⟨hg, hgs⟩)
      have HTB := Lib.hid (fun W (h : Touch (fun k => k = g) w7 W) => (show Below w.heap.size w W from hb7.trans (h.below hb7.size (fun y hy e => by omega))))
      have hfin : ∀ (P1 P2 : List Nat) (wz : World), P1 ++ P2 = P → (∀ y ∈ P2, fk zs x < fk zs y) → (∀ h : 0 < P1.length, ¬ fk zs x < fk zs (P1[P1.length - 1]'(Nat.sub_lt h Nat.one_pos))) → St g cap w7 ([] ++ (P1 ++ x :: P2) ++ []) wz → RoOut zs w (.slice (some ⟨g, 0, none⟩) (x + 1) cap) (.int .i64 ((x : Int) + 1)) wz := fun P1 P2 wz h1 h2 h3 h4 => by
        have hPx : ∀ y ∈ P, y < x := perm_lt HP.out
        subst h1
        have hl := lex_insert (f := fk zs) (P := P1 ++ P2) (x := x) (k := P1.length) HPL.out hPx (by simp) (by simpa using h2) (fun h => by rw [List.getElem_append_left (by omega)]; exact h3 h)
        rw [List.take_left, List.drop_left] at hl
        have hpm : (P1 ++ x :: P2).Perm (List.range (x + 1)) := by
          rw [List.range_succ]
          exact hl.2.trans (((List.Perm.cons x HP.out)).trans (List.perm_append_comm (l₁ := [x])))
        refine ⟨x + 1, P1 ++ x :: P2, hlt, by go_num, hpm, hl.1, ?_, HTB.out wz h4.tch⟩
        have ho := h4.own
        rw [List.nil_append, List.append_nil, perm_len hpm] at ho
        exact own_up ho HG.out.1
      have HFIN := Lib.hid hfin
      have w2' : IntKind.i64.wrap ((x : Int) + 1) = (x : Int) + 1 := IntWalk.i64_in _ (by omega)
      have w3' : IntKind.i64.wrap (((x + 1 : Nat) : Int) - 1) = (x : Int) := by rw [show ((x + 1 : Nat) : Int) - 1 = (x : Int) by omega]; exact IntWalk.i64_in _ (by omega)
      have w4' : IntKind.i64.wrap ((x : Int) + 1 - 1) = (x : Int) := by rw [show (x : Int) + 1 - 1 = (x : Int) by omega]; exact IntWalk.i64_in _ (by omega)
      clear hown7 hgrow7 hown hS0 hg hgs hb7 hfin hbs
      go_wp2
      go_loopw [5] (fun j wr => InsIn g cap w7 (fk zs) P [] x 0 [] j wr) (fun j _ => (intOf j).toNat)
      case atStart => exact HIN.out
      case round =>
        clear HIN w3' w4'
        obtain ⟨d, P1, P2, hPP, hd, rfl, hgt, hSt⟩ := hrel
        have HPP := Lib.hid hPP
        have HGT := Lib.hid hgt
        have HSt := Lib.hid hSt
        have hpk : d ≤ x := by have := HPl.out; have := congrArg List.length hPP; rw [List.length_append] at this; omega
        by_cases h0 : d = 0
        · subst h0
          have HP0 := Lib.hid (show P1.length = 0 by omega)
          clear hPP hgt hSt hd
          go_wp2
          go_quiet (fail)
          go_wp2
          go_roundw
          case rel => exact HFIN.out P1 P2 _ HPP.out HGT.out (fun h => by have := HP0.out; omega) (HSt.out.drewN _)
          case measure => simp [intOf]; omega
        · obtain ⟨e, rfl⟩ : ∃ e, d = e + 1 := ⟨d - 1, by omega⟩
          obtain ⟨P0, y, rfl⟩ : ∃ P0 y, P1 = P0 ++ [y] := ⟨P1.dropLast, P1.getLast (by intro e; rw [e] at hd; simp at hd), (List.dropLast_concat_getLast _).symm⟩
          rw [List.length_append, List.length_singleton] at hd
          obtain ⟨d, hde⟩ : ∃ d, e + 1 = d := ⟨_, rfl⟩
          obtain ⟨Z, hZ⟩ : ∃ Z, [] ++ (P0 ++ [y] ++ x :: P2) ++ [] = Z := ⟨_, rfl⟩
          have hlP2 : P2.length + P0.length + 1 = x := by have := HPl.out; have := congrArg List.length hPP; simp only [List.length_append, List.length_singleton] at this; omega
          have hZ2 : P0 ++ y :: x :: P2 = Z := by rw [← hZ]; simp
          have hZl : Z.length = x + 1 := by rw [← hZ2]; simp only [List.length_append, List.length_cons]; omega
          have hi' : e < Z.length := by omega
          have hj : d < Z.length := by omega
          obtain ⟨gi, gj, _, hsw⟩ := swp_next P0 P2 y x hZ2 hi' hj (by omega) (by omega)
          rw [hZ] at hSt
          have c0 := hSt.cell hi'
          have c1 := hSt.cell hj
          rw [gi] at c0
          rw [gj] at c1
          have hyx : y < x := perm_lt HP.out y (by rw [← hPP]; simp)
          have HSS := Lib.hid hSt
          have hwb := HTB.out wr hSt.tch
          obtain ⟨bb, oo, rfl, _, l0⟩ := rd_fl (HR.out wr hwb) (i := x) (by omega)
          obtain ⟨bb2, oo2, e3, _, l1⟩ := rd_fl (HR.out wr hwb) (i := y) (by omega)
          cases e3
          have HCM := Lib.hid (rcmp_any zs[x].1 zs[y].1 zs[x].2 zs[y].2)
          rw [← keyCmp_eq] at HCM
          have hkx := fk_at zs (show x < zs.length by omega)
          have hky := fk_at zs (show y < zs.length by omega)
          obtain ⟨xf, hxf⟩ : ∃ f, zs[x].1 = f := ⟨_, rfl⟩
          obtain ⟨yf, hyf⟩ : ∃ f, zs[y].1 = f := ⟨_, rfl⟩
          rw [hxf] at l0 hkx
          rw [hyf] at l1 hky
          rw [hxf, hyf] at HCM
          have i2 : (0 : Int) < (d : Int) := by omega
          have i2n : 0 < d := by omega
          have i3 : (0 : Int) ≤ (d : Int) := by omega
          have i4 : (d : Int) < ((x + 1 : Nat) : Int) := by omega
          have i4' : (d : Int) < (x : Int) + 1 := by omega
          have i5 : (0 : Int) ≤ (e : Int) := by omega
          have i6 : (e : Int) < ((x + 1 : Nat) : Int) := by omega
          have i6' : (e : Int) < (x : Int) + 1 := by omega
          have i7 : (0 : Int) ≤ (x : Int) := by omega
          have i8 : (0 : Int) ≤ (y : Int) := by omega
          have i9 : (y : Int) < (zs.length : Int) := by omega
          have n1 : ¬ (e = d) := by omega
          have n2 : ¬ (d = e) := by omega
          have e1 : IntKind.i64.wrap ((d : Int) - 1) = (e : Int) := by rw [show (d : Int) - 1 = (e : Int) by omega]; exact IntWalk.i64_in _ (by omega)
          obtain ⟨cc, hcc⟩ : ∃ cc, keyCmp xf yf = cc := ⟨_, rfl⟩
          have hcc2 : cmpF (fk zs x) (fk zs y) = cc := by rw [hkx, hky]; exact hcc
          rw [hcc] at HCM
          have HZ := Lib.hid hZ
          have HD := Lib.hid hd
          have HDE := Lib.hid hde
          have HSW := Lib.hid (fun q' => (hSt.drewN q').swap hj hi')
          rw [hsw] at HSW
          simp only [gi, gj] at HSW
          have HE := Lib.hid (show P0 ++ (y :: P2) = P from by rw [← hPP]; simp)
          rw [hde]
          clear hZ hZ2 hlP2 gi gj hsw hPP hgt hSt hd hde hkx hky hxf hyf hcc hwb hyx h0
          by_cases hxy : fk zs x < fk zs y
          · have hcn : cc < 0 := hcc2 ▸ cmpF_lt hxy
            have HXY := Lib.hid hxy
            have f0 : ∀ i, wr.frozen? ⟨g, i, none⟩ = false := fun i => HSS.out.frozen (by omega) i
            clear hcc2 hxy
            go_wp2
            go_region_held3 (fun W' => (W'.cell? ⟨g, d, none⟩ = some (.int .i64 (x : Int)) ∧ W'.cell? ⟨g, e, none⟩ = some (.int .i64 (y : Int))) ∧ W'.cell? ⟨bb, oo + x, none⟩ = some (.float .f64 xf) ∧ W'.cell? ⟨bb, oo + y, none⟩ = some (.float .f64 yf))
              (exact ⟨⟨c1, c0⟩, l0, l1⟩)
              ((go_at_call 18; refine (HCM.out _).mono ?_; rintro e wy ⟨rfl, rfl⟩))
            go_wp2
            go_region
            have HX := Lib.hid ((HSW.out 0).drew.drew)
            obtain ⟨W5, hW5⟩ : ∃ W, ((wr.setCell ⟨g, d, none⟩ (.int .i64 (y : Int))).setCell ⟨g, e, none⟩ (.int .i64 (x : Int))).drew.drew = W := ⟨_, rfl⟩
            have hx5 : St g cap w7 (P0 ++ x :: y :: P2) W5 := by rw [← hW5]; exact HX.out
            clear HX
            rw [hW5]
            clear hW5
            clear c0 c1 f0 l0 l1
            go_wp2
            go_roundw
            case rel => exact ⟨e, P0, y :: P2, HE.out, by have := HD.out; omega, rfl, fun z hz => (by
              rcases List.mem_cons.1 hz with rfl | hz
              · exact HXY.out
              · exact HGT.out z hz), by simpa using hx5⟩
            case measure => (have := HDE.out; simp [intOf]; omega)
          · have hcn : ¬ cc < 0 := hcc2 ▸ cmpF_ge hxy
            have HXY := Lib.hid hxy
            clear hcc2 hxy
            go_wp2
            go_region_held3 (fun W' => (W'.cell? ⟨g, d, none⟩ = some (.int .i64 (x : Int)) ∧ W'.cell? ⟨g, e, none⟩ = some (.int .i64 (y : Int))) ∧ W'.cell? ⟨bb, oo + x, none⟩ = some (.float .f64 xf) ∧ W'.cell? ⟨bb, oo + y, none⟩ = some (.float .f64 yf))
              (exact ⟨⟨c1, c0⟩, l0, l1⟩)
              ((go_at_call 18; refine (HCM.out _).mono ?_; rintro e wy ⟨rfl, rfl⟩))
            clear c0 c1 l0 l1
            go_wp2
            go_roundw
            case rel => exact HFIN.out (P0 ++ [y]) P2 _ HPP.out HGT.out (fun h => by simpa using HXY.out) (HSt.out.drewN _)
            case measure => simp [intOf]; omega
    · obtain rfl : x = zs.length := by omega
      have i1 : ¬ (zs.length : Int) < (zs.length : Int) := by omega
      go_wp2
      go_ret
      exact ⟨_, P, rfl, HP.out, HPL.out, HO.out, HB.out⟩
end Go.Proofs.Ytjlghmjngiegaaa
