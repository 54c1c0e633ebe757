/- The law of what is dropped: LiveDrops. -/
import Derived.Test.YtejafcdlkpmemaaV
import Derived.Test.YtejafcdlkpmemaaX1
import Derived.Test.YtejafcdlkpmemaaX2
import Derived.Deep.AppendLies
namespace Go.Proofs.Ytejafcdlkpmemaa
open Go Go.RowKit Go.Maps Go.Shelf
theorem sub_len {α : Type} [DecidableEq α] : ∀ (L M : List α), L.Nodup → (∀ x ∈ L, x ∈ M) → L.length ≤ M.length
  | [], _, _, _ => Nat.zero_le _
  | a :: L, M, hn, hs => by
    have ha := hs a (by simp)
    have hn' := List.nodup_cons.1 hn
    have h := sub_len L (M.erase a) hn'.2 (fun x hx => (List.mem_erase_of_ne (fun e => hn'.1 (by subst e; exact hx))).2 (hs x (by simp [hx])))
    rw [List.length_erase_of_mem ha] at h
    have := List.length_pos_of_mem ha
    simp
    omega
theorem STO.nodup {α : Type} {lt : α → α → Prop} (O : STO lt) {L : List α} (h : L.Pairwise lt) : L.Nodup := by
  refine List.Pairwise.imp ?_ h
  intro a b hab e
  subst e
  exact O.irrefl a hab
theorem drops_len {a b : List Dot} {y : Id} {O : List Stamp} {m : Nat} (hS : O.Pairwise Stamp.Lt) (hl : a.length ≤ m) (hO : ∀ s, s ∈ O ↔ ofMem a b y a.length s) : O.length ≤ m := by
  refine Nat.le_trans (sub_len O (a.map Dot.b) (stampSTO.nodup hS) (fun s hs => ?_)) (by simpa using hl)
  obtain ⟨d, h1, _, _, h4⟩ := (of_mem _ _ _ _).1 ((hO _).1 hs)
  exact List.mem_map.2 ⟨d, h1, h4⟩
theorem drops_lenL {a b : List Dot} {L : List Id} {m : Nat} (hS : L.Pairwise Id.Lt) (hl : a.length ≤ m) (hM : ∀ s, s ∈ L ↔ liveMem a b a.length s) : L.length ≤ m := by
  refine Nat.le_trans (sub_len L (a.map Dot.n) (idSTO.nodup hS) (fun s hs => ?_)) (by simpa using hl)
  obtain ⟨d, h1, _, h4⟩ := (live_mem _ _ _).1 ((hM _).1 hs)
  exact List.mem_map.2 ⟨d, h1, h4⟩
def MoreRel (b : List Dot) (y : Id) (O : List Stamp) (w : World) (out i : Value) (wr : World) : Prop :=
  ∃ k : Nat, k ≤ O.length ∧ i = .int .i64 k ∧ ∃ M : List Dot, M = more b y (O.take k) ∧ wr.ownsRow w.heap.size 41 5 out M.length (M.flatMap dotC) ∧ Below w.heap.size w wr
def WantRel (L : List Id) (y : Id) (w : World) (out i : Value) (wr : World) : Prop :=
  ∃ k : Nat, k ≤ L.length ∧ i = .int .i64 k ∧ ∃ M : List Id, M = (L.take k).filter (fun x => !decide (x = y)) ∧ wr.ownsRow w.heap.size 26 3 out M.length (M.flatMap idC) ∧ Below w.heap.size w wr
set_option maxRecDepth 100000 in
set_option maxHeartbeats 8000000 in
theorem drops_walk (l0 l1 : List Bit) (x : Int) (A A' : Option Addr) (n c n' c' : Nat) (hx : 0 ≤ x ∧ x ≤ 255) (w : World) (hR : Rd w w.heap.size 2 (.slice A n c) n (l0.flatMap bitC)) (hR' : Rd w w.heap.size 2 (.slice A' n' c') n' (l1.flatMap bitC)) :
    Calls Try.prog 5 #[.slice A n c, .slice A' n' c', .int .u8 x] w fun e w' => e = .returned (.bool true) ∧ Below w.heap.size w w' := by
  obtain ⟨i0, hi, hz0, hz1, hz2⟩ := info_parts info41
  obtain ⟨j0, gi, gz0, gz1, gz2⟩ := info_parts info26
  have HR := Lib.hid hR
  have HR' := Lib.hid hR'
  obtain ⟨u, hu⟩ : ∃ u, 1 + x % 5 = u := ⟨_, rfl⟩
  have HY := Lib.hid (show idV (smallId x hx) = .agg #[.int .i64 u, .int .i64 1, .int .i64 0] from by rw [← hu]; rfl)
  obtain ⟨r, hr⟩ : ∃ r, x % 5 = r := ⟨_, rfl⟩
  rw [hr] at hu
  have m1 : Int.tmod x 5 = r := by rw [Int.tmod_eq_emod_of_nonneg hx.1, hr]
  have a1 : IntKind.i64.wrap (1 + r) = u := by rw [IntWalk.i64_in _ (by omega)]; omega
  have w1 : IntKind.i64.wrap x = x := IntWalk.i64_in _ (by omega)
  generalize smallId x hx = y at HY
  clear hR hR' hr hu
  go_enter Try.func5, Try.ntmps5
  go_wp2_with fail
  refine (awake_any w).mono ?_
  rintro e W0 ⟨rfl, hb00⟩
  have HR0 := Lib.hid (HR.out.below' hb00 (Nat.le_refl _))
  have HR0' := Lib.hid (HR'.out.below' hb00 (Nat.le_refl _))
  have HB00 := Lib.hid hb00
  have hw0 : w.heap.size ≤ W0.heap.size := hb00.size
  clear HR HR' hb00
  go_wp2_with fail
  refine (dots_any l0 A n c w.heap.size W0 HR0.out hw0).mono ?_
  rintro e W1 ⟨v1, rfl, hO1, hb1⟩
  obtain ⟨Aa, ca, rfl, _, _⟩ := (Rd.of_own hO1).form
  have ll1 : ((l0.take 60).map bitDot).length ≤ 60 := by rw [List.length_map, List.length_take]; omega
  have T1 := Lib.hid (dots_two l0)
  generalize (l0.take 60).map bitDot = La at hO1 ll1 T1 ⊢
  have HO1 := Lib.hid hO1
  clear hO1
  go_wp2_with fail
  refine (dots_any l1 A' n' c' w.heap.size W1 (HR0'.out.below' hb1 hw0) (Nat.le_trans hw0 hb1.size)).mono ?_
  rintro e W2 ⟨v2, rfl, hO2, hb2⟩
  obtain ⟨Ab, cb, rfl, _, _⟩ := (Rd.of_own hO2).form
  have ll2 : ((l1.take 60).map bitDot).length ≤ 60 := by rw [List.length_map, List.length_take]; omega
  have T2 := Lib.hid (dots_two l1)
  generalize (l1.take 60).map bitDot = Lb at hO2 ll2 T2 ⊢
  have HO2 := Lib.hid hO2
  have hb12 : Below w.heap.size w W2 := HB00.out.trans ((hb1.trans (hb2.mono hb1.size)).mono hw0)
  have HR1 := Lib.hid (own_grows HO1.out hb2)
  have HR2 := Lib.hid HO2.out
  clear hO2 HO1 HO2 hb1 hb2 HR0 HR0' HB00
  go_wp2_with fail
  refine (id_at u _).mono ?_
  rintro e W3 ⟨rfl, hg3⟩
  have HR1b := Lib.hid (own_grows HR1.out hg3.below)
  have HR2b := Lib.hid (own_grows HR2.out hg3.below)
  have hb3 : Below w.heap.size w W3 := hb12.trans (hg3.below.mono hb12.size)
  clear HR1 HR2 hg3 hb12 m1 a1 w1
  go_wp2_with fail
  obtain ⟨wf, hwf⟩ : ∃ W, W3.alloc (.cells #[.int .i64 u, .int .i64 1, .int .i64 0] 26) = W := ⟨_, rfl⟩
  have hgf : Grows W3 wf := by rw [← hwf]; exact (Grows.refl W3).alloc _
  have hbx : wf.heap[W3.heap.size]? = some (.cells #[.int .i64 u, .int .i64 1, .int .i64 0] 26 (0, 0)) := by rw [← hwf]; exact heap_alloc_new W3 _
  have hszf : W3.heap.size < wf.heap.size := (Array.getElem?_eq_some_iff.1 hbx).1
  have HRf := Lib.hid (own_grows HR1b.out hgf.below)
  have HRf' := Lib.hid (own_grows HR2b.out hgf.below)
  have HBf := Lib.hid (hb3.trans (hgf.below.mono hb3.size))
  have hw : w.heap.size ≤ wf.heap.size := by have := hb3.size; omega
  rw [hwf]
  obtain ⟨bx, hbxe⟩ : ∃ b, W3.heap.size = b := ⟨_, rfl⟩
  rw [hbxe] at hszf hbx ⊢
  clear hwf hgf hbxe HR1b HR2b hb3
  have kd : Below wf.heap.size wf wf.drew := (Below.refl _ wf).drew
  have HX := Lib.hid (fun W' (hW : Below wf.heap.size wf.drew W') => (show W'.cell? ⟨bx, 0, none⟩ = some (.int .i64 u) ∧ W'.cell? ⟨bx, 1, none⟩ = some (.int .i64 1) ∧ W'.cell? ⟨bx, 2, none⟩ = some (.int .i64 0) from
    ⟨((kd.trans hW).cell (p := ⟨bx, 0, none⟩) hszf).trans (cell_of_row _ _ 0 _ _ _ hbx), ((kd.trans hW).cell (p := ⟨bx, 1, none⟩) hszf).trans (cell_of_row _ _ 1 _ _ _ hbx), ((kd.trans hW).cell (p := ⟨bx, 2, none⟩) hszf).trans (cell_of_row _ _ 2 _ _ _ hbx)⟩))
  have HL := Lib.hid (fun W' (hW : Below wf.heap.size wf.drew W') => live_any La Lb Aa Ab La.length ca Lb.length cb wf.heap.size W' ((Rd.of_own HRf.out).below' (kd.trans hW) (Nat.le_refl _)) ((Rd.of_own HRf'.out).below' (kd.trans hW) (Nat.le_refl _)) (kd.trans hW).size (by omega))
  have HO := Lib.hid (fun W' (hW : Below wf.heap.size wf.drew W') => of_any La Lb y Aa Ab La.length ca Lb.length cb wf.heap.size W' ((Rd.of_own HRf.out).below' (kd.trans hW) (Nat.le_refl _)) ((Rd.of_own HRf'.out).below' (kd.trans hW) (Nat.le_refl _)) (kd.trans hW).size (by omega))
  rw [HY.out] at HO
  have KD := Lib.hid kd
  have k1 : Below wf.heap.size wf.drew wf.drew := Below.refl _ _
  clear hbx kd
  go_wp2_with fail
  go_region_held3 (fun w' => w'.cell? ⟨bx, 0, none⟩ = some (.int .i64 u) ∧ w'.cell? ⟨bx, 1, none⟩ = some (.int .i64 1) ∧ w'.cell? ⟨bx, 2, none⟩ = some (.int .i64 0))
    (first | exact HX.out _ (by assumption) | go_keep)
    (first
      | (go_at_call 20; refine (HL.out _ k1).mono ?_; rintro e w3 ⟨v3, L, rfl, hO3, hS3, hM3, hb3⟩; have k3 := k1.trans (hb3.mono k1.size); obtain ⟨A3, c3, rfl, _, _⟩ := (Rd.of_own hO3).form; have O3 := Lib.hid hO3; have S3 := Lib.hid hS3; have M3 := Lib.hid hM3; clear hO3 hS3 hM3 hb3)
      | (go_at_call 23; refine (HO.out _ k3).mono ?_; rintro e w4 ⟨v4, O, rfl, hO4, hS4, hM4, hb4⟩; have k4 := k3.trans (hb4.mono k3.size); obtain ⟨A4, c4, rfl, _, _⟩ := (Rd.of_own hO4).form; have O3b := Lib.hid (own_grows O3.out hb4); have O4 := Lib.hid hO4; have S4 := Lib.hid hS4; have M4 := Lib.hid hM4; clear hO4 hS4 hM4 hb4))
  have kw : Below wf.heap.size wf w4 := KD.out.trans k4
  have HX4 := Lib.hid (HX.out w4 k4)
  obtain ⟨c0, c1, c2⟩ := HX.out w4 k4
  have HRa := Lib.hid (own_grows HRf.out kw)
  have HRb := Lib.hid (own_grows HRf'.out kw)
  have HB4 := Lib.hid (HBf.out.trans (kw.mono hw))
  have HE := Lib.hid (drops_has (y := y) M3.out M4.out)
  have hxb : bx < w4.heap.size := by have := kw.size; omega
  have hw4 : w.heap.size ≤ w4.heap.size := by have := kw.size; omega
  clear k1 k3 k4 kw HRf HRf' HBf HX HL HO O3 hszf hw KD
  have hs := hasId_any L y A3 L.length c3 w4.heap.size w4 (Rd.of_own O3b.out) (Nat.le_refl _)
  rw [HY.out] at hs
  obtain ⟨bb, hbb⟩ : ∃ bb, decide (y ∈ L) = bb := ⟨_, rfl⟩
  have hO0 : decide (0 < O.length) = bb := by rw [← hbb, decide_eq_decide, HE.out]
  rw [hbb] at hs
  have HS := Lib.hid hs
  clear hs hbb
  go_wp2_with fail
  refine HS.out.mono ?_
  rintro e w5 ⟨rfl, hg5⟩
  have HB5 := Lib.hid (HB4.out.trans (hg5.below.mono hw4))
  have HRa5 := Lib.hid (own_grows HRa.out hg5.below)
  have HRb5 := Lib.hid (own_grows HRb.out hg5.below)
  have OL5 := Lib.hid (own_grows O3b.out hg5.below)
  have OO5 := Lib.hid (own_grows O4.out hg5.below)
  have hs5 : w4.heap.size ≤ w5.heap.size := hg5.below.size
  have HX5 := Lib.hid (fun W' (hW : Below w5.heap.size w5 W') => (show W'.cell? ⟨bx, 0, none⟩ = some (.int .i64 u) ∧ W'.cell? ⟨bx, 1, none⟩ = some (.int .i64 1) ∧ W'.cell? ⟨bx, 2, none⟩ = some (.int .i64 0) from by
    have hl : bx < w5.heap.size := Nat.lt_of_lt_of_le hxb hs5
    exact ⟨(hW.cell (p := ⟨bx, 0, none⟩) hl).trans ((hg5.below.cell (p := ⟨bx, 0, none⟩) hxb).trans HX4.out.1), (hW.cell (p := ⟨bx, 1, none⟩) hl).trans ((hg5.below.cell (p := ⟨bx, 1, none⟩) hxb).trans HX4.out.2.1), (hW.cell (p := ⟨bx, 2, none⟩) hl).trans ((hg5.below.cell (p := ⟨bx, 2, none⟩) hxb).trans HX4.out.2.2)⟩))
  have hw5 : w.heap.size ≤ w5.heap.size := by omega
  have lO : O.length ≤ 60 := drops_len S4.out ll1 M4.out
  clear hg5 HS HRa HRb O3b O4 HX4 HB4 hw4 hxb hs5 c0 c1 c2
  go_wp2_with (at_builtin; go_loud (refine wpList_append_row rfl _ _ 22 rfl w5.heap.size 41 i0 _ 5 40 Try.underlying22 hi hz0 hz1 hz2 rfl (by decide) _ 0 [] rfl (World.ownsRow_nil _ _ _ _) (.slice Ab Lb.length cb) _ Lb.length _ rfl HRb5.out (list_one dotC_one Lb) (by unfold maxLen; omega) (by omega) (Nat.le_refl _) ?_); intro v6 w6 hown6 hgrow6)
  have O6 := Lib.hid (show w6.ownsRow w5.heap.size 41 5 v6 Lb.length (Lb.flatMap dotC) from by simpa using hown6)
  have hb6 : Below w5.heap.size w5 w6 := (Below.refl _ w5).grown hgrow6 (Nat.le_refl _) (fun j hj => by cases hj)
  clear hown6 hgrow6 hO0
  go_wp2
  go_loopw [13, 14] (fun out i wr => MoreRel Lb y O w5 out i wr) (fun _ i _ => O.length - (intOf i).toNat)
  case atStart => exact ⟨0, Nat.zero_le _, rfl, Lb, by simp [more], O6.out, hb6⟩
  case round =>
    clear O6 hb6
    obtain ⟨k, hk, rfl, M, hM, hO, hb⟩ := hrel
    obtain ⟨Av, cv, rfl, hLc, hcm2⟩ := (Rd.of_own hO).form
    have HO := Lib.hid hO
    have lM : M.length ≤ 120 := by rw [hM]; simp [more]; omega
    have HM := Lib.hid hM
    clear hO hM hcm2
    obtain ⟨wo, rfl⟩ : ∃ wo : World, wo = wr := ⟨_, rfl⟩
    have hwl := hb.size
    by_cases hlt : k < O.length
    · obtain ⟨b, o, rfl, hB', hcell⟩ := rd_at stC 2 (fun _ => rfl) (by decide) (Rd.of_own OO5.out) hlt
      have HT := Lib.hid (show more Lb y (O.take (k + 1)) = more Lb y (O.take k) ++ [⟨y, O[k]⟩] from by rw [List.take_succ_eq_append_getElem hlt]; unfold more; rw [List.map_append, ← List.append_assoc]; rfl)
      obtain ⟨s, hs⟩ : ∃ s, O[k] = s := ⟨_, rfl⟩
      rw [hs] at hcell HT
      have HD := Lib.hid (show dotC ⟨y, s⟩ = [.int .i64 u, .int .i64 1, .int .i64 0, .int .i64 s.T, .int .i64 s.R] from by
        have h := HY.out
        unfold idV at h
        have h2 : [Value.int .i64 y.s.T, .int .i64 y.s.R, .int .i64 y.I] = [.int .i64 u, .int .i64 1, .int .i64 0] := by simpa using h
        show [Value.int .i64 y.s.T, .int .i64 y.s.R, .int .i64 y.I] ++ [.int .i64 s.T, .int .i64 s.R] = _
        rw [h2]; rfl)
      have HSt := Lib.hid (fun W' (hW : Below w5.heap.size w5 W') => (show (W'.cell? ⟨bx, 0, none⟩ = some (.int .i64 u) ∧ W'.cell? ⟨bx, 1, none⟩ = some (.int .i64 1) ∧ W'.cell? ⟨bx, 2, none⟩ = some (.int .i64 0)) ∧ W'.cell? ⟨b, o + k * 2, none⟩ = some (.int .i64 s.T) ∧ W'.cell? ⟨b, o + k * 2 + 1, none⟩ = some (.int .i64 s.R) from
        ⟨HX5.out W' hW, (hW.cell (p := ⟨b, o + k * 2, none⟩) hB').trans (hcell 0 _ rfl), (hW.cell (p := ⟨b, o + k * 2 + 1, none⟩) hB').trans (hcell 1 _ rfl)⟩))
      have i1 : (0 : Int) ≤ (k : Int) := by omega
      have i2 : (k : Int) < (O.length : Int) := by omega
      have k1 : Below w5.heap.size w5 wo.drew := hb.drew
      clear hcell hs
      go_wp2
      go_region_held3 (fun w' => (w'.cell? ⟨bx, 0, none⟩ = some (.int .i64 u) ∧ w'.cell? ⟨bx, 1, none⟩ = some (.int .i64 1) ∧ w'.cell? ⟨bx, 2, none⟩ = some (.int .i64 0)) ∧ w'.cell? ⟨b, o + k * 2, none⟩ = some (.int .i64 s.T) ∧ w'.cell? ⟨b, o + k * 2 + 1, none⟩ = some (.int .i64 s.R))
        (first | exact HSt.out _ (by assumption) | exact HSt.out _ (k1.alloc k1.size _) | go_keep)
        ((refine step_append_lies _ (by rfl) _ _ _ (by rfl) w5.heap.size 41 i0 _ 5 40 Try.underlying22 hi hz0 hz1 hz2 rfl (by omega) _ M.length _ (by rfl) ((own_drew HO.out).alloc _) ⟨wo.heap.size, 0, none⟩ 1 1 [.int .i64 u, .int .i64 1, .int .i64 0, .int .i64 s.T, .int .i64 s.R] (by rfl) (by rfl) (cells_new wo.drew [.int .i64 u, .int .i64 1, .int .i64 0, .int .i64 s.T, .int .i64 s.R] 41) (by simp [Value.oneCell']) (by omega) (by unfold maxLen; omega) (by omega) (by have := k1.size; simp at this ⊢; omega) _ (by rfl) ?_
          intro g cap W4 hown hgrow hat hgl
          have hb4 : Below w5.heap.size w5 W4 := (k1.alloc k1.size _).grown hgrow (by have := k1.size; simp at this ⊢; omega) (fun j hj => (HO.out.lt j hj).1)))
      have HO4 := Lib.hid (show W4.ownsRow w5.heap.size 41 5 (.slice (some ⟨g, 0, none⟩) (M.length + 1) cap) (M ++ [(⟨y, s⟩ : Dot)]).length ((M ++ [(⟨y, s⟩ : Dot)]).flatMap dotC) from by rw [List.flatMap_append, List.length_append]; simpa [HD.out] using hown)
      clear hown hgrow hat hgl k1
      go_wp2
      go_roundw
      case rel => exact ⟨k + 1, by omega, by go_num, M ++ [⟨y, s⟩], by rw [HM.out, HT.out], HO4.out, hb4⟩
      case measure => simp [intOf]; omega
    · have hke : O.take k = O := List.take_of_length_le (by omega)
      have HM2 := Lib.hid (hke ▸ HM.out)
      have hk2 : k = O.length := by omega
      clear hke HM
      subst hk2
      go_wp2_with fail
      refine (live_any La M Aa Av La.length ca M.length cv wo.heap.size wo (Rd.of_own (own_grows HRa5.out hb)) (Rd.of_own HO.out) (Nat.le_refl _) (by omega)).mono ?_
      rintro e w8 ⟨v8, L2, rfl, hO8, hS8, hM8, hb8⟩
      obtain ⟨A8, c8, rfl, _, _⟩ := (Rd.of_own hO8).form
      have hb58 : Below w5.heap.size w5 w8 := hb.trans (hb8.mono hwl)
      have HRa8 := Lib.hid (own_grows HRa5.out hb58)
      have OL8 := Lib.hid (own_grows OL5.out hb58)
      have HM8 := Lib.hid (own_grows HO.out hb8)
      have O8 := Lib.hid hO8
      have HL2 := Lib.hid (drops_want S3.out M3.out M4.out hS8 (by rw [← HM2.out]; exact hM8))
      have HB8 := Lib.hid (HB5.out.trans (hb58.mono hw5))
      have hs58 : w5.heap.size ≤ w8.heap.size := hb58.size
      have HX8 := Lib.hid (fun W' (hW : Below w8.heap.size w8 W') => HX5.out W' (hb58.trans (hW.mono hs58)))
      have lL : L.length ≤ 60 := drops_lenL S3.out ll1 M3.out
      have hw8 : w.heap.size ≤ w8.heap.size := by omega
      obtain ⟨Mm, rfl⟩ : ∃ Mm, Mm = M := ⟨_, rfl⟩
      obtain ⟨Am, rfl⟩ : ∃ Am, Am = Av := ⟨_, rfl⟩
      obtain ⟨cm, rfl⟩ : ∃ cm, cm = cv := ⟨_, rfl⟩
      clear hO8 hS8 hM8 hb8 hb58 HRa5 HRb5 OL5 OO5 HO HB5 HX5 hb hwl hs58 hw5 HE
      go_wp2
      go_loopw [16, 17] (fun out i wr => WantRel L y w8 out i wr) (fun _ i _ => L.length - (intOf i).toNat)
      case atStart => exact ⟨0, Nat.zero_le _, rfl, [], by simp, World.ownsRow_nil _ _ _ _, Below.refl _ _⟩
      case round =>
        obtain ⟨k, hk, rfl, N, hN, hO, hb⟩ := hrel
        obtain ⟨Av, cv, rfl, hLc, hcm2⟩ := (Rd.of_own hO).form
        have HO := Lib.hid hO
        have lN : N.length ≤ 60 := by rw [hN]; refine Nat.le_trans (List.length_filter_le _ _) ?_; rw [List.length_take]; omega
        have HN := Lib.hid hN
        clear hO hN hcm2
        obtain ⟨wo, rfl⟩ : ∃ wo : World, wo = wr := ⟨_, rfl⟩
        have hwl := hb.size
        by_cases hlt : k < L.length
        · obtain ⟨b, o, rfl, hB', hcell⟩ := rd_at idC 3 (fun _ => rfl) (by decide) (Rd.of_own OL8.out) hlt
          have HT := Lib.hid (show L.take (k + 1) = L.take k ++ [L[k]] from List.take_succ_eq_append_getElem hlt)
          obtain ⟨z, hz⟩ : ∃ z, L[k] = z := ⟨_, rfl⟩
          rw [hz] at hcell HT
          have HSt := Lib.hid (fun W' (hW : Below w8.heap.size w8 W') => (show (W'.cell? ⟨bx, 0, none⟩ = some (.int .i64 u) ∧ W'.cell? ⟨bx, 1, none⟩ = some (.int .i64 1) ∧ W'.cell? ⟨bx, 2, none⟩ = some (.int .i64 0)) ∧ W'.cell? ⟨b, o + k * 3, none⟩ = some (.int .i64 z.s.T) ∧ W'.cell? ⟨b, o + k * 3 + 1, none⟩ = some (.int .i64 z.s.R) ∧ W'.cell? ⟨b, o + k * 3 + 2, none⟩ = some (.int .i64 z.I) from
            ⟨HX8.out W' hW, (hW.cell (p := ⟨b, o + k * 3, none⟩) hB').trans (hcell 0 _ rfl), (hW.cell (p := ⟨b, o + k * 3 + 1, none⟩) hB').trans (hcell 1 _ rfl), (hW.cell (p := ⟨b, o + k * 3 + 2, none⟩) hB').trans (hcell 2 _ rfl)⟩))
          have hE : eq3 z.s.T z.s.R z.I u 1 0 = decide (z = y) := by
            have h := HY.out
            unfold idV at h
            have h1 : y.s.T = u := by simp at h; exact h.1
            have h2 : y.s.R = 1 := by simp at h; exact h.2.1
            have h3 : y.I = 0 := by simp at h; exact h.2.2
            have := eq3_iff z y
            rw [h1, h2, h3] at this
            exact this
          have i1 : (0 : Int) ≤ (k : Int) := by omega
          have i2 : (k : Int) < (L.length : Int) := by omega
          have k1 : Below w8.heap.size w8 wo.drew := hb.drew
          have hq := neq26
          have hgd := gd26
          have HOd := Lib.hid (own_drew HO.out)
          clear hcell hz
          by_cases hzy : z = y
          · rw [decide_eq_true hzy] at hE
            have HZ := Lib.hid hzy
            clear hzy
            go_wp2
            go_region_held3 (fun w' => (w'.cell? ⟨bx, 0, none⟩ = some (.int .i64 u) ∧ w'.cell? ⟨bx, 1, none⟩ = some (.int .i64 1) ∧ w'.cell? ⟨bx, 2, none⟩ = some (.int .i64 0)) ∧ w'.cell? ⟨b, o + k * 3, none⟩ = some (.int .i64 z.s.T) ∧ w'.cell? ⟨b, o + k * 3 + 1, none⟩ = some (.int .i64 z.s.R) ∧ w'.cell? ⟨b, o + k * 3 + 2, none⟩ = some (.int .i64 z.I))
              (first | exact HSt.out _ (by assumption) | go_keep) (fail)
            go_wp2
            go_roundw
            case rel => exact ⟨k + 1, by omega, by go_num, N, by rw [HT.out, List.filter_append, ← HN.out]; simp [HZ.out], HOd.out, k1⟩
            case measure => simp [intOf]; omega
          · rw [decide_eq_false hzy] at hE
            have HZ := Lib.hid hzy
            clear hzy
            go_wp2
            go_region_held3 (fun w' => (w'.cell? ⟨bx, 0, none⟩ = some (.int .i64 u) ∧ w'.cell? ⟨bx, 1, none⟩ = some (.int .i64 1) ∧ w'.cell? ⟨bx, 2, none⟩ = some (.int .i64 0)) ∧ w'.cell? ⟨b, o + k * 3, none⟩ = some (.int .i64 z.s.T) ∧ w'.cell? ⟨b, o + k * 3 + 1, none⟩ = some (.int .i64 z.s.R) ∧ w'.cell? ⟨b, o + k * 3 + 2, none⟩ = some (.int .i64 z.I))
              (first | exact HSt.out _ (by assumption) | go_keep) (fail)
            obtain ⟨⟨_, _, _⟩, z0, z1, z2⟩ := HSt.out _ k1
            obtain ⟨wd, hwd⟩ : ∃ wd, wo.drew = wd := ⟨_, rfl⟩
            rw [hwd] at HOd k1 z0 z1 z2 ⊢
            clear hwd HO hb hwl
            go_wp2_with (at_builtin; refine wpList_append_own _ rfl _ _ 29 rfl w8.heap.size 26 j0 _ 3 24 Try.underlying29 gi gz0 gz1 gz2 rfl (by decide) _ _ _ rfl (HOd.out.alloc _) ⟨wd.heap.size, 0, none⟩ 1 1 (idC z) rfl rfl (cells_new wd (idC z) 26) (idC_one z) (by unfold maxLen; omega) (by omega) (by have := k1.size; simp; omega) ?_; intro v' W4 hown hgrow _)
            have hown2 : W4.ownsRow w8.heap.size 26 3 v' (N ++ [z]).length ((N ++ [z]).flatMap idC) := by simpa using hown
            have hb4 : Below w8.heap.size w8 W4 := (k1.alloc k1.size _).grown hgrow (by have := k1.size; simp; omega) (fun j hj => (HOd.out.lt j hj).1)
            have HO4 := Lib.hid hown2
            clear hown hown2 hgrow k1 z0 z1 z2
            go_wp2
            go_roundw
            case rel => exact ⟨k + 1, by omega, by go_num, N ++ [z], by rw [HT.out, List.filter_append, ← HN.out]; simp [HZ.out], HO4.out, hb4⟩
            case measure => simp [intOf]; omega
        · have hke : L.take k = L := List.take_of_length_le (by omega)
          have HN2 := Lib.hid (HL2.out.trans ((hke ▸ HN.out).symm))
          have hk2 : k = L.length := by omega
          clear hke HN
          subst hk2
          have HRa9 := Lib.hid (own_grows HRa8.out hb)
          have HM9 := Lib.hid (own_grows HM8.out hb)
          have O9 := Lib.hid (own_grows O8.out hb)
          have HB9 := Lib.hid (HB8.out.trans (hb.mono hw8))
          have hw9 : w.heap.size ≤ wo.heap.size := by omega
          have HX9 := Lib.hid (fun W' (hW : Below wo.heap.size wo W') => HX8.out W' (hb.trans (hW.mono hwl)))
          obtain ⟨w9, rfl⟩ : ∃ w9, w9 = wo := ⟨_, rfl⟩
          clear HRa8 HM8 OL8 O8 HB8 HX8 hb hwl
          go_wp2_with (first
            | (at_builtin; refine wpList_append_row rfl _ _ 22 rfl w9.heap.size 41 i0 _ 5 40 Try.underlying22 hi hz0 hz1 hz2 rfl (by decide) _ 0 [] rfl (World.ownsRow_nil _ _ _ _) (.slice Aa La.length ca) _ La.length _ rfl HRa9.out (list_one dotC_one La) (by unfold maxLen; omega) (by omega) (Nat.le_refl _) ?_; intro v10 w10 hown10 hgrow10
               have hown10' : w10.ownsRow w9.heap.size 41 5 v10 La.length (La.flatMap dotC) := by simpa using hown10
               obtain ⟨A10, c10, rfl, _, _⟩ := (Rd.of_own hown10').form
               have O10 := Lib.hid hown10'
               have hb10 : Below w9.heap.size w9 w10 := (Below.refl _ w9).grown hgrow10 (Nat.le_refl _) (fun j hj => by cases hj)
               obtain ⟨q0, q1, q2⟩ := HX9.out w10 hb10
               clear hown10 hown10' hgrow10)
            | (at_builtin; refine wpList_append_own _ rfl _ _ 22 rfl w9.heap.size 41 i0 _ 5 40 Try.underlying22 hi hz0 hz1 hz2 rfl (by decide) _ _ _ rfl (O10.out.alloc _) ⟨w10.heap.size, 0, none⟩ 1 1 [.int .i64 u, .int .i64 1, .int .i64 0, .int .i64 99, .int .i64 1] rfl rfl (cells_new w10 [.int .i64 u, .int .i64 1, .int .i64 0, .int .i64 99, .int .i64 1] 41) (by simp [Value.oneCell']) (by unfold maxLen; omega) (by omega) (by have := hb10.size; simp; omega) ?_; intro v11 w11 hown11 hgrow11 _
               have HD : dotC ⟨y, st 99 1⟩ = [.int .i64 u, .int .i64 1, .int .i64 0, .int .i64 99, .int .i64 1] := by
                 have h := HY.out
                 unfold idV at h
                 have h2 : [Value.int .i64 y.s.T, .int .i64 y.s.R, .int .i64 y.I] = [.int .i64 u, .int .i64 1, .int .i64 0] := by simpa using h
                 show [Value.int .i64 y.s.T, .int .i64 y.s.R, .int .i64 y.I] ++ [.int .i64 99, .int .i64 1] = _
                 rw [h2]; rfl
               have hown11' : w11.ownsRow w9.heap.size 41 5 v11 (fresh La y).length ((fresh La y).flatMap dotC) := by unfold fresh; rw [List.flatMap_append, List.length_append]; simpa [HD] using hown11
               have hb11 : Below w9.heap.size w9 w11 := (hb10.alloc hb10.size _).grown hgrow11 (by have := hb10.size; simp; omega) (fun j hj => (O10.out.lt j hj).1)
               obtain ⟨A11, c11, rfl, _, _⟩ := (Rd.of_own hown11').form
               have O11 := Lib.hid hown11'
               clear hown11 hown11' hgrow11 q0 q1 q2 O10 HD))
          have lF : (fresh La y).length ≤ 61 := by unfold fresh; rw [List.length_append]; simp; omega
          have hs11 : w9.heap.size ≤ w11.heap.size := hb11.size
          have HN11 := Lib.hid (own_grows HO.out hb11)
          have HM11 := Lib.hid (own_grows HM9.out hb11)
          have O911 := Lib.hid (own_grows O9.out hb11)
          have HB11 := Lib.hid (HB9.out.trans (hb11.mono hw9))
          have kd : Below w11.heap.size w11 w11.drew := (Below.refl _ w11).drew
          have HX := Lib.hid (fun W' (hW : Below w11.heap.size w11.drew W') => HX9.out W' (hb11.trans ((kd.trans hW).mono hs11)))
          have HS1 := Lib.hid (fun W' (hW : Below w11.heap.size w11.drew W') => sameId_any L2 N A8 Av L2.length c8 N.length cv w11.heap.size W' ((Rd.of_own O911.out).below' (kd.trans hW) (Nat.le_refl _)) ((Rd.of_own HN11.out).below' (kd.trans hW) (Nat.le_refl _)))
          rw [decide_eq_true HN2.out] at HS1
          have HL := Lib.hid (fun W' (hW : Below w11.heap.size w11.drew W') => live_any (fresh La y) Mm A11 Am (fresh La y).length c11 Mm.length cm w11.heap.size W' ((Rd.of_own O11.out).below' (kd.trans hW) (Nat.le_refl _)) ((Rd.of_own HM11.out).below' (kd.trans hW) (Nat.le_refl _)) (kd.trans hW).size (by omega))
          have HF := Lib.hid (fun W' (hW : Below w11.heap.size w11.drew W') => of_any (fresh La y) Mm y A11 Am (fresh La y).length c11 Mm.length cm w11.heap.size W' ((Rd.of_own O11.out).below' (kd.trans hW) (Nat.le_refl _)) ((Rd.of_own HM11.out).below' (kd.trans hW) (Nat.le_refl _)) (kd.trans hW).size (by omega))
          rw [HY.out] at HF
          have KD := Lib.hid kd
          have k1 : Below w11.heap.size w11.drew w11.drew := Below.refl _ _
          generalize hfl : (fresh La y).length = fl at lF HL HF ⊢
          have HFL := Lib.hid hfl
          clear kd hfl hb10 hb11 HRa9 HM9 O9 HX9 HO HB9 hk
          go_wp2
          go_region_held3 (fun w' => w'.cell? ⟨bx, 0, none⟩ = some (.int .i64 u) ∧ w'.cell? ⟨bx, 1, none⟩ = some (.int .i64 1) ∧ w'.cell? ⟨bx, 2, none⟩ = some (.int .i64 0))
            (first | exact HX.out _ (by assumption) | exact HX.out _ (k4.alloc k4.size _) | exact HX.out _ (k5.alloc k5.size _) | go_keep)
            (first
              | (go_at_call 19; refine (HS1.out _ k1).mono ?_; rintro e y2 ⟨rfl, hg2⟩; have k2 := k1.trans (hg2.below.mono k1.size); clear hg2)
              | (go_at_call 20; refine (HL.out _ k2).mono ?_; rintro e y3 ⟨v3, L3, rfl, hO3, hS3, hM3, hb3⟩; have k3 := k2.trans (hb3.mono k2.size); obtain ⟨A3', c3', rfl, _, _⟩ := (Rd.of_own hO3).form
                 have hs := hasId_any L3 y A3' L3.length c3' y3.heap.size y3 (Rd.of_own hO3) (Nat.le_refl _)
                 rw [HY.out, decide_eq_true (drops_fresh (y := y) T1.out T2.out M4.out (by rw [← HM2.out]; exact hM3))] at hs
                 have HS3 := Lib.hid hs
                 clear hO3 hS3 hM3 hb3 hs)
              | (go_at_call 27; refine HS3.out.mono ?_; rintro e y4 ⟨rfl, hg4⟩; have k4 := k3.trans (hg4.below.mono k3.size); clear hg4)
              | (go_at_call 23; refine (HF.out _ k4).mono ?_; rintro e y5 ⟨v5, O2, rfl, hO5, hS5, hM5, hb5⟩; have k5 := k4.trans (hb5.mono k4.size)
                 obtain rfl : O2 = [st 99 1] := drops_one (y := y) T1.out T2.out M4.out hS5 (by rw [← HM2.out]; exact hM5)
                 obtain ⟨A5, c5, rfl, _, _⟩ := (Rd.of_own hO5).form
                 have O5 := Lib.hid hO5
                 clear hO5 hS5 hM5 hb5)
              | (go_at_call 23; refine (HF.out _ (k4.alloc k4.size _)).mono ?_; rintro e y5 ⟨v5, O2, rfl, hO5, hS5, hM5, hb5⟩; have k5 := (k4.alloc k4.size _).trans (hb5.mono (k4.alloc k4.size _).size)
                 obtain rfl : O2 = [st 99 1] := drops_one (y := y) T1.out T2.out M4.out hS5 (by rw [← HM2.out]; exact hM5)
                 obtain ⟨A5, c5, rfl, _, _⟩ := (Rd.of_own hO5).form
                 have O5 := Lib.hid hO5
                 have hblk := (hb5.block y4.heap.size (by simp)).trans (heap_alloc_new y4 (.cells #[.int .i64 99, .int .i64 1] 24))
                 clear hO5 hS5 hM5 hb5)
              | (go_at_call 22
                 have hs := sameSt_any [st 99 1] [st 99 1] A5 (some ⟨y4.heap.size, 0, none⟩) 1 c5 1 1 y5.heap.size y5 (Rd.of_own O5.out) (rd_new (n := 1) (K := 2) (xs := [st 99 1].flatMap stC) hblk rfl (by unfold maxLen; omega))
                 rw [decide_eq_true rfl] at hs
                 refine hs.mono ?_
                 rintro e y6 ⟨rfl, hg6⟩
                 have k6 := k5.trans (hg6.below.mono k5.size)
                 clear hs hg6)
              | (go_at_call 22
                 have hga : Grows y5 (y5.alloc (.cells #[.int .i64 99, .int .i64 1] 24)) := (Grows.refl _).alloc _
                 have hs := sameSt_any [st 99 1] [st 99 1] A5 (some ⟨y5.heap.size, 0, none⟩) 1 c5 1 1 (y5.alloc (.cells #[.int .i64 99, .int .i64 1] 24)).heap.size (y5.alloc (.cells #[.int .i64 99, .int .i64 1] 24)) (((Rd.of_own O5.out).below' hga.below (Nat.le_refl _)).more hga.below.size) (rd_new (n := 1) (K := 2) (xs := [st 99 1].flatMap stC) (heap_alloc_new y5 _) rfl (by unfold maxLen; omega))
                 rw [decide_eq_true rfl] at hs
                 refine hs.mono ?_
                 rintro e y6 ⟨rfl, hg6⟩
                 have k6 := k5.trans ((hga.trans hg6).below.mono k5.size)
                 clear hs hg6 hga))
          all_goals
            have HE2 := Lib.hid (HB11.out.trans ((KD.out.trans k6).mono (Nat.le_trans hw9 hs11)))
            clear k1 k2 k3 k4 k5 k6
            go_wp2
            go_ret
            exact ⟨rfl, HE2.out⟩
end Go.Proofs.Ytejafcdlkpmemaa
