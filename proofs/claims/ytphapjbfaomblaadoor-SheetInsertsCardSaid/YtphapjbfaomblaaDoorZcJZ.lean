/- The law SheetReturns, walked. -/
import Derived.Test.YtphapjbfaomblaaDoorZb25
import Derived.Test.YtphapjbfaomblaaDoorZb27
namespace Go.Proofs.YtphapjbfaomblaaDoor
open Go Go.RowKit Go.Maps Go.ChangeMaps
def ReRel (w1 : World) (p : Loc) (F : List El) (O : List Nd) (on : Stamp → Int) (ids i : Value) (wr : World) : Prop :=
  ∃ (k : Nat) (xs : List Id), k ≤ 20 ∧ i = .int .i64 k ∧ xs.length ≤ k ∧ (∀ x ∈ xs, x ∈ F.map El.id) ∧ ShR w1 p (75 + 3 * k) F O on (cg xs) w1.heap.size ids xs wr
/-- a found id in a variable of its own -/
def AtR (wo : World) (fx : Id) (fe : Int) (a e : Value) (wx : World) : Prop := ∃ bX, a = .pointer (some ⟨bX, 0, none⟩) ∧ e = .int .i64 fe ∧ wo.heap.size ≤ bX ∧ Box wx bX fx ∧ Below wo.heap.size wo wx
theorem atR_a {wo w12 : World} {fx : Id} {fe : Int} (h : w12.heap[wo.heap.size]? = some (.cells #[.int .i64 0, .int .i64 0, .int .i64 0] 26 (0, 0))) (k2 : Below wo.heap.size wo w12) :
    AtR wo fx fe (.pointer (some ⟨wo.heap.size, 0, none⟩)) (.int .i64 fe) (((w12.setCell ⟨wo.heap.size, 0, none⟩ (.int .i64 fx.s.T)).setCell ⟨wo.heap.size, 1, none⟩ (.int .i64 fx.s.R)).setCell ⟨wo.heap.size, 2, none⟩ (.int .i64 fx.I)) :=
  ⟨_, rfl, rfl, Nat.le_refl _, set3_heap h, k2.trans ((touch_box3 _ _ _ _ _).below k2.size (fun x hx e => absurd (show x = wo.heap.size from e) (Nat.ne_of_lt hx)))⟩
theorem atR_b {wo w12 : World} {fx : Id} {fe : Int} (k2 : Below wo.heap.size wo w12) :
    AtR wo fx fe (.pointer (some ⟨w12.heap.size, 0, none⟩)) (.int .i64 fe) (w12.alloc (.cells #[.int .i64 fx.s.T, .int .i64 fx.s.R, .int .i64 fx.I] 26)) :=
  ⟨_, rfl, rfl, k2.size, heap_alloc_new w12 _, k2.alloc k2.size _⟩
def RowsK (w1 wo : World) (ids : Value) (xs : List Id) (runs : Value) (L : List Pick) (N : Nat) (W : World) : Prop :=
  W.ownsRow w1.heap.size 26 3 ids xs.length (xs.flatMap idC) ∧ W.ownsRow wo.heap.size 28 7 runs N ((runsAt L N).flatMap rnC)
def Re2 (w1 wo : World) (P : Nat → Prop) (p : Loc) (F : List El) (O : List Nd) (ids : Value) (xs : List Id) (runs : Value) (L : List Pick) (N : Nat) (i : Value) (wr : World) : Prop :=
  ∃ k : Nat, k ≤ N ∧ i = .int .i64 k ∧ Sht w1 P p (135 + k) F O (onB L N k) (cg xs) wr ∧ RowsK w1 wo ids xs runs L N wr
def Re3 (w1 wo : World) (P : Nat → Prop) (p : Loc) (F : List El) (O : List Nd) (ids : Value) (xs : List Id) (runs : Value) (L : List Pick) (N : Nat) (i : Value) (wr : World) : Prop :=
  ∃ k : Nat, k ≤ xs.length ∧ i = .int .i64 k ∧ Sht w1 P p (150 + k) F O (fun _ => 0) (cgB xs k) wr ∧ RowsK w1 wo ids xs runs L N wr
def Re4 (w1 wo : World) (P : Nat → Prop) (p : Loc) (F : List El) (O : List Nd) (ids : Value) (xs : List Id) (runs : Value) (L : List Pick) (N : Nat) (i : Value) (wr : World) : Prop :=
  ∃ k : Nat, k ≤ N ∧ i = .int .i64 k ∧ Sht w1 P p (170 + k) F O (onAt L k) (fun _ => 0) wr ∧ RowsK w1 wo ids xs runs L N wr
theorem RowsK.tch {w1 wo : World} {ids : Value} {xs : List Id} {runs : Value} {L : List Pick} {N : Nat} {W W' : World} {P : Nat → Prop} (h : RowsK w1 wo ids xs runs L N W) (h1 : ∀ g, ids.ownBlock = some g → P g) (h2 : ∀ g, runs.ownBlock = some g → P g) (t : Tch w1 P W W') : RowsK w1 wo ids xs runs L N W' :=
  ⟨own_touch h.1 t (fun g hg hs => hs.2 (h1 g hg)), own_touch h.2 t (fun g hg hs => hs.2 (h2 g hg))⟩
theorem RowsK.below {w1 wo : World} {ids : Value} {xs : List Id} {runs : Value} {L : List Pick} {N : Nat} {W W' : World} (h : RowsK w1 wo ids xs runs L N W) (hb : Below W.heap.size W W') : RowsK w1 wo ids xs runs L N W' :=
  ⟨own_grows h.1 hb, own_grows h.2 hb⟩
theorem zbox (wo w12 : World) (h : Below (wo.alloc (.cells #[.int .i64 0, .int .i64 0, .int .i64 0] 26)).drew.heap.size (wo.alloc (.cells #[.int .i64 0, .int .i64 0, .int .i64 0] 26)).drew w12) :
    w12.cell? ⟨wo.heap.size, 0, none⟩ = some (.int .i64 0) ∧ w12.cell? ⟨wo.heap.size, 1, none⟩ = some (.int .i64 0) ∧ w12.cell? ⟨wo.heap.size, 2, none⟩ = some (.int .i64 0) ∧ (∀ i, w12.frozen? ⟨wo.heap.size, i, none⟩ = false) ∧
      w12.heap[wo.heap.size]? = some (.cells #[.int .i64 0, .int .i64 0, .int .i64 0] 26 (0, 0)) := by
  have h1 : w12.heap[wo.heap.size]? = some (.cells #[.int .i64 0, .int .i64 0, .int .i64 0] 26 (0, 0)) := (h.block wo.heap.size (show wo.heap.size < (wo.alloc _).heap.size by simp)).trans (heap_alloc_new wo _)
  exact ⟨cell_of_row _ _ 0 _ _ _ h1, cell_of_row _ _ 1 _ _ _ h1, cell_of_row _ _ 2 _ _ _ h1, fun i => by simp [World.frozen?, h1], h1⟩
set_option maxRecDepth 100000 in
set_option maxHeartbeats 8000000 in
theorem returns_walk (L : List Pick) (T : List Nat) (tw : Bool) (A A1 : Option Addr) (n c n1 c1' : Nat) (w : World) (hR : Rd w w.heap.size 3 (.slice A n c) n (L.flatMap pickC)) (hA : Rd w w.heap.size 1 (.slice A1 n1 c1') n1 (T.flatMap ubC)) (h256 : ∀ x ∈ T, x < 256) (hT : Tabs w) :
    Calls Tryd.prog 9 #[.slice A n c, .slice A1 n1 c1', .bool tw] w fun e w' => e = .returned (.bool true) ∧ Below w.heap.size w w' := by
  have hal := len_of pickC 3 (fun _ => rfl) (by decide) hR.1
  subst hal
  have hal1 := len_of ubC 1 (fun _ => rfl) (by decide) hA.1
  subst hal1
  have hlm := hA.len
  unfold maxLen at hlm
  have HR := Lib.hid (fun W (hW : Below w.heap.size w W) => hR.below' hW (Nat.le_refl _))
  have HA := Lib.hid (fun W (hW : Below w.heap.size w W) => hA.below' hW (Nat.le_refl _))
  have HT := Lib.hid (fun W (hW : Below w.heap.size w W) => hT.below hW)
  have H256 := Lib.hid h256
  clear hR hA hT h256
  go_enter Tryd.func9, Tryd.ntmps9
  go_wp2_with fail
  refine (lawake_any w (HT.out w (Below.refl _ w))).mono ?_
  rintro e w1 ⟨rfl, hb1⟩
  have HB1 := Lib.hid hb1
  clear hb1
  go_wp2_with fail
  refine (made_any L A _ c w.heap.size w1 (HR.out w1 HB1.out) HB1.out.size (HT.out w1 HB1.out)).mono ?_
  rintro e w2 ⟨p, rfl, O, hS⟩
  obtain ⟨N, hN⟩ : ∃ N, min L.length 15 = N := ⟨_, rfl⟩
  have hN15 : N ≤ 15 := by omega
  rw [hN] at hS ⊢
  have HN := Lib.hid hN
  have hF1 := Lib.hid (flatAt_pc L N)
  have HTX := Lib.hid (hS.text (by omega) (by have := hS.txt hF1.out; omega))
  obtain ⟨F, hF⟩ : ∃ F, flatAt L N = F := ⟨_, rfl⟩
  obtain ⟨on, hon⟩ : ∃ on, onAt L N = on := ⟨_, rfl⟩
  rw [hF] at hS hF1
  rw [hon] at hS HTX
  obtain ⟨tx, htx⟩ : ∃ tx, ofL (txt (seenO O on (fun _ => 0))) = tx := ⟨_, rfl⟩
  rw [htx] at HTX
  have HS := Lib.hid hS
  have HTE := Lib.hid htx
  have HON := Lib.hid hon
  clear hN hF hon htx hS
  go_wp2_with fail
  refine HTX.out.mono ?_
  rintro e w3 ⟨rfl, hb3⟩
  have HR0 := Lib.hid (show ReRel w1 p F O on (.slice none 0 0) (.int .i64 0) w3 from ⟨0, [], by omega, rfl, by simp, by simp, (HS.out.go (Below.touch hb3 _) (fun k hk => by cases hk)).more (by omega), World.ownsRow_nil _ _ _ _⟩)
  clear hb3 HS HTX
  go_wp2
  go_loopw [11, 12] (fun ids i wr => ReRel w1 p F O on ids i wr) (fun _ i _ => 20 - (intOf i).toNat)
  case atStart => exact HR0.out
  case round =>
    clear HR0
    obtain ⟨k, xs, hk, rfl, hxl, hxF, hS, hO⟩ := hrel
    obtain ⟨Ai, ci, rfl, _, _⟩ := (Rd.of_own hO).form
    obtain ⟨wo, rfl⟩ : ∃ wo : World, wo = wr := ⟨_, rfl⟩
    have hb : Below w1.heap.size w1 wo := hS.out
    have hwb := HB1.out.trans (hb.mono HB1.out.size)
    by_cases hgo : k < T.length ∧ k < 20
    · obtain ⟨hlt, h20⟩ := hgo
      · obtain ⟨b, o, rfl, hBb, hcell⟩ := rd_at ubC 1 (fun _ => rfl) (by decide) (HA.out wo hwb) hlt
        have d0 : wo.cell? ⟨b, o + k, none⟩ = some (.int .u8 T[k]) := by simpa using hcell 0 _ rfl
        have hx256 := H256.out T[k] (List.getElem_mem hlt)
        obtain ⟨a, ha⟩ : ∃ a, T[k] = a := ⟨_, rfl⟩
        rw [ha] at d0 hx256
        have hctl : cntR (rowV O on (cg xs)) ≤ 200 := by
          rw [cnt_row]
          have := seen_le O on (cg xs)
          have := hS.olen
          omega
        obtain ⟨R, hRv⟩ : ∃ R, rowV O on (cg xs) = R := ⟨_, rfl⟩
        have hlen := fun W (hW : Below wo.heap.size wo W) => (hS.below hW).len
        have hat := fun W (hW : Below wo.heap.size wo W) => (hS.below hW).at (by omega)
        have hmem := fun q (hq : (findV (rowV O on (cg xs)) q).2 = 0) => hS.mem (find_mem hq)
        rw [hRv] at hctl hlen hat hmem
        obtain ⟨ct, hct⟩ : ∃ ct, cntR R = ct := ⟨_, rfl⟩
        rw [hct] at hctl hlen
        obtain ⟨q, hq⟩ : ∃ q, a % (ct + 1) = q := ⟨_, rfl⟩
        have hql : q < 256 := by rw [← hq]; exact Nat.lt_of_le_of_lt (Nat.mod_le _ _) hx256
        have m1 : Int.tmod (a : Int) ((ct : Int) + 1) = (q : Int) := by rw [Int.tmod_eq_emod_of_nonneg (by omega), ← hq]; rfl
        have w1' : IntKind.i64.wrap (a : Int) = a := IntWalk.i64_in _ (by omega)
        have w2' : IntKind.i64.wrap (q : Int) = q := IntWalk.i64_in _ (by omega)
        obtain ⟨⟨fx, fe⟩, hfv⟩ : ∃ r, findV R (q : Int) = r := ⟨_, rfl⟩
        have hmem := hmem (q : Int)
        rw [hfv] at hmem
        dsimp only at hmem
        have HMEM := Lib.hid hmem
        have HLEN := Lib.hid hlen
        have HAT := Lib.hid (fun W (hW : Below wo.heap.size wo W) => (show Calls Tryd.prog 34 #[.pointer (some ⟨p.sh, 0, none⟩), .int .i64 q] W fun r w' => r = .returned (.tuple #[.agg #[.int .i64 fx.s.T, .int .i64 fx.s.R, .int .i64 fx.I], .int .i64 fe]) ∧ Below W.heap.size W w' from by have := hat W hW (q : Int); rw [hfv] at this; exact this))
        have hbl : b < wo.heap.size := Nat.lt_of_lt_of_le hBb hwb.size
        have HC := Lib.hid (fun W (hW : Below wo.heap.size wo W) => (show W.cell? ⟨b, o + k, none⟩ = some (.int .u8 a) from (hW.cell (p := ⟨b, o + k, none⟩) hbl).trans d0))
        have HS := Lib.hid hS
        have HO := Lib.hid hO
        have hwr : IntKind.i64.wrap ((ct : Int) + 1) = (ct : Int) + 1 := IntWalk.i64_in _ (by omega)
        have hne : ¬ (ct : Int) + 1 = 0 := by omega
        have i1 : (0 : Int) ≤ (k : Int) := by omega
        have i2 : (k : Int) < (T.length : Int) := by omega
        have i3 : (k : Int) < 20 := by omega
        have k1 : Below wo.heap.size wo wo.drew := (Below.refl _ wo).drew
        have kz : Below wo.heap.size wo (wo.alloc (.cells #[.int .i64 0, .int .i64 0, .int .i64 0] 26)).drew := ((Below.refl _ wo).alloc (Nat.le_refl _) _).drew
        clear hcell ha hRv hlen hat hmem hct hfv hS hO hb hwb d0 hq
        go_wp2
        go_upto_region 12 with (fail)
        go_cut [13, 14] from 45 to 58 (fun xa xb wx => AtR wo fx fe xa xb wx)
        case first =>
         go_region_held3 (fun W => W.cell? ⟨b, o + k, none⟩ = some (.int .u8 a))
           (first | exact HC.out _ (by assumption) | exact HC.out _ (k2.alloc k2.size _) | exact HC.out _ (k2.trans ((touch_box3 _ _ _ _ _).below k2.size (fun x hx e => absurd (show x = wo.heap.size from e) (Nat.ne_of_lt hx)))) | go_keep)
           (first
            | (go_at_call 31; refine (HLEN.out _ (by first | exact k1 | exact kz)).mono ?_; rintro e w11 ⟨rfl, rfl⟩)
            | (go_at_call 34; refine (HAT.out _ (by first | exact k1 | exact kz)).mono ?_; rintro e w12 ⟨rfl, hb12⟩; first | (have k2 := k1.trans (hb12.mono k1.size)) | (have k2 := kz.trans (hb12.mono kz.size); have hz12 := zbox wo w12 hb12; have z0 := hz12.1; have z1 := hz12.2.1; have z2 := hz12.2.2.1; have zf := hz12.2.2.2.1)))
         all_goals (go_wp2_with fail; go_meet)
         all_goals first
           | exact atR_a hz12.2.2.2.2 k2
           | exact atR_b k2
        case rest =>
          obtain ⟨bX, rfl, rfl, hbX, hBx, hbc⟩ := hcut
          have HX := Lib.hid ((show ShR w1 p (75 + 3 * k) F O on (cg xs) w1.heap.size (.slice Ai xs.length ci) xs wo from ⟨HS.out, HO.out⟩).box hbc hbX hBx)
          clear hbX hBx hbc HS HO
          by_cases he : fe = 0
          · have hxm := HMEM.out he
            subst he
            have HXM := Lib.hid hxm
            obtain ⟨x0, x1, x2⟩ := HX.out.2.2.1.cells3
            obtain ⟨i0, hi, hz0, hz1, hz2⟩ := info_parts info26
            clear hxm
            go_wp2_with (at_builtin; refine wpList_append_own_at _ rfl _ _ 31 rfl w1.heap.size 26 i0 _ 3 24 Tryd.underlying31 hi hz0 hz1 hz2 rfl (by decide) _ xs.length (xs.flatMap idC) rfl (HX.out.2.1.alloc (.cells (idC fx).toArray 26)) ⟨wc.heap.size, 0, none⟩ 1 1 (idC fx) rfl rfl ?qc (enc_one_insId fx) ?q2 ?q3 ?q4 ?_)
            case qc => exact fun j u h => h
            case q2 => unfold maxLen; omega
            case q3 => omega
            case q4 => have := HX.out.1.out.size; simp; omega
            intro v1 W4 hown hgrow _ hat
            have HX4 := Lib.hid (HX.out.push (Nat.le_refl _) hown hgrow hat)
            obtain ⟨g4, cap4, R4, rfl, _⟩ := own_parts hown (Nat.succ_pos _)
            have hl4 : (xs ++ [fx]).length = xs.length + 1 := by simp
            have HL4 := Lib.hid hl4
            have hxF2 : ∀ x ∈ xs ++ [fx], x ∈ F.map El.id := fun x hx => (List.mem_append.1 hx).elim (hxF x) (fun h => by rw [List.mem_singleton.1 h]; exact HXM.out)
            have HXF2 := Lib.hid hxF2
            clear hown hgrow hat x0 x1 x2 HX hl4 hxF hxF2
            obtain ⟨x0, x1, x2⟩ := HX4.out.2.2.1.cells3
            have ht := HX4.out.take HXM.out true (by omega)
            unfold idV at ht
            rw [if_pos rfl] at ht
            have HTK := Lib.hid ht
            clear ht
            go_wp2_with fail
            refine HTK.out.mono ?_
            rintro e w5 ⟨⟨u5, rfl⟩, hX5⟩
            have HX5 := Lib.hid hX5
            clear hX5 x0 x1 x2 HTK HX4
            cases tw
            · have HREL := Lib.hid (show ReRel w1 p F O on (.slice (some ⟨g4, 0, none⟩) (xs.length + 1) cap4) (.int .i64 ((k : Int) + 1)) w5 from ⟨k + 1, xs ++ [fx], by omega, rfl, by rw [HL4.out]; omega, HXF2.out, by
                have h := HX5.out.drop
                rw [cg_snoc] at h
                exact ⟨h.1.more (by omega), h.2⟩⟩)
              clear HX5
              go_wp2
              go_roundw
              case rel => exact HREL.out
              case measure => simp [intOf]; omega
            · obtain ⟨x0, x1, x2⟩ := HX5.out.2.2.1.cells3
              have ht := HX5.out.take HXM.out true (by omega)
              unfold idV at ht
              rw [if_pos rfl] at ht
              have HTK := Lib.hid ht
              clear ht
              go_wp2_with fail
              refine HTK.out.mono ?_
              rintro e w6 ⟨⟨u6, rfl⟩, hX6⟩
              have HX6 := Lib.hid hX6
              clear hX6 x0 x1 x2 HTK HX5
              obtain ⟨x0, x1, x2⟩ := HX6.out.2.2.1.cells3
              have ht := HX6.out.take HXM.out false (by omega)
              unfold idV at ht
              rw [if_neg (by decide)] at ht
              have HTK := Lib.hid ht
              clear ht
              go_wp2_with fail
              refine HTK.out.mono ?_
              rintro e w7 ⟨⟨u7, rfl⟩, hX7⟩
              have HREL := Lib.hid (show ReRel w1 p F O on (.slice (some ⟨g4, 0, none⟩) (xs.length + 1) cap4) (.int .i64 ((k : Int) + 1)) w7 from ⟨k + 1, xs ++ [fx], by omega, rfl, by rw [HL4.out]; omega, HXF2.out, by
                have h := hX7.drop
                rw [gnT_twice, cg_snoc] at h
                exact ⟨h.1.more (by omega), h.2⟩⟩)
              clear hX7 x0 x1 x2 HTK HX6
              go_wp2
              go_roundw
              case rel => exact HREL.out
              case measure => simp [intOf]; omega
          · have hfe : (fe != 0) = true := by rw [bne_iff_ne]; exact he
            have HREL := Lib.hid (show ReRel w1 p F O on (.slice Ai xs.length ci) (.int .i64 ((k : Int) + 1)) wc from ⟨k + 1, xs, by omega, rfl, by omega, hxF, by
              have h := HX.out.drop
              exact ⟨h.1.more (by omega), h.2⟩⟩)
            clear HX hxF
            go_wp2
            go_roundw
            case rel => exact HREL.out
            case measure => simp [intOf]; omega
    · have hgx : ¬ (k : Int) < (T.length : Int) ∨ ((k : Int) < (T.length : Int) ∧ ¬ (k : Int) < 20) := by omega
      have hxl20 : xs.length ≤ 20 := by omega
      have HG := Lib.hid (grown_any L A _ c w.heap.size wo (HR.out wo hwb) hwb.size)
      have i0' : (0 : Int) ≤ (k : Int) := by omega
      have HS := Lib.hid (hS.more (show 75 + 3 * k ≤ 135 by omega))
      have HO := Lib.hid hO
      have HXF := Lib.hid hxF
      clear hS hO hb hwb hgo hxF
      rcases hgx with i2 | ⟨i2, i3⟩
      all_goals (
        go_wp2_with fail
        refine HG.out.mono ?_
        rintro e w4 ⟨v, rfl, hown, hb4⟩
        rw [HN.out] at hown
        obtain ⟨A2, c2, rfl, hnc, hcm⟩ := (Rd.of_own hown).form
        unfold maxLen at hcm
        obtain ⟨P, hP⟩ : ∃ P : Nat → Prop, P = fun g => (Value.slice Ai xs.length ci).ownBlock = some g ∨ (wo.heap.size ≤ g ∧ g < w4.heap.size) := ⟨_, rfl⟩
        have HP1 := Lib.hid (show ∀ g, (Value.slice Ai xs.length ci).ownBlock = some g → P g from fun g hg => by rw [hP]; exact .inl hg)
        have HP2 := Lib.hid (show ∀ g, (Value.slice A2 N c2).ownBlock = some g → P g from fun g hg => by rw [hP]; exact .inr (hown.lt g hg))
        have HK4 := Lib.hid (show RowsK w1 wo (.slice Ai xs.length ci) xs (.slice A2 N c2) L N w4 from ⟨own_grows HO.out hb4, hown⟩)
        have HS4 := Lib.hid (show Sht w1 P p 135 F O (onB L N 0) (cg xs) w4 from by
          rw [onB_zero, HON.out]
          exact HS.out.go (Below.touch hb4 _) (fun k hk => by rw [hP] at hk; exact hk))
        clear hown hb4 hP HS HO HG
        go_wp2
        go_loopw [16] (fun i wr => Re2 w1 wo P p F O (.slice Ai xs.length ci) xs (.slice A2 N c2) L N i wr) (fun i _ => N - (intOf i).toNat)
        case atStart => exact ⟨0, Nat.zero_le _, rfl, HS4.out, HK4.out⟩
        case round =>
          clear HS4 HK4
          obtain ⟨m, hm, rfl, hS, hK⟩ := hrel
          obtain ⟨wq, rfl⟩ : ∃ wq : World, wq = wr := ⟨_, rfl⟩
          by_cases hlm : m < N
          · obtain ⟨gr, og, rfl, hBr, hcell⟩ := rd_at rnC 7 (fun _ => rfl) (by decide) (Rd.of_own hK.2) (show m < (runsAt L N).length by rw [runsAt_len]; exact hlm)
            rw [runsAt_get] at hcell
            have d3 : wq.cell? ⟨gr, og + m * 7 + 3, none⟩ = some (.int .i64 (gS m (L.getD m zeroP)).T) := hcell 3 _ rfl
            have d4 : wq.cell? ⟨gr, og + m * 7 + 3 + 1, none⟩ = some (.int .i64 (gS m (L.getD m zeroP)).R) := hcell 4 _ rfl
            have hnx := onB_next L N m
            obtain ⟨s, hs⟩ : ∃ s, gS m (L.getD m zeroP) = s := ⟨_, rfl⟩
            rw [hs] at d3 d4 hnx
            have hset := hS.set s false (by omega)
            unfold stV at hset
            rw [if_neg (by decide), hnx] at hset
            have HSET := Lib.hid hset
            have HK := Lib.hid hK
            have i4 : (0 : Int) ≤ (m : Int) := by omega
            have i5 : (m : Int) < (N : Int) := by omega
            clear hcell hnx hs hset hK hS
            go_wp2_with fail
            refine HSET.out.mono ?_
            rintro e w6 ⟨⟨_, rfl⟩, hS6, ht6⟩
            have HREL := Lib.hid (show Re2 w1 wo P p F O (.slice Ai xs.length ci) xs (.slice (some ⟨gr, og, none⟩) N c2) L N (.int .i64 ((m : Int) + 1)) w6 from ⟨m + 1, hlm, rfl, hS6, HK.out.tch HP1.out HP2.out ht6⟩)
            clear hS6 ht6 d3 d4 HSET HK
            go_wp2
            go_roundw
            case rel => exact HREL.out
            case measure => simp [intOf]; omega
          · obtain rfl : m = N := by omega
            rw [onB_all] at hS
            have hcnt : cntR (rowV O (fun _ => 0) (cg xs)) = 0 := by rw [cnt_row, seen_none]; rfl
            have hlen := hS.len
            rw [hcnt] at hlen
            have HLEN := Lib.hid (show Calls Tryd.prog 31 #[.pointer (some ⟨p.sh, 0, none⟩)] wq (fun r w' => r = .returned (.int .i64 0) ∧ w' = wq) from hlen)
            have htxt := hS.text (by omega) (by rw [seen_none]; decide)
            rw [seen_none] at htxt
            have HTXT := Lib.hid (show Calls Tryd.prog 29 #[.pointer (some ⟨p.sh, 0, none⟩)] wq (fun r w' => r = .returned (.string ⟨#[]⟩) ∧ Below wq.heap.size wq w') from htxt)
            have HS := Lib.hid (hS.more (show 135 + m ≤ 150 by omega))
            have HK := Lib.hid hK
            clear hcnt hlen htxt hS hK
            go_wp2_with (first
              | (go_at_call 31; refine HLEN.out.mono ?_; rintro e w11 ⟨rfl, rfl⟩)
              | (go_at_call 29; refine HTXT.out.mono ?_; rintro e w12 ⟨rfl, hb12⟩))
            have HS5 := Lib.hid (show Sht w1 P p 150 F O (fun _ => 0) (cgB xs 0) w12 from by rw [cgB_zero]; exact HS.out.below hb12)
            have HK5 := Lib.hid (HK.out.below hb12)
            clear hb12 HS HK HLEN HTXT
            go_loopw [17] (fun i wr => Re3 w1 wo P p F O (.slice Ai xs.length ci) xs (.slice A2 m c2) L m i wr) (fun i _ => xs.length - (intOf i).toNat)
            case atStart => exact ⟨0, Nat.zero_le _, rfl, HS5.out, HK5.out⟩
            case round =>
              clear HS5 HK5
              obtain ⟨j, hj, rfl, hS, hK⟩ := hrel
              obtain ⟨wp, rfl⟩ : ∃ wp : World, wp = wr := ⟨_, rfl⟩
              by_cases hjl : j < xs.length
              · obtain ⟨gi, oi, rfl, hBi, hcell⟩ := rd_at idC 3 (fun _ => rfl) (by decide) (Rd.of_own hK.1) hjl
                have hnx := cgB_next xs hjl
                have hxm := HXF.out xs[j] (List.getElem_mem hjl)
                obtain ⟨x, hx⟩ : ∃ x, xs[j] = x := ⟨_, rfl⟩
                rw [hx] at hcell hnx hxm
                have d0 : wp.cell? ⟨gi, oi + j * 3, none⟩ = some (.int .i64 x.s.T) := hcell 0 _ rfl
                have d1 : wp.cell? ⟨gi, oi + j * 3 + 1, none⟩ = some (.int .i64 x.s.R) := hcell 1 _ rfl
                have d2 : wp.cell? ⟨gi, oi + j * 3 + 2, none⟩ = some (.int .i64 x.I) := hcell 2 _ rfl
                have htk := hS.take x false (by omega)
                rw [if_pos hxm, if_pos hxm, if_neg (by decide), hnx] at htk
                unfold idV at htk
                have HTK := Lib.hid htk
                have HK := Lib.hid hK
                have i4 : (0 : Int) ≤ (j : Int) := by omega
                have i5 : (j : Int) < (xs.length : Int) := by omega
                clear hcell hnx hxm hx htk hK hS
                go_wp2_with fail
                refine HTK.out.mono ?_
                rintro e w6 ⟨rfl, hS6, ht6⟩
                have HREL := Lib.hid (show Re3 w1 wo P p F O (.slice (some ⟨gi, oi, none⟩) xs.length ci) xs (.slice A2 m c2) L m (.int .i64 ((j : Int) + 1)) w6 from ⟨j + 1, hjl, rfl, hS6, HK.out.tch HP1.out HP2.out ht6⟩)
                clear hS6 ht6 d0 d1 d2 HTK HK
                go_wp2
                go_roundw
                case rel => exact HREL.out
                case measure => simp [intOf]; omega
              · obtain rfl : j = xs.length := by omega
                rw [cgB_all] at hS
                have HS6 := Lib.hid (show Sht w1 P p 170 F O (onAt L 0) (fun _ => 0) wp from hS.more (by omega))
                have HK6 := Lib.hid hK
                clear hS hK
                go_wp2
                go_loopw [18] (fun i wr => Re4 w1 wo P p F O (.slice Ai xs.length ci) xs (.slice A2 m c2) L m i wr) (fun i _ => m - (intOf i).toNat)
                case atStart => exact ⟨0, Nat.zero_le _, rfl, HS6.out, HK6.out⟩
                case round =>
                  clear HS6 HK6
                  obtain ⟨l, hl, rfl, hS, hK⟩ := hrel
                  obtain ⟨wz, rfl⟩ : ∃ wz : World, wz = wr := ⟨_, rfl⟩
                  by_cases hlm2 : l < m
                  · obtain ⟨gr, og, rfl, hBr, hcell⟩ := rd_at rnC 7 (fun _ => rfl) (by decide) (Rd.of_own hK.2) (show l < (runsAt L m).length by rw [runsAt_len]; exact hlm2)
                    rw [runsAt_get] at hcell
                    have d3 : wz.cell? ⟨gr, og + l * 7 + 3, none⟩ = some (.int .i64 (gS l (L.getD l zeroP)).T) := hcell 3 _ rfl
                    have d4 : wz.cell? ⟨gr, og + l * 7 + 3 + 1, none⟩ = some (.int .i64 (gS l (L.getD l zeroP)).R) := hcell 4 _ rfl
                    have hset := hS.set (gS l (L.getD l zeroP)) true (by omega)
                    rw [if_pos rfl] at hset
                    have hset : Calls Tryd.prog 25 #[.pointer (some ⟨p.sh, 0, none⟩), stV (gS l (L.getD l zeroP)), .bool true] wz fun r w' => (∃ v, r = .returned v) ∧ Sht w1 P p (170 + l + 1) F O (onAt L (l + 1)) (fun _ => 0) w' ∧ Tch w1 P wz w' := hset
                    obtain ⟨s, hs⟩ : ∃ s, gS l (L.getD l zeroP) = s := ⟨_, rfl⟩
                    rw [hs] at d3 d4 hset
                    unfold stV at hset
                    have HSET := Lib.hid hset
                    have HK := Lib.hid hK
                    have i4 : (0 : Int) ≤ (l : Int) := by omega
                    have i5 : (l : Int) < (m : Int) := by omega
                    clear hcell hs hset hK hS
                    go_wp2_with fail
                    refine HSET.out.mono ?_
                    rintro e w6 ⟨⟨_, rfl⟩, hS6, ht6⟩
                    have HREL := Lib.hid (show Re4 w1 wo P p F O (.slice Ai xs.length ci) xs (.slice (some ⟨gr, og, none⟩) m c2) L m (.int .i64 ((l : Int) + 1)) w6 from ⟨l + 1, hlm2, rfl, hS6, HK.out.tch HP1.out HP2.out ht6⟩)
                    clear hS6 ht6 d3 d4 HSET HK
                    go_wp2
                    go_roundw
                    case rel => exact HREL.out
                    case measure => simp [intOf]; omega
                  · obtain rfl : l = m := by omega
                    rw [HON.out] at hS
                    have htxt := hS.text (by omega) (by have := hS.txt hF1.out; omega)
                    rw [HTE.out] at htxt
                    have HTXT := Lib.hid htxt
                    have HB := Lib.hid hS.out
                    have hbe : (tx.toList == tx.toList) = true := beq_self_eq_true _
                    clear htxt hS hK
                    go_wp2_with fail
                    refine HTXT.out.mono ?_
                    rintro e w7 ⟨rfl, hb7⟩
                    have HF := Lib.hid (HB1.out.trans ((HB.out.trans (hb7.mono HB.out.size)).mono HB1.out.size))
                    clear hb7
                    go_wp2
                    go_ret
                    exact ⟨rfl, HF.out⟩)
end Go.Proofs.YtphapjbfaomblaaDoor
