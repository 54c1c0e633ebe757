/- The law SheetInserts, walked. -/
import Derived.Test.YtphapjbfaomblaaDoorZb27
import Derived.Test.YtphapjbfaomblaaDoorZcJZ
namespace Go.Proofs.YtphapjbfaomblaaDoor
open Go Go.RowKit Go.Maps Go.ChangeMaps
set_option maxHeartbeats 400000 in
theorem cut_any (t : ByteArray) (k : Nat) (w : World) (hk : k ≤ t.size) :
    Calls Tryd.prog 36 #[.string t, .int .i64 (k : Int)] w fun e w' => e = .returned (.tuple #[.string (t.extract 0 k), .string (t.extract k t.size)]) ∧ Below w.heap.size w w' := by
  have i1 : (0 : Int) ≤ (k : Int) := by omega
  have i2 : (k : Int) ≤ (t.size : Int) := by omega
  go_enter Tryd.func36, Tryd.ntmps36
  go_wp2
  go_region
  go_wp2
  go_ret2
  exact ⟨rfl, (Below.refl _ _).drew⟩
theorem and3 : ∀ a : Fin 256, 0 ≤ bits BinOp.and IntKind.u8 ((a.val : Nat) : Int) 3 ∧ bits BinOp.and IntKind.u8 ((a.val : Nat) : Int) 3 ≤ 3 := by decide +kernel
theorem more_of : ∀ m : Nat, m ≤ 4 → ByteArray.extract ⟨#[88, 89, 90, 87]⟩ 0 m = ofL (mos.take m).flatten := fun m hm => by
  rw [mos_flat m hm, show (⟨#[88, 89, 90, 87]⟩ : ByteArray) = ofL [88, 89, 90, 87] from rfl, ofL_extract]
  simp
def InRel (w1 : World) (p : Loc) (F : List El) (O : List Nd) (on : Stamp → Int) (i : Value) (wr : World) : Prop :=
  ∃ (k : Nat), k ≤ 20 ∧ i = .int .i64 k ∧ ∃ gn, Sht w1 (fun _ => False) p (75 + k) F O on gn wr
set_option maxRecDepth 100000 in
set_option maxHeartbeats 8000000 in
theorem inserts_walk (L : List Pick) (T : List Nat) (x2 x3 : Int) (A A1 : Option Addr) (n c n1 c1' : Nat) (w : World) (hR : Rd w w.heap.size 3 (.slice A n c) n (L.flatMap pickC)) (hA : Rd w w.heap.size 1 (.slice A1 n1 c1') n1 (T.flatMap ubC)) (h256 : ∀ x ∈ T, x < 256) (hx2 : 0 ≤ x2 ∧ x2 ≤ 255) (hx3 : 0 ≤ x3 ∧ x3 ≤ 255) (hT : Tabs w) :
    Calls Tryd.prog 8 #[.slice A n c, .slice A1 n1 c1', .int .u8 x2, .int .u8 x3] w fun e w' => e = .returned (.bool true) ∧ Below w.heap.size w w' := by
  have hal := len_of pickC 3 (fun _ => rfl) (by decide) hR.1
  subst hal
  have hal1 := len_of ubC 1 (fun _ => rfl) (by decide) hA.1
  subst hal1
  obtain ⟨a2, rfl⟩ : ∃ a2 : Nat, x2 = a2 := ⟨x2.toNat, by omega⟩
  obtain ⟨a3, rfl⟩ : ∃ a3 : Nat, x3 = a3 := ⟨x3.toNat, by omega⟩
  have hlm := hA.len
  unfold maxLen at hlm
  have HR := Lib.hid (fun W (hW : Below w.heap.size w W) => hR.below' hW (Nat.le_refl _))
  have HA := Lib.hid (fun W (hW : Below w.heap.size w W) => hA.below' hW (Nat.le_refl _))
  have HT := Lib.hid (fun W (hW : Below w.heap.size w W) => hT.below hW)
  have H256 := Lib.hid h256
  clear hR hA hT h256
  go_enter Tryd.func8, Tryd.ntmps8
  go_wp2_with fail
  refine (lawake_any w (HT.out w (Below.refl _ w))).mono ?_
  rintro e w1 ⟨rfl, hb1⟩
  have HB1 := Lib.hid hb1
  clear hb1
  go_wp2_with fail
  refine (made_any L A _ c w.heap.size w1 (HR.out w1 HB1.out) HB1.out.size (HT.out w1 HB1.out)).mono ?_
  rintro e w2 ⟨p, rfl, O, hS⟩
  obtain ⟨N, hN⟩ : ∃ N, min L.length 15 = N := ⟨_, rfl⟩
  have hN15 : N ≤ 15 := by omega
  rw [hN] at hS ⊢
  obtain ⟨F, hF⟩ : ∃ F, flatAt L N = F := ⟨_, rfl⟩
  obtain ⟨on, hon⟩ : ∃ on, onAt L N = on := ⟨_, rfl⟩
  rw [hF, hon] at hS
  have HF := Lib.hid hF
  have HON := Lib.hid hon
  have HR0 := Lib.hid (show InRel w1 p F O on (.int .i64 0) w2 from ⟨0, by omega, rfl, _, hS⟩)
  clear hN hF hon hS
  go_wp2
  go_loopw [12] (fun i wr => InRel w1 p F O on i wr) (fun i _ => 20 - (intOf i).toNat)
  case atStart => exact HR0.out
  case round =>
    clear HR0
    obtain ⟨k, hk, rfl, gn, hS⟩ := hrel
    obtain ⟨wo, rfl⟩ : ∃ wo : World, wo = wr := ⟨_, rfl⟩
    have hb : Below w1.heap.size w1 wo := hS.out
    have hwb := HB1.out.trans (hb.mono HB1.out.size)
    by_cases hgo : k < T.length ∧ k < 20
    · obtain ⟨hlt, h20⟩ := hgo
      · obtain ⟨b, o, rfl, hBb, hcell⟩ := rd_at ubC 1 (fun _ => rfl) (by decide) (HA.out wo hwb) hlt
        have d0 : wo.cell? ⟨b, o + k, none⟩ = some (.int .u8 T[k]) := by simpa using hcell 0 _ rfl
        have hx256 := H256.out T[k] (List.getElem_mem hlt)
        obtain ⟨a, ha⟩ : ∃ a, T[k] = a := ⟨_, rfl⟩
        rw [ha] at d0 hx256
        have hctl : cntR (rowV O on gn) ≤ 200 := by
          rw [cnt_row]
          have := seen_le O on gn
          have := hS.olen
          omega
        obtain ⟨R, hRv⟩ : ∃ R, rowV O on gn = R := ⟨_, rfl⟩
        have hlen := fun W (hW : Below wo.heap.size wo W) => (hS.below hW).len
        have hat := fun W (hW : Below wo.heap.size wo W) => (hS.below hW).at (by omega)
        have hmem := fun q (hq : (findV (rowV O on gn) q).2 = 0) => hS.mem (find_mem hq)
        rw [hRv] at hctl hlen hat hmem
        obtain ⟨ct, hct⟩ : ∃ ct, cntR R = ct := ⟨_, rfl⟩
        rw [hct] at hctl hlen
        obtain ⟨q, hq⟩ : ∃ q, a % (ct + 1) = q := ⟨_, rfl⟩
        have hql : q < 256 := by rw [← hq]; exact Nat.lt_of_le_of_lt (Nat.mod_le _ _) hx256
        have m1 : Int.tmod (a : Int) ((ct : Int) + 1) = (q : Int) := by rw [Int.tmod_eq_emod_of_nonneg (by omega), ← hq]; rfl
        have w1' : IntKind.i64.wrap (a : Int) = a := IntWalk.i64_in _ (by omega)
        have w2' : IntKind.i64.wrap (q : Int) = q := IntWalk.i64_in _ (by omega)
        obtain ⟨⟨fx, fe⟩, hfv⟩ : ∃ r, findV R (q : Int) = r := ⟨_, rfl⟩
        have hmem := hmem (q : Int)
        rw [hfv] at hmem
        dsimp only at hmem
        have HMEM := Lib.hid hmem
        have HLEN := Lib.hid hlen
        have HAT := Lib.hid (fun W (hW : Below wo.heap.size wo W) => (show Calls Tryd.prog 34 #[.pointer (some ⟨p.sh, 0, none⟩), .int .i64 q] W fun r w' => r = .returned (.tuple #[.agg #[.int .i64 fx.s.T, .int .i64 fx.s.R, .int .i64 fx.I], .int .i64 fe]) ∧ Below W.heap.size W w' from by have := hat W hW (q : Int); rw [hfv] at this; exact this))
        have hbl : b < wo.heap.size := Nat.lt_of_lt_of_le hBb hwb.size
        have HC := Lib.hid (fun W (hW : Below wo.heap.size wo W) => (show W.cell? ⟨b, o + k, none⟩ = some (.int .u8 a) from (hW.cell (p := ⟨b, o + k, none⟩) hbl).trans d0))
        have HS := Lib.hid hS
        have hwr : IntKind.i64.wrap ((ct : Int) + 1) = (ct : Int) + 1 := IntWalk.i64_in _ (by omega)
        have hne : ¬ (ct : Int) + 1 = 0 := by omega
        have i1 : (0 : Int) ≤ (k : Int) := by omega
        have i2 : (k : Int) < (T.length : Int) := by omega
        have i3 : (k : Int) < 20 := by omega
        have k1 : Below wo.heap.size wo wo.drew := (Below.refl _ wo).drew
        have kz : Below wo.heap.size wo (wo.alloc (.cells #[.int .i64 0, .int .i64 0, .int .i64 0] 26)).drew := ((Below.refl _ wo).alloc (Nat.le_refl _) _).drew
        clear hcell ha hRv hlen hat hmem hct hfv hS hb hwb d0 hq
        go_wp2
        go_upto_region 10 with (fail)
        go_cut [13, 14] from 48 to 61 (fun xa xb wx => AtR wo fx fe xa xb wx)
        case first =>
         go_region_held3 (fun W => W.cell? ⟨b, o + k, none⟩ = some (.int .u8 a))
           (first | exact HC.out _ (by assumption) | exact HC.out _ (k2.alloc k2.size _) | exact HC.out _ (k2.trans ((touch_box3 _ _ _ _ _).below k2.size (fun x hx e => absurd (show x = wo.heap.size from e) (Nat.ne_of_lt hx)))) | go_keep)
           (first
            | (go_at_call 31; refine (HLEN.out _ (by first | exact k1 | exact kz)).mono ?_; rintro e w11 ⟨rfl, rfl⟩)
            | (go_at_call 34; refine (HAT.out _ (by first | exact k1 | exact kz)).mono ?_; rintro e w12 ⟨rfl, hb12⟩; first | (have k2 := k1.trans (hb12.mono k1.size)) | (have k2 := kz.trans (hb12.mono kz.size); have hz12 := zbox wo w12 hb12; have z0 := hz12.1; have z1 := hz12.2.1; have z2 := hz12.2.2.1; have zf := hz12.2.2.2.1)))
         all_goals (go_wp2_with fail; go_meet)
         all_goals first
           | exact atR_a hz12.2.2.2.2 k2
           | exact atR_b k2
        case rest =>
          obtain ⟨bX, rfl, rfl, hbX, hBx, hbc⟩ := hcut
          have HX := Lib.hid ((show ShR w1 p (75 + k) F O on gn w1.heap.size (.slice none 0 0) [] wo from ⟨HS.out.go (Touch.refl _ _) (fun g hg => by cases hg), World.ownsRow_nil _ _ _ _⟩).box hbc hbX hBx)
          clear hbX hBx hbc HS
          by_cases he : fe = 0
          · have hxm := HMEM.out he
            subst he
            obtain ⟨x0, x1, x2⟩ := HX.out.2.2.1.cells3
            have ht := HX.out.take hxm true (by omega)
            unfold idV at ht
            rw [if_pos rfl] at ht
            have HTK := Lib.hid ht
            clear ht hxm
            go_wp2_with fail
            refine HTK.out.mono ?_
            rintro e w5 ⟨⟨u5, rfl⟩, hX5⟩
            have HREL := Lib.hid (show InRel w1 p F O on (.int .i64 ((k : Int) + 1)) w5 from ⟨k + 1, by omega, rfl, _, (hX5.1.go (Touch.refl _ _) (fun g hg => hg.elim)).more (by omega)⟩)
            clear hX5 x0 x1 x2 HTK HX
            go_wp2
            go_roundw
            case rel => exact HREL.out
            case measure => simp [intOf]; omega
          · have hfe : (fe == 0) = false := by rw [beq_eq_false_iff_ne]; exact he
            have HREL := Lib.hid (show InRel w1 p F O on (.int .i64 ((k : Int) + 1)) wc from ⟨k + 1, by omega, rfl, _, (HX.out.1.go (Touch.refl _ _) (fun g hg => hg.elim)).more (by omega)⟩)
            clear HX
            go_wp2
            go_roundw
            case rel => exact HREL.out
            case measure => simp [intOf]; omega
    · have hgx : ¬ (k : Int) < (T.length : Int) ∨ ((k : Int) < (T.length : Int) ∧ ¬ (k : Int) < 20) := by omega
      have i0' : (0 : Int) ≤ (k : Int) := by omega
      have hS := hS.more (show 75 + k ≤ 95 by omega)
      have hS9 : Sht w1 (fun _ => False) p 95 (flatAt L N) O (onAt L N) gn wo := by rw [HF.out, HON.out]; exact hS
      have htl := hS9.txt (flatAt_pc L N)
      rw [HON.out] at htl
      have HTX := hS.text (by omega) (by omega)
      have HLE := hS.len
      rw [cnt_row] at HLE
      rw [← htl.1, ← ofL_size] at HLE
      have hsz9 : (ofL (txt (seenO O on gn))).size ≤ 95 := by rw [ofL_size]; omega
      obtain ⟨tx, htx⟩ : ∃ tx, ofL (txt (seenO O on gn)) = tx := ⟨_, rfl⟩
      rw [htx] at HTX HLE hsz9
      obtain ⟨q, hq⟩ : ∃ q, a2 % (tx.size + 1) = q := ⟨_, rfl⟩
      have hql : q ≤ tx.size := by rw [← hq]; exact Nat.le_of_lt_succ (Nat.mod_lt _ (by omega))
      have m1 : Int.tmod (a2 : Int) ((tx.size : Int) + 1) = (q : Int) := by rw [Int.tmod_eq_emod_of_nonneg (by omega), ← hq]; rfl
      have w1' : IntKind.i64.wrap (a2 : Int) = a2 := IntWalk.i64_in _ (by omega)
      have w2' : IntKind.i64.wrap (q : Int) = q := IntWalk.i64_in _ (by omega)
      have w3' : IntKind.i64.wrap ((tx.size : Int) + 1) = (tx.size : Int) + 1 := IntWalk.i64_in _ (by omega)
      have hne : ¬ (tx.size : Int) + 1 = 0 := by omega
      have hnn : ((tx.size : Int) != (tx.size : Int)) = false := by simp
      have hbh := (beh_at O on gn (k := q) (by rw [← htl.1]; have : tx.size = (txt (seenO O on gn)).length := by rw [← htx, ofL_size]
                                               omega)).1
      obtain ⟨⟨fa, fe⟩, hfa⟩ : ∃ r, behV (rowV O on gn) (q : Int) = r := ⟨_, rfl⟩
      rw [hfa] at hbh
      dsimp only at hbh
      subst hbh
      have HBE := Lib.hid (fun W (hW : Below wo.heap.size wo W) => (show Calls Tryd.prog 35 #[.pointer (some ⟨p.sh, 0, none⟩), .int .i64 q] W fun r w' => r = .returned (.tuple #[.agg #[.int .i64 fa.s.T, .int .i64 fa.s.R, .int .i64 fa.I], .int .i64 0]) ∧ Below W.heap.size W w' from by have := (hS.below hW).behind (by omega) q (by omega); rw [hfa] at this; exact this))
      have HFA := Lib.hid hfa
      have HTXE := Lib.hid htx
      have HTXT := Lib.hid HTX
      have HLEN := Lib.hid (fun W (hW : Below wo.heap.size wo W) => (show Calls Tryd.prog 31 #[.pointer (some ⟨p.sh, 0, none⟩)] W fun r w' => r = .returned (.int .i64 (tx.size : Nat)) ∧ w' = W from by
        have := (hS.below hW).len
        rw [cnt_row, ← htl.1, ← ofL_size, htx] at this
        exact this))
      have HS := Lib.hid hS
      have HS9 := Lib.hid hS9
      have HWB := Lib.hid hwb
      clear hS hS9 hb hwb hgo htl HTX HLE htx hq hfa
      obtain ⟨m, hm, hm1, hm4⟩ : ∃ m : Nat, (1 + bits BinOp.and IntKind.u8 (a3 : Int) 3) % 256 = (m : Int) ∧ 1 ≤ m ∧ m ≤ 4 := by
        have h := and3 ⟨a3, by omega⟩
        dsimp only at h
        exact ⟨(1 + bits BinOp.and IntKind.u8 (a3 : Int) 3).toNat, by omega, by omega, by omega⟩
      have hml : (mos.take m).length = m := by rw [List.length_take]; exact Nat.min_eq_left hm4
      have hmf := flat_ones (mos_one m)
      have hmor := more_of m hm4
      have hmz : (ofL (mos.take m).flatten).size = m := by rw [ofL_size, hmf, hml]
      obtain ⟨mo, hmo⟩ : ∃ mo, ofL (mos.take m).flatten = mo := ⟨_, rfl⟩
      rw [hmo] at hmor hmz
      have hw100 : IntKind.i64.wrap ((N : Int) + 100) = (N : Int) + 100 := IntWalk.i64_in _ (by omega)
      have j1 : (0 : Int) ≤ (m : Int) := by omega
      have j2 : (m : Int) ≤ 4 := by omega
      have hfm : fa = zeroI ∨ fa ∈ (flatAt L N).map El.id := by
        obtain ⟨_, j, _, _, hc⟩ := beh_at O on gn (k := q) (by
          have h1 := HS9.out.txt (flatAt_pc L N)
          rw [HON.out] at h1
          have h2 : tx.size = (txt (seenO O on gn)).length := by rw [← HTXE.out, ofL_size]
          omega)
        rw [HFA.out] at hc
        rcases hc with ⟨h, _⟩ | ⟨i, hi, _, h⟩
        · exact .inl h
        · exact .inr (HS9.out.mem (List.mem_map.2 ⟨_, List.getElem_mem hi, h⟩))
      have hadd := fun (P : Nat → Prop) c W (h : Sht w1 P p c (flatAt L N) O (onT (onAt L N) (xS N hN15) 1) gn W) (hc : c = 96) => h.add ⟨fa, xI N hN15, mo⟩ (mos.take m) (mos_all m) hmo.symm (by omega) (by omega) (HT.out W (HB1.out.trans (h.out.mono HB1.out.size))) (by omega) hfm (fun j hj => ⟨(x_new L hN15).2.1 j (by omega), (x_new L hN15).2.2.2 j (by omega)⟩) (fun i j hij hj e => by
        have := (x_new L hN15).2.2.1 i j hij (by omega)
        have e : nthI (xI N hN15) i = nthI (xI N hN15) j := e
        rw [e] at this
        exact idSTO.irrefl _ this)
      have HADD := Lib.hid hadd
      have hend := fun O' => insert_end (O' := O') (k := q) (m := m) (a := fa) hN15 hm4 HS9.out (by rw [HON.out]; exact HTXE.out) hql (by rw [HON.out, HFA.out])
      rw [hmo] at hend
      have HEND := Lib.hid hend
      have HCUT := Lib.hid (fun W => cut_any tx q W hql)
      have hex1 : (tx.extract 0 q).size ≤ 95 := by rw [ByteArray.size_extract]; omega
      have hex2 : (tx.extract q tx.size).size ≤ 95 := by rw [ByteArray.size_extract]; omega
      obtain ⟨ta, hta⟩ : ∃ x, tx.extract 0 q = x := ⟨_, rfl⟩
      obtain ⟨tb, htb⟩ : ∃ x, tx.extract q tx.size = x := ⟨_, rfl⟩
      rw [hta] at HEND HCUT hex1
      rw [htb] at HEND HCUT hex2
      have hs1 : ta.size + mo.size ≤ 1000000000 := by omega
      have hs2 : (ta ++ mo).size + tb.size ≤ 1000000000 := by rw [ByteArray.size_append]; omega
      have hw5 : IntKind.i64.wrap ((tx.size : Int) + (mo.size : Int)) = (tx.size : Int) + (mo.size : Int) := IntWalk.i64_in _ (by omega)
      have hbe : ((ta ++ mo ++ tb).toList == (ta ++ mo ++ tb).toList) = true := beq_self_eq_true _
      have hmz4 : mo.size ≤ 4 := by omega
      have HML := Lib.hid hml
      clear hadd hend hfm hml hmf hmz hmo hta htb hex1 hex2
      rcases hgx with i2 | ⟨i2, i3⟩
      all_goals (
        go_wp2_with fail
        refine HTXT.out.mono ?_
        rintro e w3 ⟨rfl, hb3⟩
        go_wp2_with (go_at_call 31; refine (HLEN.out _ hb3).mono ?_; rintro e w4 ⟨rfl, rfl⟩)
        refine (HBE.out _ hb3).mono ?_
        rintro e w5 ⟨rfl, hb5⟩
        obtain ⟨W7, hW7⟩ : ∃ W, (w5.alloc (.cells #[.int .i64 fa.s.T, .int .i64 fa.s.R, .int .i64 fa.I] 26)).alloc (.cells #[.int .i64 ((N : Int) + 100), .int .i64 1] 24) = W := ⟨_, rfl⟩
        have hb05 : Below wo.heap.size wo w5 := hb3.trans (hb5.mono hb3.size)
        have hb7 : Below wo.heap.size wo W7 := by rw [← hW7]; exact (hb05.alloc hb05.size _).alloc (by have := hb05.size; simp; omega) _
        have hx7 : Box W7 w5.heap.size fa := by rw [← hW7]; exact (Below.heap_alloc _ _ _ (by simp)).trans (heap_alloc_new w5 _)
        have hy7 : W7.heap[w5.heap.size + 1]? = some (.cells #[.int .i64 ((N : Int) + 100), .int .i64 1] 24 (0, 0)) := by
          rw [← hW7]
          have := heap_alloc_new (w5.alloc (.cells #[.int .i64 fa.s.T, .int .i64 fa.s.R, .int .i64 fa.I] 26)) (.cells #[.int .i64 ((N : Int) + 100), .int .i64 1] 24)
          rw [World.size_alloc] at this
          exact this
        obtain ⟨bx, hbx⟩ : ∃ z, w5.heap.size = z := ⟨_, rfl⟩
        obtain ⟨by1, hby⟩ : ∃ z, bx + 1 = z := ⟨_, rfl⟩
        rw [hbx] at hx7 hy7
        rw [hby] at hy7
        have hlx := (Array.getElem?_eq_some_iff.1 hx7).1
        have hly := (Array.getElem?_eq_some_iff.1 hy7).1
        have hgx : wo.heap.size ≤ bx ∧ wo.heap.size ≤ by1 := by have := hb05.size; omega
        have HX7 := Lib.hid hx7
        have HY7 := Lib.hid hy7
        obtain ⟨x0, x1, x2⟩ := hx7.cells3
        have y0 : W7.cell? ⟨by1, 0, none⟩ = some (.int .i64 ((N : Int) + 100)) := cell_of_row _ _ 0 _ _ _ hy7
        have y1 : W7.cell? ⟨by1, 1, none⟩ = some (.int .i64 1) := cell_of_row _ _ 1 _ _ _ hy7
        have hS7 : Sht w1 (fun g => g = bx ∨ g = by1) p 95 (flatAt L N) O (onAt L N) gn W7 := HS9.out.go (Below.touch hb7 _) (fun g hg => by rcases hg with rfl | rfl <;> exact .inr ⟨by omega, by omega⟩)
        have hset := hS7.set (xS N hN15) true (by omega)
        rw [if_pos rfl] at hset
        have HSET := Lib.hid (show Calls Tryd.prog 25 #[.pointer (some ⟨p.sh, 0, none⟩), .agg #[.int .i64 ((N : Int) + 100), .int .i64 1], .bool true] W7 (fun r w' => (∃ v, r = .returned v) ∧ Sht w1 (fun g => g = bx ∨ g = by1) p 96 (flatAt L N) O (onT (onAt L N) (xS N hN15) 1) gn w' ∧ Tch w1 (fun g => g = bx ∨ g = by1) W7 w') from hset)
        have HW7 := Lib.hid hW7
        have HBX := Lib.hid hbx
        have HBY := Lib.hid hby
        clear hset hS7 hW7 hbx hby hb3 hb5 hb05 hb7 hlx hly hgx hx7 hy7
        go_wp2_with fail
        rw [HW7.out]
        simp only [HBX.out, HBY.out]
        refine HSET.out.mono ?_
        rintro e w8 ⟨⟨_, rfl⟩, hS8, ht8⟩
        have hx8 : Box w8 bx fa := block_touch HX7.out ht8 (fun hs => hs.2 (.inl rfl))
        have hy8 := block_touch HY7.out ht8 (fun hs => hs.2 (.inr rfl))
        have HAD := Lib.hid (show Calls Tryd.prog 23 #[.pointer (some ⟨p.sh, 0, none⟩), .agg #[.int .i64 fa.s.T, .int .i64 fa.s.R, .int .i64 fa.I, .int .i64 ((N : Int) + 100), .int .i64 1, .int .i64 0, .string mo]] w8 (fun e w' => e = .returned (.int .i64 0) ∧ (∃ O', Sht w1 (fun g => g = bx ∨ g = by1) p (96 + (mos.take m).length) (flatAt L N ++ flatOf fa (xI N hN15) (mos.take m)) O' (onT (onAt L N) (xS N hN15) 1) gn w') ∧ Tch w1 (fun g => g = bx ∨ g = by1) w8 w') from HADD.out _ _ w8 hS8 rfl)
        clear x0 x1 x2 y0 y1 hS8 ht8 HSET HX7 HY7 HW7
        obtain ⟨x0, x1, x2⟩ := hx8.cells3
        have y0 : w8.cell? ⟨by1, 0, none⟩ = some (.int .i64 ((N : Int) + 100)) := cell_of_row _ _ 0 _ _ _ hy8
        have y1 : w8.cell? ⟨by1, 1, none⟩ = some (.int .i64 1) := cell_of_row _ _ 1 _ _ _ hy8
        clear hx8 hy8
        go_wp2_with fail
        refine HAD.out.mono ?_
        rintro e w9 ⟨rfl, ⟨O', hS9'⟩, _⟩
        obtain ⟨hE1, hE2⟩ := HEND.out O' hS9'.order
        have hlen9 := HML.out
        have HTX9 := Lib.hid (fun W (hW : Below w9.heap.size w9 W) => (show Calls Tryd.prog 29 #[.pointer (some ⟨p.sh, 0, none⟩)] W (fun r w' => r = .returned (.string ((ta ++ mo) ++ tb)) ∧ Below W.heap.size W w') from by
          have := (hS9'.below hW).text (by omega) (by
            have h := congrArg ByteArray.size hE1
            rw [ofL_size, ByteArray.size_append] at h
            omega)
          rw [hE1] at this
          exact this))
        have HLN9 := Lib.hid (fun W (hW : Below w9.heap.size w9 W) => (show Calls Tryd.prog 31 #[.pointer (some ⟨p.sh, 0, none⟩)] W (fun r w' => r = .returned (.int .i64 ((tx.size : Int) + (mo.size : Int))) ∧ w' = W) from by
          have := (hS9'.below hW).len
          rw [hE2, Int.natCast_add] at this
          exact this))
        have HB9 := Lib.hid (HB1.out.trans (hS9'.out.mono HB1.out.size))
        have k0 : Below w9.heap.size w9 w9 := Below.refl _ _
        clear hS9' hE1 hE2 hlen9 HAD x0 x1 x2 y0 y1
        go_wp2_with (first
          | (go_at_call 36; refine (HCUT.out _).mono ?_; rintro e w10 ⟨rfl, k1⟩)
          | (go_at_call 29; refine (HTX9.out _ k1).mono ?_; rintro e w11 ⟨rfl, hb11⟩; have k2 := k1.trans (hb11.mono k1.size); clear hb11)
          | (go_at_call 31; refine (HLN9.out _ k2).mono ?_; rintro e w12 ⟨rfl, rfl⟩))
        go_ret
        exact ⟨rfl, HB9.out.trans (k2.mono HB9.out.size)⟩)
end Go.Proofs.YtphapjbfaomblaaDoor
