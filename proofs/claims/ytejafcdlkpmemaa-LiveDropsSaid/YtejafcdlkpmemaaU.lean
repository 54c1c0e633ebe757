/- The law of the order: LiveOrder. -/
import Derived.Test.YtejafcdlkpmemaaJ
import Derived.Test.YtejafcdlkpmemaaT
import Derived.Deep.AppendLies
namespace Go.Proofs.Ytejafcdlkpmemaa
open Go Go.RowKit Go.Maps Go.Shelf
theorem live_mem (have_ gone : List Dot) (y : Id) : liveMem have_ gone have_.length y ↔ ∃ d ∈ have_, d ∉ gone ∧ d.n = y := by
  unfold liveMem; rw [List.take_length]
theorem of_mem (have_ gone : List Dot) (x : Id) (y : Stamp) : ofMem have_ gone x have_.length y ↔ ∃ d ∈ have_, d.n = x ∧ d ∉ gone ∧ d.b = y := by
  unfold ofMem; rw [List.take_length]
theorem live_cong {h g h' g' : List Dot} (hh : ∀ d, d ∈ h ↔ d ∈ h') (hg : ∀ d, d ∈ g ↔ d ∈ g') (y : Id) : liveMem h g h.length y ↔ liveMem h' g' h'.length y := by
  rw [live_mem, live_mem]; simp only [hh, hg]
theorem of_cong {h g h' g' : List Dot} (hh : ∀ d, d ∈ h ↔ d ∈ h') (hg : ∀ d, d ∈ g ↔ d ∈ g') (x : Id) (y : Stamp) : ofMem h g x h.length y ↔ ofMem h' g' x h'.length y := by
  rw [of_mem, of_mem]; simp only [hh, hg]
def OrdRel (l : List Dot) (w : World) (out i : Value) (wr : World) : Prop :=
  ∃ k : Nat, k ≤ l.length ∧ i = .int .i64 ((k : Int) - 1) ∧ ∃ L : List Dot, wr.ownsRow w.heap.size 41 5 out L.length (L.flatMap dotC) ∧ L.length = 2 * (l.length - k) ∧ (∀ d ∈ L, d ∈ l) ∧ (∀ j (h : j < l.length), k ≤ j → l[j] ∈ L) ∧ Below w.heap.size w wr
theorem ord_done {l L : List Dot} (h1 : ∀ d ∈ L, d ∈ l) (h2 : ∀ j (h : j < l.length), 0 ≤ j → l[j] ∈ L) (d : Dot) : d ∈ L ↔ d ∈ l := by
  refine ⟨h1 d, fun h => ?_⟩
  obtain ⟨j, hj, rfl⟩ := List.getElem_of_mem h
  exact h2 j hj (Nat.zero_le _)
theorem two_one (d e : Dot) : ∀ u ∈ dotC d ++ dotC e, u.oneCell' = true := by
  intro u hu
  rcases List.mem_append.1 hu with hu | hu
  · exact dotC_one d u hu
  · exact dotC_one e u hu
theorem two_cells (d e : Dot) : ([d, e].flatMap dotC) = dotC d ++ dotC e := by simp
set_option maxRecDepth 100000 in
set_option maxHeartbeats 4000000 in
theorem order_walk (have_ gone : List Dot) (x : Id) (A A' : Option Addr) (n c n' c' : Nat) (w : World) (hR : Rd w w.heap.size 5 (.slice A n c) n (have_.flatMap dotC)) (hR' : Rd w w.heap.size 5 (.slice A' n' c') n' (gone.flatMap dotC)) :
    Calls Try.prog 6 #[.slice A n c, .slice A' n' c', idV x] w fun e w' => e = .returned (.bool true) ∧ Below w.heap.size w w' := by
  obtain ⟨i0, hi, hz0, hz1, hz2⟩ := info_parts info41
  obtain rfl := len_of dotC 5 (fun _ => rfl) (by decide) hR.1
  obtain rfl := len_of dotC 5 (fun _ => rfl) (by decide) hR'.1
  obtain ⟨w1, hw1⟩ : ∃ W, w.alloc (.cells #[.int .i64 x.s.T, .int .i64 x.s.R, .int .i64 x.I] 26) = W := ⟨_, rfl⟩
  have hb0 : Below w.heap.size w w1 := by rw [← hw1]; exact ((Grows.refl w).alloc _).below
  have hbx : w1.heap[w.heap.size]? = some (.cells #[.int .i64 x.s.T, .int .i64 x.s.R, .int .i64 x.I] 26 (0, 0)) := by rw [← hw1]; exact heap_alloc_new w _
  have hsz : w.heap.size < w1.heap.size := (Array.getElem?_eq_some_iff.1 hbx).1
  have HR := Lib.hid (hR.below' hb0 (Nat.le_refl _))
  have HR' := Lib.hid (hR'.below' hb0 (Nat.le_refl _))
  have HB0 := Lib.hid hb0
  have HW := Lib.hid hw1
  have HBX := Lib.hid hbx
  clear hR hR' hb0 hw1 hbx
  unfold idV
  by_cases hn : have_.length ≤ 100
  · by_cases hn' : gone.length ≤ 100
    · go_enter Try.func6, Try.ntmps6
      go_wp2_with fail
      rw [HW.out]
      refine (awake_any w1).mono ?_
      rintro e w2 ⟨rfl, hb2⟩
      obtain ⟨bx, hbxe⟩ : ∃ b, w.heap.size = b := ⟨_, rfl⟩
      have HE := Lib.hid hbxe
      rw [hbxe] at hsz HBX ⊢
      clear hbxe
      have hsz2 : w1.heap.size ≤ w2.heap.size := hb2.size
      have hbx2 : w2.heap[bx]? = some (.cells #[.int .i64 x.s.T, .int .i64 x.s.R, .int .i64 x.I] 26 (0, 0)) := (hb2.block _ hsz).trans HBX.out
      have hszx : bx < w2.heap.size := by omega
      have HX2 := Lib.hid hbx2
      have HR2 := Lib.hid (HR.out.below' hb2 (Nat.le_of_lt (by have := HE.out; omega)))
      have HR2' := Lib.hid (HR'.out.below' hb2 (Nat.le_of_lt (by have := HE.out; omega)))
      have HB2 := Lib.hid (HB0.out.trans (hb2.mono (by have := HE.out; omega)))
      have hws : w.heap.size < w2.heap.size := by have := HE.out; omega
      clear hb2 hbx2 HR HR' HB0 HBX
      go_wp2
      go_loopw [8, 10] (fun out i wr => OrdRel have_ w2 out i wr) (fun _ i _ => (intOf i + 1).toNat)
      case atStart => exact ⟨have_.length, Nat.le_refl _, by first | rfl | (congr 1), [], World.ownsRow_nil _ _ _ _, by simp, by simp, fun j h1 h2 => by omega, Below.refl _ _⟩
      case round =>
        obtain ⟨k, hk, rfl, L, hO, hlen, hM1, hM2, hb⟩ := hrel
        obtain ⟨Av, cv, rfl, hLc, hcm2⟩ := (Rd.of_own hO).form
        have HO := Lib.hid hO
        have HM1 := Lib.hid hM1
        have HM2 := Lib.hid hM2
        clear hO hM1 hM2 hcm2
        obtain ⟨wo, rfl⟩ : ∃ wo : World, wo = wr := ⟨_, rfl⟩
        have hwl := hb.size
        have HLN := Lib.hid hlen
        have hl2 : L.length ≤ 2 * have_.length := by omega
        clear hlen
        rcases Nat.eq_zero_or_pos k with rfl | hk0
        · have HLa := Lib.hid (ord_done HM1.out (fun j h _ => HM2.out j h (Nat.zero_le _)))
          have hbxo : wo.heap[bx]? = some (.cells #[.int .i64 x.s.T, .int .i64 x.s.R, .int .i64 x.I] 26 (0, 0)) := (hb.block _ hszx).trans HX2.out
          have HRa := Lib.hid (HR2.out.below' hb (Nat.le_of_lt hws))
          have HRb := Lib.hid (HR2'.out.below' hb (Nat.le_of_lt hws))
          have HBo := Lib.hid (HB2.out.trans (hb.mono (Nat.le_of_lt hws)))
          have hwso : w.heap.size < wo.heap.size := by omega
          have hszo : bx < wo.heap.size := by omega
          have HXa := Lib.hid hbxo
          obtain ⟨wa, rfl⟩ : ∃ wa, wa = wo := ⟨_, rfl⟩
          obtain ⟨La, rfl⟩ : ∃ La, La = L := ⟨_, rfl⟩
          obtain ⟨Aa, rfl⟩ : ∃ Aa, Aa = Av := ⟨_, rfl⟩
          obtain ⟨ca, rfl⟩ : ∃ ca, ca = cv := ⟨_, rfl⟩
          have HOa := Lib.hid HO.out
          have hla : La.length ≤ 200 := by omega
          have e0 : (((0 : Nat) : Int) - 1) = -1 := rfl
          rw [e0]
          clear hb HM1 HM2 HO HLN hk hbxo HX2 HR2 HR2' HB2 hl2 hwl e0
          go_wp2
          go_loopw [9, 11] (fun out i wr => OrdRel gone wa out i wr) (fun _ i _ => (intOf i + 1).toNat)
          case atStart => exact ⟨gone.length, Nat.le_refl _, by first | rfl | (congr 1), [], World.ownsRow_nil _ _ _ _, by simp, by simp, fun j h1 h2 => by omega, Below.refl _ _⟩
          case round =>
            obtain ⟨k, hk, rfl, L, hO, hlen, hM1, hM2, hb⟩ := hrel
            obtain ⟨Av, cv, rfl, hLc, hcm2⟩ := (Rd.of_own hO).form
            have HO := Lib.hid hO
            have HM1 := Lib.hid hM1
            have HM2 := Lib.hid hM2
            clear hO hM1 hM2 hcm2
            obtain ⟨wo, rfl⟩ : ∃ wo : World, wo = wr := ⟨_, rfl⟩
            have hwl := hb.size
            have HLN := Lib.hid hlen
            have hl2 : L.length ≤ 2 * gone.length := by omega
            clear hlen
            rcases Nat.eq_zero_or_pos k with rfl | hk0
            · have HLb := Lib.hid (ord_done HM1.out (fun j h _ => HM2.out j h (Nat.zero_le _)))
              have HRLa := Lib.hid ((Rd.of_own HOa.out).below' hb (Nat.le_refl _))
              have HRLb := Lib.hid (Rd.of_own HO.out)
              have hbxf : wo.heap[bx]? = some (.cells #[.int .i64 x.s.T, .int .i64 x.s.R, .int .i64 x.I] 26 (0, 0)) := (hb.block _ hszo).trans HXa.out
              have HRf := Lib.hid (HRa.out.below' hb (Nat.le_of_lt hwso))
              have HRf' := Lib.hid (HRb.out.below' hb (Nat.le_of_lt hwso))
              have HBf := Lib.hid (HBo.out.trans (hb.mono (Nat.le_of_lt hwso)))
              have hwf : w.heap.size < wo.heap.size := by omega
              have hszf : bx < wo.heap.size := by omega
              have hwaf : wa.heap.size ≤ wo.heap.size := hwl
              obtain ⟨wf, rfl⟩ : ∃ wf, wf = wo := ⟨_, rfl⟩
              have e0 : (((0 : Nat) : Int) - 1) = -1 := rfl
              rw [e0]
              have kd : Below wf.heap.size wf wf.drew := (Below.refl _ wf).drew
              have HX := Lib.hid (fun W' (hW : Below wf.heap.size wf.drew W') => (show W'.cell? ⟨bx, 0, none⟩ = some (.int .i64 x.s.T) ∧ W'.cell? ⟨bx, 1, none⟩ = some (.int .i64 x.s.R) ∧ W'.cell? ⟨bx, 2, none⟩ = some (.int .i64 x.I) from
                ⟨((kd.trans hW).cell (p := ⟨bx, 0, none⟩) hszf).trans (cell_of_row _ _ 0 _ _ _ hbxf), ((kd.trans hW).cell (p := ⟨bx, 1, none⟩) hszf).trans (cell_of_row _ _ 1 _ _ _ hbxf), ((kd.trans hW).cell (p := ⟨bx, 2, none⟩) hszf).trans (cell_of_row _ _ 2 _ _ _ hbxf)⟩))
              have HL := Lib.hid (fun W' (hW : Below wf.heap.size wf.drew W') => live_any have_ gone A A' have_.length c gone.length c' w.heap.size W' (HRf.out.below' (kd.trans hW) (by omega)) (HRf'.out.below' (kd.trans hW) (by omega)) (Nat.le_trans (by omega) (kd.trans hW).size) (by omega))
              have HL2 := Lib.hid (fun W' (hW : Below wf.heap.size wf.drew W') => live_any La L Aa Av La.length ca L.length cv wf.heap.size W' ((HRLa.out.more hwaf).below' (kd.trans hW) (Nat.le_refl _)) (HRLb.out.below' (kd.trans hW) (Nat.le_refl _)) (kd.trans hW).size (by omega))
              have HF := Lib.hid (fun W' (hW : Below wf.heap.size wf.drew W') => of_any have_ gone x A A' have_.length c gone.length c' w.heap.size W' (HRf.out.below' (kd.trans hW) (by omega)) (HRf'.out.below' (kd.trans hW) (by omega)) (Nat.le_trans (by omega) (kd.trans hW).size) (by omega))
              have HF2 := Lib.hid (fun W' (hW : Below wf.heap.size wf.drew W') => of_any La L x Aa Av La.length ca L.length cv wf.heap.size W' ((HRLa.out.more hwaf).below' (kd.trans hW) (Nat.le_refl _)) (HRLb.out.below' (kd.trans hW) (Nat.le_refl _)) (kd.trans hW).size (by omega))
              unfold idV at HF HF2
              have KD := Lib.hid kd
              have k1 : Below wf.heap.size wf.drew wf.drew := Below.refl _ _
              clear hbxf kd hb HM1 HM2 HO HOa HLN hk e0
              go_wp2
              go_region_held3 (fun w' => w'.cell? ⟨bx, 0, none⟩ = some (.int .i64 x.s.T) ∧ w'.cell? ⟨bx, 1, none⟩ = some (.int .i64 x.s.R) ∧ w'.cell? ⟨bx, 2, none⟩ = some (.int .i64 x.I))
                (first | exact HX.out _ (by assumption) | go_keep)
                (first
                  | (go_at_call 20; refine (HL.out _ k1).mono ?_; clear HL; rintro e w3 ⟨v3, L3, rfl, hO3, hS3, hM3, hb3⟩; have k3 := k1.trans (hb3.mono k1.size); obtain ⟨A3, c3, rfl, _, _⟩ := (Rd.of_own hO3).form; have O3 := Lib.hid hO3; have S3 := Lib.hid hS3; have M3 := Lib.hid hM3; clear hO3 hS3 hM3 hb3)
                  | (go_at_call 20; refine (HL2.out _ k3).mono ?_; clear HL2; rintro e w4 ⟨v4, L4, rfl, hO4, hS4, hM4, hb4⟩; have k4 := k3.trans (hb4.mono k3.size); obtain ⟨A4, c4, rfl, _, _⟩ := (Rd.of_own hO4).form; have hs := sameId_any L3 L4 A3 A4 _ c3 _ c4 w4.heap.size w4 (((Rd.of_own O3.out).below' hb4 (Nat.le_refl _)).more hb4.size) (Rd.of_own hO4); rw [decide_eq_true (live_eq S3.out hS4 M3.out (fun y => (hM4 y).trans (live_cong HLa.out HLb.out y)))] at hs; have HS4 := Lib.hid hs; clear hO4 hS4 hM4 hb4 hs)
                  | (go_at_call 19; refine HS4.out.mono ?_; rintro e w5 ⟨rfl, hg5⟩; have k5 := k4.trans (hg5.below.mono k4.size); clear hg5)
                  | (go_at_call 23; refine (HF.out _ k5).mono ?_; clear HF; rintro e w6 ⟨v6, L6, rfl, hO6, hS6, hM6, hb6⟩; have k6 := k5.trans (hb6.mono k5.size); obtain ⟨A6, c6, rfl, _, _⟩ := (Rd.of_own hO6).form; have O6 := Lib.hid hO6; have S6 := Lib.hid hS6; have M6 := Lib.hid hM6; clear hO6 hS6 hM6 hb6)
                  | (go_at_call 23; refine (HF2.out _ k6).mono ?_; clear HF2; rintro e w7 ⟨v7, L7, rfl, hO7, hS7, hM7, hb7⟩; have k7 := k6.trans (hb7.mono k6.size); obtain ⟨A7, c7, rfl, _, _⟩ := (Rd.of_own hO7).form; have hs := sameSt_any L6 L7 A6 A7 _ c6 _ c7 w7.heap.size w7 (((Rd.of_own O6.out).below' hb7 (Nat.le_refl _)).more hb7.size) (Rd.of_own hO7); rw [decide_eq_true (of_eq S6.out hS7 M6.out (fun y => (hM7 y).trans (of_cong HLa.out HLb.out x y)))] at hs; have HS7 := Lib.hid hs; clear hO7 hS7 hM7 hb7 hs)
                  | (go_at_call 22; refine HS7.out.mono ?_; rintro e w8 ⟨rfl, hg8⟩; have k8 := k7.trans (hg8.below.mono k7.size); clear hg8))
              have HE2 := Lib.hid (HBf.out.trans ((KD.out.trans k8).mono (Nat.le_of_lt hwf)))
              clear k1 k3 k4 k5 k6 k7 k8
              go_wp2
              go_ret
              exact ⟨rfl, HE2.out⟩
            · obtain ⟨j, rfl⟩ : ∃ j, k = j + 1 := ⟨k - 1, by omega⟩
              have e1 : (((j + 1 : Nat) : Int) - 1) = (j : Int) := by omega
              rw [e1]
              have hjl : j < gone.length := by omega
              have hql := hjl
              obtain ⟨b, o, rfl, hB', hcell⟩ := rd_at dotC 5 (fun _ => rfl) (by decide) HRb.out hjl
              obtain ⟨b', o', hbo, _, hcell'⟩ := rd_at dotC 5 (fun _ => rfl) (by decide) HRb.out hql
              cases hbo
              have hbl : b < wa.heap.size := by omega
              have HJ := Lib.hid (List.getElem_mem hjl)
              have HQ := Lib.hid (List.getElem_mem hql)
              have HK := Lib.hid (fun (i : Nat) (h : i < gone.length) (hi : j ≤ i) => (show i = j ∨ j + 1 ≤ i from by omega))
              obtain ⟨d, hd⟩ : ∃ d, gone[j] = d := ⟨_, rfl⟩
              have HD := Lib.hid hd
              rw [hd] at hcell HJ
              rw [hd] at hcell' HQ
              have HS := Lib.hid (fun W' (hW : Below wa.heap.size wa W') => (show (W'.cell? ⟨b, o + j * 5, none⟩ = some (.int .i64 d.n.s.T) ∧ W'.cell? ⟨b, o + j * 5 + 1, none⟩ = some (.int .i64 d.n.s.R) ∧ W'.cell? ⟨b, o + j * 5 + 2, none⟩ = some (.int .i64 d.n.I) ∧ W'.cell? ⟨b, o + j * 5 + 3, none⟩ = some (.int .i64 d.b.T) ∧ W'.cell? ⟨b, o + j * 5 + 4, none⟩ = some (.int .i64 d.b.R) ∧
                  W'.cell? ⟨b, o + j * 5, none⟩ = some (.int .i64 d.n.s.T) ∧ W'.cell? ⟨b, o + j * 5 + 1, none⟩ = some (.int .i64 d.n.s.R) ∧ W'.cell? ⟨b, o + j * 5 + 2, none⟩ = some (.int .i64 d.n.I) ∧ W'.cell? ⟨b, o + j * 5 + 3, none⟩ = some (.int .i64 d.b.T) ∧ W'.cell? ⟨b, o + j * 5 + 4, none⟩ = some (.int .i64 d.b.R)) from
                ⟨(hW.cell (p := ⟨b, o + j * 5, none⟩) hbl).trans (hcell 0 _ rfl), (hW.cell (p := ⟨b, o + j * 5 + 1, none⟩) hbl).trans (hcell 1 _ rfl), (hW.cell (p := ⟨b, o + j * 5 + 2, none⟩) hbl).trans (hcell 2 _ rfl), (hW.cell (p := ⟨b, o + j * 5 + 3, none⟩) hbl).trans (hcell 3 _ rfl), (hW.cell (p := ⟨b, o + j * 5 + 4, none⟩) hbl).trans (hcell 4 _ rfl),
                  (hW.cell (p := ⟨b, o + j * 5, none⟩) hbl).trans (hcell' 0 _ rfl), (hW.cell (p := ⟨b, o + j * 5 + 1, none⟩) hbl).trans (hcell' 1 _ rfl), (hW.cell (p := ⟨b, o + j * 5 + 2, none⟩) hbl).trans (hcell' 2 _ rfl), (hW.cell (p := ⟨b, o + j * 5 + 3, none⟩) hbl).trans (hcell' 3 _ rfl), (hW.cell (p := ⟨b, o + j * 5 + 4, none⟩) hbl).trans (hcell' 4 _ rfl)⟩))
              have i1 : (0 : Int) ≤ (j : Int) := by omega
              have i2 : (j : Int) < (gone.length : Int) := by omega
              have a1 : Int.tdiv (j : Int) 2 = ((j / 2 : Nat) : Int) := by rw [Int.tdiv_eq_ediv_of_nonneg (by omega)]; omega
              have a3 : IntKind.i64.wrap (j : Int) = j := IntWalk.i64_in _ (by omega)
              have a4 : IntKind.i64.wrap ((j : Int) - 1) = (j : Int) - 1 := IntWalk.i64_in _ (by omega)
              have k1 : Below wa.heap.size wa wo.drew := hb.drew
              clear hcell hcell' hd e1
              go_wp2
              go_region_held3 (fun w' => w'.cell? ⟨b, o + j * 5, none⟩ = some (.int .i64 d.n.s.T) ∧ w'.cell? ⟨b, o + j * 5 + 1, none⟩ = some (.int .i64 d.n.s.R) ∧ w'.cell? ⟨b, o + j * 5 + 2, none⟩ = some (.int .i64 d.n.I) ∧ w'.cell? ⟨b, o + j * 5 + 3, none⟩ = some (.int .i64 d.b.T) ∧ w'.cell? ⟨b, o + j * 5 + 4, none⟩ = some (.int .i64 d.b.R) ∧
                  w'.cell? ⟨b, o + j * 5, none⟩ = some (.int .i64 d.n.s.T) ∧ w'.cell? ⟨b, o + j * 5 + 1, none⟩ = some (.int .i64 d.n.s.R) ∧ w'.cell? ⟨b, o + j * 5 + 2, none⟩ = some (.int .i64 d.n.I) ∧ w'.cell? ⟨b, o + j * 5 + 3, none⟩ = some (.int .i64 d.b.T) ∧ w'.cell? ⟨b, o + j * 5 + 4, none⟩ = some (.int .i64 d.b.R))
                (first | exact HS.out _ (by assumption) | exact HS.out _ (k1.alloc k1.size _) | go_keep)
                ((refine step_append_lies _ (by rfl) _ _ _ (by rfl) wa.heap.size 41 i0 _ 5 40 Try.underlying22 hi hz0 hz1 hz2 rfl (by omega) _ L.length _ (by rfl) ((own_drew HO.out).alloc _) ⟨wo.heap.size, 0, none⟩ 2 2 (dotC d ++ dotC d) (by rfl) (by rfl) (cells_new wo.drew (dotC d ++ dotC d) 41) (two_one d d) (by omega) (by unfold maxLen; omega) (by omega) (by have := k1.size; simp at this ⊢; omega) _ (by rfl) ?_
                  intro g cap W4 hown hgrow hat hgl
                  have hb4 : Below wa.heap.size wa W4 := (k1.alloc k1.size _).grown hgrow (by have := k1.size; simp at this ⊢; omega) (fun j hj => (HO.out.lt j hj).1)))
              have HO4 := Lib.hid (show W4.ownsRow wa.heap.size 41 5 (.slice (some ⟨g, 0, none⟩) (L.length + 2) cap) (L ++ [d, d]).length ((L ++ [d, d]).flatMap dotC) from by simpa using hown)
              clear hown hgrow hat hgl k1
              go_wp2
              go_roundw
              case rel =>
                refine ⟨j, by omega, rfl, L ++ [d, d], HO4.out, by have := HLN.out; simp; omega, ?_, ?_, hb4⟩
                · intro x hx
                  simp only [List.mem_append, List.mem_cons, List.mem_nil_iff, or_false] at hx
                  rcases hx with h | rfl | rfl
                  · exact HM1.out x h
                  · exact HJ.out
                  · exact HQ.out
                · intro i h hi
                  rcases HK.out i h hi with rfl | h1
                  · rw [HD.out]; simp
                  · exact List.mem_append.2 (.inl (HM2.out i h h1))
              case measure => simp [intOf]
        · obtain ⟨j, rfl⟩ : ∃ j, k = j + 1 := ⟨k - 1, by omega⟩
          have e1 : (((j + 1 : Nat) : Int) - 1) = (j : Int) := by omega
          rw [e1]
          obtain ⟨q, hq⟩ : ∃ q, j / 2 = q := ⟨_, rfl⟩
          have hqj : q ≤ j := by omega
          have hjl : j < have_.length := by omega
          have hql : q < have_.length := by omega
          obtain ⟨b, o, rfl, hB', hcell⟩ := rd_at dotC 5 (fun _ => rfl) (by decide) HR2.out hjl
          obtain ⟨b', o', hbo, _, hcell'⟩ := rd_at dotC 5 (fun _ => rfl) (by decide) HR2.out hql
          cases hbo
          have hbl : b < w2.heap.size := by have := HE.out; omega
          have HJ := Lib.hid (List.getElem_mem hjl)
          have HQ := Lib.hid (List.getElem_mem hql)
          have HK := Lib.hid (fun (i : Nat) (h : i < have_.length) (hi : j ≤ i) => (show i = j ∨ j + 1 ≤ i from by omega))
          obtain ⟨d, hd⟩ : ∃ d, have_[j] = d := ⟨_, rfl⟩
          have HD := Lib.hid hd
          rw [hd] at hcell HJ
          obtain ⟨e, he⟩ : ∃ e, have_[q] = e := ⟨_, rfl⟩
          rw [he] at hcell' HQ
          have HS := Lib.hid (fun W' (hW : Below w2.heap.size w2 W') => (show (W'.cell? ⟨b, o + j * 5, none⟩ = some (.int .i64 d.n.s.T) ∧ W'.cell? ⟨b, o + j * 5 + 1, none⟩ = some (.int .i64 d.n.s.R) ∧ W'.cell? ⟨b, o + j * 5 + 2, none⟩ = some (.int .i64 d.n.I) ∧ W'.cell? ⟨b, o + j * 5 + 3, none⟩ = some (.int .i64 d.b.T) ∧ W'.cell? ⟨b, o + j * 5 + 4, none⟩ = some (.int .i64 d.b.R) ∧
              W'.cell? ⟨b, o + q * 5, none⟩ = some (.int .i64 e.n.s.T) ∧ W'.cell? ⟨b, o + q * 5 + 1, none⟩ = some (.int .i64 e.n.s.R) ∧ W'.cell? ⟨b, o + q * 5 + 2, none⟩ = some (.int .i64 e.n.I) ∧ W'.cell? ⟨b, o + q * 5 + 3, none⟩ = some (.int .i64 e.b.T) ∧ W'.cell? ⟨b, o + q * 5 + 4, none⟩ = some (.int .i64 e.b.R)) from
            ⟨(hW.cell (p := ⟨b, o + j * 5, none⟩) hbl).trans (hcell 0 _ rfl), (hW.cell (p := ⟨b, o + j * 5 + 1, none⟩) hbl).trans (hcell 1 _ rfl), (hW.cell (p := ⟨b, o + j * 5 + 2, none⟩) hbl).trans (hcell 2 _ rfl), (hW.cell (p := ⟨b, o + j * 5 + 3, none⟩) hbl).trans (hcell 3 _ rfl), (hW.cell (p := ⟨b, o + j * 5 + 4, none⟩) hbl).trans (hcell 4 _ rfl),
              (hW.cell (p := ⟨b, o + q * 5, none⟩) hbl).trans (hcell' 0 _ rfl), (hW.cell (p := ⟨b, o + q * 5 + 1, none⟩) hbl).trans (hcell' 1 _ rfl), (hW.cell (p := ⟨b, o + q * 5 + 2, none⟩) hbl).trans (hcell' 2 _ rfl), (hW.cell (p := ⟨b, o + q * 5 + 3, none⟩) hbl).trans (hcell' 3 _ rfl), (hW.cell (p := ⟨b, o + q * 5 + 4, none⟩) hbl).trans (hcell' 4 _ rfl)⟩))
          have i1 : (0 : Int) ≤ (j : Int) := by omega
          have i2 : (j : Int) < (have_.length : Int) := by omega
          have i3 : (0 : Int) ≤ (q : Int) := by omega
          have i4 : (q : Int) < (have_.length : Int) := by omega
          have a1 : Int.tdiv (j : Int) 2 = ((j / 2 : Nat) : Int) := by rw [Int.tdiv_eq_ediv_of_nonneg (by omega)]; omega
          have a2 : IntKind.i64.wrap (q : Int) = q := IntWalk.i64_in _ (by omega)
          have a3 : IntKind.i64.wrap (j : Int) = j := IntWalk.i64_in _ (by omega)
          have a4 : IntKind.i64.wrap ((j : Int) - 1) = (j : Int) - 1 := IntWalk.i64_in _ (by omega)
          have k1 : Below w2.heap.size w2 wo.drew := hb.drew
          rw [hq] at a1
          clear hcell hcell' hd he hq e1
          go_wp2
          go_region_held3 (fun w' => w'.cell? ⟨b, o + j * 5, none⟩ = some (.int .i64 d.n.s.T) ∧ w'.cell? ⟨b, o + j * 5 + 1, none⟩ = some (.int .i64 d.n.s.R) ∧ w'.cell? ⟨b, o + j * 5 + 2, none⟩ = some (.int .i64 d.n.I) ∧ w'.cell? ⟨b, o + j * 5 + 3, none⟩ = some (.int .i64 d.b.T) ∧ w'.cell? ⟨b, o + j * 5 + 4, none⟩ = some (.int .i64 d.b.R) ∧
              w'.cell? ⟨b, o + q * 5, none⟩ = some (.int .i64 e.n.s.T) ∧ w'.cell? ⟨b, o + q * 5 + 1, none⟩ = some (.int .i64 e.n.s.R) ∧ w'.cell? ⟨b, o + q * 5 + 2, none⟩ = some (.int .i64 e.n.I) ∧ w'.cell? ⟨b, o + q * 5 + 3, none⟩ = some (.int .i64 e.b.T) ∧ w'.cell? ⟨b, o + q * 5 + 4, none⟩ = some (.int .i64 e.b.R))
            (first | exact HS.out _ (by assumption) | exact HS.out _ (k1.alloc k1.size _) | go_keep)
            ((refine step_append_lies _ (by rfl) _ _ _ (by rfl) w2.heap.size 41 i0 _ 5 40 Try.underlying22 hi hz0 hz1 hz2 rfl (by omega) _ L.length _ (by rfl) ((own_drew HO.out).alloc _) ⟨wo.heap.size, 0, none⟩ 2 2 (dotC d ++ dotC e) (by rfl) (by rfl) (cells_new wo.drew (dotC d ++ dotC e) 41) (two_one d e) (by omega) (by unfold maxLen; omega) (by omega) (by have := k1.size; simp at this ⊢; omega) _ (by rfl) ?_
              intro g cap W4 hown hgrow hat hgl
              have hb4 : Below w2.heap.size w2 W4 := (k1.alloc k1.size _).grown hgrow (by have := k1.size; simp at this ⊢; omega) (fun j hj => (HO.out.lt j hj).1)))
          have HO4 := Lib.hid (show W4.ownsRow w2.heap.size 41 5 (.slice (some ⟨g, 0, none⟩) (L.length + 2) cap) (L ++ [d, e]).length ((L ++ [d, e]).flatMap dotC) from by simpa using hown)
          clear hown hgrow hat hgl k1
          go_wp2
          go_roundw
          case rel =>
            refine ⟨j, by omega, rfl, L ++ [d, e], HO4.out, by have := HLN.out; simp; omega, ?_, ?_, hb4⟩
            · intro x hx
              simp only [List.mem_append, List.mem_cons, List.mem_nil_iff, or_false] at hx
              rcases hx with h | rfl | rfl
              · exact HM1.out x h
              · exact HJ.out
              · exact HQ.out
            · intro i h hi
              rcases HK.out i h hi with rfl | h1
              · rw [HD.out]; simp
              · exact List.mem_append.2 (.inl (HM2.out i h h1))
          case measure => simp [intOf]
    · go_enter Try.func6, Try.ntmps6
      go_wp2_with fail
      rw [HW.out]
      refine (awake_any w1).mono ?_
      rintro e w2 ⟨rfl, hb2⟩
      have HF := Lib.hid (HB0.out.trans (hb2.mono (by omega)))
      clear hb2
      go_wp2
      go_ret
      exact ⟨rfl, HF.out⟩
  · go_enter Try.func6, Try.ntmps6
    go_wp2_with fail
    rw [HW.out]
    refine (awake_any w1).mono ?_
    rintro e w2 ⟨rfl, hb2⟩
    have HF := Lib.hid (HB0.out.trans (hb2.mono (by omega)))
    clear hb2
    go_wp2
    go_ret
    exact ⟨rfl, HF.out⟩
end Go.Proofs.Ytejafcdlkpmemaa
