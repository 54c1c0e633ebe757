/- Texts of this seat, one behind the other: JL. -/
import Derived.Test.YtphapjbfaomblaaDoorZb18
import Derived.Deep.CutRange
import Derived.Deep.CutBlock
import Derived.WalkMore
/- The sheet: put. -/
namespace Go.Proofs.YtphapjbfaomblaaDoor
open Go Go.RowKit Go.Maps Go.ChangeMaps
def elOf (e : En) : El := ⟨e.id, e.af, e.pc⟩
abbrev OrdE (Es : List En) (O : List Nd) : Prop := OrderOf Id.Lt El.id El.af zeroI (fun e => e ∈ Es.map elOf) O
theorem list_false (R : Row Id) : listR R false = namesR R := by
  unfold listR
  rw [List.filter_eq_self.2 (fun a _ => by simp)]
section
variable {w : World} {p : Loc} {Fs : Nat → Prop} {Es : List En} {on : Stamp → Int} {R : Row Id} {n m n2 : Nat} {D : DataW (Option Nat)} {Dr : DataW Hd} {hd : Stamp → Hd} {Dn : DataW HH}
def PutPo (p : Loc) (Fs : Nat → Prop) (Es : List En) (on : Stamp → Int) (R : Row Id) (n m n2 : Nat) (hd : Stamp → Hd) (Dn : DataW HH) (O : List Nd) (pth : List Id) (x af : Id) (pc : ByteArray) (w w' : World) : Prop :=
  ∃ k ad Fs' D' Dr' hd' q, PutEnd Id.Lt O pth x k ∧ ShtIs w' p Fs' (Es ++ [⟨ad, x, af, pc, pth.length + 1, 0⟩]) on (putR R k x q) (n + 1) (m + 1) n2 D' Dr' hd' Dn ∧ q = decide (0 < on x.s) ∧
    Touch (sfoot p Fs Es hd) w w' ∧ ∀ j, sfoot p Fs' (Es ++ [⟨ad, x, af, pc, pth.length + 1, 0⟩]) hd' j → sfoot p Fs Es hd j ∨ w.heap.size ≤ j
set_option maxRecDepth 100000 in
set_option maxHeartbeats 8000000 in
theorem shPut_any (h : ShtIs w p Fs Es on R n m n2 D Dr hd Dn) (x af : Id) (pc : ByteArray) (hxn : ∀ e ∈ Es, e.id ≠ x) (hnz : ∀ e ∈ Es, e.id ≠ zeroI)
    {O : List Nd} (hO : OrdE Es O) (hRO : namesR R = O.map (fun nd => nd.2.id)) (hdp : ∀ nd ∈ O, ∀ e ∈ Es, e.id = nd.2.id → e.dp = nd.1.length) {pth : List Id}
    (hp0 : (af = zeroI ∧ pth = []) ∨ ∃ hj : ixR R af < O.length, O[ixR R af].2.id = af ∧ pth = O[ixR R af].1) (hl : R.length ≤ 5000) (hEl : Es.length ≤ 5000) (hdb : ∀ e ∈ Es, e.dp ≤ 5000) (hn : n ≤ 100000) (hm : m ≤ 100000) :
    Calls Tryd.prog 48 #[.pointer (some ⟨p.sh, 0, none⟩), idV x, idV af, .string pc] w fun r w' => (∃ v, r = .returned v) ∧ PutPo p Fs Es on R n m n2 hd Dn O pth x af pc w w' := by
  have hmem : ∀ nd ∈ O, ∃ e ∈ Es, elOf e = nd.2 := fun nd h => List.mem_map.1 ((hO.2 nd).1 h).1
  have hp : (af = zeroI ∧ pth = []) ∨ ∃ nd ∈ O, nd.2.id = af ∧ pth = nd.1 := hp0.imp id (fun ⟨hj, a, b⟩ => ⟨_, List.getElem_mem hj, a, b⟩)
  obtain ⟨dq, hdq⟩ : ∃ d, pth.length = d := ⟨_, rfl⟩
  have hdV : deepV Es af = dq := by
    rcases hp with ⟨rfl, rfl⟩ | ⟨nd, hnd, rfl, rfl⟩
    · rw [← hdq]
      unfold deepV
      rw [List.find?_eq_none.2 (fun e he => by simpa using hnz e he)]
      rfl
    · obtain ⟨e, he, hee⟩ := hmem nd hnd
      have hid : e.id = nd.2.id := by rw [← hee]; rfl
      rw [← hid, deepV_at h.uniq he, hdp nd hnd e he hid, hdq]
  have hd5 : dq ≤ 5000 := by
    rcases hp with ⟨rfl, rfl⟩ | ⟨nd, hnd, rfl, rfl⟩
    · rw [← hdq]; exact Nat.zero_le _
    · obtain ⟨e, he, hee⟩ := hmem nd hnd
      rw [← hdq, ← hdp nd hnd e he (by rw [← hee]; rfl)]
      exact hdb e he
  have hafE : af = zeroI ∨ ∃ e ∈ Es, e.id = af := by
    rcases hp with ⟨h1, _⟩ | ⟨nd, hnd, h1, _⟩
    · exact .inl h1
    · obtain ⟨e, he, hee⟩ := hmem nd hnd
      exact .inr ⟨e, he, by rw [← h1, ← hee]; rfl⟩
  obtain ⟨W0, hW0⟩ : ∃ W, w.alloc (.cells #[.int .i64 x.s.T, .int .i64 x.s.R, .int .i64 x.I] 26) = W := ⟨_, rfl⟩
  obtain ⟨W1, hW1⟩ : ∃ W, W0.alloc (.cells #[.int .i64 af.s.T, .int .i64 af.s.R, .int .i64 af.I] 26) = W := ⟨_, rfl⟩
  have hb0 : Below w.heap.size w W0 := by rw [← hW0]; exact (Below.refl _ w).alloc (Nat.le_refl _) _
  have hs0 : W0.heap.size = w.heap.size + 1 := by rw [← hW0]; simp
  have hb01 : Below W0.heap.size W0 W1 := by rw [← hW1]; exact (Below.refl _ W0).alloc (Nat.le_refl _) _
  have hb1 : Below w.heap.size w W1 := hb0.trans (hb01.mono (by omega))
  have hx1 : W1.heap[w.heap.size]? = some (.cells #[.int .i64 x.s.T, .int .i64 x.s.R, .int .i64 x.I] 26 (0, 0)) := (hb01.block _ (by omega)).trans (by rw [← hW0]; exact heap_alloc_new w _)
  have ha1 : W1.heap[W0.heap.size]? = some (.cells #[.int .i64 af.s.T, .int .i64 af.s.R, .int .i64 af.I] 26 (0, 0)) := by rw [← hW1]; exact heap_alloc_new W0 _
  have hs1 : W1.heap.size = w.heap.size + 2 := by rw [← hW1]; simp [hs0]
  obtain ⟨bx, hbx⟩ : ∃ z, w.heap.size = z := ⟨_, rfl⟩
  obtain ⟨ba, hba⟩ : ∃ z, w.heap.size + 1 = z := ⟨_, rfl⟩
  have h1 := h.below hb1
  have HS := Lib.hid (fun W (hW : Below w.heap.size w W) => h.below hW)
  have HDEEP := Lib.hid (fun W (hW : Below W1.heap.size W1 W) => deep_any (h1.below hW) af hafE hnz)
  rw [hdV] at HDEEP
  unfold idV at HDEEP
  rw [hs0, hba] at ha1
  rw [hbx] at hx1
  have HC1 := Lib.hid (fun W (hW : Below W1.heap.size W1 W) => (show (W.cell? ⟨ba, 0, none⟩ = some (.int .i64 af.s.T) ∧ W.cell? ⟨ba, 1, none⟩ = some (.int .i64 af.s.R) ∧ W.cell? ⟨ba, 2, none⟩ = some (.int .i64 af.I)) from by
    have hh := (hW.block ba (by omega)).trans ha1
    exact ⟨cell_of_row _ _ 0 _ _ _ hh, cell_of_row _ _ 1 _ _ _ hh, cell_of_row _ _ 2 _ _ _ hh⟩))
  have HX1 := Lib.hid hx1
  have HA1 := Lib.hid ha1
  have HBX := Lib.hid hbx
  have HBA := Lib.hid hba
  have HW0 := Lib.hid hW0
  have HW1 := Lib.hid hW1
  have HB1 := Lib.hid hb1
  have HS1 := Lib.hid (And.intro hs0 hs1)
  have HDQ := Lib.hid hdq
  have HH := Lib.hid h
  have HO := Lib.hid hO
  have HRO := Lib.hid hRO
  have HDP := Lib.hid hdp
  have HMEM := Lib.hid hmem
  have HXN := Lib.hid hxn
  have HNZ := Lib.hid hnz
  have HCMP := Lib.hid (fun (a b : Id) => fun W => scmpId_any a b W)
  have HP := Lib.hid hp0
  have k1 : Below W1.heap.size W1 W1.drew := (Below.refl _ W1).drew
  have hw1 : IntKind.i64.wrap ((dq : Int) + 1) = ((dq + 1 : Nat) : Int) := by rw [IntWalk.i64_in _ (by omega)]; omega
  have hE := eq3_iff af zeroI
  have hq := eql26
  have hq2 := neq26
  have hgd := gd26
  clear h h1 hW0 hW1 hb0 hb01 hb1 hx1 ha1 hs0 hs1 hbx hba hdV hdq hO hRO hdp hmem hxn hnz hdb
  unfold idV
  rcases hp0 with ⟨haf, hpn⟩ | ⟨hj, haf, hpn⟩
  · have hE2 : eq3 af.s.T af.s.R af.I 0 0 0 = true := by
      rw [decide_eq_true haf] at hE
      exact hE
    clear haf hp hafE
    go_enter Tryd.func48, Tryd.ntmps48
    go_wp2
    rw [HBA.out, HBX.out, HW0.out, HW1.out]
    go_step3
    go_wp2
    go_region_held3 (fun W => W.cell? ⟨ba, 0, none⟩ = some (.int .i64 af.s.T) ∧ W.cell? ⟨ba, 1, none⟩ = some (.int .i64 af.s.R) ∧ W.cell? ⟨ba, 2, none⟩ = some (.int .i64 af.I))
      (first | exact HC1.out _ (by assumption) | go_keep)
      (first | (go_at_call 66; refine (HDEEP.out _ k1).mono ?_; rintro r w5 ⟨rfl, hb5⟩; have k2 := k1.trans (hb5.mono k1.size); clear hb5))
    obtain ⟨W6, hW6⟩ : ∃ W, w5.alloc (.cells #[.string pc, .int .i64 af.s.T, .int .i64 af.s.R, .int .i64 af.I, .int .i64 ((dq : Int) + 1), .int .i64 0] 102) = W := ⟨_, rfl⟩
    have hb15 : Below W1.heap.size W1 W6 := by rw [← hW6]; exact k2.alloc k2.size _
    have hy6 : W6.heap[w5.heap.size]? = some (.cells #[.string pc, .int .i64 af.s.T, .int .i64 af.s.R, .int .i64 af.I, .int .i64 ((dq : Int) + 1), .int .i64 0] 102 (0, 0)) := by rw [← hW6]; exact heap_alloc_new w5 _
    obtain ⟨yb, hyb⟩ : ∃ z, w5.heap.size = z := ⟨_, rfl⟩
    have hyw : W1.heap.size ≤ yb := by rw [← hyb]; exact k2.size
    rw [hyb] at hy6
    have hyl : yb < W6.heap.size := (Array.getElem?_eq_some_iff.1 hy6).1
    have hx6 : W6.heap[bx]? = _ := (hb15.block bx (by have := HS1.out; have := HBX.out; omega)).trans HX1.out
    have ha6 : W6.heap[ba]? = _ := (hb15.block ba (by have := HS1.out; have := HBA.out; omega)).trans HA1.out
    have hb6 : Below w.heap.size w W6 := HB1.out.trans (hb15.mono HB1.out.size)
    have h6 := HS.out W6 hb6
    have c0 := h6.shc.1
    have e0 : W6.cell? ⟨ba, 0, none⟩ = some (.int .i64 af.s.T) := cell_of_row _ _ 0 _ _ _ ha6
    have e1 : W6.cell? ⟨ba, 1, none⟩ = some (.int .i64 af.s.R) := cell_of_row _ _ 1 _ _ _ ha6
    have e2 : W6.cell? ⟨ba, 2, none⟩ = some (.int .i64 af.I) := cell_of_row _ _ 2 _ _ _ ha6
    have HLIST := Lib.hid (fun W (hW : Below W6.heap.size W6 W) => list_at (h6.below hW).shelf (by omega) false)
    rw [hW6, hyb]
    have HX6 := Lib.hid hx6
    have HY6 := Lib.hid hy6
    have HB6 := Lib.hid hb6
    have HYL := Lib.hid (And.intro hyl hyw)
    clear hW6 hyb hb15 hx6 hy6 ha6 hb6 h6 k1 k2 hyl hyw
    have hst : PutAt Id.Lt O pth x 0 := by
      rw [hpn]; exact put_first HO.out x
    have HST := Lib.hid hst
    clear hst
    go_wp2_with (go_at_call 52; refine (HLIST.out _ (Below.refl _ _)).mono ?_; rintro r w7 ⟨v, rfl, hown, hb7⟩; rw [list_false] at hown; obtain ⟨A, c, rfl, hnc, hcm⟩ := (Rd.of_own hown).form; unfold maxLen at hcm; have HOWN := Lib.hid hown; have HB7 := Lib.hid hb7; clear hown hb7)
    go_step3
    go_upto_block 0 with fail
    have hst7 : ∃ k : Nat, (.int .i64 0 : Value) = .int .i64 k ∧ PutAt Id.Lt O pth x k ∧ Below w7.heap.size w7 w7 := ⟨0, by go_num, HST.out, Below.refl _ _⟩
    have HST7 := Lib.hid hst7
    clear hst7 HST
    go_cut [9, 11] from 40 to 82 (fun s9 _ wx => ∃ k : Nat, s9 = .int .i64 k ∧ PutEnd Id.Lt O pth x k ∧ Below w7.heap.size w7 wx)
    case first =>
      go_wp2_with fail
      go_loopw [9, 11] (fun s9 _ wr => ∃ k : Nat, s9 = .int .i64 k ∧ PutAt Id.Lt O pth x k ∧ Below w7.heap.size w7 wr) (fun s9 _ _ => O.length - (intOf s9).toNat)
      case atStart => exact HST7.out
      case round =>
        clear HST7
        obtain ⟨k, rfl, hpa, hbw⟩ := hrel
        obtain ⟨wo, rfl⟩ : ∃ wo : World, wo = wr := ⟨_, rfl⟩
        have hb67 : Below W6.heap.size W6 wo := HB7.out.trans (hbw.mono HB7.out.size)
        have hbo : Below w.heap.size w wo := HB6.out.trans (hb67.mono HB6.out.size)
        have hso := HS.out wo hbo
        have hlen : (namesR R).length = O.length := by rw [HRO.out, List.length_map]
        have hkl := hpa.le
        by_cases hlt : k < O.length
        · obtain ⟨gr, og, rfl, hBr, hcell⟩ := rd_at idC 3 (fun _ => rfl) (by decide) (Rd.of_own (own_grows HOWN.out hbw)) (show k < (namesR R).length by omega)
          obtain ⟨e, he, hee⟩ := HMEM.out O[k] (List.getElem_mem hlt)
          have hid : e.id = O[k].2.id := by rw [← hee]; rfl
          have hnk : (namesR R)[k]'(by omega) = e.id := by
            rw [hid]
            have : (O.map (fun nd => nd.2.id))[k]'(by simpa using hlt) = O[k].2.id := by simp
            rw [← this]
            congr 1
          rw [hnk] at hcell
          have d0 : wo.cell? ⟨gr, og + k * 3, none⟩ = some (.int .i64 e.id.s.T) := hcell 0 _ rfl
          have d1 : wo.cell? ⟨gr, og + k * 3 + 1, none⟩ = some (.int .i64 e.id.s.R) := hcell 1 _ rfl
          have d2 : wo.cell? ⟨gr, og + k * 3 + 2, none⟩ = some (.int .i64 e.id.I) := hcell 2 _ rfl
          have i1 : (0 : Int) ≤ (k : Int) := by omega
          have i2 : (k : Int) < ((namesR R).length : Int) := by omega
          have f1 := hso.shc.2.1
          obtain ⟨_, e4, _, _⟩ := hso.enc he
          have hdz := HDP.out O[k] (List.getElem_mem hlt) e he hid
          obtain ⟨dz, hz⟩ : ∃ z, e.dp = z := ⟨_, rfl⟩
          rw [hz] at e4 hdz
          have hlk := hso.look e.id
          have hlk' := (hso.below (Below.refl _ wo).drew).look e.id
          rw [elF_some HH.out.uniq he] at hlk hlk'
          simp only [Option.getD_some, ptV] at hlk hlk'
          unfold idV at hlk hlk'
          have hyo : wo.heap[yb]? = _ := (hb67.block yb HYL.out.1).trans HY6.out
          have y4 : wo.cell? ⟨yb, 4, none⟩ = some (.int .i64 ((dq : Int) + 1)) := cell_of_row _ _ 4 _ _ _ hyo
          have hxl : bx < W6.heap.size := (Array.getElem?_eq_some_iff.1 HX6.out).1
          have hxo : wo.heap[bx]? = _ := (hb67.block bx hxl).trans HX6.out
          have x0 : wo.cell? ⟨bx, 0, none⟩ = some (.int .i64 x.s.T) := cell_of_row _ _ 0 _ _ _ hxo
          have x1 : wo.cell? ⟨bx, 1, none⟩ = some (.int .i64 x.s.R) := cell_of_row _ _ 1 _ _ _ hxo
          have x2 : wo.cell? ⟨bx, 2, none⟩ = some (.int .i64 x.I) := cell_of_row _ _ 2 _ _ _ hxo
          have hgl : gr < wo.heap.size := Nat.lt_of_lt_of_le hBr (Nat.le_refl _)
          have hcm0 := HCMP.out e.id x
          unfold idV at hcm0
          obtain ⟨cc, hcc⟩ : ∃ cc, e.id.cmp x = cc := ⟨_, rfl⟩
          have hlen' : O.length ≤ 5000 := by rw [← hlen, names_len]; omega
          have j3 : IntKind.i64.wrap ((k : Int) + 1) = ((k + 1 : Nat) : Int) := by rw [IntWalk.i64_in _ (by omega)]; omega
          have HPA := Lib.hid hpa
          have HBW := Lib.hid hbw
          have HDZ := Lib.hid hdz
          have HLT := Lib.hid hlt
          have HDQ2 := HDQ.out
          have HEI := Lib.hid hid
          have HEM := Lib.hid he
          have hbxl : bx < wo.heap.size := (Array.getElem?_eq_some_iff.1 hxo).1
          clear hso hbo hb67 hyo hxo hcell hpa hbw hee hnk hid he hz hdz hlen hkl
          rcases Nat.lt_trichotomy (dq + 1) dz with hc | hc | hc
          · have q1 : (dq : Int) + 1 < (dz : Int) := by omega
            have HR := Lib.hid (put_deeper idSTO HO.out HPA.out HLT.out (by rw [HDQ.out, ← HDZ.out]; exact hc))
            clear hc hcc hcm0
            go_wp2
            go_region
            go_wp2
            go_region
            go_wp2
            go_roundw
            case rel => exact ⟨k + 1, by go_num, HR.out, HBW.out.drew.drew⟩
            case measure => have := HLT.out; simp [intOf]; omega
          · subst hc
            have HBS := Lib.hid (put_beside idSTO HO.out HPA.out HLT.out (by rw [HDQ.out, ← HDZ.out]))
            have k4 : Below wo.heap.size wo wo.drew.drew.drew.drew := (Below.refl _ wo).drew.drew.drew.drew
            have HC := Lib.hid (fun W (hW : Below wo.heap.size wo W) => (show (W.cell? ⟨gr, og + k * 3, none⟩ = some (.int .i64 e.id.s.T) ∧ W.cell? ⟨gr, og + k * 3 + 1, none⟩ = some (.int .i64 e.id.s.R) ∧ W.cell? ⟨gr, og + k * 3 + 2, none⟩ = some (.int .i64 e.id.I)) ∧ W.cell? ⟨bx, 0, none⟩ = some (.int .i64 x.s.T) ∧ W.cell? ⟨bx, 1, none⟩ = some (.int .i64 x.s.R) ∧ W.cell? ⟨bx, 2, none⟩ = some (.int .i64 x.I) from
              ⟨⟨(hW.cell (p := ⟨gr, og + k * 3, none⟩) hgl).trans d0, (hW.cell (p := ⟨gr, og + k * 3 + 1, none⟩) hgl).trans d1, (hW.cell (p := ⟨gr, og + k * 3 + 2, none⟩) hgl).trans d2⟩, (hW.cell (p := ⟨bx, 0, none⟩) hbxl).trans x0, (hW.cell (p := ⟨bx, 1, none⟩) hbxl).trans x1, (hW.cell (p := ⟨bx, 2, none⟩) hbxl).trans x2⟩))
            rw [hcc] at hcm0
            have HCC := Lib.hid hcc
            have HCM := Lib.hid hcm0
            clear hcc hcm0
            by_cases hcn : cc < 0
            · have HR := Lib.hid (HBS.out.1 (by rw [← HEI.out]; exact (icmp_id_neg _ _).1 (by rw [HCC.out]; exact hcn)))
              go_wp2
              go_region
              go_wp2
              go_region
              go_wp2
              go_region
              go_wp2
              go_region_held3 (fun W => (W.cell? ⟨gr, og + k * 3, none⟩ = some (.int .i64 e.id.s.T) ∧ W.cell? ⟨gr, og + k * 3 + 1, none⟩ = some (.int .i64 e.id.s.R) ∧ W.cell? ⟨gr, og + k * 3 + 2, none⟩ = some (.int .i64 e.id.I)) ∧ W.cell? ⟨bx, 0, none⟩ = some (.int .i64 x.s.T) ∧ W.cell? ⟨bx, 1, none⟩ = some (.int .i64 x.s.R) ∧ W.cell? ⟨bx, 2, none⟩ = some (.int .i64 x.I))
                (first | exact HC.out _ (by assumption) | go_keep)
                (first | (go_at_call 68; refine (HCM.out _).mono ?_; rintro r w9 ⟨rfl, hg9⟩; have k5 := k4.trans (hg9.below.mono k4.size); clear hg9))
              go_wp2
              go_meet
              exact ⟨k, rfl, HR.out, HBW.out.trans (k5.mono HBW.out.size)⟩
            · have HR := Lib.hid (HBS.out.2 (by
                rcases idSTO.total (O[k].2.id) x with h1 | h1 | h1
                · exact absurd ((icmp_id_neg _ _).2 (HEI.out ▸ h1)) (by rw [HCC.out]; exact hcn)
                · exact absurd (HEI.out.trans h1) (HXN.out e (HEM.out))
                · exact h1))
              go_wp2
              go_region
              go_wp2
              go_region
              go_wp2
              go_region
              go_wp2
              go_region_held3 (fun W => (W.cell? ⟨gr, og + k * 3, none⟩ = some (.int .i64 e.id.s.T) ∧ W.cell? ⟨gr, og + k * 3 + 1, none⟩ = some (.int .i64 e.id.s.R) ∧ W.cell? ⟨gr, og + k * 3 + 2, none⟩ = some (.int .i64 e.id.I)) ∧ W.cell? ⟨bx, 0, none⟩ = some (.int .i64 x.s.T) ∧ W.cell? ⟨bx, 1, none⟩ = some (.int .i64 x.s.R) ∧ W.cell? ⟨bx, 2, none⟩ = some (.int .i64 x.I))
                (first | exact HC.out _ (by assumption) | go_keep)
                (first | (go_at_call 68; refine (HCM.out _).mono ?_; rintro r w9 ⟨rfl, hg9⟩; have k5 := k4.trans (hg9.below.mono k4.size); clear hg9))
              go_wp2
              go_roundw
              case rel => exact ⟨k + 1, by go_num, HR.out, HBW.out.trans (k5.mono HBW.out.size)⟩
              case measure => have := HLT.out; simp [intOf]; omega
          · have q1 : (dz : Int) < (dq : Int) + 1 := by omega
            have HR := Lib.hid (put_higher idSTO HO.out HPA.out HLT.out (by rw [HDQ.out, ← HDZ.out]; exact hc))
            clear hc hcc hcm0
            go_wp2
            go_region
            go_wp2
            go_region
            go_wp2
            go_region
            go_wp2
            go_meet
            exact ⟨k, rfl, HR.out, HBW.out.drew.drew.drew⟩
        · have HR := Lib.hid (put_last (lt := Id.Lt) hpa (by omega))
          have HBW := Lib.hid hbw
          obtain rfl : k = (namesR R).length := by omega
          clear hpa hbw hb67 hbo hso
          go_wp2
          go_meet
          exact ⟨_, rfl, HR.out, HBW.out⟩
    case rest =>
      obtain ⟨k, rfl, hpe, hbc⟩ := hcut
      have hb6c : Below W6.heap.size W6 wc := HB7.out.trans (hbc.mono HB7.out.size)
      have hbwc : Below w.heap.size w wc := HB6.out.trans (hb6c.mono HB6.out.size)
      have hc := HS.out wc hbwc
      have hcd := hc.below (Below.refl _ wc).drew
      obtain ⟨w8, u1, u2, u3⟩ := hcd.all.update (Keyed.of_law law26) Tryd.underlying88 (by unfold maxLen; omega) (ok26.val x) (objElem_mk ptV_inj (some yb))
      have hxc : wc.heap[bx]? = _ := (hb6c.block bx (Array.getElem?_eq_some_iff.1 HX6.out).1).trans HX6.out
      have hyc : wc.heap[yb]? = _ := (hb6c.block yb HYL.out.1).trans HY6.out
      have x0 : wc.cell? ⟨bx, 0, none⟩ = some (.int .i64 x.s.T) := cell_of_row _ _ 0 _ _ _ hxc
      have x1 : wc.cell? ⟨bx, 1, none⟩ = some (.int .i64 x.s.R) := cell_of_row _ _ 1 _ _ _ hxc
      have x2 : wc.cell? ⟨bx, 2, none⟩ = some (.int .i64 x.I) := cell_of_row _ _ 2 _ _ _ hxc
      have c1 := hc.shc.2.1
      have t8 : Touch (fun j => j = p.ma) wc w8 := ((Touch.refl _ wc).drew).grown u3 (fun j hj _ => by cases hj; rfl)
      simp only [ptV] at u1
      unfold idV at u1
      have hxl : kindOf wc bx = some (some 26) := kind_cell hxc
      have hbxma : ¬ (bx = p.ma) := ne_kind hxl (kind_map hc.all) (by decide)
      have hx8 : w8.heap[bx]? = _ := block_touch hxc t8 hbxma
      have hs8 : w8.heap[p.sh]? = _ := block_touch hc.cell t8 (ne_kind (kind_cell hc.cell) (kind_map hc.all) (by decide))
      have HSx := Lib.hid (fun W (t : Touch (fun j => j = p.mo ∨ (hdV (hd x.s)).ownBlock = some j) w8 W) => (show (W.cell? ⟨bx, 0, none⟩ = some (.int .i64 x.s.T) ∧ W.cell? ⟨bx, 1, none⟩ = some (.int .i64 x.s.R) ∧ W.cell? ⟨bx, 2, none⟩ = some (.int .i64 x.I)) ∧ W.cell? ⟨p.sh, 2, none⟩ = some (.map (some p.mo)) from by
        have hh := block_touch hx8 t (by
          rintro (h1 | h1)
          · exact ne_kind hxl (kind_map hc.of.map) (by decide) h1
          · have h2 := HH.out.lt (.inr (.inr (.inr (.inr (.inr (.inr ⟨x.s, h1⟩))))))
            have := HBX.out
            omega)
        have hh2 := block_touch hs8 t (by
          rintro (h1 | h1)
          · exact ne_kind (kind_cell hc.cell) (kind_map hc.of.map) (by decide) h1
          · exact ne_kind (kind_row (hc.of.rows _) h1) (kind_cell hc.cell) (by decide) rfl)
        exact ⟨⟨cell_of_row _ _ 0 _ _ _ hh, cell_of_row _ _ 1 _ _ _ hh, cell_of_row _ _ 2 _ _ _ hh⟩, cell_of_row _ _ 2 _ _ _ hh2⟩))
      have HBb := Lib.hid (fun W (t : Touch (fun j => j = p.mo ∨ (hdV (hd x.s)).ownBlock = some j) w8 W) => block_touch hx8 t (by
          rintro (h1 | h1)
          · exact ne_kind hxl (kind_map hc.of.map) (by decide) h1
          · have h2 := HH.out.lt (.inr (.inr (.inr (.inr (.inr (.inr ⟨x.s, h1⟩))))))
            have := HBX.out
            omega))
      obtain ⟨W10, hW10⟩ : ∃ W, (w8.alloc (.cells #[.int .i64 x.s.T, .int .i64 x.s.R, .int .i64 x.I] 26)).drew = W := ⟨_, rfl⟩
      have h10 : Below w8.heap.size w8 W10 := by rw [← hW10]; exact ((Below.refl _ w8).alloc (Nat.le_refl _) _).drew
      have hS10 : SRows W10 0 p.mo m Dr hd (ofs Es) := (hc.of.touch t8 (fun e1 => hc.maps.1 e1.symm) (fun y j hj => ne_kind (kind_row (hc.of.rows y) hj) (kind_map hc.all) (by decide))).below h10
      obtain ⟨st, v1, o1, g1, g2, g3, g4, g5⟩ := hS10.entry (by unfold maxLen; omega) x.s
      obtain ⟨i0, hi, hz0, hz1, hz2⟩ := info_parts info26
      obtain ⟨q8, hq8⟩ : ∃ z, w8.heap.size = z := ⟨_, rfl⟩
      have hnb10 : W10.heap[q8]? = some (.cells #[.int .i64 x.s.T, .int .i64 x.s.R, .int .i64 x.I] 26 (0, 0)) := by rw [← hW10, ← hq8]; exact heap_alloc_new w8 _
      have hmo8 : p.mo < w8.heap.size := Nat.lt_of_lt_of_le (hc.lt (.inr (.inr (.inl rfl)))) t8.size
      have hnb : v1.heap[q8]? = some (.cells #[.int .i64 x.s.T, .int .i64 x.s.R, .int .i64 x.I] 26 (0, 0)) := (g2.block q8 (Array.getElem?_eq_some_iff.1 hnb10).1 (fun e1 => by have := Option.some.inj e1; omega)).trans hnb10
      have hnews := World.news_of_block hnb
      have hrow : v1.ownsRow 0 26 3 (hdV (hd x.s)) (ofs Es x.s).length ((ofs Es x.s).flatMap idC) := (hS10.rows x.s).kept g2 (by
        cases hv : (hdV (hd x.s)).ownBlock with
        | none => exact .inl rfl
        | some g => exact .inr (fun e1 => hS10.ne hv (by cases e1; rfl)))
      have hofl : (ofs Es x.s).length ≤ 5000 := by
        unfold ofs
        rw [List.length_map]
        exact Nat.le_trans (List.length_filter_le _ _) hEl
      have hnemo : ∀ j, (hdV (hd x.s)).ownBlock = some j → j ≠ p.mo := fun j hj => hS10.ne hj
      have g1a : (Instr.mapEntry 89 (.map (some p.mo)) (stV x.s)).run Tryd.prog (w8.alloc (.cells #[.int .i64 x.s.T, .int .i64 x.s.R, .int .i64 x.I] 26)).drew = .ok (.tuple #[hdV (hd x.s), goInt st]) v1 := by rw [hW10]; exact g1
      have g1b : (Instr.mapEntry 89 (.map (some p.mo)) (stV x.s)).run Tryd.prog (w8.drew.alloc (.cells #[.int .i64 x.s.T, .int .i64 x.s.R, .int .i64 x.I] 26)) = .ok (.tuple #[hdV (hd x.s), goInt st]) v1 := g1a
      unfold stV goInt at g1a g1b
      have tk0 : Touch (fun j => j = p.mo ∨ (hdV (hd x.s)).ownBlock = some j) w8 w8.drew := (Touch.refl _ w8).drew
      have tk1 : Touch (fun j => j = p.mo ∨ (hdV (hd x.s)).ownBlock = some j) w8 (w8.drew.alloc (.cells #[.int .i64 x.s.T, .int .i64 x.s.R, .int .i64 x.I] 26)) := tk0.alloc _
      have tk2 : Touch (fun j => j = p.mo ∨ (hdV (hd x.s)).ownBlock = some j) w8 (w8.alloc (.cells #[.int .i64 x.s.T, .int .i64 x.s.R, .int .i64 x.I] 26)).drew := tk1
      have tk3 : Touch (fun j => j = p.mo ∨ (hdV (hd x.s)).ownBlock = some j) w8 v1 := (Below.touch h10 _).grown g2 (fun j hj _ => .inl (by cases hj; rfl))
      have HOL := Lib.hid hofl
      obtain ⟨no, hno⟩ : ∃ z, (ofs Es x.s).length = z := ⟨_, rfl⟩
      rw [hno] at hrow hofl
      have HNO := Lib.hid hno
      have HROW := Lib.hid hrow
      have HNEWS := Lib.hid hnews
      have HG3 := Lib.hid g3
      have HG2 := Lib.hid g2
      have HG5 := Lib.hid g5
      have HQ8 := Lib.hid hq8
      have HW10 := Lib.hid hW10
      have H10 := Lib.hid h10
      have HT8 := Lib.hid t8
      have HU2 := Lib.hid u2
      have HC := Lib.hid hc
      have HBWC := Lib.hid hbwc
      have HYC := Lib.hid hyc
      have HPE := Lib.hid hpe
      have HNM := Lib.hid hnemo
      have HMO8 := Lib.hid hmo8
      have HV1 := Lib.hid (show w8.heap.size ≤ v1.heap.size from Nat.le_trans h10.size g2.size)
      clear hxc hyc t8 u2 u3 hxl hx8 hs8 hW10 h10 hS10 g1 g2 g3 g4 g5 hnb10 hmo8 hnb hnews hrow hnemo hno hb6c hbwc hc hcd hpe hbc hbxma
      go_wp2
      go_region
      go_wp2
      go_region_held3 (fun W => (W.cell? ⟨bx, 0, none⟩ = some (.int .i64 x.s.T) ∧ W.cell? ⟨bx, 1, none⟩ = some (.int .i64 x.s.R) ∧ W.cell? ⟨bx, 2, none⟩ = some (.int .i64 x.I)) ∧ W.cell? ⟨p.sh, 2, none⟩ = some (.map (some p.mo)))
        (first | exact HSx.out _ (by assumption) | go_keep)
        (first | (refine step_append_lies _ (by rfl) _ _ _ (by rfl) 0 26 i0 _ 3 24 Tryd.underlying31 hi hz0 hz1 hz2 rfl (by omega) (hdV (hd x.s)) no _ (by rfl) HROW.out ⟨q8, 0, none⟩ 1 1 (idC x) (by rfl) (by rfl) HNEWS.out (enc_one_insId x) (by omega) (by unfold maxLen; omega) (by omega) (Nat.zero_le _) _ (by rfl) ?_
                  intro g cap W4 hown hgrow hat hgl
                  obtain ⟨u2w, s1, s2, s3⟩ := HG5.out W4 (some (g, no + 1, cap)) ((hgrow.block p.mo (Nat.lt_of_lt_of_le HMO8.out HV1.out) (fun e1 => HNM.out p.mo e1.symm rfl)).trans HG3.out)
                  have s1' : (Instr.entryStore 89 (.map (some p.mo)) (.int .i64 st) (.slice (some ⟨g, 0, none⟩) (no + 1) cap)).run Tryd.prog W4 = .ok () u2w := s1
                  have tk4 : Touch (fun j => j = p.mo ∨ (hdV (hd x.s)).ownBlock = some j) w8 W4 := tk3.grown hgrow (fun j hj _ => .inr hj)
                  have tk5 : Touch (fun j => j = p.mo ∨ (hdV (hd x.s)).ownBlock = some j) w8 u2w := tk4.grown s3 (fun j hj _ => .inl (by cases hj; rfl))
                  clear s1))
      have hyc' : wc.heap[yb]? = some (.cells (enCs ⟨yb, x, af, pc, dq + 1, 0⟩) 102 (0, 0)) := HYC.out
      have hfar : ∀ j, sfoot p Fs Es hd j → j ≠ yb := fun j hj e1 => by
        have h1 := HH.out.lt hj
        have h2 := HYL.out.2
        have h3 := HS1.out.2
        omega
      have hown' := hown
      rw [← HNO.out] at hown' s2
      obtain ⟨D9, Dr9, hd9, h9, T9, hh9⟩ := ShtIs.more HC.out ⟨yb, x, af, pc, dq + 1, 0⟩ hyc' hfar HXN.out HT8.out HU2.out H10.out HG2.out hgrow hown' hat s2 s3
      have hx9 : u2w.heap[bx]? = some (.cells #[.int .i64 x.s.T, .int .i64 x.s.R, .int .i64 x.I] 26 (0, 0)) := HBb.out u2w tk5
      obtain ⟨bb, hbb⟩ : ∃ b, seenV on ⟨yb, x, af, pc, dq + 1, 0⟩ = b := ⟨_, rfl⟩
      have HSEEN9 := Lib.hid (fun W (hW : Below u2w.heap.size u2w W) => seenS_any (h9.below hW) (e := ⟨yb, x, af, pc, dq + 1, 0⟩) (List.mem_append_right _ (List.mem_singleton.2 rfl)))
      have HPUT9 := Lib.hid (fun W (hW : Below u2w.heap.size u2w W) => put_any (h9.below hW).shelf (by omega) (k : Int) x bb)
      dsimp only at HSEEN9
      rw [hbb] at HSEEN9
      unfold idV at HSEEN9 HPUT9
      have HS15 := Lib.hid (fun W (t : Touch Fs u2w W) => (show (W.cell? ⟨bx, 0, none⟩ = some (.int .i64 x.s.T) ∧ W.cell? ⟨bx, 1, none⟩ = some (.int .i64 x.s.R) ∧ W.cell? ⟨bx, 2, none⟩ = some (.int .i64 x.I)) ∧ W.cell? ⟨p.sh, 0, none⟩ = some (.pointer (some ⟨p.rb, 0, none⟩)) from by
        have hh := block_touch hx9 t (fun hF => by
          have h1 := HH.out.lt (.inr (.inr (.inr (.inr (.inl hF)))))
          have := HBX.out
          omega)
        have hh2 := block_touch h9.cell t (fun hF => (h9.apart _ hF).1 rfl)
        exact ⟨⟨cell_of_row _ _ 0 _ _ _ hh, cell_of_row _ _ 1 _ _ _ hh, cell_of_row _ _ 2 _ _ _ hh⟩, cell_of_row _ _ 0 _ _ _ hh2⟩))
      have HFIN := Lib.hid (fun (W15 w16 : World) (F' : Nat → Prop) (hW : Below u2w.heap.size u2w W15) (hs : ShelfAt w16 F' p.rb (putV R (k : Int) x bb)) (ht : Touch Fs W15 w16) (hF : ∀ j, F' j → Fs j ∨ W15.heap.size ≤ j) => (show PutPo p Fs Es on R n m n2 hd Dn O pth x af pc w w16 from by
        have hkO : k ≤ R.length := by
          have h1 := HPE.out.1
          have h2 := congrArg List.length HRO.out
          rw [names_len, List.length_map] at h2
          omega
        have hxR : x ∉ namesR R := by
          rw [HRO.out]
          intro hx
          obtain ⟨nd, hnd, h1⟩ := List.mem_map.1 hx
          obtain ⟨e, he, h2⟩ := HMEM.out nd hnd
          exact HXN.out e he (by rw [← h1, ← h2]; rfl)
        have hpv : putV R (k : Int) x bb = putR R k x bb := by
          have he : errP R (k : Int) x = 0 := by
            unfold errP
            rw [if_neg (by omega), if_neg hxR]
          unfold putV
          rw [if_pos he]
          simp
        rw [hpv] at hs
        have hWs : u2w.heap.size ≤ W15.heap.size := hW.size
        have hsz : w.heap.size ≤ u2w.heap.size := Nat.le_trans HBWC.out.size T9.size
        refine ⟨k, yb, F', D9, Dr9, hd9, bb, HPE.out, ?_, ?_, ?_, fun j hj => ?_⟩
        · rw [HDQ.out]
          exact (h9.below hW).row ht hs hF
        · rw [← hbb]
          simp [seenV]
        · refine (Below.touch HBWC.out _).trans ((T9.mono (fun j _ hj => ?_)).trans ((Below.touch hW _).trans (ht.mono (fun j _ hj => .inr (.inr (.inr (.inr (.inl hj)))))) (fun _ _ h => h)) (fun _ _ h => h)) (fun _ _ h => h)
          rcases hj with hj | hj | hj
          · exact .inr (.inl hj)
          · exact .inr (.inr (.inl hj))
          · exact .inr (.inr (.inr (.inr (.inr (.inr ⟨x.s, hj⟩)))))
        · rcases hj with hj | hj | hj | hj | hj | ⟨a, ha, hj⟩ | ⟨s, hj⟩
          · exact .inl (.inl hj)
          · exact .inl (.inr (.inl hj))
          · exact .inl (.inr (.inr (.inl hj)))
          · exact .inl (.inr (.inr (.inr (.inl hj))))
          · rcases hF j hj with h1 | h1
            · exact .inl (.inr (.inr (.inr (.inr (.inl h1)))))
            · exact .inr (by omega)
          · rcases List.mem_append.1 ha with h1 | h1
            · exact .inl (.inr (.inr (.inr (.inr (.inr (.inl ⟨a, h1, hj⟩))))))
            · rw [List.mem_singleton.1 h1] at hj
              refine .inr ?_
              have h2 := HYL.out.2
              have h3 := HS1.out.2
              dsimp only at hj
              omega
          · rcases hh9 s j hj with h1 | h1
            · exact .inl (.inr (.inr (.inr (.inr (.inr (.inr ⟨s, h1⟩))))))
            · exact .inr (Nat.le_trans HBWC.out.size h1)))
      have kk1 : Below u2w.heap.size u2w u2w.drew := (Below.refl _ u2w).drew
      have tt1 : Touch Fs u2w u2w.drew := Below.touch kk1 _
      have tt0 : Touch Fs u2w u2w := Touch.refl _ _
      clear hown hown' hgrow hat hgl s1' s2 s3 tk0 tk1 tk2 tk3 tk4 tk5 hyc' hfar h9 T9 hh9 hx9 hbb
      go_wp2
      go_region_held3 (fun W => (W.cell? ⟨bx, 0, none⟩ = some (.int .i64 x.s.T) ∧ W.cell? ⟨bx, 1, none⟩ = some (.int .i64 x.s.R) ∧ W.cell? ⟨bx, 2, none⟩ = some (.int .i64 x.I)) ∧ W.cell? ⟨p.sh, 0, none⟩ = some (.pointer (some ⟨p.rb, 0, none⟩)))
        (first | exact HS15.out _ (by assumption) | go_keep)
        (first
          | (go_at_call 70; refine (HSEEN9.out _ kk1).mono ?_; rintro r w15 ⟨rfl, hg5⟩; have kk2 := kk1.trans (hg5.mono kk1.size); have tt2 : Touch Fs u2w w15 := Below.touch kk2 _; clear hg5)
          | (go_at_call 69; refine (HPUT9.out _ kk2).mono ?_; rintro r w16 ⟨rfl, F', hs6, ht6, hF6⟩; have tt3 : Touch Fs u2w w16 := tt2.trans ht6 (fun _ _ h => h)))
      have HF := Lib.hid (HFIN.out _ _ F' kk2 hs6 ht6 hF6)
      clear hs6 ht6 hF6
      go_wp2
      rw [Exit.noGoto_normal]
      go_end0
      exact ⟨⟨_, rfl⟩, HF.out⟩
  · have hafR : af ∈ namesR R := by
      rw [HRO.out]
      exact List.mem_map.2 ⟨_, List.getElem_mem hj, haf⟩
    have hpv : placeV R af = ((ixR R af : Int), (cntR (R.take (ixR R af)) : Int), 0) := by
      unfold placeV
      rw [if_pos hafR]
    have hst : PutAt Id.Lt O pth x (ixR R af + 1) := by
      rw [hpn]
      exact put_behind idSTO HO.out hj x
    obtain ⟨ix, hix⟩ : ∃ z, ixR R af = z := ⟨_, rfl⟩
    obtain ⟨cx, hcx⟩ : ∃ z : Nat, cntR (R.take (ixR R af)) = z := ⟨_, rfl⟩
    rw [hcx, hix] at hpv
    rw [hix] at hst
    have HST := Lib.hid hst
    have HPV := Lib.hid hpv
    have hixl : ix < R.length := by rw [← hix]; exact ixR_lt.2 hafR
    have hwi : IntKind.i64.wrap ((ix : Int) + 1) = ((ix + 1 : Nat) : Int) := by rw [IntWalk.i64_in _ (by omega)]; omega
    have hE2 : eq3 af.s.T af.s.R af.I 0 0 0 = false := by
      have h9 : af ≠ zeroI := by
        obtain ⟨e, he, h1⟩ := HMEM.out _ (List.getElem_mem hj)
        rw [← haf, ← h1]
        exact HNZ.out e he
      rw [decide_eq_false h9] at hE
      exact hE
    clear haf hp hafE hpn hst hpv hix hcx hafR hj
    go_enter Tryd.func48, Tryd.ntmps48
    go_wp2
    rw [HBA.out, HBX.out, HW0.out, HW1.out]
    go_step3
    go_wp2
    go_region_held3 (fun W => W.cell? ⟨ba, 0, none⟩ = some (.int .i64 af.s.T) ∧ W.cell? ⟨ba, 1, none⟩ = some (.int .i64 af.s.R) ∧ W.cell? ⟨ba, 2, none⟩ = some (.int .i64 af.I))
      (first | exact HC1.out _ (by assumption) | go_keep)
      (first | (go_at_call 66; refine (HDEEP.out _ k1).mono ?_; rintro r w5 ⟨rfl, hb5⟩; have k2 := k1.trans (hb5.mono k1.size); clear hb5))
    obtain ⟨W6, hW6⟩ : ∃ W, w5.alloc (.cells #[.string pc, .int .i64 af.s.T, .int .i64 af.s.R, .int .i64 af.I, .int .i64 ((dq : Int) + 1), .int .i64 0] 102) = W := ⟨_, rfl⟩
    have hb15 : Below W1.heap.size W1 W6 := by rw [← hW6]; exact k2.alloc k2.size _
    have hy6 : W6.heap[w5.heap.size]? = some (.cells #[.string pc, .int .i64 af.s.T, .int .i64 af.s.R, .int .i64 af.I, .int .i64 ((dq : Int) + 1), .int .i64 0] 102 (0, 0)) := by rw [← hW6]; exact heap_alloc_new w5 _
    obtain ⟨yb, hyb⟩ : ∃ z, w5.heap.size = z := ⟨_, rfl⟩
    have hyw : W1.heap.size ≤ yb := by rw [← hyb]; exact k2.size
    rw [hyb] at hy6
    have hyl : yb < W6.heap.size := (Array.getElem?_eq_some_iff.1 hy6).1
    have hx6 : W6.heap[bx]? = _ := (hb15.block bx (by have := HS1.out; have := HBX.out; omega)).trans HX1.out
    have ha6 : W6.heap[ba]? = _ := (hb15.block ba (by have := HS1.out; have := HBA.out; omega)).trans HA1.out
    have hb6 : Below w.heap.size w W6 := HB1.out.trans (hb15.mono HB1.out.size)
    have h6 := HS.out W6 hb6
    have c0 := h6.shc.1
    have e0 : W6.cell? ⟨ba, 0, none⟩ = some (.int .i64 af.s.T) := cell_of_row _ _ 0 _ _ _ ha6
    have e1 : W6.cell? ⟨ba, 1, none⟩ = some (.int .i64 af.s.R) := cell_of_row _ _ 1 _ _ _ ha6
    have e2 : W6.cell? ⟨ba, 2, none⟩ = some (.int .i64 af.I) := cell_of_row _ _ 2 _ _ _ ha6
    have HLIST := Lib.hid (fun W (hW : Below W6.heap.size W6 W) => list_at (h6.below hW).shelf (by omega) false)
    have HC6 := Lib.hid (fun W (hW : Below W6.heap.size W6 W) => (show (W.cell? ⟨ba, 0, none⟩ = some (.int .i64 af.s.T) ∧ W.cell? ⟨ba, 1, none⟩ = some (.int .i64 af.s.R) ∧ W.cell? ⟨ba, 2, none⟩ = some (.int .i64 af.I)) ∧ W.cell? ⟨p.sh, 0, none⟩ = some (.pointer (some ⟨p.rb, 0, none⟩)) from by
      have hh := (hW.block ba (Array.getElem?_eq_some_iff.1 ha6).1).trans ha6
      exact ⟨⟨cell_of_row _ _ 0 _ _ _ hh, cell_of_row _ _ 1 _ _ _ hh, cell_of_row _ _ 2 _ _ _ hh⟩, (h6.below hW).shc.1⟩))
    have HPL6 := Lib.hid (fun W (hW : Below W6.heap.size W6 W) => place_at (h6.below hW).shelf (by omega) af)
    unfold PlacePost idV at HPL6
    rw [hW6, hyb]
    have HX6 := Lib.hid hx6
    have HY6 := Lib.hid hy6
    have HB6 := Lib.hid hb6
    have HYL := Lib.hid (And.intro hyl hyw)
    clear hW6 hyb hb15 hx6 hy6 ha6 hb6 h6 k1 k2 hyl hyw
    have m1 : Below W6.heap.size W6 W6.drew := (Below.refl _ W6).drew
    go_wp2
    go_region_held3 (fun W => (W.cell? ⟨ba, 0, none⟩ = some (.int .i64 af.s.T) ∧ W.cell? ⟨ba, 1, none⟩ = some (.int .i64 af.s.R) ∧ W.cell? ⟨ba, 2, none⟩ = some (.int .i64 af.I)) ∧ W.cell? ⟨p.sh, 0, none⟩ = some (.pointer (some ⟨p.rb, 0, none⟩)))
      (first | exact HC6.out _ (by assumption) | go_keep)
      (first | (go_at_call 67; refine (HPL6.out _ m1).mono ?_; rintro r w67 ⟨rfl, hb67⟩; rw [HPV.out]; have m2 := m1.trans (hb67.mono m1.size); clear hb67))
    have c9 := (HC6.out _ m2).2
    clear c0 e0 e1 e2
    go_wp2_with (go_at_call 52; refine (HLIST.out _ m2).mono ?_; rintro r w7 ⟨v, rfl, hown, hb7⟩; rw [list_false] at hown; obtain ⟨A, c, rfl, hnc, hcm⟩ := (Rd.of_own hown).form; unfold maxLen at hcm; have HOWN := Lib.hid hown; have HB7 := Lib.hid (m2.trans (hb7.mono m2.size)); clear hown hb7)
    go_step3
    go_upto_block 0 with fail
    have hst7 : ∃ k : Nat, (.int .i64 ((ix : Int) + 1) : Value) = .int .i64 k ∧ PutAt Id.Lt O pth x k ∧ Below w7.heap.size w7 w7 := ⟨ix + 1, by go_num, HST.out, Below.refl _ _⟩
    have HST7 := Lib.hid hst7
    clear hst7 HST
    go_cut [9, 11] from 40 to 82 (fun s9 _ wx => ∃ k : Nat, s9 = .int .i64 k ∧ PutEnd Id.Lt O pth x k ∧ Below w7.heap.size w7 wx)
    case first =>
      go_wp2_with fail
      go_loopw [9, 11] (fun s9 _ wr => ∃ k : Nat, s9 = .int .i64 k ∧ PutAt Id.Lt O pth x k ∧ Below w7.heap.size w7 wr) (fun s9 _ _ => O.length - (intOf s9).toNat)
      case atStart => exact HST7.out
      case round =>
        clear HST7
        obtain ⟨k, rfl, hpa, hbw⟩ := hrel
        obtain ⟨wo, rfl⟩ : ∃ wo : World, wo = wr := ⟨_, rfl⟩
        have hb67 : Below W6.heap.size W6 wo := HB7.out.trans (hbw.mono HB7.out.size)
        have hbo : Below w.heap.size w wo := HB6.out.trans (hb67.mono HB6.out.size)
        have hso := HS.out wo hbo
        have hlen : (namesR R).length = O.length := by rw [HRO.out, List.length_map]
        have hkl := hpa.le
        by_cases hlt : k < O.length
        · obtain ⟨gr, og, rfl, hBr, hcell⟩ := rd_at idC 3 (fun _ => rfl) (by decide) (Rd.of_own (own_grows HOWN.out hbw)) (show k < (namesR R).length by omega)
          obtain ⟨e, he, hee⟩ := HMEM.out O[k] (List.getElem_mem hlt)
          have hid : e.id = O[k].2.id := by rw [← hee]; rfl
          have hnk : (namesR R)[k]'(by omega) = e.id := by
            rw [hid]
            have : (O.map (fun nd => nd.2.id))[k]'(by simpa using hlt) = O[k].2.id := by simp
            rw [← this]
            congr 1
          rw [hnk] at hcell
          have d0 : wo.cell? ⟨gr, og + k * 3, none⟩ = some (.int .i64 e.id.s.T) := hcell 0 _ rfl
          have d1 : wo.cell? ⟨gr, og + k * 3 + 1, none⟩ = some (.int .i64 e.id.s.R) := hcell 1 _ rfl
          have d2 : wo.cell? ⟨gr, og + k * 3 + 2, none⟩ = some (.int .i64 e.id.I) := hcell 2 _ rfl
          have i1 : (0 : Int) ≤ (k : Int) := by omega
          have i2 : (k : Int) < ((namesR R).length : Int) := by omega
          have f1 := hso.shc.2.1
          obtain ⟨_, e4, _, _⟩ := hso.enc he
          have hdz := HDP.out O[k] (List.getElem_mem hlt) e he hid
          obtain ⟨dz, hz⟩ : ∃ z, e.dp = z := ⟨_, rfl⟩
          rw [hz] at e4 hdz
          have hlk := hso.look e.id
          have hlk' := (hso.below (Below.refl _ wo).drew).look e.id
          rw [elF_some HH.out.uniq he] at hlk hlk'
          simp only [Option.getD_some, ptV] at hlk hlk'
          unfold idV at hlk hlk'
          have hyo : wo.heap[yb]? = _ := (hb67.block yb HYL.out.1).trans HY6.out
          have y4 : wo.cell? ⟨yb, 4, none⟩ = some (.int .i64 ((dq : Int) + 1)) := cell_of_row _ _ 4 _ _ _ hyo
          have hxl : bx < W6.heap.size := (Array.getElem?_eq_some_iff.1 HX6.out).1
          have hxo : wo.heap[bx]? = _ := (hb67.block bx hxl).trans HX6.out
          have x0 : wo.cell? ⟨bx, 0, none⟩ = some (.int .i64 x.s.T) := cell_of_row _ _ 0 _ _ _ hxo
          have x1 : wo.cell? ⟨bx, 1, none⟩ = some (.int .i64 x.s.R) := cell_of_row _ _ 1 _ _ _ hxo
          have x2 : wo.cell? ⟨bx, 2, none⟩ = some (.int .i64 x.I) := cell_of_row _ _ 2 _ _ _ hxo
          have hgl : gr < wo.heap.size := Nat.lt_of_lt_of_le hBr (Nat.le_refl _)
          have hcm0 := HCMP.out e.id x
          unfold idV at hcm0
          obtain ⟨cc, hcc⟩ : ∃ cc, e.id.cmp x = cc := ⟨_, rfl⟩
          have hlen' : O.length ≤ 5000 := by rw [← hlen, names_len]; omega
          have j3 : IntKind.i64.wrap ((k : Int) + 1) = ((k + 1 : Nat) : Int) := by rw [IntWalk.i64_in _ (by omega)]; omega
          have HPA := Lib.hid hpa
          have HBW := Lib.hid hbw
          have HDZ := Lib.hid hdz
          have HLT := Lib.hid hlt
          have HDQ2 := HDQ.out
          have HEI := Lib.hid hid
          have HEM := Lib.hid he
          have hbxl : bx < wo.heap.size := (Array.getElem?_eq_some_iff.1 hxo).1
          clear hso hbo hb67 hyo hxo hcell hpa hbw hee hnk hid he hz hdz hlen hkl
          rcases Nat.lt_trichotomy (dq + 1) dz with hc | hc | hc
          · have q1 : (dq : Int) + 1 < (dz : Int) := by omega
            have HR := Lib.hid (put_deeper idSTO HO.out HPA.out HLT.out (by rw [HDQ.out, ← HDZ.out]; exact hc))
            clear hc hcc hcm0
            go_wp2
            go_region
            go_wp2
            go_region
            go_wp2
            go_roundw
            case rel => exact ⟨k + 1, by go_num, HR.out, HBW.out.drew.drew⟩
            case measure => have := HLT.out; simp [intOf]; omega
          · subst hc
            have HBS := Lib.hid (put_beside idSTO HO.out HPA.out HLT.out (by rw [HDQ.out, ← HDZ.out]))
            have k4 : Below wo.heap.size wo wo.drew.drew.drew.drew := (Below.refl _ wo).drew.drew.drew.drew
            have HC := Lib.hid (fun W (hW : Below wo.heap.size wo W) => (show (W.cell? ⟨gr, og + k * 3, none⟩ = some (.int .i64 e.id.s.T) ∧ W.cell? ⟨gr, og + k * 3 + 1, none⟩ = some (.int .i64 e.id.s.R) ∧ W.cell? ⟨gr, og + k * 3 + 2, none⟩ = some (.int .i64 e.id.I)) ∧ W.cell? ⟨bx, 0, none⟩ = some (.int .i64 x.s.T) ∧ W.cell? ⟨bx, 1, none⟩ = some (.int .i64 x.s.R) ∧ W.cell? ⟨bx, 2, none⟩ = some (.int .i64 x.I) from
              ⟨⟨(hW.cell (p := ⟨gr, og + k * 3, none⟩) hgl).trans d0, (hW.cell (p := ⟨gr, og + k * 3 + 1, none⟩) hgl).trans d1, (hW.cell (p := ⟨gr, og + k * 3 + 2, none⟩) hgl).trans d2⟩, (hW.cell (p := ⟨bx, 0, none⟩) hbxl).trans x0, (hW.cell (p := ⟨bx, 1, none⟩) hbxl).trans x1, (hW.cell (p := ⟨bx, 2, none⟩) hbxl).trans x2⟩))
            rw [hcc] at hcm0
            have HCC := Lib.hid hcc
            have HCM := Lib.hid hcm0
            clear hcc hcm0
            by_cases hcn : cc < 0
            · have HR := Lib.hid (HBS.out.1 (by rw [← HEI.out]; exact (icmp_id_neg _ _).1 (by rw [HCC.out]; exact hcn)))
              go_wp2
              go_region
              go_wp2
              go_region
              go_wp2
              go_region
              go_wp2
              go_region_held3 (fun W => (W.cell? ⟨gr, og + k * 3, none⟩ = some (.int .i64 e.id.s.T) ∧ W.cell? ⟨gr, og + k * 3 + 1, none⟩ = some (.int .i64 e.id.s.R) ∧ W.cell? ⟨gr, og + k * 3 + 2, none⟩ = some (.int .i64 e.id.I)) ∧ W.cell? ⟨bx, 0, none⟩ = some (.int .i64 x.s.T) ∧ W.cell? ⟨bx, 1, none⟩ = some (.int .i64 x.s.R) ∧ W.cell? ⟨bx, 2, none⟩ = some (.int .i64 x.I))
                (first | exact HC.out _ (by assumption) | go_keep)
                (first | (go_at_call 68; refine (HCM.out _).mono ?_; rintro r w9 ⟨rfl, hg9⟩; have k5 := k4.trans (hg9.below.mono k4.size); clear hg9))
              go_wp2
              go_meet
              exact ⟨k, rfl, HR.out, HBW.out.trans (k5.mono HBW.out.size)⟩
            · have HR := Lib.hid (HBS.out.2 (by
                rcases idSTO.total (O[k].2.id) x with h1 | h1 | h1
                · exact absurd ((icmp_id_neg _ _).2 (HEI.out ▸ h1)) (by rw [HCC.out]; exact hcn)
                · exact absurd (HEI.out.trans h1) (HXN.out e (HEM.out))
                · exact h1))
              go_wp2
              go_region
              go_wp2
              go_region
              go_wp2
              go_region
              go_wp2
              go_region_held3 (fun W => (W.cell? ⟨gr, og + k * 3, none⟩ = some (.int .i64 e.id.s.T) ∧ W.cell? ⟨gr, og + k * 3 + 1, none⟩ = some (.int .i64 e.id.s.R) ∧ W.cell? ⟨gr, og + k * 3 + 2, none⟩ = some (.int .i64 e.id.I)) ∧ W.cell? ⟨bx, 0, none⟩ = some (.int .i64 x.s.T) ∧ W.cell? ⟨bx, 1, none⟩ = some (.int .i64 x.s.R) ∧ W.cell? ⟨bx, 2, none⟩ = some (.int .i64 x.I))
                (first | exact HC.out _ (by assumption) | go_keep)
                (first | (go_at_call 68; refine (HCM.out _).mono ?_; rintro r w9 ⟨rfl, hg9⟩; have k5 := k4.trans (hg9.below.mono k4.size); clear hg9))
              go_wp2
              go_roundw
              case rel => exact ⟨k + 1, by go_num, HR.out, HBW.out.trans (k5.mono HBW.out.size)⟩
              case measure => have := HLT.out; simp [intOf]; omega
          · have q1 : (dz : Int) < (dq : Int) + 1 := by omega
            have HR := Lib.hid (put_higher idSTO HO.out HPA.out HLT.out (by rw [HDQ.out, ← HDZ.out]; exact hc))
            clear hc hcc hcm0
            go_wp2
            go_region
            go_wp2
            go_region
            go_wp2
            go_region
            go_wp2
            go_meet
            exact ⟨k, rfl, HR.out, HBW.out.drew.drew.drew⟩
        · have HR := Lib.hid (put_last (lt := Id.Lt) hpa (by omega))
          have HBW := Lib.hid hbw
          obtain rfl : k = (namesR R).length := by omega
          clear hpa hbw hb67 hbo hso
          go_wp2
          go_meet
          exact ⟨_, rfl, HR.out, HBW.out⟩
    case rest =>
      obtain ⟨k, rfl, hpe, hbc⟩ := hcut
      have hb6c : Below W6.heap.size W6 wc := HB7.out.trans (hbc.mono HB7.out.size)
      have hbwc : Below w.heap.size w wc := HB6.out.trans (hb6c.mono HB6.out.size)
      have hc := HS.out wc hbwc
      have hcd := hc.below (Below.refl _ wc).drew
      obtain ⟨w8, u1, u2, u3⟩ := hcd.all.update (Keyed.of_law law26) Tryd.underlying88 (by unfold maxLen; omega) (ok26.val x) (objElem_mk ptV_inj (some yb))
      have hxc : wc.heap[bx]? = _ := (hb6c.block bx (Array.getElem?_eq_some_iff.1 HX6.out).1).trans HX6.out
      have hyc : wc.heap[yb]? = _ := (hb6c.block yb HYL.out.1).trans HY6.out
      have x0 : wc.cell? ⟨bx, 0, none⟩ = some (.int .i64 x.s.T) := cell_of_row _ _ 0 _ _ _ hxc
      have x1 : wc.cell? ⟨bx, 1, none⟩ = some (.int .i64 x.s.R) := cell_of_row _ _ 1 _ _ _ hxc
      have x2 : wc.cell? ⟨bx, 2, none⟩ = some (.int .i64 x.I) := cell_of_row _ _ 2 _ _ _ hxc
      have c1 := hc.shc.2.1
      have t8 : Touch (fun j => j = p.ma) wc w8 := ((Touch.refl _ wc).drew).grown u3 (fun j hj _ => by cases hj; rfl)
      simp only [ptV] at u1
      unfold idV at u1
      have hxl : kindOf wc bx = some (some 26) := kind_cell hxc
      have hbxma : ¬ (bx = p.ma) := ne_kind hxl (kind_map hc.all) (by decide)
      have hx8 : w8.heap[bx]? = _ := block_touch hxc t8 hbxma
      have hs8 : w8.heap[p.sh]? = _ := block_touch hc.cell t8 (ne_kind (kind_cell hc.cell) (kind_map hc.all) (by decide))
      have HSx := Lib.hid (fun W (t : Touch (fun j => j = p.mo ∨ (hdV (hd x.s)).ownBlock = some j) w8 W) => (show (W.cell? ⟨bx, 0, none⟩ = some (.int .i64 x.s.T) ∧ W.cell? ⟨bx, 1, none⟩ = some (.int .i64 x.s.R) ∧ W.cell? ⟨bx, 2, none⟩ = some (.int .i64 x.I)) ∧ W.cell? ⟨p.sh, 2, none⟩ = some (.map (some p.mo)) from by
        have hh := block_touch hx8 t (by
          rintro (h1 | h1)
          · exact ne_kind hxl (kind_map hc.of.map) (by decide) h1
          · have h2 := HH.out.lt (.inr (.inr (.inr (.inr (.inr (.inr ⟨x.s, h1⟩))))))
            have := HBX.out
            omega)
        have hh2 := block_touch hs8 t (by
          rintro (h1 | h1)
          · exact ne_kind (kind_cell hc.cell) (kind_map hc.of.map) (by decide) h1
          · exact ne_kind (kind_row (hc.of.rows _) h1) (kind_cell hc.cell) (by decide) rfl)
        exact ⟨⟨cell_of_row _ _ 0 _ _ _ hh, cell_of_row _ _ 1 _ _ _ hh, cell_of_row _ _ 2 _ _ _ hh⟩, cell_of_row _ _ 2 _ _ _ hh2⟩))
      have HBb := Lib.hid (fun W (t : Touch (fun j => j = p.mo ∨ (hdV (hd x.s)).ownBlock = some j) w8 W) => block_touch hx8 t (by
          rintro (h1 | h1)
          · exact ne_kind hxl (kind_map hc.of.map) (by decide) h1
          · have h2 := HH.out.lt (.inr (.inr (.inr (.inr (.inr (.inr ⟨x.s, h1⟩))))))
            have := HBX.out
            omega))
      obtain ⟨W10, hW10⟩ : ∃ W, (w8.alloc (.cells #[.int .i64 x.s.T, .int .i64 x.s.R, .int .i64 x.I] 26)).drew = W := ⟨_, rfl⟩
      have h10 : Below w8.heap.size w8 W10 := by rw [← hW10]; exact ((Below.refl _ w8).alloc (Nat.le_refl _) _).drew
      have hS10 : SRows W10 0 p.mo m Dr hd (ofs Es) := (hc.of.touch t8 (fun e1 => hc.maps.1 e1.symm) (fun y j hj => ne_kind (kind_row (hc.of.rows y) hj) (kind_map hc.all) (by decide))).below h10
      obtain ⟨st, v1, o1, g1, g2, g3, g4, g5⟩ := hS10.entry (by unfold maxLen; omega) x.s
      obtain ⟨i0, hi, hz0, hz1, hz2⟩ := info_parts info26
      obtain ⟨q8, hq8⟩ : ∃ z, w8.heap.size = z := ⟨_, rfl⟩
      have hnb10 : W10.heap[q8]? = some (.cells #[.int .i64 x.s.T, .int .i64 x.s.R, .int .i64 x.I] 26 (0, 0)) := by rw [← hW10, ← hq8]; exact heap_alloc_new w8 _
      have hmo8 : p.mo < w8.heap.size := Nat.lt_of_lt_of_le (hc.lt (.inr (.inr (.inl rfl)))) t8.size
      have hnb : v1.heap[q8]? = some (.cells #[.int .i64 x.s.T, .int .i64 x.s.R, .int .i64 x.I] 26 (0, 0)) := (g2.block q8 (Array.getElem?_eq_some_iff.1 hnb10).1 (fun e1 => by have := Option.some.inj e1; omega)).trans hnb10
      have hnews := World.news_of_block hnb
      have hrow : v1.ownsRow 0 26 3 (hdV (hd x.s)) (ofs Es x.s).length ((ofs Es x.s).flatMap idC) := (hS10.rows x.s).kept g2 (by
        cases hv : (hdV (hd x.s)).ownBlock with
        | none => exact .inl rfl
        | some g => exact .inr (fun e1 => hS10.ne hv (by cases e1; rfl)))
      have hofl : (ofs Es x.s).length ≤ 5000 := by
        unfold ofs
        rw [List.length_map]
        exact Nat.le_trans (List.length_filter_le _ _) hEl
      have hnemo : ∀ j, (hdV (hd x.s)).ownBlock = some j → j ≠ p.mo := fun j hj => hS10.ne hj
      have g1a : (Instr.mapEntry 89 (.map (some p.mo)) (stV x.s)).run Tryd.prog (w8.alloc (.cells #[.int .i64 x.s.T, .int .i64 x.s.R, .int .i64 x.I] 26)).drew = .ok (.tuple #[hdV (hd x.s), goInt st]) v1 := by rw [hW10]; exact g1
      have g1b : (Instr.mapEntry 89 (.map (some p.mo)) (stV x.s)).run Tryd.prog (w8.drew.alloc (.cells #[.int .i64 x.s.T, .int .i64 x.s.R, .int .i64 x.I] 26)) = .ok (.tuple #[hdV (hd x.s), goInt st]) v1 := g1a
      unfold stV goInt at g1a g1b
      have tk0 : Touch (fun j => j = p.mo ∨ (hdV (hd x.s)).ownBlock = some j) w8 w8.drew := (Touch.refl _ w8).drew
      have tk1 : Touch (fun j => j = p.mo ∨ (hdV (hd x.s)).ownBlock = some j) w8 (w8.drew.alloc (.cells #[.int .i64 x.s.T, .int .i64 x.s.R, .int .i64 x.I] 26)) := tk0.alloc _
      have tk2 : Touch (fun j => j = p.mo ∨ (hdV (hd x.s)).ownBlock = some j) w8 (w8.alloc (.cells #[.int .i64 x.s.T, .int .i64 x.s.R, .int .i64 x.I] 26)).drew := tk1
      have tk3 : Touch (fun j => j = p.mo ∨ (hdV (hd x.s)).ownBlock = some j) w8 v1 := (Below.touch h10 _).grown g2 (fun j hj _ => .inl (by cases hj; rfl))
      have HOL := Lib.hid hofl
      obtain ⟨no, hno⟩ : ∃ z, (ofs Es x.s).length = z := ⟨_, rfl⟩
      rw [hno] at hrow hofl
      have HNO := Lib.hid hno
      have HROW := Lib.hid hrow
      have HNEWS := Lib.hid hnews
      have HG3 := Lib.hid g3
      have HG2 := Lib.hid g2
      have HG5 := Lib.hid g5
      have HQ8 := Lib.hid hq8
      have HW10 := Lib.hid hW10
      have H10 := Lib.hid h10
      have HT8 := Lib.hid t8
      have HU2 := Lib.hid u2
      have HC := Lib.hid hc
      have HBWC := Lib.hid hbwc
      have HYC := Lib.hid hyc
      have HPE := Lib.hid hpe
      have HNM := Lib.hid hnemo
      have HMO8 := Lib.hid hmo8
      have HV1 := Lib.hid (show w8.heap.size ≤ v1.heap.size from Nat.le_trans h10.size g2.size)
      clear hxc hyc t8 u2 u3 hxl hx8 hs8 hW10 h10 hS10 g1 g2 g3 g4 g5 hnb10 hmo8 hnb hnews hrow hnemo hno hb6c hbwc hc hcd hpe hbc hbxma
      go_wp2
      go_region
      go_wp2
      go_region_held3 (fun W => (W.cell? ⟨bx, 0, none⟩ = some (.int .i64 x.s.T) ∧ W.cell? ⟨bx, 1, none⟩ = some (.int .i64 x.s.R) ∧ W.cell? ⟨bx, 2, none⟩ = some (.int .i64 x.I)) ∧ W.cell? ⟨p.sh, 2, none⟩ = some (.map (some p.mo)))
        (first | exact HSx.out _ (by assumption) | go_keep)
        (first | (refine step_append_lies _ (by rfl) _ _ _ (by rfl) 0 26 i0 _ 3 24 Tryd.underlying31 hi hz0 hz1 hz2 rfl (by omega) (hdV (hd x.s)) no _ (by rfl) HROW.out ⟨q8, 0, none⟩ 1 1 (idC x) (by rfl) (by rfl) HNEWS.out (enc_one_insId x) (by omega) (by unfold maxLen; omega) (by omega) (Nat.zero_le _) _ (by rfl) ?_
                  intro g cap W4 hown hgrow hat hgl
                  obtain ⟨u2w, s1, s2, s3⟩ := HG5.out W4 (some (g, no + 1, cap)) ((hgrow.block p.mo (Nat.lt_of_lt_of_le HMO8.out HV1.out) (fun e1 => HNM.out p.mo e1.symm rfl)).trans HG3.out)
                  have s1' : (Instr.entryStore 89 (.map (some p.mo)) (.int .i64 st) (.slice (some ⟨g, 0, none⟩) (no + 1) cap)).run Tryd.prog W4 = .ok () u2w := s1
                  have tk4 : Touch (fun j => j = p.mo ∨ (hdV (hd x.s)).ownBlock = some j) w8 W4 := tk3.grown hgrow (fun j hj _ => .inr hj)
                  have tk5 : Touch (fun j => j = p.mo ∨ (hdV (hd x.s)).ownBlock = some j) w8 u2w := tk4.grown s3 (fun j hj _ => .inl (by cases hj; rfl))
                  clear s1))
      have hyc' : wc.heap[yb]? = some (.cells (enCs ⟨yb, x, af, pc, dq + 1, 0⟩) 102 (0, 0)) := HYC.out
      have hfar : ∀ j, sfoot p Fs Es hd j → j ≠ yb := fun j hj e1 => by
        have h1 := HH.out.lt hj
        have h2 := HYL.out.2
        have h3 := HS1.out.2
        omega
      have hown' := hown
      rw [← HNO.out] at hown' s2
      obtain ⟨D9, Dr9, hd9, h9, T9, hh9⟩ := ShtIs.more HC.out ⟨yb, x, af, pc, dq + 1, 0⟩ hyc' hfar HXN.out HT8.out HU2.out H10.out HG2.out hgrow hown' hat s2 s3
      have hx9 : u2w.heap[bx]? = some (.cells #[.int .i64 x.s.T, .int .i64 x.s.R, .int .i64 x.I] 26 (0, 0)) := HBb.out u2w tk5
      obtain ⟨bb, hbb⟩ : ∃ b, seenV on ⟨yb, x, af, pc, dq + 1, 0⟩ = b := ⟨_, rfl⟩
      have HSEEN9 := Lib.hid (fun W (hW : Below u2w.heap.size u2w W) => seenS_any (h9.below hW) (e := ⟨yb, x, af, pc, dq + 1, 0⟩) (List.mem_append_right _ (List.mem_singleton.2 rfl)))
      have HPUT9 := Lib.hid (fun W (hW : Below u2w.heap.size u2w W) => put_any (h9.below hW).shelf (by omega) (k : Int) x bb)
      dsimp only at HSEEN9
      rw [hbb] at HSEEN9
      unfold idV at HSEEN9 HPUT9
      have HS15 := Lib.hid (fun W (t : Touch Fs u2w W) => (show (W.cell? ⟨bx, 0, none⟩ = some (.int .i64 x.s.T) ∧ W.cell? ⟨bx, 1, none⟩ = some (.int .i64 x.s.R) ∧ W.cell? ⟨bx, 2, none⟩ = some (.int .i64 x.I)) ∧ W.cell? ⟨p.sh, 0, none⟩ = some (.pointer (some ⟨p.rb, 0, none⟩)) from by
        have hh := block_touch hx9 t (fun hF => by
          have h1 := HH.out.lt (.inr (.inr (.inr (.inr (.inl hF)))))
          have := HBX.out
          omega)
        have hh2 := block_touch h9.cell t (fun hF => (h9.apart _ hF).1 rfl)
        exact ⟨⟨cell_of_row _ _ 0 _ _ _ hh, cell_of_row _ _ 1 _ _ _ hh, cell_of_row _ _ 2 _ _ _ hh⟩, cell_of_row _ _ 0 _ _ _ hh2⟩))
      have HFIN := Lib.hid (fun (W15 w16 : World) (F' : Nat → Prop) (hW : Below u2w.heap.size u2w W15) (hs : ShelfAt w16 F' p.rb (putV R (k : Int) x bb)) (ht : Touch Fs W15 w16) (hF : ∀ j, F' j → Fs j ∨ W15.heap.size ≤ j) => (show PutPo p Fs Es on R n m n2 hd Dn O pth x af pc w w16 from by
        have hkO : k ≤ R.length := by
          have h1 := HPE.out.1
          have h2 := congrArg List.length HRO.out
          rw [names_len, List.length_map] at h2
          omega
        have hxR : x ∉ namesR R := by
          rw [HRO.out]
          intro hx
          obtain ⟨nd, hnd, h1⟩ := List.mem_map.1 hx
          obtain ⟨e, he, h2⟩ := HMEM.out nd hnd
          exact HXN.out e he (by rw [← h1, ← h2]; rfl)
        have hpv : putV R (k : Int) x bb = putR R k x bb := by
          have he : errP R (k : Int) x = 0 := by
            unfold errP
            rw [if_neg (by omega), if_neg hxR]
          unfold putV
          rw [if_pos he]
          simp
        rw [hpv] at hs
        have hWs : u2w.heap.size ≤ W15.heap.size := hW.size
        have hsz : w.heap.size ≤ u2w.heap.size := Nat.le_trans HBWC.out.size T9.size
        refine ⟨k, yb, F', D9, Dr9, hd9, bb, HPE.out, ?_, ?_, ?_, fun j hj => ?_⟩
        · rw [HDQ.out]
          exact (h9.below hW).row ht hs hF
        · rw [← hbb]
          simp [seenV]
        · refine (Below.touch HBWC.out _).trans ((T9.mono (fun j _ hj => ?_)).trans ((Below.touch hW _).trans (ht.mono (fun j _ hj => .inr (.inr (.inr (.inr (.inl hj)))))) (fun _ _ h => h)) (fun _ _ h => h)) (fun _ _ h => h)
          rcases hj with hj | hj | hj
          · exact .inr (.inl hj)
          · exact .inr (.inr (.inl hj))
          · exact .inr (.inr (.inr (.inr (.inr (.inr ⟨x.s, hj⟩)))))
        · rcases hj with hj | hj | hj | hj | hj | ⟨a, ha, hj⟩ | ⟨s, hj⟩
          · exact .inl (.inl hj)
          · exact .inl (.inr (.inl hj))
          · exact .inl (.inr (.inr (.inl hj)))
          · exact .inl (.inr (.inr (.inr (.inl hj))))
          · rcases hF j hj with h1 | h1
            · exact .inl (.inr (.inr (.inr (.inr (.inl h1)))))
            · exact .inr (by omega)
          · rcases List.mem_append.1 ha with h1 | h1
            · exact .inl (.inr (.inr (.inr (.inr (.inr (.inl ⟨a, h1, hj⟩))))))
            · rw [List.mem_singleton.1 h1] at hj
              refine .inr ?_
              have h2 := HYL.out.2
              have h3 := HS1.out.2
              dsimp only at hj
              omega
          · rcases hh9 s j hj with h1 | h1
            · exact .inl (.inr (.inr (.inr (.inr (.inr (.inr ⟨s, h1⟩))))))
            · exact .inr (Nat.le_trans HBWC.out.size h1)))
      have kk1 : Below u2w.heap.size u2w u2w.drew := (Below.refl _ u2w).drew
      have tt1 : Touch Fs u2w u2w.drew := Below.touch kk1 _
      have tt0 : Touch Fs u2w u2w := Touch.refl _ _
      clear hown hown' hgrow hat hgl s1' s2 s3 tk0 tk1 tk2 tk3 tk4 tk5 hyc' hfar h9 T9 hh9 hx9 hbb
      go_wp2
      go_region_held3 (fun W => (W.cell? ⟨bx, 0, none⟩ = some (.int .i64 x.s.T) ∧ W.cell? ⟨bx, 1, none⟩ = some (.int .i64 x.s.R) ∧ W.cell? ⟨bx, 2, none⟩ = some (.int .i64 x.I)) ∧ W.cell? ⟨p.sh, 0, none⟩ = some (.pointer (some ⟨p.rb, 0, none⟩)))
        (first | exact HS15.out _ (by assumption) | go_keep)
        (first
          | (go_at_call 70; refine (HSEEN9.out _ kk1).mono ?_; rintro r w15 ⟨rfl, hg5⟩; have kk2 := kk1.trans (hg5.mono kk1.size); have tt2 : Touch Fs u2w w15 := Below.touch kk2 _; clear hg5)
          | (go_at_call 69; refine (HPUT9.out _ kk2).mono ?_; rintro r w16 ⟨rfl, F', hs6, ht6, hF6⟩; have tt3 : Touch Fs u2w w16 := tt2.trans ht6 (fun _ _ h => h)))
      have HF := Lib.hid (HFIN.out _ _ F' kk2 hs6 ht6 hF6)
      clear hs6 ht6 hF6
      go_wp2
      rw [Exit.noGoto_normal]
      go_end0
      exact ⟨⟨_, rfl⟩, HF.out⟩
end
end Go.Proofs.YtphapjbfaomblaaDoor
