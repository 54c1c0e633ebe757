/- Texts of this seat, one behind the other: GL, GN, GO, GP, GU. -/
import Derived.Test.YtphapjbfaomblaaDoorZb22
import Derived.Test.YtphapjbfaomblaaDoorZb3
import Derived.Test.YtphapjbfaomblaaDoorZb7
import Derived.BigQuiet
import Derived.Test.YtphapjbfaomblaaDoorZb10
/- What the law's awake asks, in plain words. -/
namespace Go.Proofs.YtphapjbfaomblaaDoor
open Go Go.RowKit
def mk (t r i : Int) (ht : I64 t := by decide) (hr : I64 r := by decide) (hi : I64 i := by decide) : Id := ⟨⟨t, r, ht, hr⟩, i, hi⟩
def tx (l : List UInt8) : ByteArray := ⟨l.toArray⟩
def aR : List Rn := [⟨zeroI, mk 1 1 0, tx [97, 98]⟩, ⟨mk 1 1 0, mk 2 2 0, tx [88]⟩, ⟨mk 1 1 0, mk 3 1 0, tx [89]⟩]
def eA : El := ⟨mk 1 1 0, zeroI, tx [97]⟩
def eB : El := ⟨mk 1 1 1, mk 1 1 0, tx [98]⟩
def eX : El := ⟨mk 2 2 0, mk 1 1 0, tx [88]⟩
def eY : El := ⟨mk 3 1 0, mk 1 1 0, tx [89]⟩
theorem pcs_two : pcs [97, 98] = [[97], [98]] := pcs_of (ps := [[97], [98]]) (AllP.cons (isP_ascii (by decide)) (AllP.cons (isP_ascii (by decide)) AllP.nil))
theorem pcs_X : pcs [88] = [[88]] := pcs_of (ps := [[88]]) (AllP.cons (isP_ascii (by decide)) AllP.nil)
theorem pcs_Y : pcs [89] = [[89]] := pcs_of (ps := [[89]]) (AllP.cons (isP_ascii (by decide)) AllP.nil)
theorem aFlat : flat aR = [eA, eB, eX, eY] := by
  show flatOf zeroI (mk 1 1 0) (pcs [97, 98]) ++ (flatOf (mk 1 1 0) (mk 2 2 0) (pcs [88]) ++ (flatOf (mk 1 1 0) (mk 3 1 0) (pcs [89]) ++ [])) = _
  rw [pcs_two, pcs_X, pcs_Y]
  rfl
def aO : List Nd := [([mk 1 1 0], eA), ([mk 1 1 0, mk 3 1 0], eY), ([mk 1 1 0, mk 2 2 0], eX), ([mk 1 1 0, mk 1 1 1], eB)]
theorem aCounts {e : El} (h : e ∈ [eA, eB, eX, eY]) : Counts (flat aR) e := by
  rw [aFlat]
  simp only [List.mem_cons, List.mem_nil_iff, or_false] at h
  rcases h with rfl | rfl | rfl | rfl <;> exact ⟨by unfold FirstK; rfl, by decide⟩
theorem aNodes : ∀ n ∈ aO, IsNode El.id El.af zeroI (Counts (flat aR)) n := by
  have hA : IsPath El.id El.af zeroI (Counts (flat aR)) [mk 1 1 0] (mk 1 1 0) := .step [] eA _ _ .root (aCounts (by simp)) rfl rfl
  intro n hn
  simp only [aO, List.mem_cons, List.mem_nil_iff, or_false] at hn
  rcases hn with rfl | rfl | rfl | rfl
  · exact ⟨aCounts (by simp), [], .root, rfl⟩
  · exact ⟨aCounts (by simp), [mk 1 1 0], hA, rfl⟩
  · exact ⟨aCounts (by simp), [mk 1 1 0], hA, rfl⟩
  · exact ⟨aCounts (by simp), [mk 1 1 0], hA, rfl⟩
theorem aOrder : OrderOf Id.Lt El.id El.af zeroI (Counts (flat aR)) aO := by
  refine ⟨?_, fun n => ⟨aNodes n, fun hn => ?_⟩⟩
  · simp [aO, PLt, Id.Lt, Stamp.Lt, mk]
  · have hm := counts_mem hn.1
    rw [aFlat] at hm
    have key : ∀ m ∈ aO, m.2 = n.2 → n ∈ aO := fun m hm e => by
      have := node_unique (counts_names (flat aR)) (aNodes m hm) hn (by rw [e])
      rw [← this]; exact hm
    simp only [List.mem_cons, List.mem_nil_iff, or_false] at hm
    rcases hm with h | h | h | h
    · exact key ([mk 1 1 0], eA) (by simp [aO]) h.symm
    · exact key ([mk 1 1 0, mk 1 1 1], eB) (by simp [aO]) h.symm
    · exact key ([mk 1 1 0, mk 2 2 0], eX) (by simp [aO]) h.symm
    · exact key ([mk 1 1 0, mk 3 1 0], eY) (by simp [aO]) h.symm
theorem aIs {O : List Nd} (h : OrderOf Id.Lt El.id El.af zeroI (Counts (flat aR)) O) : O = aO := order_unique idSTO h aOrder
theorem aText : ofL (txt (els aO)) = ⟨#[97, 89, 88, 98]⟩ := rfl
def aOn : List Stamp := [⟨1, 1, by decide, by decide⟩, ⟨2, 2, by decide, by decide⟩]
def aGone : List Id := [mk 1 1 1]
theorem aSeen : seenOf aOn aGone aO = [eA, eX] := by rfl
theorem aText2 : ofL (txt [eA, eX]) = ⟨#[97, 88]⟩ := rfl
theorem rd_new {w : World} {b n : Nat} {e : TypeId} {K : Nat} {xs : List Value} (h : w.heap[b]? = some (.cells xs.toArray e (0, 0))) (hl : xs.length = n * K) (hn : n ≤ maxLen) : Rd w w.heap.size K (.slice (some ⟨b, 0, none⟩) n n) n xs :=
  Rd.of_own (own_mk (base := 0) (R := []) hl (Nat.zero_le _) (Nat.le_refl _) hn (by simpa using h) (by simpa using hl))
theorem id3_at (t r i : Int) (w : World) : Calls Tryd.prog 39 #[.int .i64 t, .int .i64 r, .int .i64 i] w fun e w' => e = .returned (.agg #[.int .i64 t, .int .i64 r, .int .i64 i]) ∧ Grows w w' := by
  go_enter Tryd.func39, Tryd.ntmps39
  go_wp2
  refine bodyPost_ret (results_cell_row rfl _ _ w.heap.size 26 #[.int .i64 t, .int .i64 r, .int .i64 i] (0, 0) _ rfl (heap_alloc_new w _) Tryd.underlying26 rfl (by kernel_rfl)) rfl ⟨rfl, (Grows.refl w).alloc _⟩
end Go.Proofs.YtphapjbfaomblaaDoor
/- The law's awake, walked. -/
namespace Go.Proofs.YtphapjbfaomblaaDoor
open Go Go.RowKit
set_option maxRecDepth 100000 in
set_option maxHeartbeats 4000000 in
theorem awake_any (w : World) (hT : Tabs w) : Calls Tryd.prog 11 #[] w fun e w' => e = .returned (.bool true) ∧ Below w.heap.size w w' := by
  have HT := Lib.hid (fun W (hW : Below w.heap.size w W) => hT.below hW)
  clear hT
  have g0 : Grows w w := Grows.refl w
  go_enter Tryd.func11, Tryd.ntmps11
  go_wp2_with fail
  refine (id3_at _ _ _ _).mono ?_
  rintro e w1 ⟨rfl, h1⟩
  have g1 := g0.trans h1
  clear h1
  go_wp2_with fail
  refine (id3_at _ _ _ _).mono ?_
  rintro e w2 ⟨rfl, h2⟩
  have g2 := g1.trans h2
  clear h2
  go_wp2_with fail
  refine (id3_at _ _ _ _).mono ?_
  rintro e w3 ⟨rfl, h3⟩
  have g3 := g2.trans h3
  clear h3
  go_wp2_with fail
  refine (id3_at _ _ _ _).mono ?_
  rintro e w4 ⟨rfl, h4⟩
  have g4 := g3.trans h4
  clear h4
  go_wp2_with fail
  refine (id3_at _ _ _ _).mono ?_
  rintro e w5 ⟨rfl, h5⟩
  have g5 := g4.trans h5
  clear h5
  have hb5 : Below w.heap.size w w5 := g5.below
  obtain ⟨w6, hw6⟩ : ∃ W, w5.alloc (.cells (aR.flatMap rnC).toArray 28) = W := ⟨_, rfl⟩
  have hh6 : w6.heap[w5.heap.size]? = some (.cells (aR.flatMap rnC).toArray 28 (0, 0)) := by rw [← hw6]; exact heap_alloc_new w5 _
  have hb6 : Below w.heap.size w w6 := by rw [← hw6]; exact hb5.alloc hb5.size _
  have HRn := Lib.hid (rd_new (n := 3) (K := 7) hh6 rfl (by unfold maxLen; omega))
  have HB6 := Lib.hid hb6
  have HW6 := Lib.hid hw6
  have hfl : (flat aR).length ≤ 100000 := by rw [aFlat]; decide
  have htx : ∀ r ∈ aR, r.tx.size ≤ 100000 := by intro r hr; simp only [aR, List.mem_cons, List.mem_nil_iff, or_false] at hr; rcases hr with rfl | rfl | rfl <;> decide
  have HOr := Lib.hid (order_any aR _ 3 3 w6.heap.size w6 HRn.out (Nat.le_refl _) (HT.out w6 hb6) hfl htx)
  have HFL := Lib.hid hfl
  have HTX := Lib.hid htx
  clear hw6 hh6 hb6 hb5 g0 g1 g2 g3 g4 g5 hfl htx
  go_wp2_with fail
  rw [show w5.alloc (.cells #[.int .i64 0, .int .i64 0, .int .i64 0, .int .i64 1, .int .i64 1, .int .i64 0, .string { data := #[97, 98] }, .int .i64 1, .int .i64 1, .int .i64 0, .int .i64 2, .int .i64 2, .int .i64 0, .string { data := #[88] }, .int .i64 1, .int .i64 1, .int .i64 0, .int .i64 3, .int .i64 1, .int .i64 0, .string { data := #[89] }] 28) = w6 from HW6.out]
  refine HOr.out.mono ?_
  rintro e w7 ⟨O, v, hO, rfl, hv, _, hb7⟩
  obtain rfl := aIs hO
  have hl : aO.length = 4 := rfl
  rw [hl] at hv
  rw [aText]
  obtain ⟨Av, cv, rfl, _, _⟩ := (Rd.of_own hv).form
  have HB7 := Lib.hid (HB6.out.trans (hb7.mono HB6.out.size))
  have HR7 := Lib.hid (fun W (hW : Below w7.heap.size w7 W) => (HRn.out.below' (hb7.trans (hW.mono hb7.size)) (Nat.le_refl _)))
  have HS7 := Lib.hid hb7.size
  clear hO hv hb7 hl HOr HRn HW6
  go_wp2_with fail
  refine (id3_at _ _ _ _).mono ?_
  rintro e w8 ⟨rfl, h8⟩
  have hs7 : (w7.alloc (.cells (aOn.flatMap stC).toArray 24)).heap[w7.heap.size]? = some (.cells (aOn.flatMap stC).toArray 24 (0, 0)) := heap_alloc_new w7 _
  have hs8 : w8.heap[w7.heap.size]? = some (.cells (aOn.flatMap stC).toArray 24 (0, 0)) := (h8.below.block _ (by simp)).trans hs7
  have hb8 : Below w7.heap.size w7 w8 := ((Below.refl _ w7).alloc (Nat.le_refl _) _).trans (h8.below.mono (by simp))
  obtain ⟨w9, hw9⟩ : ∃ W, w8.alloc (.cells (aGone.flatMap idC).toArray 26) = W := ⟨_, rfl⟩
  have hh9 : w9.heap[w8.heap.size]? = some (.cells (aGone.flatMap idC).toArray 26 (0, 0)) := by rw [← hw9]; exact heap_alloc_new w8 _
  have hs9 : w9.heap[w7.heap.size]? = some (.cells (aOn.flatMap stC).toArray 24 (0, 0)) := by rw [← hw9]; exact (Below.heap_alloc _ _ _ (Array.getElem?_eq_some_iff.1 hs8).1).trans hs8
  have hb9 : Below w7.heap.size w7 w9 := by rw [← hw9]; exact hb8.alloc hb8.size _
  have HSe := Lib.hid (seen_any aR aOn aGone _ _ _ 3 3 2 2 1 1 w9.heap.size w9 ((HR7.out w9 hb9).more (Nat.le_trans HS7.out hb9.size)) (rd_new (n := 2) (K := 2) hs9 rfl (by unfold maxLen; omega)) (rd_new (n := 1) (K := 3) hh9 rfl (by unfold maxLen; omega)) (Nat.le_refl _) (HT.out w9 (HB7.out.trans (hb9.mono HB7.out.size))) HFL.out HTX.out (by decide) (by decide))
  have HB9 := Lib.hid (HB7.out.trans (hb9.mono HB7.out.size))
  have HW9 := Lib.hid hw9
  clear hs7 hs8 hb8 hh9 hs9 hb9 h8 hw9
  go_wp2_with fail
  rw [show w8.alloc (.cells #[.int .i64 1, .int .i64 1, .int .i64 1] 26) = w9 from HW9.out]
  refine HSe.out.mono ?_
  rintro e w10 ⟨O, v, hO, rfl, hv, _, hb10⟩
  obtain rfl := aIs hO
  rw [aSeen] at hv ⊢
  rw [aText2]
  have hl : [eA, eX].length = 2 := rfl
  rw [hl] at hv
  obtain ⟨Aw, cw, rfl, _, _⟩ := (Rd.of_own hv).form
  have HBf := Lib.hid (HB9.out.trans (hb10.mono HB9.out.size))
  clear hO hv hb10 hl HSe HW9
  go_wp2
  go_ret
  exact ⟨rfl, HBf.out⟩
end Go.Proofs.YtphapjbfaomblaaDoor
/- The laws' at, and Few. -/
namespace Go.Proofs.YtphapjbfaomblaaDoor
open Go Go.RowKit
def AtIs (L : List Id) (x : Id) (r : Int) : Prop := (∃ (k : Nat) (h : k < L.length), r = (k : Int) ∧ L[k] = x ∧ x ∉ L.take k) ∨ (r = -1 ∧ x ∉ L)
def AtRel (L : List Id) (x : Id) (W0 : World) (i : Value) (wr : World) : Prop := ∃ k : Nat, k ≤ L.length ∧ i = .int .i64 k ∧ x ∉ L.take k ∧ ∃ q, wr = W0.drewN q
theorem eq3_id (a b : Id) : eq3 a.s.T a.s.R a.I b.s.T b.s.R b.I = decide (a = b) := eq3_iff a b
set_option maxHeartbeats 2000000 in
theorem at_any (L : List Id) (x : Id) (A : Option Addr) (n c B : Nat) (w : World) (hR : Rd w B 3 (.slice A n c) n (L.flatMap idC)) (hB : B ≤ w.heap.size) :
    Calls Tryd.prog 14 #[.slice A n c, idV x] w fun e w' => (∃ r, e = .returned (.int .i64 r) ∧ AtIs L x r) ∧ Grows w w' := by
  obtain ⟨_, hnc, hcm⟩ := hR.len
  unfold maxLen at hcm
  obtain rfl := len_of idC 3 (fun _ => rfl) (by decide) hR.1
  have HR := Lib.hid hR
  clear hR
  unfold idV
  go_enter Tryd.func14, Tryd.ntmps14
  go_wp2
  obtain ⟨W0, hW0⟩ : ∃ W, w.alloc (.cells #[.int .i64 x.s.T, .int .i64 x.s.R, .int .i64 x.I] 26) = W := ⟨_, rfl⟩
  have hg : Grows w W0 := by rw [← hW0]; exact (Grows.refl w).alloc _
  have hb1 : W0.heap[w.heap.size]? = some (.cells #[.int .i64 x.s.T, .int .i64 x.s.R, .int .i64 x.I] 26 (0, 0)) := by rw [← hW0]; exact heap_alloc_new w _
  rw [hW0]
  have c0 : W0.cell? ⟨w.heap.size, 0, none⟩ = some (.int .i64 x.s.T) := cell_of_row _ _ 0 _ _ _ hb1
  have c1 : W0.cell? ⟨w.heap.size, 1, none⟩ = some (.int .i64 x.s.R) := cell_of_row _ _ 1 _ _ _ hb1
  have c2 : W0.cell? ⟨w.heap.size, 2, none⟩ = some (.int .i64 x.I) := cell_of_row _ _ 2 _ _ _ hb1
  have HR2 := Lib.hid (HR.out.below' hg.below hB)
  clear hW0 hb1 HR
  go_loopw [5] (fun i wr => AtRel L x W0 i wr) (fun i _ => L.length - (intOf i).toNat)
  case atStart => exact ⟨0, Nat.zero_le _, rfl, by simp, 0, rfl⟩
  case round =>
    obtain ⟨k, hk, rfl, hno, q, rfl⟩ := hrel
    by_cases hlt : k < L.length
    · obtain ⟨b, o, rfl, hB', hcell⟩ := rd_at idC 3 (fun _ => rfl) (by decide) HR2.out hlt
      have htk := List.take_succ_eq_append_getElem hlt
      obtain ⟨p, hp⟩ : ∃ p, L[k] = p := ⟨_, rfl⟩
      have HPe := Lib.hid hp
      rw [hp] at hcell htk
      have HTK := Lib.hid htk
      have HNO := Lib.hid hno
      have d0 : W0.cell? ⟨b, o + k * 3, none⟩ = some (.int .i64 p.s.T) := hcell 0 _ rfl
      have d1 : W0.cell? ⟨b, o + k * 3 + 1, none⟩ = some (.int .i64 p.s.R) := hcell 1 _ rfl
      have d2 : W0.cell? ⟨b, o + k * 3 + 2, none⟩ = some (.int .i64 p.I) := hcell 2 _ rfl
      have i1 : (0 : Int) ≤ (k : Int) := by omega
      have i2 : (k : Int) < (L.length : Int) := by omega
      have hq := eql26
      have hgd := gd26
      have hE := eq3_id p x
      clear hcell hp htk hno
      by_cases hpx : p = x
      · rw [decide_eq_true hpx] at hE
        have HPX := Lib.hid hpx
        clear hpx
        go_wp2
        go_quiet (fail)
        go_wp2
        go_ret
        exact ⟨⟨_, rfl, .inl ⟨k, hlt, rfl, by rw [HPe.out]; exact HPX.out, HNO.out⟩⟩, hg.trans (((Grows.refl W0).drewN _).drewN _)⟩
      · rw [decide_eq_false hpx] at hE
        have HPX := Lib.hid hpx
        clear hpx
        go_wp2
        go_quiet (fail)
        go_wp2
        go_roundw
        case rel =>
          refine ⟨k + 1, by omega, by go_num, ?_, _, rfl⟩
          rw [HTK.out, List.mem_append, List.mem_singleton]
          rintro (h | h)
          · exact HNO.out h
          · exact HPX.out h.symm
        case measure => simp [intOf]; omega
    · obtain rfl : k = L.length := by omega
      rw [List.take_length] at hno
      have HNO := Lib.hid hno
      clear hno hk
      go_wp2
      go_ret
      exact ⟨⟨_, rfl, .inr ⟨rfl, HNO.out⟩⟩, hg.trans ((Grows.refl W0).drewN _)⟩
def FwRel (R : List Rn) (m : Nat) (w : World) (i : Value) (wr : World) : Prop := ∃ k : Nat, k ≤ R.length ∧ k ≤ m + 1 ∧ i = .int .i64 k ∧ (∀ r ∈ R.take k, r.tx.size ≤ 40) ∧ wr = w
set_option maxRecDepth 100000 in
set_option maxHeartbeats 2000000 in
theorem few_any (R : List Rn) (m : Nat) (hm : m ≤ 1000) (A : Option Addr) (n c B : Nat) (w : World) (hR : Rd w B 7 (.slice A n c) n (R.flatMap rnC)) :
    Calls Tryd.prog 12 #[.slice A n c, .int .i64 (m : Int)] w fun e w' => (∃ b, e = .returned (.bool b) ∧ (b = true → R.length ≤ m ∧ ∀ r ∈ R, r.tx.size ≤ 40)) ∧ w' = w := by
  obtain ⟨_, hnc, hcm⟩ := hR.len
  unfold maxLen at hcm
  obtain rfl := len_of rnC 7 (fun _ => rfl) (by decide) hR.1
  have HR := Lib.hid hR
  clear hR
  go_enter Tryd.func12, Tryd.ntmps12
  go_wp2
  go_loopw [5] (fun i wr => FwRel R m w i wr) (fun i _ => R.length - (intOf i).toNat)
  case atStart => exact ⟨0, Nat.zero_le _, Nat.zero_le _, rfl, by simp, rfl⟩
  case round =>
    obtain ⟨k, hk, hkm, rfl, hno, hwr⟩ := hrel
    subst hwr
    obtain ⟨wo, rfl⟩ : ∃ wo : World, wo = wr := ⟨_, rfl⟩
    have HNO := Lib.hid hno
    clear hno
    by_cases hlt : k < R.length
    · by_cases hlm : k ≤ m
      · obtain ⟨b, o, rfl, hB', hcell⟩ := rd_at rnC 7 (fun _ => rfl) (by decide) HR.out hlt
        have htk := List.take_succ_eq_append_getElem hlt
        obtain ⟨r, hr⟩ : ∃ r, R[k] = r := ⟨_, rfl⟩
        rw [hr] at hcell htk
        have HTK := Lib.hid htk
        have d6 : wo.cell? ⟨b, o + k * 7 + 6, none⟩ = some (.string r.tx) := hcell 6 _ rfl
        have i1 : (0 : Int) ≤ (k : Int) := by omega
        have i2 : (k : Int) < (R.length : Int) := by omega
        have i3 : (k : Int) ≤ (m : Int) := by omega
        clear hcell hr htk
        by_cases h40 : r.tx.size ≤ 40
        · have h4 : ((r.tx.size : Nat) : Int) ≤ 40 := by omega
          go_wp2
          go_roundw
          case rel =>
            refine ⟨k + 1, by omega, by omega, by go_num, ?_, rfl⟩
            rw [HTK.out]
            intro x hx
            rcases List.mem_append.1 hx with hx | hx
            · exact HNO.out x hx
            · rw [List.mem_singleton] at hx; rw [hx]; exact h40
          case measure => simp [intOf]; omega
        · have h4 : (40 : Int) < ((r.tx.size : Nat) : Int) := by omega
          go_wp2
          go_ret
          exact ⟨⟨_, rfl, fun h => by cases h⟩, rfl⟩
      · have i3 : (m : Int) < (k : Int) := by omega
        have i4 : (m : Int) < (R.length : Int) := by omega
        go_wp2
        go_ret
        exact ⟨⟨_, rfl, fun h => by simp at h; omega⟩, rfl⟩
    · obtain rfl : k = R.length := by omega
      rw [List.take_length] at HNO
      go_wp2
      go_ret
      exact ⟨⟨_, rfl, fun h => ⟨by simpa using h, HNO.out⟩⟩, rfl⟩
end Go.Proofs.YtphapjbfaomblaaDoor
/- The law WeaveKeeps, walked. -/
namespace Go.Proofs.YtphapjbfaomblaaDoor
open Go Go.RowKit
theorem counts_more {F G : List El} {e : El} (h : Counts F e) : Counts (F ++ G) e := by
  refine ⟨?_, h.2⟩
  have := h.1
  unfold FirstK at *
  rw [List.find?_append, this]
  rfl
def ids (O : List Nd) : List Id := (els O).map El.id
theorem ids_len (O : List Nd) : (ids O).length = O.length := by simp [ids, els]
theorem ids_get (O : List Nd) {k : Nat} (h : k < (ids O).length) : (ids O)[k] = (O[k]'(by rw [← ids_len]; exact h)).2.id := by simp [ids, els]
abbrev Ord (F : List El) (O : List Nd) : Prop := OrderOf Id.Lt El.id El.af zeroI (Counts F) O
theorem at_node {F : List El} {O : List Nd} (h : Ord F O) {n : Nd} (hn : n ∈ O) {r : Int} (hr : AtIs (ids O) n.2.id r) : ∃ (k : Nat) (hk : k < O.length), r = (k : Int) ∧ O[k] = n := by
  rcases hr with ⟨k, hk, rfl, he, _⟩ | ⟨_, hno⟩
  · have hk' : k < O.length := by rw [← ids_len]; exact hk
    refine ⟨k, hk', rfl, ?_⟩
    rw [ids_get] at he
    exact node_unique (counts_names F) ((h.2 _).1 (List.getElem_mem hk')) ((h.2 _).1 hn) he
  · exact absurd (List.mem_map.2 ⟨n.2, List.mem_map.2 ⟨n, hn, rfl⟩, rfl⟩) hno
def LastIs (O1 O2 : List Nd) (i : Nat) (z : Int) : Prop := (i = 0 ∧ z = -1) ∨ ∃ (k : Nat) (hk : k < O2.length) (hi : 0 < i ∧ i ≤ O1.length), z = (k : Int) ∧ O2[k] = O1[i - 1]'(by omega)
theorem keeps_step {F G : List El} {O1 O2 : List Nd} (h1 : Ord F O1) (h2 : Ord (F ++ G) O2) {i : Nat} (hi : i < O1.length) {z r : Int} (hz : LastIs O1 O2 i z) (hr : AtIs (ids O2) O1[i].2.id r) : z < r ∧ LastIs O1 O2 (i + 1) r := by
  have hn : O1[i] ∈ O2 := (h2.2 _).2 (node_mono (fun e he => counts_more he) ((h1.2 _).1 (List.getElem_mem hi)))
  obtain ⟨k, hk, rfl, he⟩ := at_node h2 hn hr
  refine ⟨?_, .inr ⟨k, hk, by omega, rfl, by rw [he]; rfl⟩⟩
  rcases hz with ⟨_, rfl⟩ | ⟨k', hk', hi', rfl, he'⟩
  · omega
  · have hlt := List.pairwise_iff_getElem.1 h1.1 (i - 1) i (by omega) hi (by omega)
    rw [← he, ← he'] at hlt
    have := order_idx idSTO h2.1 hk' hk hlt
    omega
theorem flat_size : ∀ (R : List Rn) (n : Nat), (∀ r ∈ R, r.tx.size ≤ n) → (flat R).length ≤ R.length * n
  | [], _, _ => by simp [flat]
  | r :: R, n, h => by
    have h1 := flat_size R n (fun x hx => h x (List.mem_cons_of_mem _ hx))
    have h2 := h r (by simp)
    have h3 : flat (r :: R) = flatOf r.af r.el (pcs r.tx.data.toList) ++ flat R := by simp [flat]
    have h4 := pcs_le r.tx.data.toList
    have h5 : r.tx.data.toList.length = r.tx.size := (Lib.size_eq r.tx).symm
    rw [h3, List.length_append, flatOf_len, List.length_cons, Nat.add_mul]
    omega
def KeRel (O1 O2 : List Nd) (w4 : World) (last i : Value) (wr : World) : Prop := ∃ (k : Nat) (z : Int), k ≤ O1.length ∧ i = .int .i64 k ∧ last = .int .i64 z ∧ LastIs O1 O2 k z ∧ Below w4.heap.size w4 wr
def rnV (r : Rn) : Value := .agg #[.int .i64 r.af.s.T, .int .i64 r.af.s.R, .int .i64 r.af.I, .int .i64 r.el.s.T, .int .i64 r.el.s.R, .int .i64 r.el.I, .string r.tx]
theorem info28 : (Tryd.prog.info? 28).map (fun i => (i.zero, i.size, i.bytes)) = some (some (.agg #[.int .i64 0, .int .i64 0, .int .i64 0, .int .i64 0, .int .i64 0, .int .i64 0, .string ⟨#[]⟩]), 7, 64) := by kernel_rfl
set_option maxRecDepth 100000 in
set_option maxHeartbeats 8000000 in
theorem keeps_walk (R : List Rn) (more : Rn) (A : Option Addr) (n c : Nat) (w : World) (hR : Rd w w.heap.size 7 (.slice A n c) n (R.flatMap rnC)) (hms : more.tx.size ≤ 9223372036854775807) (hT : Tabs w) :
    Calls Tryd.prog 3 #[.slice A n c, rnV more] w fun e w' => e = .returned (.bool true) ∧ Below w.heap.size w w' := by
  have hal := len_of rnC 7 (fun _ => rfl) (by decide) hR.1
  subst hal
  have hl1 := hR.len
  unfold maxLen at hl1
  obtain ⟨j0, gi, gz0, gz1, gz2⟩ := info_parts info28
  obtain ⟨wb, hwb⟩ : ∃ W, w.alloc (.cells (rnC more).toArray 28) = W := ⟨_, rfl⟩
  have hpb : wb.heap[w.heap.size]? = some (.cells (rnC more).toArray 28 (0, 0)) := by rw [← hwb]; exact heap_alloc_new w _
  have hb0 : Below w.heap.size w wb := by rw [← hwb]; exact (Below.refl _ w).alloc (Nat.le_refl _) _
  have HWB := Lib.hid hwb
  have HB0 := Lib.hid hb0
  have hpl := (Array.getElem?_eq_some_iff.1 hpb).1
  have HPB := Lib.hid (fun W (hW : Below wb.heap.size wb W) => (hW.block w.heap.size hpl).trans hpb)
  have HR := Lib.hid (fun W (hW : Below wb.heap.size wb W) => (hR.below' hb0 (Nat.le_refl _)).below' hW hb0.size)
  have HT := Lib.hid (fun W (hW : Below wb.heap.size wb W) => hT.below (hb0.trans (hW.mono hb0.size)))
  have HBW := Lib.hid (fun W (hW : Below wb.heap.size wb W) => hb0.trans (hW.mono hb0.size))
  clear hR hwb hpb hb0 hpl hT
  unfold rnV
  go_enter Tryd.func3, Tryd.ntmps3
  go_wp2_with fail
  rw [show w.alloc (.cells #[.int .i64 more.af.s.T, .int .i64 more.af.s.R, .int .i64 more.af.I, .int .i64 more.el.s.T, .int .i64 more.el.s.R, .int .i64 more.el.I, .string more.tx] 28) = wb from HWB.out]
  obtain ⟨bp, hbp⟩ : ∃ k, w.heap.size = k := ⟨_, rfl⟩
  have HBP := Lib.hid hbp
  refine (awake_any wb (HT.out wb (Below.refl _ _))).mono ?_
  rintro e w1 ⟨rfl, hb1⟩
  have HB1 := Lib.hid hb1
  clear hb1
  go_wp2_with fail
  refine (few_any R 20 (by omega) A _ c w.heap.size w1 (HR.out w1 HB1.out)).mono ?_
  rintro e w1' ⟨⟨few, rfl, hfew⟩, rfl⟩
  have hp1 := HPB.out w1' HB1.out
  rw [hbp] at hp1
  have p6 : w1'.cell? ⟨bp, 6, none⟩ = some (.string more.tx) := cell_of_row _ _ 6 _ _ _ hp1
  have hbpl := (Array.getElem?_eq_some_iff.1 hp1).1
  clear hp1 hbp
  cases few
  · go_wp2
    go_ret
    exact ⟨rfl, HBP.out ▸ HBW.out w1' HB1.out⟩
  · obtain ⟨hR20, hR40⟩ := hfew rfl
    by_cases h40 : more.tx.size ≤ 40
    · have h4 : ((more.tx.size : Nat) : Int) ≤ 40 := by omega
      have hf1 : (flat R).length ≤ 100000 := by have := flat_size R 40 hR40; have := Nat.mul_le_mul_right 40 hR20; omega
      have hf2 : (flat (R ++ [more])).length ≤ 100000 := by
        have h1 := flat_size (R ++ [more]) 40 (fun r hr => by
          rcases List.mem_append.1 hr with hr | hr
          · exact hR40 r hr
          · rw [List.mem_singleton] at hr; rw [hr]; exact h40)
        have h2 : (R ++ [more]).length ≤ 21 := by simp; omega
        have := Nat.mul_le_mul_right 40 h2
        omega
      have ht1 : ∀ r ∈ R, r.tx.size ≤ 100000 := fun r hr => Nat.le_trans (hR40 r hr) (by omega)
      have ht2 : ∀ r ∈ R ++ [more], r.tx.size ≤ 100000 := fun r hr => by
        rcases List.mem_append.1 hr with hr | hr
        · exact ht1 r hr
        · rw [List.mem_singleton] at hr; rw [hr]; omega
      have HOr := Lib.hid (fun W (hW : Below wb.heap.size wb W) => order_any R A _ c w.heap.size W (HR.out W hW) (HBW.out W hW).size (HT.out W hW) hf1 ht1)
      have HF2 := Lib.hid hf2
      have HF1 := Lib.hid hf1
      have HT2 := Lib.hid ht2
      have HR40 := Lib.hid hR40
      clear hf1 hf2 ht1 ht2 hfew hR40
      go_wp2_with fail
      refine (HOr.out w1' HB1.out).mono ?_
      rintro e w2 ⟨O1, v1, hO1, rfl, hv1, hle1, hb2⟩
      obtain ⟨Av, cv, rfl, hvc, _⟩ := (Rd.of_own hv1).form
      have hO1l : O1.length ≤ 100000 := Nat.le_trans hle1 HF1.out
      have HO1 := Lib.hid hO1
      have HV1 := Lib.hid (fun W (hW : Below w2.heap.size w2 W) => (Rd.of_own hv1).below' hW (Nat.le_refl _))
      have HB2 := Lib.hid (HB1.out.trans (hb2.mono HB1.out.size))
      clear hO1 hv1 hle1 hb2 HOr p6
      go_wp2_with (at_builtin; refine wpList_append_rd rfl _ _ 22 rfl w2.heap.size 28 j0 _ 7 64 Tryd.underlying22 gi gz0 gz1 gz2 rfl (by decide) _ 0 [] rfl (World.ownsRow_nil _ _ _ _) _ w.heap.size R.length (R.flatMap rnC) rfl (HR.out w2 HB2.out) (list_one rnC_one _) (by unfold maxLen; omega) (by omega) (Nat.le_refl _) ?_)
      intro va w3 hown3 hgrow3
      have hown3 : w3.ownsRow w2.heap.size 28 7 va R.length (R.flatMap rnC) := by simpa using hown3
      have hb3 : Below w2.heap.size w2 w3 := (Below.refl _ _).grown hgrow3 (Nat.le_refl _) (fun j hj => by simp [Value.ownBlock] at hj)
      obtain ⟨Ava, cva, rfl, _, _⟩ := (Rd.of_own hown3).form
      have hp3 := HPB.out w3 (HB2.out.trans (hb3.mono HB2.out.size))
      rw [HBP.out] at hp3
      have p0 : w3.cell? ⟨bp, 0, none⟩ = some (.int .i64 more.af.s.T) := cell_of_row _ _ 0 _ _ _ hp3
      have p1 : w3.cell? ⟨bp, 1, none⟩ = some (.int .i64 more.af.s.R) := cell_of_row _ _ 1 _ _ _ hp3
      have p2 : w3.cell? ⟨bp, 2, none⟩ = some (.int .i64 more.af.I) := cell_of_row _ _ 2 _ _ _ hp3
      have p3 : w3.cell? ⟨bp, 3, none⟩ = some (.int .i64 more.el.s.T) := cell_of_row _ _ 3 _ _ _ hp3
      have p4 : w3.cell? ⟨bp, 4, none⟩ = some (.int .i64 more.el.s.R) := cell_of_row _ _ 4 _ _ _ hp3
      have p5 : w3.cell? ⟨bp, 5, none⟩ = some (.int .i64 more.el.I) := cell_of_row _ _ 5 _ _ _ hp3
      have p6 : w3.cell? ⟨bp, 6, none⟩ = some (.string more.tx) := cell_of_row _ _ 6 _ _ _ hp3
      have HO3 := Lib.hid hown3
      have h23 := hb3.size
      have HB3 := Lib.hid hb3
      clear hown3 hgrow3 hb3 hp3
      go_wp2_with (at_builtin; refine wpList_append_own _ rfl _ _ 22 rfl w2.heap.size 28 j0 _ 7 64 Tryd.underlying22 gi gz0 gz1 gz2 rfl (by decide) _ R.length (R.flatMap rnC) rfl (HO3.out.alloc (.cells #[.int .i64 more.af.s.T, .int .i64 more.af.s.R, .int .i64 more.af.I, .int .i64 more.el.s.T, .int .i64 more.el.s.R, .int .i64 more.el.I, .string more.tx] 28)) ⟨w3.heap.size, 0, none⟩ 1 1 [.int .i64 more.af.s.T, .int .i64 more.af.s.R, .int .i64 more.af.I, .int .i64 more.el.s.T, .int .i64 more.el.s.R, .int .i64 more.el.I, .string more.tx] rfl rfl (cells_new w3 [.int .i64 more.af.s.T, .int .i64 more.af.s.R, .int .i64 more.af.I, .int .i64 more.el.s.T, .int .i64 more.el.s.R, .int .i64 more.el.I, .string more.tx] 28) (by simp [Value.oneCell']) (by unfold maxLen; omega) (by omega) (by simp; omega) ?_)
      intro vb w4 hown4 hgrow4 _
      have hown4 : w4.ownsRow w2.heap.size 28 7 vb (R.length + 1) ((R ++ [more]).flatMap rnC) := by rw [List.flatMap_append, List.flatMap_singleton]; exact hown4
      have hb4 : Below w2.heap.size w2 w4 := (HB3.out.alloc h23 _).grown hgrow4 (by simp; omega) (fun j hj => (HO3.out.lt j hj).1)
      obtain ⟨g4, c4, R4, rfl, _⟩ := own_parts hown4 (Nat.succ_pos _)
      have HOr2 := Lib.hid (order_any (R ++ [more]) _ _ c4 w4.heap.size w4 (Rd.of_own hown4) (Nat.le_refl _) (HT.out w4 (HB2.out.trans (hb4.mono HB2.out.size))) HF2.out HT2.out)
      have HB4 := Lib.hid hb4
      clear hown4 hgrow4 hb4 p0 p1 p2 p3 p4 p5 p6
      go_wp2_with fail
      refine HOr2.out.mono ?_
      rintro e w5 ⟨O2, v2, hO2, rfl, hv2, _, hb5⟩
      rw [flat_snoc] at hO2
      obtain ⟨Aw, cw, rfl, _, _⟩ := (Rd.of_own hv2).form
      have HO2 := Lib.hid hO2
      have HV2 := Lib.hid (fun W (hW : Below w5.heap.size w5 W) => (Rd.of_own hv2).below' hW (Nat.le_refl _))
      have HB25 := Lib.hid (HB4.out.trans (hb5.mono HB4.out.size))
      have HB5 := Lib.hid (HB2.out.trans (HB25.out.mono HB2.out.size))
      clear hO2 hv2 hb5 HOr2
      go_wp2
      go_loopw [11, 12] (fun last i wr => KeRel O1 O2 w5 last i wr) (fun _ i _ => O1.length - (intOf i).toNat)
      case atStart => exact ⟨0, -1, Nat.zero_le _, rfl, rfl, .inl ⟨rfl, rfl⟩, Below.refl _ _⟩
      case round =>
        obtain ⟨k, z, hk, rfl, rfl, hz, hb⟩ := hrel
        obtain ⟨wo, rfl⟩ : ∃ wo : World, wo = wr := ⟨_, rfl⟩
        by_cases hlt : k < O1.length
        · obtain ⟨b, o, rfl, hBb, hcell⟩ := rd_at idC 3 (fun _ => rfl) (by decide) (show Rd wo w2.heap.size 3 (.slice Av (ids O1).length cv) (ids O1).length ((ids O1).flatMap idC) from by rw [ids_len]; exact HV1.out wo (HB25.out.trans (hb.mono HB25.out.size))) (show k < (ids O1).length by rw [ids_len]; exact hlt)
          rw [ids_get] at hcell
          have hat := at_any (ids O2) O1[k].2.id Aw _ cw w5.heap.size wo (HV2.out wo hb) hb.size
          have hst := fun r (hr : AtIs (ids O2) O1[k].2.id r) => keeps_step HO1.out HO2.out hlt hz hr
          obtain ⟨x, hx⟩ : ∃ x, O1[k].2.id = x := ⟨_, rfl⟩
          rw [hx] at hcell hat hst
          have c0 : wo.cell? ⟨b, o + k * 3, none⟩ = some (.int .i64 x.s.T) := hcell 0 _ rfl
          have c1 : wo.cell? ⟨b, o + k * 3 + 1, none⟩ = some (.int .i64 x.s.R) := hcell 1 _ rfl
          have c2 : wo.cell? ⟨b, o + k * 3 + 2, none⟩ = some (.int .i64 x.I) := hcell 2 _ rfl
          have i1 : (0 : Int) ≤ (k : Int) := by omega
          have i2 : (k : Int) < (O1.length : Int) := by omega
          have HAT := Lib.hid hat
          have HSTEP := Lib.hid hst
          have HB := Lib.hid hb
          unfold idV at HAT
          clear hcell hat hst hx hz hb
          go_wp2_with fail
          refine HAT.out.mono ?_
          rintro e w6 ⟨⟨r, rfl, hr⟩, hg6⟩
          obtain ⟨hzr, hls⟩ := HSTEP.out r hr
          have HLS := Lib.hid hls
          have HB6 := Lib.hid (HB.out.trans (hg6.below.mono HB.out.size))
          have hnr : ¬ r ≤ z := by omega
          clear hr hls hg6 c0 c1 c2
          go_wp2
          go_roundw
          case rel => exact ⟨k + 1, r, by omega, by go_num, rfl, HLS.out, HB6.out⟩
          case measure => simp [intOf]; omega
        · have HB := Lib.hid hb
          clear hb hz
          go_wp2
          go_ret
          exact ⟨rfl, HBP.out ▸ HBW.out wo (HB5.out.trans (HB.out.mono HB5.out.size))⟩
    · have h4 : (40 : Int) < ((more.tx.size : Nat) : Int) := by omega
      go_wp2
      go_ret
      exact ⟨rfl, HBP.out ▸ HBW.out w1' HB1.out⟩
end Go.Proofs.YtphapjbfaomblaaDoor
/- Runs that grow one behind the other: their elements are all unlike, each behind one ahead, or the beginning. Plain. -/
namespace Go.Proofs.YtphapjbfaomblaaDoor
open Go
structure Pick where
  be : Nat
  si : Nat
  re : Nat
  hb : be < 256
  hs : si < 256
  hr : re < 256
def pickC (p : Pick) : List Value := [.int .u8 p.be, .int .u8 p.si, .int .u8 p.re]
def zeroP : Pick := ⟨0, 0, 0, by decide, by decide, by decide⟩
def gS (i : Nat) (p : Pick) : Stamp := ⟨((i % 16 / 2 + 1 : Nat) : Int), ((i % 2 * 4 + 1 + p.re % 4 : Nat) : Int), by unfold I64; omega, by unfold I64; omega⟩
def gId (i : Nat) (p : Pick) (k : Nat) : Id := ⟨gS i p, ((k % 8 : Nat) : Int), by unfold I64; omega⟩
def gN (p : Pick) : Nat := 1 + p.si % 4
def gB (i k : Nat) : UInt8 := UInt8.ofNat (97 + (i % 4 + k) % 8)
def gT (i m : Nat) : List UInt8 := (List.range' 0 m).map (gB i)
def gIds (i : Nat) (p : Pick) : List Id := (List.range' 0 (gN p)).map (gId i p)
def idsAt (L : List Pick) : Nat → List Id
  | 0 => [zeroI]
  | k + 1 => idsAt L k ++ gIds k (L.getD k zeroP)
def runAt (L : List Pick) (k : Nat) : Rn := ⟨(idsAt L k).getD ((L.getD k zeroP).be % (idsAt L k).length) zeroI, gId k (L.getD k zeroP) 0, ofL (gT k (gN (L.getD k zeroP)))⟩
def runsAt (L : List Pick) : Nat → List Rn
  | 0 => []
  | k + 1 => runsAt L k ++ [runAt L k]
theorem runsAt_len (L : List Pick) : ∀ k, (runsAt L k).length = k
  | 0 => rfl
  | k + 1 => by rw [runsAt, List.length_append, runsAt_len L k]; rfl
theorem runsAt_get (L : List Pick) : ∀ (k i : Nat) (h : i < (runsAt L k).length), (runsAt L k)[i] = runAt L i
  | 0, i, h => by simp [runsAt] at h
  | k + 1, i, h => by
    have hl := runsAt_len L k
    simp only [runsAt]
    by_cases hi : i < (runsAt L k).length
    · rw [List.getElem_append_left hi]; exact runsAt_get L k i hi
    · have : i = k := by simp [runsAt] at h; omega
      subst this
      rw [List.getElem_append_right (by omega)]
      simp [hl]
theorem idsAt_pos (L : List Pick) : ∀ k, 0 < (idsAt L k).length
  | 0 => by simp [idsAt]
  | k + 1 => by have := idsAt_pos L k; rw [idsAt, List.length_append]; omega
theorem gIds_len (i : Nat) (p : Pick) : (gIds i p).length = gN p := by simp [gIds]
theorem idsAt_le (L : List Pick) : ∀ k, (idsAt L k).length ≤ 1 + 4 * k
  | 0 => by simp [idsAt]
  | k + 1 => by have := idsAt_le L k; rw [idsAt, List.length_append, gIds_len]; unfold gN; omega
theorem gT_len (i m : Nat) : (gT i m).length = m := by simp [gT]
/-! elements -/
def gE (i : Nat) (p : Pick) : Id → Nat → Nat → List El
  | _, _, 0 => []
  | af, k, m + 1 => ⟨gId i p k, af, ofL [gB i k]⟩ :: gE i p (gId i p k) (k + 1) m
theorem gB_ascii (i k : Nat) : (gB i k).toNat < 128 := by
  unfold gB
  rw [UInt8.toNat_ofNat']
  omega
theorem gT_pcs (i m : Nat) : pcs (gT i m) = (List.range' 0 m).map (fun k => [gB i k]) := by
  have h : AllP ((List.range' 0 m).map (fun k => [gB i k])) := fun q hq => by
    obtain ⟨k, _, rfl⟩ := List.mem_map.1 hq
    exact isP_ascii (gB_ascii i k)
  have e : gT i m = ((List.range' 0 m).map (fun k => [gB i k])).flatten := by
    unfold gT
    induction (List.range' 0 m) with
    | nil => rfl
    | cons a l ih => rw [List.map_cons, List.map_cons, List.flatten_cons, ih]; rfl
  rw [e]
  exact pcs_of h
theorem nextI_g (i : Nat) (p : Pick) {k : Nat} (hk : k < 7) : nextI (gId i p k) = gId i p (k + 1) := by
  unfold nextI gId
  have h1 : k % 8 = k := by omega
  have h2 : (k + 1) % 8 = k + 1 := by omega
  have h3 : ¬ ((k : Nat) : Int) = 9223372036854775807 := by omega
  simp only [h1, h2, if_neg h3, Id.mk.injEq, true_and]
  omega
theorem flatOf_g (i : Nat) (p : Pick) : ∀ (m k : Nat) (af : Id), k + m ≤ 7 → flatOf af (gId i p k) ((List.range' k m).map (fun k => [gB i k])) = gE i p af k m
  | 0, _, _, _ => rfl
  | m + 1, k, af, h => by
    rw [List.range'_succ, List.map_cons, flatOf, gE, nextI_g i p (by omega), flatOf_g i p m (k + 1) _ (by omega)]
theorem ofL_toList' (l : List UInt8) : (ofL l).data.toList = l := rfl
noncomputable def flatAt (L : List Pick) (k : Nat) : List El := flat (runsAt L k)
theorem flatAt_succ (L : List Pick) (k : Nat) : flatAt L (k + 1) = flatAt L k ++ gE k (L.getD k zeroP) (runAt L k).af 0 (gN (L.getD k zeroP)) := by
  unfold flatAt
  rw [runsAt, flat_snoc]
  congr 1
  have h : gN (L.getD k zeroP) ≤ 4 := by unfold gN; omega
  rw [show (runAt L k).tx.data.toList = gT k (gN (L.getD k zeroP)) from rfl, gT_pcs]
  exact flatOf_g k _ _ 0 _ (by omega)
theorem gE_ids (i : Nat) (p : Pick) : ∀ (m k : Nat) (af : Id), (gE i p af k m).map El.id = (List.range' k m).map (gId i p)
  | 0, _, _ => rfl
  | m + 1, k, af => by rw [gE, List.map_cons, gE_ids i p m (k + 1) _, List.range'_succ, List.map_cons]
theorem gE_len (i : Nat) (p : Pick) (m k : Nat) (af : Id) : (gE i p af k m).length = m := by
  have := congrArg List.length (gE_ids i p m k af)
  simpa using this
theorem idsAt_flat (L : List Pick) : ∀ k, idsAt L k = zeroI :: (flatAt L k).map El.id
  | 0 => rfl
  | k + 1 => by
    rw [idsAt, idsAt_flat L k, flatAt_succ, List.map_append, gE_ids, List.cons_append]
    rfl
/-- each behind one ahead, or the beginning -/
inductive GoodL : List El → Prop
  | nil : GoodL []
  | snoc (F : List El) (e : El) : GoodL F → e.af ∈ zeroI :: F.map El.id → GoodL (F ++ [e])
theorem good_gE (i : Nat) (p : Pick) : ∀ (m k : Nat) (af : Id) (F : List El), GoodL F → af ∈ zeroI :: F.map El.id → GoodL (F ++ gE i p af k m)
  | 0, _, _, F, h, _ => by rw [gE, List.append_nil]; exact h
  | m + 1, k, af, F, h, ha => by
    rw [gE, List.append_cons]
    exact good_gE i p m (k + 1) _ _ (.snoc F _ h ha) (by simp)
theorem good_at (L : List Pick) : ∀ k, GoodL (flatAt L k)
  | 0 => .nil
  | k + 1 => by
    rw [flatAt_succ]
    refine good_gE _ _ _ _ _ _ (good_at L k) ?_
    rw [← idsAt_flat]
    have hp := idsAt_pos L k
    have hm : (L.getD k zeroP).be % (idsAt L k).length < (idsAt L k).length := Nat.mod_lt _ hp
    show (idsAt L k).getD _ zeroI ∈ _
    rw [List.getD_eq_getElem?_getD, List.getElem?_eq_getElem hm]
    exact List.getElem_mem hm
theorem good_get {F : List El} (h : GoodL F) : ∀ i (hi : i < F.length), F[i].af = zeroI ∨ ∃ j, ∃ (h' : j < i), (F[j]'(by omega)).id = F[i].af := by
  induction h with
  | nil => intro i hi; simp at hi
  | snoc F e _ ha ih =>
    intro i hi
    by_cases h1 : i < F.length
    · rw [List.getElem_append_left h1]
      rcases ih i h1 with h2 | ⟨j, hj, h2⟩
      · exact .inl h2
      · exact .inr ⟨j, hj, by rw [List.getElem_append_left (by omega)]; exact h2⟩
    · have h2 : i = F.length := by simp at hi; omega
      subst h2
      simp only [List.getElem_append_right (Nat.le_refl _), Nat.sub_self, List.getElem_cons_zero]
      rcases List.mem_cons.1 ha with h3 | h3
      · exact .inl h3
      · obtain ⟨x, hx, h4⟩ := List.mem_map.1 h3
        obtain ⟨j, hj, rfl⟩ := List.getElem_of_mem hx
        exact .inr ⟨j, hj, by rw [List.getElem_append_left hj]; exact h4⟩
/-! the order of names -/
theorem gId_lt_run (i j : Nat) (p q : Pick) (s t : Nat) (h : i < j) (hj : j < 16) : (gId i p s).Lt (gId j q t) := by
  refine .inl ?_
  unfold gId gS Stamp.Lt
  dsimp only
  have h1 : i % 16 = i := by omega
  have h2 : j % 16 = j := by omega
  rw [h1, h2]
  omega
theorem gId_lt (i : Nat) (p : Pick) (s t : Nat) (h : s < t) (ht : t < 8) : (gId i p s).Lt (gId i p t) := by
  refine .inr ⟨rfl, ?_⟩
  unfold gId
  dsimp only
  omega
theorem zero_lt_g (i : Nat) (p : Pick) (s : Nat) : zeroI.Lt (gId i p s) := by
  refine .inl (.inl ?_)
  unfold gId gS zeroI
  dsimp only
  omega
theorem idsAt_form (L : List Pick) : ∀ k, ∀ x ∈ idsAt L k, x = zeroI ∨ ∃ j s, j < k ∧ x = gId j (L.getD j zeroP) s
  | 0, x, h => by simp [idsAt] at h; exact .inl h
  | k + 1, x, h => by
    rw [idsAt] at h
    rcases List.mem_append.1 h with h | h
    · rcases idsAt_form L k x h with h | ⟨j, s, hj, h⟩
      · exact .inl h
      · exact .inr ⟨j, s, by omega, h⟩
    · obtain ⟨s, _, rfl⟩ := List.mem_map.1 h
      exact .inr ⟨k, s, by omega, rfl⟩
theorem idsAt_rise (L : List Pick) : ∀ k, k ≤ 15 → (idsAt L k).Pairwise Id.Lt
  | 0, _ => by simp [idsAt]
  | k + 1, hk => by
    rw [idsAt]
    refine List.pairwise_append.2 ⟨idsAt_rise L k (by omega), ?_, fun a ha b hb => ?_⟩
    · unfold gIds
      rw [List.pairwise_map]
      have : gN (L.getD k zeroP) ≤ 4 := by unfold gN; omega
      refine (List.pairwise_lt_range' (s := 0) (n := gN (L.getD k zeroP))).imp_of_mem ?_
      intro a b ha hb hab
      have := List.mem_range'_1.1 hb
      exact gId_lt _ _ _ _ hab (by omega)
    · obtain ⟨t, _, rfl⟩ := List.mem_map.1 hb
      rcases idsAt_form L k a ha with rfl | ⟨j, s, hj, rfl⟩
      · exact zero_lt_g _ _ _
      · exact gId_lt_run _ _ _ _ _ _ hj (by omega)
theorem flatAt_rise (L : List Pick) {k : Nat} (hk : k ≤ 15) : (flatAt L k).Pairwise (fun a b => a.id.Lt b.id) ∧ ∀ e ∈ flatAt L k, zeroI.Lt e.id := by
  have h := idsAt_rise L k hk
  rw [idsAt_flat, List.pairwise_cons, List.pairwise_map] at h
  exact ⟨h.2, fun e he => h.1 _ (List.mem_map.2 ⟨e, he, rfl⟩)⟩
theorem flatAt_unlike (L : List Pick) {k : Nat} (hk : k ≤ 15) : UnlikeK El.id (flatAt L k) := by
  refine (flatAt_rise L hk).1.imp ?_
  intro a b h e
  rw [e] at h
  exact idSTO.irrefl _ h
theorem flatAt_nodup (L : List Pick) {k : Nat} (hk : k ≤ 15) : (flatAt L k).Nodup := by
  refine (flatAt_rise L hk).1.imp ?_
  intro a b h e
  rw [e] at h
  exact idSTO.irrefl _ h
/-- all that there are count, in whatever order -/
theorem counts_grown (L : List Pick) {k : Nat} (hk : k ≤ 15) {F : List El} (hp : (flatAt L k).Perm F) : Counts F = fun e => e ∈ flatAt L k := by
  funext e
  refine propext ?_
  unfold Counts
  rw [((flatAt_unlike L hk).perm hp).first, ← hp.mem_iff]
  exact ⟨fun h => h.1, fun h => ⟨h, fun e0 => idSTO.irrefl zeroI (e0 ▸ (flatAt_rise L hk).2 e h)⟩⟩
theorem grown_same (L : List Pick) {k : Nat} (hk : k ≤ 15) {F : List El} (hp : (flatAt L k).Perm F) {O1 O2 : List Nd} (h1 : Ord (flatAt L k) O1) (h2 : Ord F O2) : O1 = O2 := by
  unfold Ord at h1 h2
  rw [counts_grown L hk hp] at h2
  rw [counts_grown L hk (List.Perm.refl _)] at h1
  exact order_unique idSTO h1 h2
theorem grown_len (L : List Pick) {k : Nat} (hk : k ≤ 15) {O : List Nd} (h : Ord (flatAt L k) O) : O.length = (flatAt L k).length :=
  order_whole idSTO (counts_names _) h (flatAt_nodup L hk) (fun e => by rw [counts_grown L hk (List.Perm.refl _)]) (good_get (good_at L k))
theorem grown_inc (L : List Pick) {k : Nat} (hk : k ≤ 15) : ∀ e, Counts (flatAt L k) e → e.af ≠ zeroI → e.af.Lt e.id := by
  intro e he hz
  rw [counts_grown L hk (List.Perm.refl _)] at he
  obtain ⟨i, hi, rfl⟩ := List.getElem_of_mem he
  rcases good_get (good_at L k) i hi with h | ⟨j, hj, h⟩
  · exact absurd h hz
  · rw [← h]
    exact List.pairwise_iff_getElem.1 (flatAt_rise L hk).1 j i (by omega) hi hj
/-- each element's node, and the path to what it stands behind -/
theorem grown_node (L : List Pick) {k : Nat} (hk : k ≤ 15) {O : List Nd} (h : Ord (flatAt L k) O) {e : El} (he : e ∈ flatAt L k) : ∃ q, IsPath El.id El.af zeroI (Counts (flatAt L k)) q e.af ∧ (q ++ [e.id], e) ∈ O := by
  obtain ⟨i, hi, rfl⟩ := List.getElem_of_mem he
  obtain ⟨q, hq⟩ := all_paths (E := Counts (flatAt L k)) (fun e he => by rw [counts_grown L hk (List.Perm.refl _)]; exact he) (good_get (good_at L k)) i hi
  exact ⟨q, hq, (h.2 _).2 ⟨by rw [counts_grown L hk (List.Perm.refl _)]; exact List.getElem_mem hi, q, hq, rfl⟩⟩
/-- each element is one byte -/
theorem gE_pc (i : Nat) (p : Pick) : ∀ (m k : Nat) (af : Id), ∀ e ∈ gE i p af k m, e.pc.size = 1
  | 0, _, _, e, h => by simp [gE] at h
  | m + 1, k, af, e, h => by
    rw [gE] at h
    rcases List.mem_cons.1 h with rfl | h
    · rfl
    · exact gE_pc i p m (k + 1) _ e h
theorem flatAt_pc (L : List Pick) : ∀ k, ∀ e ∈ flatAt L k, e.pc.size = 1
  | 0, e, h => by simp [flatAt, runsAt, flat] at h
  | k + 1, e, h => by
    rw [flatAt_succ] at h
    rcases List.mem_append.1 h with h | h
    · exact flatAt_pc L k e h
    · exact gE_pc _ _ _ _ _ e h
theorem flatAt_len (L : List Pick) : ∀ k, (flatAt L k).length = ((runsAt L k).map (fun r => r.tx.size)).sum
  | 0 => rfl
  | k + 1 => by
    rw [flatAt_succ, List.length_append, gE_len, flatAt_len L k, runsAt, List.map_append, List.sum_append]
    congr 1
    show _ = (ofL (gT k (gN (L.getD k zeroP)))).size + 0
    have h : (ofL (gT k (gN (L.getD k zeroP)))).data.toList.length = (gT k (gN (L.getD k zeroP))).length := rfl
    rw [gT_len] at h
    have := Lib.size_eq (ofL (gT k (gN (L.getD k zeroP))))
    omega
theorem txt_one : ∀ (M : List El), (∀ e ∈ M, e.pc.size = 1) → (txt M).length = M.length
  | [], _ => rfl
  | e :: M, h => by
    have h1 := txt_one M (fun x hx => h x (List.mem_cons_of_mem _ hx))
    have h2 := h e (by simp)
    have h3 : e.pc.data.toList.length = e.pc.size := (Lib.size_eq e.pc).symm
    simp only [txt, List.map_cons, List.flatten_cons, List.length_append, List.length_cons] at h1 ⊢
    omega
theorem grown_txt (L : List Pick) {k : Nat} (hk : k ≤ 15) {O : List Nd} (h : Ord (flatAt L k) O) : (txt (els O)).length = (flatAt L k).length := by
  rw [txt_one (els O) (fun e he => flatAt_pc L k e (order_els h e he))]
  rw [← grown_len L hk h]
  simp [els]
end Go.Proofs.YtphapjbfaomblaaDoor
