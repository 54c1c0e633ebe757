/- Two rows of one's own that grow side by side; the law's Chosen. -/
import Derived.Test.YtejafcdlkpmemaaS
import Derived.Test.YtejafcdlkpmemaaD
import Derived.Test.YtejafcdlkpmemaaEP4
import Derived.Maps.AppendAt
namespace Go.Proofs.Ytejafcdlkpmemaa
open Go Go.RowKit
/-- two slices that share no block -/
def Apart (v1 v2 : Value) : Prop := ∀ g, v1.ownBlock = some g → v2.ownBlock ≠ some g
theorem Apart.symm {v1 v2 : Value} (h : Apart v1 v2) : Apart v2 v1 := fun g h1 h2 => h g h2 h1
theorem apart_nil (v : Value) : Apart (.slice none 0 0) v := fun g h => by simp [Value.ownBlock] at h
theorem Apart.kept {v1 v2 : Value} (h : Apart v1 v2) : v2.ownBlock = none ∨ v2.ownBlock ≠ v1.ownBlock := by
  cases e : v2.ownBlock with
  | none => exact .inl rfl
  | some g => exact .inr (fun e' => h g e'.symm e)
theorem Apart.new {v1 v1' v2 : Value} (h : Apart v1 v2) {W : World} {base : Nat} {e : TypeId} {K n m : Nat} {xs : List Value} (ho : W.ownsRow base e K v2 n xs) (hat : v1'.ownBlock = v1.ownBlock ∨ v1'.ownBlock = some m) (hm : W.heap.size ≤ m) : Apart v1' v2 := by
  intro g hg h2
  rcases hat with e1 | e1
  · exact h g (e1.symm.trans hg) h2
  · have := (ho.lt g h2).2
    rw [e1] at hg
    cases hg
    omega
def cN (i : Nat) : Stamp := ⟨((min i 1000 : Nat) : Int) + 1, 1 + ((i % 3 : Nat) : Int), by unfold I64; omega, by unfold I64; omega⟩
def cU (L : List Nat) (i : Nat) : Stamp := if L.getD i 0 % (i + 2) < i then cN (L.getD i 0 % (i + 2)) else zeroS
def cNames (n : Nat) : List Stamp := (List.range n).map cN
def cUndo (L : List Nat) (n : Nat) : List Stamp := (List.range n).map (cU L)
theorem cNames_succ (n : Nat) : cNames (n + 1) = cNames n ++ [cN n] := by simp [cNames, List.range_succ]
theorem cUndo_succ (L : List Nat) (n : Nat) : cUndo L (n + 1) = cUndo L n ++ [cU L n] := by simp [cUndo, List.range_succ]
theorem cNames_len (n : Nat) : (cNames n).length = n := by simp [cNames]
theorem cUndo_len (L : List Nat) (n : Nat) : (cUndo L n).length = n := by simp [cUndo]
def bC (x : Nat) : List Value := [.int .u8 (x : Int)]
def ChRel (L : List Nat) (w : World) (a b i : Value) (wr : World) : Prop :=
  ∃ k : Nat, k ≤ min L.length 40 ∧ i = .int .i64 k ∧ wr.ownsRow w.heap.size 24 2 a k ((cNames k).flatMap stC) ∧ wr.ownsRow w.heap.size 24 2 b k ((cUndo L k).flatMap stC) ∧ Apart a b ∧ Below w.heap.size w wr
def ChPost (L : List Nat) (w : World) (e : Ending) (w' : World) : Prop :=
  ∃ a b, e = .returned (.tuple #[a, b]) ∧ w'.ownsRow w.heap.size 24 2 a (min L.length 40) ((cNames (min L.length 40)).flatMap stC) ∧ w'.ownsRow w.heap.size 24 2 b (min L.length 40) ((cUndo L (min L.length 40)).flatMap stC) ∧ Apart a b ∧ Below w.heap.size w w'
set_option maxRecDepth 100000 in
set_option maxHeartbeats 4000000 in
theorem chosen_any (L : List Nat) (A : Option Addr) (n c B : Nat) (w : World) (hL : ∀ x ∈ L, x < 256) (hR : Rd w B 1 (.slice A n c) n (L.flatMap bC)) (hB : B ≤ w.heap.size) :
    Calls Try.prog 34 #[.slice A n c] w (ChPost L w) := by
  obtain ⟨_, hnc, hcm⟩ := hR.len
  unfold maxLen at hcm
  obtain rfl := len_of bC 1 (fun _ => rfl) (by decide) hR.1
  have HR := Lib.hid hR
  have HL := Lib.hid hL
  clear hR hL
  obtain ⟨i0, hi, hz0, hz1, hz2⟩ := info_parts info24
  go_enter Try.func34, Try.ntmps34
  go_wp2
  go_loopw [4, 5, 6] (fun a b i wr => ChRel L w a b i wr) (fun _ _ i _ => L.length - (intOf i).toNat)
  case atStart => exact ⟨0, Nat.zero_le _, rfl, World.ownsRow_nil _ _ _ _, World.ownsRow_nil _ _ _ _, apart_nil _, Below.refl _ _⟩
  case round =>
    obtain ⟨k, hk, rfl, hO, hO', hA, hb⟩ := hrel
    obtain ⟨A1, c1, rfl, hLc, hcm2⟩ := (Rd.of_own hO).form
    obtain ⟨A2, c2, rfl, hLc', hcm2'⟩ := (Rd.of_own hO').form
    have HO := Lib.hid hO
    have HO' := Lib.hid hO'
    have HA := Lib.hid hA
    clear hO hO' hA
    obtain ⟨wo, rfl⟩ : ∃ wo : World, wo = wr := ⟨_, rfl⟩
    have HK := Lib.hid hk
    have hk40 : k ≤ 40 := by omega
    clear hk
    by_cases hlt : k < L.length
    · by_cases hl4 : k < 40
      · obtain ⟨b, o, rfl, hB', hcell⟩ := rd_at bC 1 (fun _ => rfl) (by decide) HR.out hlt
        have hx255 := HL.out _ (List.getElem_mem hlt)
        have hU : cU L k = if L[k] % (k + 2) < k then cN (L[k] % (k + 2)) else zeroS := by
          unfold cU
          rw [List.getD_eq_getElem?_getD, List.getElem?_eq_getElem hlt]
          rfl
        obtain ⟨x, hx⟩ : ∃ x, L[k] = x := ⟨_, rfl⟩
        rw [hx] at hcell hU hx255
        have hbl2 : b < wo.heap.size := by have := hb.size; omega
        have d0 : wo.cell? ⟨b, o + k * 1, none⟩ = some (.int .u8 x) := (hb.cell (p := ⟨b, o + k * 1, none⟩) (show b < w.heap.size by omega)).trans (hcell 0 _ rfl)
        have hk1 : k * 1 = k := by omega
        rw [hk1] at d0
        clear hcell hx hk1
        obtain ⟨t, ht⟩ : ∃ t, x % (k + 2) = t := ⟨_, rfl⟩
        have htk : t < k + 2 := by rw [← ht]; exact Nat.mod_lt _ (by omega)
        have m1 : Int.tmod (x : Int) ((k : Int) + 2) = (t : Int) := by rw [Int.tmod_eq_emod_of_nonneg (by omega), ← ht]; rfl
        have w1 : IntKind.i64.wrap (x : Int) = x := IntWalk.i64_in _ (by omega)
        obtain ⟨r, hr⟩ : ∃ r, k % 3 = r := ⟨_, rfl⟩
        have m2 : Int.tmod (k : Int) 3 = (r : Int) := by rw [Int.tmod_eq_emod_of_nonneg (by omega), ← hr]; rfl
        have hr3 : r < 3 := by omega
        have hN : stC (cN k) = [.int .i64 ((k : Int) + 1), .int .i64 (1 + (r : Int))] := by
          have h1 : (cN k).T = (k : Int) + 1 := by show ((min k 1000 : Nat) : Int) + 1 = _; omega
          have h2 : (cN k).R = 1 + (r : Int) := by show 1 + ((k % 3 : Nat) : Int) = _; rw [hr]
          unfold stC
          rw [h1, h2]
        have HN := Lib.hid hN
        rw [ht] at hU
        have HU := Lib.hid hU
        have i1 : (0 : Int) ≤ (k : Int) := by omega
        have i2 : (k : Int) < (L.length : Int) := by omega
        have j0 : ((k : Int) + 2 == 0) = false := by simp; omega
        clear hr ht hN hU
        by_cases htl : t < k
        · obtain ⟨g1, og, rfl, hBg, hcg⟩ := rd_at stC 2 (fun _ => rfl) (by decide) (Rd.of_own HO.out) (show t < (cNames k).length by rw [cNames_len]; exact htl)
          have hct : (cNames k)[t]'(by rw [cNames_len]; exact htl) = cN t := by simp [cNames]
          rw [hct] at hcg
          obtain ⟨y, hy⟩ : ∃ y, cN t = y := ⟨_, rfl⟩
          rw [hy] at hcg
          have e0 : wo.cell? ⟨g1, og + t * 2, none⟩ = some (.int .i64 y.T) := hcg 0 _ rfl
          have e1 : wo.cell? ⟨g1, og + t * 2 + 1, none⟩ = some (.int .i64 y.R) := hcg 1 _ rfl
          have HUy := Lib.hid (show stC (cU L k) = [.int .i64 y.T, .int .i64 y.R] by rw [HU.out, if_pos htl, hy]; rfl)
          have j1 : (0 : Int) ≤ (t : Int) := by omega
          have j2 : (t : Int) < (k : Int) := by omega
          have hgl2 : g1 < wo.heap.size := hBg
          clear hcg hct hy HU
          go_wp2_with (at_builtin; refine wpList_append_own_at _ rfl _ _ 32 rfl w.heap.size 24 i0 _ 2 16 Try.underlying32 hi hz0 hz1 hz2 rfl (by decide) _ k ((cNames k).flatMap stC) rfl ((HO.out.alloc (.cells #[.int .i64 y.T, .int .i64 y.R] 24)).alloc (.cells #[.int .i64 ((k : Int) + 1), .int .i64 (1 + (r : Int))] 24)) ⟨wo.heap.size + 1, 0, none⟩ 1 1 [.int .i64 ((k : Int) + 1), .int .i64 (1 + (r : Int))] rfl rfl ?qc (by simp [Value.oneCell']) ?q2 ?q3 ?q4 ?_)
          case qc =>
            have := cells_new (wo.alloc (.cells #[.int .i64 y.T, .int .i64 y.R] 24)) [.int .i64 ((k : Int) + 1), .int .i64 (1 + (r : Int))] 24
            rw [World.size_alloc] at this
            exact this
          case q2 => unfold maxLen; omega
          case q3 => omega
          case q4 => have := hb.size; simp; omega
          intro v1 W4 hown hgrow _ hat
          have hA1 : Apart v1 (.slice A2 k c2) := HA.out.new HO'.out hat (Nat.le_add_right _ 2)
          have hO4 := ((HO'.out.alloc (.cells #[.int .i64 y.T, .int .i64 y.R] 24)).alloc (.cells #[.int .i64 ((k : Int) + 1), .int .i64 (1 + (r : Int))] 24)).kept hgrow HA.out.kept
          have hb4 : Below w.heap.size w W4 := ((hb.alloc hb.size (.cells #[.int .i64 y.T, .int .i64 y.R] 24)).alloc (by have := hb.size; simp; omega) (.cells #[.int .i64 ((k : Int) + 1), .int .i64 (1 + (r : Int))] 24)).grown hgrow (by have := hb.size; simp; omega) (fun j hj => (HO.out.lt j hj).1)
          have hu4 : W4.heap[wo.heap.size]? = some (.cells #[.int .i64 y.T, .int .i64 y.R] 24 (0, 0)) :=
            (hgrow.block wo.heap.size (by simp; omega) (fun e => by have := (HO.out.lt _ e.symm).2; omega)).trans ((Below.heap_alloc _ _ _ (by simp)).trans (heap_alloc_new wo _))
          have hn4 : W4.ownsRow w.heap.size 24 2 v1 (k + 1) ((cNames (k + 1)).flatMap stC) := by rw [cNames_succ, List.flatMap_append, List.flatMap_singleton, HN.out]; exact hown
          obtain ⟨g4, cap4, R4, rfl, _⟩ := own_parts hn4 (Nat.succ_pos _)
          have HN4 := Lib.hid hn4
          have HO4 := Lib.hid hO4
          have HA1 := Lib.hid hA1
          have u0 : W4.cell? ⟨wo.heap.size, 0, none⟩ = some (.int .i64 y.T) := cell_of_row _ _ 0 _ _ _ hu4
          have u1 : W4.cell? ⟨wo.heap.size, 1, none⟩ = some (.int .i64 y.R) := cell_of_row _ _ 1 _ _ _ hu4
          clear hown hgrow hat hO4 hn4 hA1 hu4
          go_wp2_with (at_builtin; refine wpList_append_own_at _ rfl _ _ 32 rfl w.heap.size 24 i0 _ 2 16 Try.underlying32 hi hz0 hz1 hz2 rfl (by decide) _ k ((cUndo L k).flatMap stC) rfl (HO4.out.alloc (.cells #[.int .i64 y.T, .int .i64 y.R] 24)) ⟨W4.heap.size, 0, none⟩ 1 1 [.int .i64 y.T, .int .i64 y.R] rfl rfl ?qc (by simp [Value.oneCell']) ?q2 ?q3 ?q4 ?_)
          case qc => exact cells_new W4 [.int .i64 y.T, .int .i64 y.R] 24
          case q2 => unfold maxLen; omega
          case q3 => omega
          case q4 => have := hb4.size; simp; omega
          intro v2 W5 hown2 hgrow2 _ hat2
          have hA2 := HA1.out.symm.new (HN4.out) hat2 (Nat.le_succ _)
          have hN5 := Lib.hid ((HN4.out.alloc (.cells #[.int .i64 y.T, .int .i64 y.R] 24)).kept hgrow2 HA1.out.symm.kept)
          have hU5 : W5.ownsRow w.heap.size 24 2 v2 (k + 1) ((cUndo L (k + 1)).flatMap stC) := by rw [cUndo_succ, List.flatMap_append, List.flatMap_singleton, HUy.out]; exact hown2
          have HU5 := Lib.hid hU5
          have HA2 := Lib.hid hA2
          have hb5 : Below w.heap.size w W5 := (hb4.alloc hb4.size (.cells #[.int .i64 y.T, .int .i64 y.R] 24)).grown hgrow2 (by have := hb4.size; simp; omega) (fun j hj => (HO4.out.lt j hj).1)
          clear hown2 hgrow2 hat2 hU5 hA2 u0 u1
          go_wp2
          go_roundw
          case rel => exact ⟨k + 1, by omega, by go_num, hN5.out, HU5.out, HA2.out.symm, hb5⟩
          case measure => simp [intOf]; omega
        · have HUy := Lib.hid (show stC (cU L k) = [.int .i64 0, .int .i64 0] by rw [HU.out, if_neg htl]; rfl)
          have htl2 : (k : Int) ≤ (t : Int) := by omega
          clear HU
          go_wp2_with (at_builtin; refine wpList_append_own_at _ rfl _ _ 32 rfl w.heap.size 24 i0 _ 2 16 Try.underlying32 hi hz0 hz1 hz2 rfl (by decide) _ k ((cNames k).flatMap stC) rfl ((HO.out.alloc (.cells #[.int .i64 0, .int .i64 0] 24)).alloc (.cells #[.int .i64 ((k : Int) + 1), .int .i64 (1 + (r : Int))] 24)) ⟨wo.heap.size + 1, 0, none⟩ 1 1 [.int .i64 ((k : Int) + 1), .int .i64 (1 + (r : Int))] rfl rfl ?qc (by simp [Value.oneCell']) ?q2 ?q3 ?q4 ?_)
          case qc =>
            have := cells_new (wo.alloc (.cells #[.int .i64 0, .int .i64 0] 24)) [.int .i64 ((k : Int) + 1), .int .i64 (1 + (r : Int))] 24
            rw [World.size_alloc] at this
            exact this
          case q2 => unfold maxLen; omega
          case q3 => omega
          case q4 => have := hb.size; simp; omega
          intro v1 W4 hown hgrow _ hat
          have hA1 : Apart v1 (.slice A2 k c2) := HA.out.new HO'.out hat (Nat.le_add_right _ 2)
          have hO4 := ((HO'.out.alloc (.cells #[.int .i64 0, .int .i64 0] 24)).alloc (.cells #[.int .i64 ((k : Int) + 1), .int .i64 (1 + (r : Int))] 24)).kept hgrow HA.out.kept
          have hb4 : Below w.heap.size w W4 := ((hb.alloc hb.size (.cells #[.int .i64 0, .int .i64 0] 24)).alloc (by have := hb.size; simp; omega) (.cells #[.int .i64 ((k : Int) + 1), .int .i64 (1 + (r : Int))] 24)).grown hgrow (by have := hb.size; simp; omega) (fun j hj => (HO.out.lt j hj).1)
          have hu4 : W4.heap[wo.heap.size]? = some (.cells #[.int .i64 0, .int .i64 0] 24 (0, 0)) :=
            (hgrow.block wo.heap.size (by simp; omega) (fun e => by have := (HO.out.lt _ e.symm).2; omega)).trans ((Below.heap_alloc _ _ _ (by simp)).trans (heap_alloc_new wo _))
          have hn4 : W4.ownsRow w.heap.size 24 2 v1 (k + 1) ((cNames (k + 1)).flatMap stC) := by rw [cNames_succ, List.flatMap_append, List.flatMap_singleton, HN.out]; exact hown
          obtain ⟨g4, cap4, R4, rfl, _⟩ := own_parts hn4 (Nat.succ_pos _)
          have HN4 := Lib.hid hn4
          have HO4 := Lib.hid hO4
          have HA1 := Lib.hid hA1
          have u0 : W4.cell? ⟨wo.heap.size, 0, none⟩ = some (.int .i64 0) := cell_of_row _ _ 0 _ _ _ hu4
          have u1 : W4.cell? ⟨wo.heap.size, 1, none⟩ = some (.int .i64 0) := cell_of_row _ _ 1 _ _ _ hu4
          clear hown hgrow hat hO4 hn4 hA1 hu4
          go_wp2_with (at_builtin; refine wpList_append_own_at _ rfl _ _ 32 rfl w.heap.size 24 i0 _ 2 16 Try.underlying32 hi hz0 hz1 hz2 rfl (by decide) _ k ((cUndo L k).flatMap stC) rfl (HO4.out.alloc (.cells #[.int .i64 0, .int .i64 0] 24)) ⟨W4.heap.size, 0, none⟩ 1 1 [.int .i64 0, .int .i64 0] rfl rfl ?qc (by simp [Value.oneCell']) ?q2 ?q3 ?q4 ?_)
          case qc => exact cells_new W4 [.int .i64 0, .int .i64 0] 24
          case q2 => unfold maxLen; omega
          case q3 => omega
          case q4 => have := hb4.size; simp; omega
          intro v2 W5 hown2 hgrow2 _ hat2
          have hA2 := HA1.out.symm.new (HN4.out) hat2 (Nat.le_succ _)
          have hN5 := Lib.hid ((HN4.out.alloc (.cells #[.int .i64 0, .int .i64 0] 24)).kept hgrow2 HA1.out.symm.kept)
          have hU5 : W5.ownsRow w.heap.size 24 2 v2 (k + 1) ((cUndo L (k + 1)).flatMap stC) := by rw [cUndo_succ, List.flatMap_append, List.flatMap_singleton, HUy.out]; exact hown2
          have HU5 := Lib.hid hU5
          have HA2 := Lib.hid hA2
          have hb5 : Below w.heap.size w W5 := (hb4.alloc hb4.size (.cells #[.int .i64 0, .int .i64 0] 24)).grown hgrow2 (by have := hb4.size; simp; omega) (fun j hj => (HO4.out.lt j hj).1)
          clear hown2 hgrow2 hat2 hU5 hA2 u0 u1
          go_wp2
          go_roundw
          case rel => exact ⟨k + 1, by omega, by go_num, hN5.out, HU5.out, HA2.out.symm, hb5⟩
          case measure => simp [intOf]; omega
      · have hkk : min L.length 40 = k := by have := HK.out; omega
        have hkge : (40 : Int) ≤ (k : Int) := by omega
        have HL40 := Lib.hid (show min L.length 40 = k from hkk)
        go_wp2
        go_ret2
        have h1 := HO.out
        have h2 := HO'.out
        unfold ChPost
        rw [HL40.out]
        exact ⟨_, _, rfl, h1, h2, HA.out, hb⟩
    · have hkk : min L.length 40 = k := by have := HK.out; omega
      have hkge : (L.length : Int) ≤ (k : Int) := by omega
      have HL40 := Lib.hid (show min L.length 40 = k from hkk)
      go_wp2
      go_ret2
      have h1 := HO.out
      have h2 := HO'.out
      unfold ChPost
      rw [HL40.out]
      exact ⟨_, _, rfl, h1, h2, HA.out, hb⟩
end Go.Proofs.Ytejafcdlkpmemaa
