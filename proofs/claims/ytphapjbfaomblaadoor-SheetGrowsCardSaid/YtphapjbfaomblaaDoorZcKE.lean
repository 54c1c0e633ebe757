/- The document's sheet: how often a stamp or an id is among some; has; Len. -/
import Derived.Test.YtphapjbfaomblaaDoorZb27
import Derived.IntWalk
namespace Go.Proofs.YtphapjbfaomblaaDoor
open Go Go.RowKit Go.Maps
def CntRelK {α : Type} [BEq α] (L : List α) (x : α) (W0 : World) (m i : Value) (wr : World) : Prop := ∃ k : Nat, k ≤ L.length ∧ i = .int .i64 k ∧ m = .int .i64 ((L.take k).count x : Nat) ∧ ∃ q, wr = W0.drewN q
theorem cnt_succK {α : Type} [DecidableEq α] {L : List α} {k : Nat} (h : k < L.length) (x : α) : (L.take (k + 1)).count x = (if L[k] = x then (L.take k).count x + 1 else (L.take k).count x) := by
  rw [List.take_succ_eq_append_getElem h, List.count_append, List.count_singleton]
  by_cases hx : L[k] = x
  · simp [hx]
  · simp [hx]
theorem cnt_leK {α : Type} [DecidableEq α] (L : List α) (x : α) (k : Nat) : (L.take k).count x ≤ k :=
  Nat.le_trans List.count_le_length (List.length_take_le _ _)
set_option maxHeartbeats 1000000 in
theorem stamps_any (L : List Stamp) (x : Stamp) (A : Option Addr) (n c B : Nat) (w : World) (hR : Rd w B 2 (.slice A n c) n (L.flatMap stC)) (hB : B ≤ w.heap.size) :
    Calls Tryd.prog 56 #[.slice A n c, stV x] w fun e w' => e = .returned (.int .i64 (L.count x : Nat)) ∧ Grows w w' := by
  obtain ⟨_, hnc, hcm⟩ := hR.len
  unfold maxLen at hcm
  obtain rfl := len_of stC 2 (fun _ => rfl) (by decide) hR.1
  have HR := Lib.hid hR
  clear hR
  unfold stV
  go_enter Tryd.func56, Tryd.ntmps56
  go_wp2
  obtain ⟨W0, hW0⟩ : ∃ W, w.alloc (.cells #[.int .i64 x.T, .int .i64 x.R] 24) = W := ⟨_, rfl⟩
  have hg : Grows w W0 := by rw [← hW0]; exact (Grows.refl w).alloc _
  have hb1 : W0.heap[w.heap.size]? = some (.cells #[.int .i64 x.T, .int .i64 x.R] 24 (0, 0)) := by rw [← hW0]; exact heap_alloc_new w _
  rw [hW0]
  have c0 : W0.cell? ⟨w.heap.size, 0, none⟩ = some (.int .i64 x.T) := cell_of_row _ _ 0 _ _ _ hb1
  have c1 : W0.cell? ⟨w.heap.size, 1, none⟩ = some (.int .i64 x.R) := cell_of_row _ _ 1 _ _ _ hb1
  have HR2 := Lib.hid (HR.out.below' hg.below hB)
  clear hW0 hb1 HR
  go_loopw [5, 6] (fun m i wr => CntRelK L x W0 m i wr) (fun _ i _ => L.length - (intOf i).toNat)
  case atStart => exact ⟨0, Nat.zero_le _, rfl, rfl, 0, rfl⟩
  case round =>
    obtain ⟨k, hk, rfl, rfl, q, rfl⟩ := hrel
    by_cases hlt : k < L.length
    · obtain ⟨b, o, rfl, hB', hcell⟩ := rd_at stC 2 (fun _ => rfl) (by decide) HR2.out hlt
      have d0 : W0.cell? ⟨b, o + k * 2, none⟩ = some (.int .i64 L[k].T) := hcell 0 _ rfl
      have d1 : W0.cell? ⟨b, o + k * 2 + 1, none⟩ = some (.int .i64 L[k].R) := hcell 1 _ rfl
      clear hcell
      have hq := eql24
      have hgd := gd24
      have hE := eq2_iff L[k] x
      have hcs := cnt_succK hlt x
      have hcl := cnt_leK L x k
      have i1 : (0 : Int) ≤ (k : Int) := by omega
      have i2 : (k : Int) < (L.length : Int) := by omega
      obtain ⟨m, hm⟩ : ∃ m, (L.take k).count x = m := ⟨_, rfl⟩
      rw [hm] at hcs hcl ⊢
      have hw : IntKind.i64.wrap ((m : Int) + 1) = (m : Int) + 1 := IntWalk.i64_in _ (by omega)
      obtain ⟨y, hy⟩ : ∃ y, L[k] = y := ⟨_, rfl⟩
      rw [hy] at d0 d1 hE hcs
      by_cases hx : y = x
      · rw [decide_eq_true hx] at hE
        rw [if_pos hx] at hcs
        have HX := Lib.hid hcs
        clear hx hcs hy hm
        go_wp2
        go_quiet (fail)
        go_wp2
        go_roundw
        case rel => exact ⟨k + 1, by omega, by go_num, by rw [HX.out]; rfl, q + nq, rfl⟩
        case measure => simp [intOf]; omega
      · rw [decide_eq_false hx] at hE
        rw [if_neg hx] at hcs
        have HX := Lib.hid hcs
        clear hx hcs hy hm
        go_wp2
        go_quiet (fail)
        go_wp2
        go_roundw
        case rel => exact ⟨k + 1, by omega, by go_num, by rw [HX.out], q + nq, rfl⟩
        case measure => simp [intOf]; omega
    · obtain rfl : k = L.length := by omega
      rw [List.take_length]
      obtain ⟨m, hm⟩ : ∃ m, L.count x = m := ⟨_, rfl⟩
      rw [hm]
      have HM := Lib.hid hm
      clear hm
      go_wp2
      go_ret
      exact ⟨by rw [HM.out]; rfl, hg.drewN q⟩
set_option maxHeartbeats 1000000 in
theorem ids_any (L : List Id) (x : Id) (A : Option Addr) (n c B : Nat) (w : World) (hR : Rd w B 3 (.slice A n c) n (L.flatMap idC)) (hB : B ≤ w.heap.size) :
    Calls Tryd.prog 57 #[.slice A n c, idV x] w fun e w' => e = .returned (.int .i64 (L.count x : Nat)) ∧ Grows w w' := by
  obtain ⟨_, hnc, hcm⟩ := hR.len
  unfold maxLen at hcm
  obtain rfl := len_of idC 3 (fun _ => rfl) (by decide) hR.1
  have HR := Lib.hid hR
  clear hR
  unfold idV
  go_enter Tryd.func57, Tryd.ntmps57
  go_wp2
  obtain ⟨W0, hW0⟩ : ∃ W, w.alloc (.cells #[.int .i64 x.s.T, .int .i64 x.s.R, .int .i64 x.I] 26) = W := ⟨_, rfl⟩
  have hg : Grows w W0 := by rw [← hW0]; exact (Grows.refl w).alloc _
  have hb1 : W0.heap[w.heap.size]? = some (.cells #[.int .i64 x.s.T, .int .i64 x.s.R, .int .i64 x.I] 26 (0, 0)) := by rw [← hW0]; exact heap_alloc_new w _
  rw [hW0]
  have c0 : W0.cell? ⟨w.heap.size, 0, none⟩ = some (.int .i64 x.s.T) := cell_of_row _ _ 0 _ _ _ hb1
  have c1 : W0.cell? ⟨w.heap.size, 1, none⟩ = some (.int .i64 x.s.R) := cell_of_row _ _ 1 _ _ _ hb1
  have c2 : W0.cell? ⟨w.heap.size, 2, none⟩ = some (.int .i64 x.I) := cell_of_row _ _ 2 _ _ _ hb1
  have HR2 := Lib.hid (HR.out.below' hg.below hB)
  clear hW0 hb1 HR
  go_loopw [5, 6] (fun m i wr => CntRelK L x W0 m i wr) (fun _ i _ => L.length - (intOf i).toNat)
  case atStart => exact ⟨0, Nat.zero_le _, rfl, rfl, 0, rfl⟩
  case round =>
    obtain ⟨k, hk, rfl, rfl, q, rfl⟩ := hrel
    by_cases hlt : k < L.length
    · obtain ⟨b, o, rfl, hB', hcell⟩ := rd_at idC 3 (fun _ => rfl) (by decide) HR2.out hlt
      have d0 : W0.cell? ⟨b, o + k * 3, none⟩ = some (.int .i64 L[k].s.T) := hcell 0 _ rfl
      have d1 : W0.cell? ⟨b, o + k * 3 + 1, none⟩ = some (.int .i64 L[k].s.R) := hcell 1 _ rfl
      have d2 : W0.cell? ⟨b, o + k * 3 + 2, none⟩ = some (.int .i64 L[k].I) := hcell 2 _ rfl
      clear hcell
      have hq := eql26
      have hgd := gd26
      have hE := eq3_iff L[k] x
      have hcs := cnt_succK hlt x
      have hcl := cnt_leK L x k
      have i1 : (0 : Int) ≤ (k : Int) := by omega
      have i2 : (k : Int) < (L.length : Int) := by omega
      obtain ⟨m, hm⟩ : ∃ m, (L.take k).count x = m := ⟨_, rfl⟩
      rw [hm] at hcs hcl ⊢
      have hw : IntKind.i64.wrap ((m : Int) + 1) = (m : Int) + 1 := IntWalk.i64_in _ (by omega)
      obtain ⟨y, hy⟩ : ∃ y, L[k] = y := ⟨_, rfl⟩
      rw [hy] at d0 d1 d2 hE hcs
      by_cases hx : y = x
      · rw [decide_eq_true hx] at hE
        rw [if_pos hx] at hcs
        have HX := Lib.hid hcs
        clear hx hcs hy hm
        go_wp2
        go_quiet (fail)
        go_wp2
        go_roundw
        case rel => exact ⟨k + 1, by omega, by go_num, by rw [HX.out]; rfl, q + nq, rfl⟩
        case measure => simp [intOf]; omega
      · rw [decide_eq_false hx] at hE
        rw [if_neg hx] at hcs
        have HX := Lib.hid hcs
        clear hx hcs hy hm
        go_wp2
        go_quiet (fail)
        go_wp2
        go_roundw
        case rel => exact ⟨k + 1, by omega, by go_num, by rw [HX.out], q + nq, rfl⟩
        case measure => simp [intOf]; omega
    · obtain rfl : k = L.length := by omega
      rw [List.take_length]
      obtain ⟨m, hm⟩ : ∃ m, L.count x = m := ⟨_, rfl⟩
      rw [hm]
      have HM := Lib.hid hm
      clear hm
      go_wp2
      go_ret
      exact ⟨by rw [HM.out]; rfl, hg.drewN q⟩
/-! the sheet -/
structure RsV where
  r : Value
  o : Value
  f : Value
  g : Value
  t : Value
structure Rs where
  R : List Rn
  on : List Stamp
  off : List Stamp
  go : List Id
  re : List Id
def Own2 (v1 v2 : Value) : Prop := ∀ g, v1.ownBlock = some g → v2.ownBlock ≠ some g
structure RsIs (w : World) (rb : Nat) (v : RsV) (s : Rs) : Prop where
  cell : w.heap[rb]? = some (.cells #[v.r, v.o, v.f, v.g, v.t] 53 (0, 0))
  r : w.ownsRow 0 28 7 v.r s.R.length (s.R.flatMap rnC)
  o : w.ownsRow 0 24 2 v.o s.on.length (s.on.flatMap stC)
  f : w.ownsRow 0 24 2 v.f s.off.length (s.off.flatMap stC)
  g : w.ownsRow 0 26 3 v.g s.go.length (s.go.flatMap idC)
  t : w.ownsRow 0 26 3 v.t s.re.length (s.re.flatMap idC)
  of : Own2 v.o v.f
  gt : Own2 v.g v.t
def rfoot (rb : Nat) (v : RsV) (k : Nat) : Prop := k = rb ∨ v.r.ownBlock = some k ∨ v.o.ownBlock = some k ∨ v.f.ownBlock = some k ∨ v.g.ownBlock = some k ∨ v.t.ownBlock = some k
theorem RsIs.touch {w w' : World} {rb : Nat} {v : RsV} {s : Rs} (h : RsIs w rb v s) {F : Nat → Prop} (t : Touch F w w') (hF : ∀ k, rfoot rb v k → ¬ F k) : RsIs w' rb v s :=
  ⟨block_touch h.cell t (hF _ (.inl rfl)), own_touch h.r t (fun _ hg => hF _ (.inr (.inl hg))), own_touch h.o t (fun _ hg => hF _ (.inr (.inr (.inl hg)))), own_touch h.f t (fun _ hg => hF _ (.inr (.inr (.inr (.inl hg))))), own_touch h.g t (fun _ hg => hF _ (.inr (.inr (.inr (.inr (.inl hg)))))), own_touch h.t t (fun _ hg => hF _ (.inr (.inr (.inr (.inr (.inr hg)))))), h.of, h.gt⟩
theorem RsIs.below {w w' : World} {rb : Nat} {v : RsV} {s : Rs} (h : RsIs w rb v s) (hb : Below w.heap.size w w') : RsIs w' rb v s := h.touch (Below.touch hb (fun _ => False)) (fun _ _ h => h)
theorem RsIs.lt {w : World} {rb : Nat} {v : RsV} {s : Rs} (h : RsIs w rb v s) {k : Nat} (hk : rfoot rb v k) : k < w.heap.size := by
  rcases hk with rfl | hk | hk | hk | hk | hk
  · exact (Array.getElem?_eq_some_iff.1 h.cell).1
  · exact (h.r.lt k hk).2
  · exact (h.o.lt k hk).2
  · exact (h.f.lt k hk).2
  · exact (h.g.lt k hk).2
  · exact (h.t.lt k hk).2
/-- its runs are few and small -/
structure RsOk (s : Rs) : Prop where
  fl : (flat s.R).length ≤ 10000
  tx : ∀ r ∈ s.R, r.tx.size ≤ 100000
  I : ∀ r ∈ s.R, 0 ≤ r.el.I ∧ r.el.I ≤ 1000000
noncomputable def hadR (s : Rs) (x : Id) : Bool := hadE (cntL (flat s.R)) x
set_option maxRecDepth 100000 in
set_option maxHeartbeats 2000000 in
theorem rhas_any {w : World} {rb : Nat} {v : RsV} {s : Rs} (h : RsIs w rb v s) (ho : RsOk s) (x : Id) :
    Calls Tryd.prog 50 #[.pointer (some ⟨rb, 0, none⟩), idV x] w fun e w' => e = .returned (.bool (hadR s x)) ∧ Below w.heap.size w w' := by
  have hrd := Rd.of_own h.r
  obtain ⟨A, c, hv, hnc, hcm⟩ := hrd.form
  have hce := h.cell
  rw [hv] at hrd hce
  have HE := Lib.hid (fun W (hW : Below w.heap.size w W) => elements_any s.R A s.R.length c w.heap.size W (hrd.below' hW (Nat.le_refl _)) hW.size (Nat.le_trans ho.fl (by omega)) ho.tx ho.I)
  have hfl := ho.fl
  have hml := (cntL_mem (flat s.R)).2.2
  unfold hadR
  obtain ⟨M, hM⟩ : ∃ M, cntL (flat s.R) = M := ⟨_, rfl⟩
  rw [hM] at hml ⊢
  have HM := Lib.hid hM
  have HC := Lib.hid hce
  obtain ⟨n, hn⟩ : ∃ n, s.R.length = n := ⟨_, rfl⟩
  rw [hn] at HE HC
  clear hrd hM hce hv h ho hnc hn
  unfold idV
  go_enter Tryd.func50, Tryd.ntmps50
  obtain ⟨W0, hW0⟩ : ∃ W, w.alloc (.cells #[.int .i64 x.s.T, .int .i64 x.s.R, .int .i64 x.I] 26) = W := ⟨_, rfl⟩
  have hb0 : Below w.heap.size w W0 := by rw [← hW0]; exact (Below.refl _ w).alloc (Nat.le_refl _) _
  have hx0 : Box W0 w.heap.size x := by rw [← hW0]; exact heap_alloc_new w _
  have e0 : (w.alloc (.cells #[.int .i64 x.s.T, .int .i64 x.s.R, .int .i64 x.I] 26)).cell? ⟨rb, 0, none⟩ = some (.slice A n c) := by
    rw [hW0]
    exact cell_of_row _ _ 0 _ _ _ ((hb0.block rb (Array.getElem?_eq_some_iff.1 HC.out).1).trans HC.out)
  have HB0 := Lib.hid hb0
  have HX0 := Lib.hid hx0
  have HW0 := Lib.hid hW0
  clear hb0 hx0 hW0
  go_wp2_with fail
  rw [HW0.out]
  refine (HE.out W0 HB0.out).mono ?_
  rintro e w1 ⟨v1, rfl, hv1, hb1⟩
  rw [HM.out] at hv1
  obtain ⟨A1, c1, rfl, _, hcm1⟩ := (Rd.of_own hv1).form
  have HV1 := Lib.hid (Rd.of_own hv1)
  have hx1 : Box w1 w.heap.size x := (hb1.block _ (Array.getElem?_eq_some_iff.1 HX0.out).1).trans HX0.out
  have HB1 := Lib.hid (HB0.out.trans (hb1.mono HB0.out.size))
  obtain ⟨bx, hbx⟩ : ∃ z, w.heap.size = z := ⟨_, rfl⟩
  rw [hbx] at hx1
  simp only [hbx]
  obtain ⟨x0, x1, x2⟩ := hx1.cells3
  have HBX := Lib.hid hbx
  clear hv1 hb1 hx1 hbx e0 HX0 HW0 HC
  go_wp2
  go_loopw [6] (fun i wr => ∃ k : Nat, k ≤ M.length ∧ i = .int .i64 k ∧ Hid (hadE (M.take k) x = false) ∧ ∃ q, wr = w1.drewN q) (fun i _ => M.length - (intOf i).toNat)
  case atStart => exact ⟨0, Nat.zero_le _, rfl, Lib.hid (by simp [hadE]), 0, rfl⟩
  case round =>
    obtain ⟨k, hk, rfl, hno, q, rfl⟩ := hrel
    by_cases hlt : k < M.length
    · obtain ⟨b, o, rfl, hB', hcell⟩ := rd_at reC 7 (fun _ => rfl) (by decide) HV1.out hlt
      have d0 : w1.cell? ⟨b, o + k * 7, none⟩ = some (.int .i64 M[k].id.s.T) := hcell 0 _ rfl
      have d1 : w1.cell? ⟨b, o + k * 7 + 1, none⟩ = some (.int .i64 M[k].id.s.R) := hcell 1 _ rfl
      have d2 : w1.cell? ⟨b, o + k * 7 + 2, none⟩ = some (.int .i64 M[k].id.I) := hcell 2 _ rfl
      have hq := eql26
      have hgd := gd26
      have hE := eq3_id M[k].id x
      have hs := hadE_succ hlt x
      rw [hno.out, Bool.false_or] at hs
      have i1 : (0 : Int) ≤ (k : Int) := by omega
      have i2 : (k : Int) < (M.length : Int) := by omega
      obtain ⟨y, hy⟩ : ∃ y, M[k] = y := ⟨_, rfl⟩
      rw [hy] at d0 d1 d2 hE hs
      by_cases hx : y.id = x
      · rw [decide_eq_true hx] at hE
        have HX := Lib.hid (show hadE M x = true from (hadE_iff M x).2 (List.mem_map.2 ⟨y, hy ▸ List.getElem_mem hlt, hx⟩))
        clear hx hno hcell hy hs
        go_wp2
        go_quiet (fail)
        go_wp2
        go_ret
        exact ⟨ret_b HX.out.symm, below_drewN (below_drewN HB1.out q) nq⟩
      · rw [decide_eq_false hx] at hE hs
        have HS := Lib.hid hs
        clear hx hno hcell hy hs
        go_wp2
        go_quiet (fail)
        go_wp2
        go_roundw
        case rel => exact ⟨k + 1, by omega, by go_num, HS, q + nq, rfl⟩
        case measure => simp [intOf]; omega
    · obtain rfl : k = M.length := by omega
      rw [List.take_length] at hno
      go_wp2
      go_ret
      exact ⟨ret_b hno.out.symm, below_drewN HB1.out q⟩
set_option maxHeartbeats 400000 in
theorem rlen_any (tx : ByteArray) (w : World) (hl : tx.size ≤ 1000000000) (ps : List (List UInt8)) (hps : AllP ps) (htx : tx = ofL ps.flatten) :
    Calls Tryd.prog 49 #[.string tx] w fun e w' => e = .returned (.tuple #[.int .i64 (ps.length : Nat), .int .i64 0]) ∧ Below w.heap.size w w' := by
  have hsz : ps.flatten.length ≤ 1000000000 := by rw [htx, ofL_size] at hl; exact hl
  have CS := Lib.hid ((rsplit_any ps.flatten w hsz).mono (R' := fun e w' => ∃ v, e = .returned (.tuple #[v, .int .i64 0]) ∧ w'.ownsRow w.heap.size 9 1 v ps.length (ps.map str) ∧ Below w.heap.size w w') (by
    rintro e w' (⟨qs, v, h1, h2, h3, h4, h5⟩ | ⟨h, _⟩)
    · obtain rfl := pieces_unique ps qs hps h1 h2
      exact ⟨v, h3, h4, h5⟩
    · rw [valid_flatten ps hps] at h; cases h))
  rw [htx]
  clear hl htx hsz
  obtain ⟨s, hs⟩ : ∃ s, ofL ps.flatten = s := ⟨_, rfl⟩
  rw [hs] at CS ⊢
  clear hs
  go_enter Tryd.func49, Tryd.ntmps49
  go_wp2_with (go_at_call 71; refine (CS.out).mono ?_)
  rintro e w1 ⟨v, rfl, ho, hb1⟩
  obtain ⟨A, c, rfl, _⟩ := (Rd.of_own ho).form
  clear ho
  go_wp2
  go_ret2
  exact ⟨rfl, hb1⟩
end Go.Proofs.YtphapjbfaomblaaDoor
