/- Texts of this seat, one behind the other: GI, GH, GJ, GK. -/
import Derived.Test.YtphapjbfaomblaaDoorZb17
import Derived.Lib.SliceRun
import Derived.Test.YtphapjbfaomblaaDoorZb5
import Derived.BigRegion
import Derived.Carry
/- slices.IndexFunc and DeleteFunc at elements, by a function that only reads. -/
namespace Go.Proofs.YtphapjbfaomblaaDoor
open Go Go.RowKit
def elV (e : El) : Value := .agg #[.int .i64 e.id.s.T, .int .i64 e.id.s.R, .int .i64 e.id.I, .string e.pc]
def IdxIs (q : El → Bool) (L : List El) (z : Int) : Prop := (∃ (k : Nat) (h : k < L.length), z = (k : Int) ∧ q L[k] = true ∧ ∀ e ∈ L.take k, q e = false) ∨ (z = -1 ∧ ∀ e ∈ L, q e = false)
def IxRel (q : El → Bool) (L : List El) (w : World) (i : Value) (wr : World) : Prop := ∃ k : Nat, k ≤ L.length ∧ i = .int .i64 k ∧ (∀ e ∈ L.take k, q e = false) ∧ Grows w wr
set_option maxRecDepth 100000 in
set_option maxHeartbeats 2000000 in
theorem idx_any (L : List El) (q : El → Bool) (b8 b9 : Nat) (A : Option Addr) (n c B0 : Nat) (w0 w : World) (hw : Below w0.heap.size w0 w) (hR : Rd w B0 4 (.slice A n c) n (L.flatMap elC)) (hB : B0 ≤ w.heap.size)
    (HC : ∀ e W, Below w0.heap.size w0 W → Calls Tryd.prog 44 #[elV e, .pointer (some ⟨b8, 0, none⟩), .pointer (some ⟨b9, 0, none⟩)] W fun r W' => r = .returned (.bool (q e)) ∧ Grows W W') :
    Calls Tryd.prog 64 #[.slice A n c, .func (.func 44) #[] #[.pointer (some ⟨b8, 0, none⟩), .pointer (some ⟨b9, 0, none⟩)]] w fun r w' => (∃ z, r = .returned (.int .i64 z) ∧ IdxIs q L z) ∧ Grows w w' := by
  obtain ⟨_, hnc, hcm⟩ := hR.len
  unfold maxLen at hcm
  obtain rfl := len_of elC 4 (fun _ => rfl) (by decide) hR.1
  have HR := Lib.hid (fun W (hW : Grows w W) => hR.below' hW.below hB)
  have HW := Lib.hid (fun W (hW : Grows w W) => hw.trans (hW.below.mono hw.size))
  have HC := Lib.hid HC
  clear hR hw
  go_enter Tryd.func64, Tryd.ntmps64
  go_wp2
  go_loopw [8] (fun i wr => IxRel q L w i wr) (fun i _ => L.length - (intOf i).toNat)
  case atStart => exact ⟨0, Nat.zero_le _, rfl, by simp, Grows.refl w⟩
  case round =>
    obtain ⟨k, hk, rfl, hno, hg⟩ := hrel
    obtain ⟨wo, rfl⟩ : ∃ wo : World, wo = wr := ⟨_, rfl⟩
    by_cases hlt : k < L.length
    · obtain ⟨b, o, rfl, hB', hcell⟩ := rd_at elC 4 (fun _ => rfl) (by decide) (HR.out wo hg) hlt
      have htk := List.take_succ_eq_append_getElem hlt
      obtain ⟨e, he⟩ : ∃ e, L[k] = e := ⟨_, rfl⟩
      have HE := Lib.hid he
      rw [he] at hcell htk
      have c0 : wo.cell? ⟨b, o + k * 4, none⟩ = some (.int .i64 e.id.s.T) := hcell 0 _ rfl
      have c1 : wo.cell? ⟨b, o + k * 4 + 1, none⟩ = some (.int .i64 e.id.s.R) := hcell 1 _ rfl
      have c2 : wo.cell? ⟨b, o + k * 4 + 2, none⟩ = some (.int .i64 e.id.I) := hcell 2 _ rfl
      have c3 : wo.cell? ⟨b, o + k * 4 + 3, none⟩ = some (.string e.pc) := hcell 3 _ rfl
      have i1 : (0 : Int) ≤ (k : Int) := by omega
      have i2 : (k : Int) < (L.length : Int) := by omega
      have HNO := Lib.hid hno
      have HG := Lib.hid hg
      have HTK := Lib.hid htk
      have HCe := Lib.hid (HC.out e wo (HW.out wo hg))
      unfold elV at HCe
      clear hcell he htk hno hg
      go_wp2_with fail
      refine HCe.out.mono ?_
      rintro r w1 ⟨rfl, hg1⟩
      have HG1 := Lib.hid (HG.out.trans hg1)
      clear hg1 c0 c1 c2 c3
      obtain ⟨d, hd⟩ : ∃ d, q e = d := ⟨_, rfl⟩
      have HD := Lib.hid hd
      rw [hd]
      clear hd
      cases d
      · go_wp2
        go_roundw
        case rel =>
          refine ⟨k + 1, by omega, by go_num, ?_, HG1.out⟩
          rw [HTK.out]
          intro x hx
          rcases List.mem_append.1 hx with hx | hx
          · exact HNO.out x hx
          · rw [List.mem_singleton] at hx; rw [hx]; exact HD.out
        case measure => simp [intOf]; omega
      · go_wp2
        go_ret
        exact ⟨⟨_, rfl, .inl ⟨k, hlt, rfl, by rw [HE.out]; exact HD.out, HNO.out⟩⟩, HG1.out⟩
    · obtain rfl : k = L.length := by omega
      rw [List.take_length] at hno
      have HNO := Lib.hid hno
      have HG := Lib.hid hg
      clear hno hg hk
      go_wp2
      go_ret
      exact ⟨⟨_, rfl, .inr ⟨rfl, HNO.out⟩⟩, HG.out⟩
def zEl (n : Nat) : List Value := (Builtin.zeroCells #[.int .i64 0, .int .i64 0, .int .i64 0, .string ⟨#[]⟩] n).toList
theorem zEl_len (n : Nat) : (zEl n).length = n * 4 := by simp [zEl, Builtin.zeroCells]
theorem zEl_one (n : Nat) : ∀ v ∈ zEl n, v.oneCell' = true := by
  intro v hv
  simp only [zEl, Builtin.zeroCells, Array.toList_map, List.mem_map] at hv
  obtain ⟨i, _, rfl⟩ := hv
  have : i % 4 = 0 ∨ i % 4 = 1 ∨ i % 4 = 2 ∨ i % 4 = 3 := by omega
  rcases this with h | h | h | h <;> simp [h, Value.oneCell']
theorem run_clear_el (w : World) (ty : TypeId) (b o n c : Nat) (hn : 0 < n) (hc : ∀ j, j < n * 4 → (w.cell? ⟨b, o + j, none⟩).isSome = true) (hf : ∀ j, j < n * 4 → w.frozen? ⟨b, o + j, none⟩ = false) :
    (Builtin.clear_ #[75] ty #[.slice (some ⟨b, o, none⟩) n c]).run Tryd.prog w = .ok (.tuple #[]) (w.setCells b o (zEl n)) := by
  have hv := Tryd.zeroValue84
  have hst := run_storeCells_cells (P := Tryd.prog) b o (zEl n) 0 w (by rw [zEl_len]; simpa using hc) (by rw [zEl_len]; simpa using hf) (zEl_one n)
  simp only [Nat.add_zero] at hst
  obtain ⟨m, rfl⟩ : ∃ m, n = m + 1 := ⟨n - 1, by omega⟩
  have hz : (Builtin.zeroCells (Value.cells (.agg #[.int .i64 0, .int .i64 0, .int .i64 0, .string ⟨#[]⟩])) (m + 1)).toList = zEl (m + 1) := rfl
  simp [Builtin.clear_, run_underlying Tryd.underlying75, hv, hz, hst]
def DelRel (q : El → Bool) (L : List El) (base g c : Nat) (w : World) (i j : Value) (wr : World) : Prop :=
  ∃ (j' : Nat) (F M : List El), j' ≤ L.length ∧ j = .int .i64 j' ∧ i = .int .i64 F.length ∧ F = (L.take j').filter (fun e => !q e) ∧ F.length + M.length = j' ∧ 0 < M.length ∧
    wr.ownsRow base 84 4 (.slice (some ⟨g, 0, none⟩) L.length c) L.length ((F ++ M ++ L.drop j').flatMap elC) ∧ Below base w wr
def DelPost (q : El → Bool) (L : List El) (base : Nat) (w : World) (r : Ending) (w' : World) : Prop :=
  ∃ v, r = .returned v ∧ w'.ownsRow base 84 4 v (L.filter (fun e => !q e)).length ((L.filter (fun e => !q e)).flatMap elC) ∧ Below base w w'
theorem filter_all {q : El → Bool} {L : List El} (h : ∀ e ∈ L, q e = false) : L.filter (fun e => !q e) = L := by
  rw [List.filter_eq_self]
  intro e he
  rw [h e he]
  rfl
set_option maxRecDepth 100000 in
set_option maxHeartbeats 4000000 in
theorem delete_any (L : List El) (q : El → Bool) (b8 b9 : Nat) (v : Value) (base : Nat) (w0 w : World) (hw : Below w0.heap.size w0 w) (ho : w.ownsRow base 84 4 v L.length (L.flatMap elC)) (hbw : w0.heap.size ≤ base) (hbs : base ≤ w.heap.size) (hL : L.length ≤ 1000000)
    (HC : ∀ e W, Below w0.heap.size w0 W → Calls Tryd.prog 44 #[elV e, .pointer (some ⟨b8, 0, none⟩), .pointer (some ⟨b9, 0, none⟩)] W fun r W' => r = .returned (.bool (q e)) ∧ Grows W W') :
    Calls Tryd.prog 43 #[v, .func (.func 44) #[] #[.pointer (some ⟨b8, 0, none⟩), .pointer (some ⟨b9, 0, none⟩)]] w (DelPost q L base w) := by
  obtain ⟨A, c, rfl, hnc, hcm⟩ := (Rd.of_own ho).form
  have HI := Lib.hid (idx_any L q b8 b9 A L.length c w.heap.size w0 w hw (Rd.of_own ho) (Nat.le_refl _) HC)
  have HC := Lib.hid HC
  have HO := Lib.hid ho
  have HW := Lib.hid hw
  clear ho hw
  go_enter Tryd.func43, Tryd.ntmps43
  go_wp2_with fail
  refine HI.out.mono ?_
  rintro r w1 ⟨⟨z, rfl, hz⟩, hg1⟩
  have HG1 := Lib.hid hg1
  rcases hz with ⟨k, hk, rfl, hqk, hno⟩ | ⟨rfl, hno⟩
  · obtain ⟨g, cap, _, e1, hbg, _⟩ := own_parts HO.out (by omega)
    cases e1
    have hne : ((k : Int) == -1) = false := by simp
    have hst : DelRel q L base g c w (.int .i64 k) (.int .i64 ((k : Int) + 1)) w1 := by
      have hkt : (L.take (k + 1)).filter (fun e => !q e) = L.take k := by
        rw [List.take_succ_eq_append_getElem hk, List.filter_append, filter_all hno]
        simp [hqk]
      refine ⟨k + 1, L.take k, [L[k]], by omega, by simp, by rw [List.length_take, Nat.min_eq_left (by omega)], hkt.symm, by rw [List.length_take, Nat.min_eq_left (by omega)]; rfl, by simp, ?_, hg1.below.mono hbs⟩
      have e : L.take k ++ [L[k]] ++ L.drop (k + 1) = L := by
        rw [← List.take_succ_eq_append_getElem hk, List.take_append_drop]
      rw [e]
      exact own_grows HO.out hg1.below
    have HST := Lib.hid hst
    clear hst hqk hno hg1
    go_wp2
    go_loopw [5, 6] (fun i j wr => DelRel q L base g c w i j wr) (fun _ j _ => L.length - (intOf j).toNat)
    case atStart => exact HST.out
    case round =>
      clear HST
      obtain ⟨j, F, M, hj, rfl, rfl, hF, hFM, hM, hO, hb⟩ := hrel
      obtain ⟨wo, rfl⟩ : ∃ wo : World, wo = wr := ⟨_, rfl⟩
      have hXl : (F ++ M ++ L.drop j).length = L.length := by simp; omega
      have hgo : g < wo.heap.size := (hO.lt g rfl).2
      have hwo : Below w0.heap.size w0 wo := HW.out.trans (hb.mono hbw)
      by_cases hlt : j < L.length
      · have hdr : L.drop j = L[j] :: L.drop (j + 1) := List.drop_eq_getElem_cons hlt
        obtain ⟨gr, og, hge, hBr, hcell⟩ := rd_at elC 4 (fun _ => rfl) (by decide) (show Rd wo wo.heap.size 4 (.slice (some ⟨g, 0, none⟩) (F ++ M ++ L.drop j).length c) (F ++ M ++ L.drop j).length ((F ++ M ++ L.drop j).flatMap elC) from by rw [hXl]; exact Rd.of_own hO) (show j < (F ++ M ++ L.drop j).length by omega)
        have hget : (F ++ M ++ L.drop j)[j]'(by omega) = L[j] := by
          rw [List.getElem_append_right (by simp; omega)]
          simp [hFM]
        rw [hget] at hcell
        have hge2 : g = gr ∧ 0 = og := by
          injection hge with hge
          injection hge with h1 h2
          exact ⟨h1, h2⟩
        obtain ⟨rfl, rfl⟩ := hge2
        have htk := List.take_succ_eq_append_getElem hlt
        obtain ⟨e, he⟩ : ∃ e, L[j] = e := ⟨_, rfl⟩
        rw [he] at hcell hdr htk
        rw [hdr] at hO
        obtain ⟨m, M', rfl⟩ : ∃ m M', M = m :: M' := by
          cases M with
          | nil => simp at hM
          | cons m M' => exact ⟨m, M', rfl⟩
        have c0 : wo.cell? ⟨g, j * 4, none⟩ = some (.int .i64 e.id.s.T) := by have := hcell 0 _ rfl; simpa using this
        have c1 : wo.cell? ⟨g, j * 4 + 1, none⟩ = some (.int .i64 e.id.s.R) := by have := hcell 1 _ rfl; simpa using this
        have c2 : wo.cell? ⟨g, j * 4 + 2, none⟩ = some (.int .i64 e.id.I) := by have := hcell 2 _ rfl; simpa using this
        have c3 : wo.cell? ⟨g, j * 4 + 3, none⟩ = some (.string e.pc) := by have := hcell 3 _ rfl; simpa using this
        have i1 : (0 : Int) ≤ (j : Int) := by omega
        have i2 : (j : Int) < (L.length : Int) := by omega
        have hFl : F.length < L.length := by simp at hFM; omega
        have i3 : (0 : Int) ≤ (F.length : Int) := by omega
        have i4 : (F.length : Int) < (L.length : Int) := by omega
        have HO2 := Lib.hid hO
        have HB := Lib.hid hb
        have HWO := Lib.hid hwo
        have HF := Lib.hid hF
        have HTK := Lib.hid htk
        have HFM := Lib.hid hFM
        have hx7 : (wo.alloc (.cells (elC e).toArray 84)).heap[wo.heap.size]? = some (.cells (elC e).toArray 84 (0, 0)) := heap_alloc_new wo _
        have HX7 := Lib.hid hx7
        have HCe := Lib.hid (HC.out e (wo.alloc (.cells (elC e).toArray 84)) (hwo.alloc hwo.size _))
        unfold elV at HCe
        clear hcell hget hXl he hdr htk hO hb hwo hF hFM hM hx7 hge hBr
        go_wp2_with fail
        refine HCe.out.mono ?_
        rintro r w2 ⟨rfl, hg2⟩
        have hx2 : w2.heap[wo.heap.size]? = some (.cells (elC e).toArray 84 (0, 0)) := (hg2.below.block _ (by simp)).trans HX7.out
        have hO2 := own_grows (HO2.out.alloc (.cells (elC e).toArray 84)) hg2.below
        have hb2 : Below base w w2 := (HB.out.alloc (Nat.le_trans hbs HB.out.size) _).trans (hg2.below.mono (by have := HB.out.size; simp; omega))
        obtain ⟨d, hd⟩ : ∃ d, q e = d := ⟨_, rfl⟩
        have HD := Lib.hid hd
        rw [hd]
        clear hd c0 c1 c2 c3 hg2
        cases d
        · have hAl : (F.flatMap elC).length = F.length * 4 := flatl elC 4 (fun _ => rfl) F
          have hO3 : w2.ownsRow base 84 4 (.slice (some ⟨g, 0, none⟩) L.length c) L.length (F.flatMap elC ++ elC m ++ (M' ++ e :: L.drop (j + 1)).flatMap elC) := by simpa using hO2
          have hset := own_sets hO3 (elC e) rfl (by omega)
          rw [hAl] at hset
          have hset' : ((((w2.setCell ⟨g, F.length * 4, none⟩ (.int .i64 e.id.s.T)).setCell ⟨g, F.length * 4 + 1, none⟩ (.int .i64 e.id.s.R)).setCell ⟨g, F.length * 4 + 2, none⟩ (.int .i64 e.id.I)).setCell ⟨g, F.length * 4 + 3, none⟩ (.string e.pc)).ownsRow base 84 4 (.slice (some ⟨g, 0, none⟩) L.length c) L.length (F.flatMap elC ++ elC e ++ (M' ++ e :: L.drop (j + 1)).flatMap elC) := hset
          have hq : ∀ i u, (elC m)[i]? = some u → w2.cell? ⟨g, F.length * 4 + i, none⟩ = some u := fun i u hu => (own_cell hO3 (F.length * 4 + i) u (by
            rw [List.append_assoc, List.getElem?_append_right (by omega), hAl, Nat.add_sub_cancel_left, List.getElem?_append_left (List.getElem?_eq_some_iff.1 hu).1]
            exact hu)).1
          have q0 : w2.cell? ⟨g, F.length * 4, none⟩ = some (.int .i64 m.id.s.T) := hq 0 _ rfl
          have q1 : w2.cell? ⟨g, F.length * 4 + 1, none⟩ = some (.int .i64 m.id.s.R) := hq 1 _ rfl
          have q2 : w2.cell? ⟨g, F.length * 4 + 2, none⟩ = some (.int .i64 m.id.I) := hq 2 _ rfl
          have q3 : w2.cell? ⟨g, F.length * 4 + 3, none⟩ = some (.string m.pc) := hq 3 _ rfl
          have f0 := own_frozen hO3 (by omega)
          have d0 : w2.cell? ⟨wo.heap.size, 0, none⟩ = some (.int .i64 e.id.s.T) := cell_of_row _ _ 0 _ _ _ hx2
          have d1 : w2.cell? ⟨wo.heap.size, 1, none⟩ = some (.int .i64 e.id.s.R) := cell_of_row _ _ 1 _ _ _ hx2
          have d2 : w2.cell? ⟨wo.heap.size, 2, none⟩ = some (.int .i64 e.id.I) := cell_of_row _ _ 2 _ _ _ hx2
          have d3 : w2.cell? ⟨wo.heap.size, 3, none⟩ = some (.string e.pc) := cell_of_row _ _ 3 _ _ _ hx2
          have hb4 : Below base w ((((w2.setCell ⟨g, F.length * 4, none⟩ (.int .i64 e.id.s.T)).setCell ⟨g, F.length * 4 + 1, none⟩ (.int .i64 e.id.s.R)).setCell ⟨g, F.length * 4 + 2, none⟩ (.int .i64 e.id.I)).setCell ⟨g, F.length * 4 + 3, none⟩ (.string e.pc)) := (((hb2.setCell (p := ⟨g, F.length * 4, none⟩) hbg _).setCell (p := ⟨g, F.length * 4 + 1, none⟩) hbg _).setCell (p := ⟨g, F.length * 4 + 2, none⟩) hbg _).setCell (p := ⟨g, F.length * 4 + 3, none⟩) hbg _
          have HR := Lib.hid (show DelRel q L base g c w (.int .i64 ((F ++ [e]).length : Nat)) (.int .i64 ((j + 1 : Nat) : Int)) ((((w2.setCell ⟨g, F.length * 4, none⟩ (.int .i64 e.id.s.T)).setCell ⟨g, F.length * 4 + 1, none⟩ (.int .i64 e.id.s.R)).setCell ⟨g, F.length * 4 + 2, none⟩ (.int .i64 e.id.I)).setCell ⟨g, F.length * 4 + 3, none⟩ (.string e.pc)) from
            ⟨j + 1, F ++ [e], M' ++ [e], by omega, rfl, rfl, by rw [HTK.out, List.filter_append, ← HF.out]; simp [HD.out], by have := HFM.out; simp at this ⊢; omega, by simp, by simpa using hset', hb4⟩)
          clear hO2 hb2 hx2 hO3 hset hset' hq hb4
          go_wp2
          go_roundw
          case rel => simpa using HR.out
          case measure => simp [intOf]; omega
        · have HR := Lib.hid (show DelRel q L base g c w (.int .i64 F.length) (.int .i64 ((j + 1 : Nat) : Int)) w2 from
            ⟨j + 1, F, m :: M' ++ [e], by omega, rfl, rfl, by rw [HTK.out, List.filter_append, ← HF.out]; simp [HD.out], by have := HFM.out; simp at this ⊢; omega, by simp, by simpa using hO2, hb2⟩)
          clear hO2 hb2 hx2
          go_wp2
          go_roundw
          case rel => exact HR.out
          case measure => simp [intOf]; omega
      · obtain rfl : j = L.length := by omega
        rw [List.take_length] at hF
        have hdn : L.drop L.length = [] := List.drop_length
        rw [hdn, List.append_nil] at hO
        have hFl : F.length < L.length := by omega
        have hAl : (F.flatMap elC).length = F.length * 4 := flatl elC 4 (fun _ => rfl) F
        have hMl : (M.flatMap elC).length = (L.length - F.length) * 4 := by rw [flatl elC 4 (fun _ => rfl)]; omega
        rw [List.flatMap_append] at hO
        have hO0 : wo.ownsRow base 84 4 (.slice (some ⟨g, 0, none⟩) L.length c) L.length (F.flatMap elC ++ M.flatMap elC ++ []) := by simpa using hO
        have hset := own_sets hO0 (zEl (L.length - F.length)) (by rw [zEl_len, hMl]) (by omega)
        rw [hAl, List.append_nil] at hset
        have hcl := fun ty c' => run_clear_el wo ty g (F.length * 4) (L.length - F.length) c' (by omega) (fun i hi => by
          have hi2 : i < (M.flatMap elC).length := by rw [hMl]; exact hi
          have := (own_cell hO (F.length * 4 + i) ((M.flatMap elC)[i]) (by
            rw [List.getElem?_append_right (by omega), hAl, Nat.add_sub_cancel_left, List.getElem?_eq_getElem hi2])).1
          rw [this]
          rfl) (fun i _ => own_frozen hO (by omega) _)
        have hcut := own_cut hset (show F.length ≤ L.length by omega)
        rw [List.take_append_of_le_length (by omega), List.take_of_length_le (by omega)] at hcut
        have hbf := setCells_below hb hbg (F.length * 4) (zEl (L.length - F.length))
        have HP := Lib.hid (show DelPost q L base w (.returned (.slice (some ⟨g, 0, none⟩) F.length c)) (wo.setCells g (F.length * 4) (zEl (L.length - F.length))) from ⟨_, rfl, by rw [← hF]; exact hcut, hbf⟩)
        have i1 : (0 : Int) ≤ (F.length : Int) := by omega
        have i2 : (F.length : Int) ≤ (L.length : Int) := by omega
        have i3 : (L.length : Int) ≤ (c : Int) := by omega
        have i4 : (F.length : Int) < (c : Int) := by omega
        clear hO hO0 hset hcut hbf hF hdn hAl hMl hFM hM hXl hwo hb
        go_wp2
        go_ret
        exact HP.out
  · have HP := Lib.hid (show DelPost q L base w (.returned (.slice A L.length c)) w1 from ⟨_, rfl, by rw [filter_all hno]; exact own_grows HO.out hg1.below, hg1.below.mono hbs⟩)
    clear hno hg1
    go_wp2
    go_ret
    exact HP.out
end Go.Proofs.YtphapjbfaomblaaDoor
/- The program's Order. -/
namespace Go.Proofs.YtphapjbfaomblaaDoor
open Go Go.RowKit
theorem pcs_all (l : List UInt8) : AllP (pcs l) := by
  unfold pcs
  split
  · rename_i h; exact h.choose_spec.1
  · exact AllP.nil
theorem flatOf_pc : ∀ (ps : List (List UInt8)) (af x : Id), AllP ps → ∀ e ∈ flatOf af x ps, e.pc.size ≤ 4
  | [], _, _, _, e, he => by cases he
  | p :: ps, af, x, h, e, he => by
    rw [flatOf] at he
    rcases List.mem_cons.1 he with rfl | he
    · show (ofL p).size ≤ 4
      rw [ofL_size]
      exact h.head.four
    · exact flatOf_pc ps x (nextI x) h.tail e he
theorem flat_pc (R : List Rn) : ∀ e ∈ flat R, e.pc.size ≤ 4 := by
  intro e he
  obtain ⟨r, _, hr⟩ := List.mem_flatMap.1 he
  exact flatOf_pc _ _ _ (pcs_all _) e hr
theorem txt_len4 : ∀ (L : List El), (∀ e ∈ L, e.pc.size ≤ 4) → (txt L).length ≤ L.length * 4
  | [], _ => by simp [txt]
  | e :: L, h => by
    have h1 := txt_len4 L (fun x hx => h x (List.mem_cons_of_mem _ hx))
    have h2 := h e (by simp)
    have h3 : txt (e :: L) = e.pc.data.toList ++ txt L := by simp [txt]
    have h4 : e.pc.data.toList.length = e.pc.size := (Lib.size_eq e.pc).symm
    rw [h3, List.length_append, List.length_cons]
    omega
def els (O : List Nd) : List El := O.map (·.2)
theorem ndC_els (O : List Nd) : O.flatMap ndC = (els O).flatMap elC := by
  unfold els
  rw [List.flatMap_map]
  rfl
theorem order_els {F : List El} {O : List Nd} (h : OrderOf Id.Lt El.id El.af zeroI (Counts F) O) : ∀ e ∈ els O, e ∈ F := by
  intro e he
  obtain ⟨n, hn, rfl⟩ := List.mem_map.1 he
  exact counts_mem ((h.2 n).1 hn).1
def OrdPost (R : List Rn) (w : World) (e : Ending) (w' : World) : Prop :=
  ∃ O v, OrderOf Id.Lt El.id El.af zeroI (Counts (flat R)) O ∧ e = .returned (.tuple #[v, .string (ofL (txt (els O)))]) ∧ w'.ownsRow w.heap.size 26 3 v O.length (((els O).map El.id).flatMap idC) ∧ O.length ≤ (flat R).length ∧ Below w.heap.size w w'
set_option maxRecDepth 100000 in
set_option maxHeartbeats 1000000 in
theorem order_any (R : List Rn) (A : Option Addr) (n c B0 : Nat) (w : World) (hR : Rd w B0 7 (.slice A n c) n (R.flatMap rnC)) (hB : B0 ≤ w.heap.size) (hT : Tabs w) (hF : (flat R).length ≤ 100000) (htx : ∀ r ∈ R, r.tx.size ≤ 100000) :
    Calls Tryd.prog 13 #[.slice A n c] w (OrdPost R w) := by
  have HOrd := Lib.hid (ordered_any R A n c B0 w hR hB hT hF htx)
  have HF := Lib.hid hF
  clear hR hT hF htx
  go_enter Tryd.func13, Tryd.ntmps13
  go_wp2_with fail
  refine HOrd.out.mono ?_
  rintro e w1 ⟨v, O, rfl, hO, hrow, hle, hb1⟩
  rw [ndC_els] at hrow
  have hl : (els O).length = O.length := by simp [els]
  obtain ⟨Av, cv, rfl, _, _⟩ := (Rd.of_own hrow).form
  have hx : (txt (els O)).length ≤ 1000000000 := by
    have h1 := txt_len4 (els O) (fun e he => flat_pc R e (order_els hO e he))
    have := HF.out
    omega
  have HTo := Lib.hid (told_any (els O) Av O.length cv w1.heap.size w1 (Rd.of_own hrow) (Nat.le_refl _) (by have := HF.out; omega) hx)
  have HO := Lib.hid hO
  have HB1 := Lib.hid hb1
  have HLe := Lib.hid hle
  have HL := Lib.hid hl
  clear hrow hO hb1 hx hle hl HOrd
  go_wp2_with fail
  refine HTo.out.mono ?_
  rintro e w2 ⟨v2, rfl, hv2, hb2⟩
  have HP := Lib.hid (show OrdPost R w (.returned (.tuple #[v2, .string (ofL (txt (els O)))])) w2 from ⟨O, v2, HO.out, rfl, by rw [← HL.out]; exact own_base hv2 HB1.out.size, HLe.out, HB1.out.trans (hb2.mono HB1.out.size)⟩)
  clear hv2 hb2
  go_wp2
  go_ret2
  exact HP.out
end Go.Proofs.YtphapjbfaomblaaDoor
/- Maps that count; the function by which weave.Seen leaves elements out. -/
namespace Go.Proofs.YtphapjbfaomblaaDoor
open Go Go.RowKit Go.Maps
def cnt {α : Type} [DecidableEq α] (l : List α) (s : α) : Nat := (l.filter (fun x => decide (x = s))).length
theorem cnt_snoc {α : Type} [DecidableEq α] (l : List α) (x s : α) : cnt (l ++ [x]) s = cnt l s + if x = s then 1 else 0 := by
  unfold cnt
  rw [List.filter_append, List.length_append]
  by_cases h : x = s <;> simp [h]
theorem cnt_le {α : Type} [DecidableEq α] (l : List α) (s : α) : cnt l s ≤ l.length := List.length_filter_le _ _
theorem cnt_zero {α : Type} [DecidableEq α] (l : List α) (s : α) : cnt l s = 0 ↔ s ∉ l := by
  unfold cnt
  rw [List.length_eq_zero_iff, List.filter_eq_nil_iff]
  constructor
  · intro h hs; exact h s hs (by simp)
  · intro h x hx e; exact h (by simpa using (by simpa using e : x = s) ▸ hx)
structure CM {α : Type} [DecidableEq α] (k : TypeId) (K : α → Lit) (l : List α) (wr : World) (b m : Nat) (D : DataW HH) : Prop where
  map : wr.ownsMap Tryd.prog k (plainElem (H := HH) Tryd.prog 3) b m D
  le : m ≤ l.length
  ct : ∀ s, D.atKey (K s) (.lit (.int .i64 0)) = .lit (.int .i64 (cnt l s : Nat))
section
variable {α : Type} [DecidableEq α] {k t : TypeId} {V : α → Value} {K : α → Lit} {l : List α} {wr wr' : World} {b m : Nat} {D : DataW HH}
theorem CM.touch {F : Nat → Prop} (h : CM k K l wr b m D) (t : Touch F wr wr') (hb : ¬ F b) : CM k K l wr' b m D := ⟨map_touch h.map t hb, h.le, h.ct⟩
theorem CM.below (h : CM k K l wr b m D) (hb : Below wr.heap.size wr wr') : CM k K l wr' b m D := h.touch (Below.touch hb (fun _ => False)) (fun h => h)
theorem CM.look (ok : KeyOk k V K) (ht : Tryd.prog.underlying t = some (.map k 3)) (h : CM k K l wr b m D) (x : α) : (Instr.lookup t (.map (some b)) (V x) false).run Tryd.prog wr = .ok (.int .i64 (cnt l x : Nat)) wr := by
  obtain ⟨c, h1, h2, _⟩ := h.map.lookup_int ok.keyed ht Tryd.underlying3 (zero3 wr) (ok.val x)
  have h3 := h.ct x
  rw [h2] at h3
  have : c = (cnt l x : Nat) := by simpa using h3
  rw [h1, this]
theorem CM.tick (ok : KeyOk k V K) (kl : WideMaps.KeyLaw Tryd.prog k) (ht : Tryd.prog.underlying t = some (.map k 3)) (h : CM k K l wr b m D) (x : α) (hl : l.length ≤ 1000000) :
    ∃ st w1 w2, (Instr.mapEntry t (.map (some b)) (V x)).run Tryd.prog wr = .ok (.tuple #[.int .i64 (cnt l x : Nat), goInt st]) w1 ∧ (Instr.lookup t (.map (some b)) (V x) false).run Tryd.prog w1 = .ok (.int .i64 (cnt l x : Nat)) w1 ∧
      (Instr.entryStore t (.map (some b)) (goInt st) (.int .i64 ((cnt l x : Nat) + 1))).run Tryd.prog w1 = .ok () w2 ∧ wr.grownBy w2 (some b) ∧ ∃ D3, CM k K (l ++ [x]) w2 b (m + 1) D3 := by
  have hle := cnt_le l x
  have hm := h.le
  have hw : I64 (((cnt l x : Nat) : Int) + 1) := by unfold I64; omega
  obtain ⟨v0, st, w1, w2, e1, e2, e3, e4, hM, hg⟩ := own_entry (val := .int .i64 (((cnt l x : Nat) : Int) + 1)) h.map kl ht (fun u => zero3 u) (by unfold maxLen; omega) (ok.val x) (plain3 _ hw)
  have hv : v0 = .int .i64 (cnt l x : Nat) := by
    rw [h.look ok ht x] at e1
    cases e1
    rfl
  subst hv
  refine ⟨st, w1, w2, e2, e3, e4, hg, D.put (K x) (.lit (.int .i64 (((cnt l x : Nat) : Int) + 1))), hM, by simp; omega, fun s => ?_⟩
  rw [cnt_snoc]
  by_cases hs : x = s
  · subst hs
    rw [Maps.atKey_put_same h.map.isMap (ok.keyed.key (ok.val x)), if_pos rfl]
    simp
  · rw [Maps.atKey_put_other (fun e' => hs (ok.inj e').symm), h.ct s, if_neg hs]
    simp
end
/-- who is left out: whose stamp is not on, and who is gone -/
def leaves (on : List Stamp) (gone : List Id) (e : El) : Bool := decide (e.id.s ∉ on) || decide (e.id ∈ gone)
set_option maxRecDepth 100000 in
set_option maxHeartbeats 1000000 in
theorem seen1_any (on : List Stamp) (gone : List Id) (e : El) (b8 b9 bi bo m m2 : Nat) (D D2 : DataW HH) (W : World) (h8 : W.heap[b8]? = some (.cells #[.map (some bi)] 80 (0, 0))) (h9 : W.heap[b9]? = some (.cells #[.map (some bo)] 81 (0, 0)))
    (hi : CM 24 stK on W bi m D) (ho : CM 26 idK gone W bo m2 D2) :
    Calls Tryd.prog 44 #[elV e, .pointer (some ⟨b8, 0, none⟩), .pointer (some ⟨b9, 0, none⟩)] W fun r W' => r = .returned (.bool (leaves on gone e)) ∧ Grows W W' := by
  have hb : Below W.heap.size W (W.alloc (.cells #[.int .i64 e.id.s.T, .int .i64 e.id.s.R, .int .i64 e.id.I, .string e.pc] 84)) := (Below.refl _ W).alloc (Nat.le_refl _) _
  have l1 := (hi.below hb).look ok24 Tryd.underlying80 e.id.s
  have l2 := (ho.below hb).look ok26 Tryd.underlying81 e.id
  have c8 : W.cell? ⟨b8, 0, none⟩ = some (.map (some bi)) := cell_of_row _ _ 0 _ _ _ h8
  have c9 : W.cell? ⟨b9, 0, none⟩ = some (.map (some bo)) := cell_of_row _ _ 0 _ _ _ h9
  have hl8 := (Array.getElem?_eq_some_iff.1 h8).1
  have hl9 := (Array.getElem?_eq_some_iff.1 h9).1
  have hlv : leaves on gone e = (decide (cnt on e.id.s = 0) || decide (0 < cnt gone e.id)) := by
    unfold leaves
    have h1 := cnt_zero on e.id.s
    have h2 := cnt_zero gone e.id
    congr 1
    · exact decide_eq_decide.2 h1.symm
    · refine decide_eq_decide.2 ?_
      constructor
      · intro h; exact Nat.pos_of_ne_zero (fun e => (h2.1 e) h)
      · intro h
        by_cases h3 : e.id ∈ gone
        · exact h3
        · have := h2.2 h3; omega
  have HLV := Lib.hid hlv
  obtain ⟨x, hx⟩ : ∃ x, cnt on e.id.s = x := ⟨_, rfl⟩
  obtain ⟨y, hy⟩ : ∃ y, cnt gone e.id = y := ⟨_, rfl⟩
  rw [hx] at l1 HLV
  rw [hy] at l2 HLV
  unfold stV at l1
  unfold idV at l2
  unfold elV
  clear h8 h9 hi ho hb hlv hx hy
  by_cases h0 : x = 0
  · subst h0
    go_enter Tryd.func44, Tryd.ntmps44
    go_wp2
    go_ret
    exact ⟨by rw [HLV.out]; rfl, (Grows.refl W).alloc _⟩
  · have hx0 : ((x : Int) == 0) = false := by simp; omega
    by_cases h1 : y = 0
    · subst h1
      go_enter Tryd.func44, Tryd.ntmps44
      go_wp2
      go_ret
      exact ⟨by rw [HLV.out]; simp [h0], (Grows.refl W).alloc _⟩
    · have hy0 : (0 : Int) < (y : Int) := by omega
      go_enter Tryd.func44, Tryd.ntmps44
      go_wp2
      go_ret
      exact ⟨by rw [HLV.out]; simp [h0], (Grows.refl W).alloc _⟩
end Go.Proofs.YtphapjbfaomblaaDoor
/- The program's Seen. -/
namespace Go.Proofs.YtphapjbfaomblaaDoor
open Go Go.RowKit Go.Maps
def Boxes (wr : World) (b8 b9 bi bo : Nat) : Prop := wr.heap[b8]? = some (.cells #[.map (some bi)] 80 (0, 0)) ∧ wr.heap[b9]? = some (.cells #[.map (some bo)] 81 (0, 0))
theorem Boxes.touch {F : Nat → Prop} {w w' : World} {b8 b9 bi bo : Nat} (h : Boxes w b8 b9 bi bo) (t : Touch F w w') (h8 : ¬ F b8) (h9 : ¬ F b9) : Boxes w' b8 b9 bi bo := ⟨block_touch h.1 t h8, block_touch h.2 t h9⟩
def SeRel (on1 : List Stamp) (gone1 : List Id) (w : World) (b8 b9 bi bo : Nat) (wr : World) : Prop :=
  (∃ m D, CM 24 stK on1 wr bi m D) ∧ (∃ m D, CM 26 idK gone1 wr bo m D) ∧ Boxes wr b8 b9 bi bo ∧ Below w.heap.size w wr
def SeL1 (on : List Stamp) (w : World) (b8 b9 bi bo : Nat) (i : Value) (wr : World) : Prop := ∃ j : Nat, j ≤ on.length ∧ i = .int .i64 j ∧ SeRel (on.take j) [] w b8 b9 bi bo wr
def SeL2 (on : List Stamp) (gone : List Id) (w : World) (b8 b9 bi bo : Nat) (i : Value) (wr : World) : Prop := ∃ j : Nat, j ≤ gone.length ∧ i = .int .i64 j ∧ SeRel on (gone.take j) w b8 b9 bi bo wr
def seenOf (on : List Stamp) (gone : List Id) (O : List Nd) : List El := (els O).filter (fun e => !leaves on gone e)
def SeenPost (R : List Rn) (on : List Stamp) (gone : List Id) (w : World) (e : Ending) (w' : World) : Prop :=
  ∃ O v, OrderOf Id.Lt El.id El.af zeroI (Counts (flat R)) O ∧ e = .returned (.tuple #[v, .string (ofL (txt (seenOf on gone O)))]) ∧ w'.ownsRow w.heap.size 26 3 v (seenOf on gone O).length (((seenOf on gone O).map El.id).flatMap idC) ∧ O.length ≤ (flat R).length ∧ Below w.heap.size w w'
theorem cm_start {α : Type} [DecidableEq α] {k : TypeId} {K : α → Lit} {w : World} {b : Nat} (h : w.ownsMap Tryd.prog k (plainElem (H := HH) Tryd.prog 3) b 0 (.map [])) : CM k K ([] : List α) w b 0 (.map []) := ⟨h, Nat.le_refl _, fun s => by simp [cnt, DataW.atKey]⟩
set_option maxRecDepth 100000 in
set_option maxHeartbeats 8000000 in
theorem seen_any (R : List Rn) (on : List Stamp) (gone : List Id) (A A1 A2 : Option Addr) (n c n1 c1 n2 c2 B0 : Nat) (w : World) (hR : Rd w B0 7 (.slice A n c) n (R.flatMap rnC)) (hR1 : Rd w B0 2 (.slice A1 n1 c1) n1 (on.flatMap stC)) (hR2 : Rd w B0 3 (.slice A2 n2 c2) n2 (gone.flatMap idC)) (hB : B0 ≤ w.heap.size) (hT : Tabs w) (hF : (flat R).length ≤ 100000) (htx : ∀ r ∈ R, r.tx.size ≤ 100000) (hon : on.length ≤ 100000) (hgo : gone.length ≤ 100000) :
    Calls Tryd.prog 18 #[.slice A n c, .slice A1 n1 c1, .slice A2 n2 c2] w (SeenPost R on gone w) := by
  obtain ⟨_, hnc, hcm⟩ := hR1.len
  obtain ⟨_, hnc2, hcm2⟩ := hR2.len
  unfold maxLen at hcm hcm2
  obtain rfl := len_of stC 2 (fun _ => rfl) (by decide) hR1.1
  obtain rfl := len_of idC 3 (fun _ => rfl) (by decide) hR2.1
  have HOrd := Lib.hid (fun W (hW : Below w.heap.size w W) => ordered_any R A n c B0 W (hR.below' hW hB) (Nat.le_trans hB hW.size) (hT.below hW) hF htx)
  have HR1 := Lib.hid (fun W (hW : Below w.heap.size w W) => hR1.below' hW hB)
  have HR2 := Lib.hid (fun W (hW : Below w.heap.size w W) => hR2.below' hW hB)
  have HF := Lib.hid hF
  clear hR hR1 hR2 hT hF htx
  have hmm := @run_makeMap Tryd.prog
  go_enter Tryd.func18, Tryd.ntmps18
  go_wp2
  obtain ⟨w0, hw0⟩ : ∃ W, ((((w.alloc (.map #[] 0)).alloc (.map #[] 0)).alloc (.cells #[.map (some w.heap.size)] 80)).alloc (.cells #[.map (some (w.heap.size + 1))] 81)) = W := ⟨_, rfl⟩
  have hi0 : w0.ownsMap Tryd.prog 24 (plainElem (H := HH) Tryd.prog 3) w.heap.size 0 (.map []) := by rw [← hw0]; exact ((((World.ownsMap_made w _ _ _).alloc _).alloc _).alloc _)
  have ho0 : w0.ownsMap Tryd.prog 26 (plainElem (H := HH) Tryd.prog 3) (w.heap.size + 1) 0 (.map []) := by
    rw [← hw0]
    have := World.ownsMap_made (H := HH) (w.alloc (.map #[] 0)) Tryd.prog 26 (plainElem Tryd.prog 3)
    rw [World.size_alloc] at this
    exact (this.alloc _).alloc _
  have hbx0 : Boxes w0 (w.heap.size + 1 + 1) (w.heap.size + 1 + 1 + 1) w.heap.size (w.heap.size + 1) := by
    rw [← hw0]
    constructor
    · have := heap_alloc_new ((w.alloc (.map #[] 0)).alloc (.map #[] 0)) (.cells #[.map (some w.heap.size)] 80)
      rw [World.size_alloc, World.size_alloc] at this
      exact (Below.heap_alloc _ _ _ (by simp)).trans this
    · have := heap_alloc_new (((w.alloc (.map #[] 0)).alloc (.map #[] 0)).alloc (.cells #[.map (some w.heap.size)] 80)) (.cells #[.map (some (w.heap.size + 1))] 81)
      rw [World.size_alloc, World.size_alloc, World.size_alloc] at this
      exact this
  have hb0 : Below w.heap.size w w0 := by rw [← hw0]; exact ((((Below.refl _ w).alloc (Nat.le_refl _) _).alloc (by simp) _).alloc (by simp; omega) _).alloc (by simp; omega) _
  rw [hw0]
  obtain ⟨bi, hbi⟩ : ∃ k, w.heap.size = k := ⟨_, rfl⟩
  obtain ⟨bo, hbo⟩ : ∃ k, w.heap.size + 1 = k := ⟨_, rfl⟩
  obtain ⟨b8, hb8⟩ : ∃ k, w.heap.size + 1 + 1 = k := ⟨_, rfl⟩
  obtain ⟨b9, hb9⟩ : ∃ k, w.heap.size + 1 + 1 + 1 = k := ⟨_, rfl⟩
  have hst : SeRel [] [] w b8 b9 bi bo w0 := by
    rw [← hbi, ← hbo, ← hb8, ← hb9]
    exact ⟨⟨_, _, cm_start hi0⟩, ⟨_, _, cm_start ho0⟩, hbx0, hb0⟩
  have hne : bi ≠ bo ∧ bi ≠ b8 ∧ bi ≠ b9 ∧ bo ≠ b8 ∧ bo ≠ b9 ∧ w.heap.size ≤ bi ∧ w.heap.size ≤ bo := by omega
  have HNE := Lib.hid hne
  have HST := Lib.hid hst
  clear hw0 hi0 ho0 hbx0 hb0 hst hmm hne
  rw [hb9, hb8, hbo]
  rw [hbi]
  clear hb9 hb8 hbo hbi
  go_loopw [18] (fun i wr => SeL1 on w b8 b9 bi bo i wr) (fun i _ => on.length - (intOf i).toNat)
  case atStart => exact ⟨0, Nat.zero_le _, rfl, HST.out⟩
  case round =>
    clear HST
    obtain ⟨j, hj, rfl, ⟨m, D, hi⟩, ⟨m2, D2, ho⟩, hbx8, hb⟩ := hrel
    obtain ⟨wo, rfl⟩ : ∃ wo : World, wo = wr := ⟨_, rfl⟩
    by_cases hlt : j < on.length
    · obtain ⟨b, o, rfl, hBr, hcell⟩ := rd_at stC 2 (fun _ => rfl) (by decide) (HR1.out wo hb) hlt
      have htk := List.take_succ_eq_append_getElem hlt
      obtain ⟨x, hx⟩ : ∃ x, on[j] = x := ⟨_, rfl⟩
      rw [hx] at hcell htk
      have c0 : wo.cell? ⟨b, o + j * 2, none⟩ = some (.int .i64 x.T) := hcell 0 _ rfl
      have c1 : wo.cell? ⟨b, o + j * 2 + 1, none⟩ = some (.int .i64 x.R) := hcell 1 _ rfl
      have i1 : (0 : Int) ≤ (j : Int) := by omega
      have i2 : (j : Int) < (on.length : Int) := by omega
      have hbr : b < wo.heap.size := by have := hb.size; omega
      have hba : Below wo.heap.size wo (wo.alloc (.cells #[.int .i64 x.T, .int .i64 x.R] 24)) := (Below.refl _ wo).alloc (Nat.le_refl _) _
      obtain ⟨W1, hW1⟩ : ∃ W, (wo.alloc (.cells #[.int .i64 x.T, .int .i64 x.R] 24)).drew = W := ⟨_, rfl⟩
      have hbW : Below wo.heap.size wo W1 := by rw [← hW1]; exact hba.drew
      have hbx : W1.heap[wo.heap.size]? = some (.cells #[.int .i64 x.T, .int .i64 x.R] 24 (0, 0)) := by rw [← hW1]; exact heap_alloc_new wo _
      have hi1 := hi.below hbW
      have ho1 := ho.below hbW
      have hB1 := hbx8.touch (Below.touch hbW (fun _ => False)) (fun h => h) (fun h => h)
      have hlk := hi1.look ok24 Tryd.underlying80 x
      obtain ⟨st, w1, w2, f2, f3, f4, hg, D3, hn⟩ := hi1.tick ok24 law24 Tryd.underlying80 x (by rw [List.length_take]; omega)
      have hcl := cnt_le (on.take j) x
      rw [List.length_take] at hcl
      obtain ⟨t, ht⟩ : ∃ t, cnt (on.take j) x = t := ⟨_, rfl⟩
      rw [ht] at hlk f2 f3 f4 hcl
      have hw : IntKind.i64.wrap ((t : Int) + 1) = (t : Int) + 1 := IntWalk.i64_in _ (by omega)
      have e0 : W1.cell? ⟨wo.heap.size, 0, none⟩ = some (.int .i64 x.T) := cell_of_row _ _ 0 _ _ _ hbx
      have e1 : W1.cell? ⟨wo.heap.size, 1, none⟩ = some (.int .i64 x.R) := cell_of_row _ _ 1 _ _ _ hbx
      have h8 : W1.cell? ⟨b8, 0, none⟩ = some (.map (some bi)) := cell_of_row _ _ 0 _ _ _ hB1.1
      have h9 : W1.cell? ⟨b9, 0, none⟩ = some (.map (some bo)) := cell_of_row _ _ 0 _ _ _ hB1.2
      obtain ⟨n1, n2, n3, n4, n5, n6, n7⟩ := HNE.out
      have tk : Touch (fun k => k = bi) W1 w2 := (Touch.refl _ W1).grown hg (fun k hk _ => by cases hk; rfl)
      have HR2n := Lib.hid (show SeL1 on w b8 b9 bi bo (.int .i64 ((j + 1 : Nat) : Int)) w2 from ⟨j + 1, by omega, rfl, ⟨_, _, by rw [htk]; exact hn⟩, ⟨_, _, ho1.touch tk (Ne.symm n1)⟩, hB1.touch tk (Ne.symm n2) (Ne.symm n3), (hb.trans (hbW.mono hb.size)).trans (tk.below (Nat.le_trans hb.size hbW.size) (fun y hy e => by omega))⟩)
      unfold stV at hlk f2 f3
      unfold goInt at f2 f4
      subst hW1
      clear hcell htk hx hba hbW hbx hi1 ho1 hB1 hn ht hg tk hi ho hbx8 hb hcl n1 n2 n3 n4 n5 n6 n7
      go_wp2
      go_region
      clear hlk f2 f3 f4 e0 e1 h8 h9 c0 c1
      go_wp2
      go_roundw
      case rel => simpa using HR2n.out
      case measure => simp [intOf]; omega
    · obtain rfl : j = on.length := by omega
      rw [List.take_length] at hi
      have HS2 := Lib.hid (show SeL2 on gone w b8 b9 bi bo (.int .i64 0) wo from ⟨0, Nat.zero_le _, rfl, ⟨m, D, hi⟩, ⟨m2, D2, ho⟩, hbx8, hb⟩)
      clear hi ho hbx8 hb
      go_wp2
      go_loopw [31] (fun i wr => SeL2 on gone w b8 b9 bi bo i wr) (fun i _ => gone.length - (intOf i).toNat)
      case atStart => exact HS2.out
      case round =>
        clear HS2
        obtain ⟨j, hj, rfl, ⟨m, D, hi⟩, ⟨m2, D2, ho⟩, hbx8, hb⟩ := hrel
        obtain ⟨wo, rfl⟩ : ∃ wo : World, wo = wr := ⟨_, rfl⟩
        by_cases hlt : j < gone.length
        · obtain ⟨b, o, rfl, hBr, hcell⟩ := rd_at idC 3 (fun _ => rfl) (by decide) (HR2.out wo hb) hlt
          have htk := List.take_succ_eq_append_getElem hlt
          obtain ⟨x, hx⟩ : ∃ x, gone[j] = x := ⟨_, rfl⟩
          rw [hx] at hcell htk
          have c0 : wo.cell? ⟨b, o + j * 3, none⟩ = some (.int .i64 x.s.T) := hcell 0 _ rfl
          have c1 : wo.cell? ⟨b, o + j * 3 + 1, none⟩ = some (.int .i64 x.s.R) := hcell 1 _ rfl
          have c2 : wo.cell? ⟨b, o + j * 3 + 2, none⟩ = some (.int .i64 x.I) := hcell 2 _ rfl
          have i1 : (0 : Int) ≤ (j : Int) := by omega
          have i2 : (j : Int) < (gone.length : Int) := by omega
          have hbr : b < wo.heap.size := by have := hb.size; omega
          have hba : Below wo.heap.size wo (wo.alloc (.cells #[.int .i64 x.s.T, .int .i64 x.s.R, .int .i64 x.I] 26)) := (Below.refl _ wo).alloc (Nat.le_refl _) _
          obtain ⟨W1, hW1⟩ : ∃ W, (wo.alloc (.cells #[.int .i64 x.s.T, .int .i64 x.s.R, .int .i64 x.I] 26)).drew = W := ⟨_, rfl⟩
          have hbW : Below wo.heap.size wo W1 := by rw [← hW1]; exact hba.drew
          have hbx : W1.heap[wo.heap.size]? = some (.cells #[.int .i64 x.s.T, .int .i64 x.s.R, .int .i64 x.I] 26 (0, 0)) := by rw [← hW1]; exact heap_alloc_new wo _
          have hi1 := hi.below hbW
          have ho1 := ho.below hbW
          have hB1 := hbx8.touch (Below.touch hbW (fun _ => False)) (fun h => h) (fun h => h)
          have hlk := ho1.look ok26 Tryd.underlying81 x
          obtain ⟨st, w1, w2, f2, f3, f4, hg, D3, hn⟩ := ho1.tick ok26 law26 Tryd.underlying81 x (by rw [List.length_take]; omega)
          have hcl := cnt_le (gone.take j) x
          rw [List.length_take] at hcl
          obtain ⟨t, ht⟩ : ∃ t, cnt (gone.take j) x = t := ⟨_, rfl⟩
          rw [ht] at hlk f2 f3 f4 hcl
          have hw : IntKind.i64.wrap ((t : Int) + 1) = (t : Int) + 1 := IntWalk.i64_in _ (by omega)
          have e0 : W1.cell? ⟨wo.heap.size, 0, none⟩ = some (.int .i64 x.s.T) := cell_of_row _ _ 0 _ _ _ hbx
          have e1 : W1.cell? ⟨wo.heap.size, 1, none⟩ = some (.int .i64 x.s.R) := cell_of_row _ _ 1 _ _ _ hbx
          have e2 : W1.cell? ⟨wo.heap.size, 2, none⟩ = some (.int .i64 x.I) := cell_of_row _ _ 2 _ _ _ hbx
          have h8 : W1.cell? ⟨b8, 0, none⟩ = some (.map (some bi)) := cell_of_row _ _ 0 _ _ _ hB1.1
          have h9 : W1.cell? ⟨b9, 0, none⟩ = some (.map (some bo)) := cell_of_row _ _ 0 _ _ _ hB1.2
          obtain ⟨n1, n2, n3, n4, n5, n6, n7⟩ := HNE.out
          have tk : Touch (fun k => k = bo) W1 w2 := (Touch.refl _ W1).grown hg (fun k hk _ => by cases hk; rfl)
          have HR2n := Lib.hid (show SeL2 on gone w b8 b9 bi bo (.int .i64 ((j + 1 : Nat) : Int)) w2 from ⟨j + 1, by omega, rfl, ⟨_, _, hi1.touch tk n1⟩, ⟨_, _, by rw [htk]; exact hn⟩, hB1.touch tk (Ne.symm n4) (Ne.symm n5), (hb.trans (hbW.mono hb.size)).trans (tk.below (Nat.le_trans hb.size hbW.size) (fun y hy e => by omega))⟩)
          unfold idV at hlk f2 f3
          unfold goInt at f2 f4
          subst hW1
          clear hcell htk hx hba hbW hbx hi1 ho1 hB1 hn ht hg tk hi ho hbx8 hb hcl n1 n2 n3 n4 n5 n6 n7
          go_wp2
          go_region
          clear hlk f2 f3 f4 e0 e1 e2 h8 h9 c0 c1 c2
          go_wp2
          go_roundw
          case rel => simpa using HR2n.out
          case measure => simp [intOf]; omega
        · obtain rfl : j = gone.length := by omega
          rw [List.take_length] at ho
          have hc := fun e W (hW : Below wo.heap.size wo W) => seen1_any on gone e b8 b9 bi bo m m2 D D2 W ((hW.block _ (Array.getElem?_eq_some_iff.1 hbx8.1).1).trans hbx8.1) ((hW.block _ (Array.getElem?_eq_some_iff.1 hbx8.2).1).trans hbx8.2) (hi.below hW) (ho.below hW)
          have HC := Lib.hid hc
          have HB := Lib.hid hb
          have HO := Lib.hid (HOrd.out wo hb)
          clear hi ho hbx8 hb hc hj
          go_wp2_with fail
          refine HO.out.mono ?_
          rintro e w4 ⟨v4, O, rfl, hO4, hrow4, hle4, hb4⟩
          rw [ndC_els] at hrow4
          have hl : (els O).length = O.length := by simp [els]
          rw [← hl] at hrow4
          have HDel := Lib.hid (delete_any (els O) (leaves on gone) b8 b9 v4 wo.heap.size wo w4 hb4 hrow4 (Nat.le_refl _) hb4.size (by have := HF.out; omega) HC.out)
          have HO4 := Lib.hid hO4
          have HB4 := Lib.hid hb4
          have HL4 := Lib.hid hle4
          have HLL := Lib.hid hl
          clear hO4 hrow4 hb4 hl HO
          go_wp2_with fail
          refine HDel.out.mono ?_
          rintro r w5 ⟨v5, rfl, hrow5, hb5⟩
          have hfl : (seenOf on gone O).length ≤ (els O).length := List.length_filter_le _ _
          obtain ⟨A5, c5, rfl, _, _⟩ := (Rd.of_own hrow5).form
          have hx : (txt (seenOf on gone O)).length ≤ 1000000000 := by
            have h1 := txt_len4 (seenOf on gone O) (fun e he => flat_pc R e (order_els HO4.out e (List.mem_filter.1 he).1))
            have h2 := HF.out
            have h3 := HLL.out
            have h4 := HL4.out
            omega
          have HTo := Lib.hid (told_any (seenOf on gone O) A5 _ c5 w5.heap.size w5 (Rd.of_own hrow5) (Nat.le_refl _) (by have := HF.out; have := HLL.out; have := HL4.out; omega) hx)
          have HB5 := Lib.hid (HB.out.trans ((HB4.out.trans hb5).mono HB.out.size))
          clear hrow5 hb5 hfl hx
          go_wp2_with fail
          refine HTo.out.mono ?_
          rintro r w6 ⟨v6, rfl, hv6, hb6⟩
          have HP := Lib.hid (show SeenPost R on gone w (.returned (.tuple #[v6, .string (ofL (txt (seenOf on gone O)))])) w6 from ⟨O, v6, HO4.out, rfl, own_base hv6 HB5.out.size, HL4.out, HB5.out.trans (hb6.mono HB5.out.size)⟩)
          clear hv6 hb6
          go_wp2
          go_ret2
          exact HP.out
end Go.Proofs.YtphapjbfaomblaaDoor
