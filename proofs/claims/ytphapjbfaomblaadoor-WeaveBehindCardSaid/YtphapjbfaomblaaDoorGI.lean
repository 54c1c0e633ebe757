/- slices.IndexFunc and DeleteFunc at elements, by a function that only reads. -/
import Derived.Test.YtphapjbfaomblaaDoorGF
import Derived.Lib.SliceRun
namespace Go.Proofs.YtphapjbfaomblaaDoor
open Go Go.RowKit
def elV (e : El) : Value := .agg #[.int .i64 e.id.s.T, .int .i64 e.id.s.R, .int .i64 e.id.I, .string e.pc]
def IdxIs (q : El → Bool) (L : List El) (z : Int) : Prop := (∃ (k : Nat) (h : k < L.length), z = (k : Int) ∧ q L[k] = true ∧ ∀ e ∈ L.take k, q e = false) ∨ (z = -1 ∧ ∀ e ∈ L, q e = false)
def IxRel (q : El → Bool) (L : List El) (w : World) (i : Value) (wr : World) : Prop := ∃ k : Nat, k ≤ L.length ∧ i = .int .i64 k ∧ (∀ e ∈ L.take k, q e = false) ∧ Grows w wr
set_option maxRecDepth 100000 in
set_option maxHeartbeats 2000000 in
theorem idx_any (L : List El) (q : El → Bool) (b8 b9 : Nat) (A : Option Addr) (n c B0 : Nat) (w0 w : World) (hw : Below w0.heap.size w0 w) (hR : Rd w B0 4 (.slice A n c) n (L.flatMap elC)) (hB : B0 ≤ w.heap.size)
    (HC : ∀ e W, Below w0.heap.size w0 W → Calls Tryd.prog 44 #[elV e, .pointer (some ⟨b8, 0, none⟩), .pointer (some ⟨b9, 0, none⟩)] W fun r W' => r = .returned (.bool (q e)) ∧ Grows W W') :
    Calls Tryd.prog 64 #[.slice A n c, .func (.func 44) #[] #[.pointer (some ⟨b8, 0, none⟩), .pointer (some ⟨b9, 0, none⟩)]] w fun r w' => (∃ z, r = .returned (.int .i64 z) ∧ IdxIs q L z) ∧ Grows w w' := by
  obtain ⟨_, hnc, hcm⟩ := hR.len
  unfold maxLen at hcm
  obtain rfl := len_of elC 4 (fun _ => rfl) (by decide) hR.1
  have HR := Lib.hid (fun W (hW : Grows w W) => hR.below' hW.below hB)
  have HW := Lib.hid (fun W (hW : Grows w W) => hw.trans (hW.below.mono hw.size))
  have HC := Lib.hid HC
  clear hR hw
  go_enter Tryd.func64, Tryd.ntmps64
  go_wp2
  go_loopw [8] (fun i wr => IxRel q L w i wr) (fun i _ => L.length - (intOf i).toNat)
  case atStart => exact ⟨0, Nat.zero_le _, rfl, by simp, Grows.refl w⟩
  case round =>
    obtain ⟨k, hk, rfl, hno, hg⟩ := hrel
    obtain ⟨wo, rfl⟩ : ∃ wo : World, wo = wr := ⟨_, rfl⟩
    by_cases hlt : k < L.length
    · obtain ⟨b, o, rfl, hB', hcell⟩ := rd_at elC 4 (fun _ => rfl) (by decide) (HR.out wo hg) hlt
      have htk := List.take_succ_eq_append_getElem hlt
      obtain ⟨e, he⟩ : ∃ e, L[k] = e := ⟨_, rfl⟩
      have HE := Lib.hid he
      rw [he] at hcell htk
      have c0 : wo.cell? ⟨b, o + k * 4, none⟩ = some (.int .i64 e.id.s.T) := hcell 0 _ rfl
      have c1 : wo.cell? ⟨b, o + k * 4 + 1, none⟩ = some (.int .i64 e.id.s.R) := hcell 1 _ rfl
      have c2 : wo.cell? ⟨b, o + k * 4 + 2, none⟩ = some (.int .i64 e.id.I) := hcell 2 _ rfl
      have c3 : wo.cell? ⟨b, o + k * 4 + 3, none⟩ = some (.string e.pc) := hcell 3 _ rfl
      have i1 : (0 : Int) ≤ (k : Int) := by omega
      have i2 : (k : Int) < (L.length : Int) := by omega
      have HNO := Lib.hid hno
      have HG := Lib.hid hg
      have HTK := Lib.hid htk
      have HCe := Lib.hid (HC.out e wo (HW.out wo hg))
      unfold elV at HCe
      clear hcell he htk hno hg
      go_wp2_with fail
      refine HCe.out.mono ?_
      rintro r w1 ⟨rfl, hg1⟩
      have HG1 := Lib.hid (HG.out.trans hg1)
      clear hg1 c0 c1 c2 c3
      obtain ⟨d, hd⟩ : ∃ d, q e = d := ⟨_, rfl⟩
      have HD := Lib.hid hd
      rw [hd]
      clear hd
      cases d
      · go_wp2
        go_roundw
        case rel =>
          refine ⟨k + 1, by omega, by go_num, ?_, HG1.out⟩
          rw [HTK.out]
          intro x hx
          rcases List.mem_append.1 hx with hx | hx
          · exact HNO.out x hx
          · rw [List.mem_singleton] at hx; rw [hx]; exact HD.out
        case measure => simp [intOf]; omega
      · go_wp2
        go_ret
        exact ⟨⟨_, rfl, .inl ⟨k, hlt, rfl, by rw [HE.out]; exact HD.out, HNO.out⟩⟩, HG1.out⟩
    · obtain rfl : k = L.length := by omega
      rw [List.take_length] at hno
      have HNO := Lib.hid hno
      have HG := Lib.hid hg
      clear hno hg hk
      go_wp2
      go_ret
      exact ⟨⟨_, rfl, .inr ⟨rfl, HNO.out⟩⟩, HG.out⟩
def zEl (n : Nat) : List Value := (Builtin.zeroCells #[.int .i64 0, .int .i64 0, .int .i64 0, .string ⟨#[]⟩] n).toList
theorem zEl_len (n : Nat) : (zEl n).length = n * 4 := by simp [zEl, Builtin.zeroCells]
theorem zEl_one (n : Nat) : ∀ v ∈ zEl n, v.oneCell' = true := by
  intro v hv
  simp only [zEl, Builtin.zeroCells, Array.toList_map, List.mem_map] at hv
  obtain ⟨i, _, rfl⟩ := hv
  have : i % 4 = 0 ∨ i % 4 = 1 ∨ i % 4 = 2 ∨ i % 4 = 3 := by omega
  rcases this with h | h | h | h <;> simp [h, Value.oneCell']
theorem run_clear_el (w : World) (ty : TypeId) (b o n c : Nat) (hn : 0 < n) (hc : ∀ j, j < n * 4 → (w.cell? ⟨b, o + j, none⟩).isSome = true) (hf : ∀ j, j < n * 4 → w.frozen? ⟨b, o + j, none⟩ = false) :
    (Builtin.clear_ #[75] ty #[.slice (some ⟨b, o, none⟩) n c]).run Tryd.prog w = .ok (.tuple #[]) (w.setCells b o (zEl n)) := by
  have hv := Tryd.zeroValue84
  have hst := run_storeCells_cells (P := Tryd.prog) b o (zEl n) 0 w (by rw [zEl_len]; simpa using hc) (by rw [zEl_len]; simpa using hf) (zEl_one n)
  simp only [Nat.add_zero] at hst
  obtain ⟨m, rfl⟩ : ∃ m, n = m + 1 := ⟨n - 1, by omega⟩
  have hz : (Builtin.zeroCells (Value.cells (.agg #[.int .i64 0, .int .i64 0, .int .i64 0, .string ⟨#[]⟩])) (m + 1)).toList = zEl (m + 1) := rfl
  simp [Builtin.clear_, run_underlying Tryd.underlying75, hv, hz, hst]
def DelRel (q : El → Bool) (L : List El) (base g c : Nat) (w : World) (i j : Value) (wr : World) : Prop :=
  ∃ (j' : Nat) (F M : List El), j' ≤ L.length ∧ j = .int .i64 j' ∧ i = .int .i64 F.length ∧ F = (L.take j').filter (fun e => !q e) ∧ F.length + M.length = j' ∧ 0 < M.length ∧
    wr.ownsRow base 84 4 (.slice (some ⟨g, 0, none⟩) L.length c) L.length ((F ++ M ++ L.drop j').flatMap elC) ∧ Below base w wr
def DelPost (q : El → Bool) (L : List El) (base : Nat) (w : World) (r : Ending) (w' : World) : Prop :=
  ∃ v, r = .returned v ∧ w'.ownsRow base 84 4 v (L.filter (fun e => !q e)).length ((L.filter (fun e => !q e)).flatMap elC) ∧ Below base w w'
theorem filter_all {q : El → Bool} {L : List El} (h : ∀ e ∈ L, q e = false) : L.filter (fun e => !q e) = L := by
  rw [List.filter_eq_self]
  intro e he
  rw [h e he]
  rfl
set_option maxRecDepth 100000 in
set_option maxHeartbeats 4000000 in
theorem delete_any (L : List El) (q : El → Bool) (b8 b9 : Nat) (v : Value) (base : Nat) (w0 w : World) (hw : Below w0.heap.size w0 w) (ho : w.ownsRow base 84 4 v L.length (L.flatMap elC)) (hbw : w0.heap.size ≤ base) (hbs : base ≤ w.heap.size) (hL : L.length ≤ 1000000)
    (HC : ∀ e W, Below w0.heap.size w0 W → Calls Tryd.prog 44 #[elV e, .pointer (some ⟨b8, 0, none⟩), .pointer (some ⟨b9, 0, none⟩)] W fun r W' => r = .returned (.bool (q e)) ∧ Grows W W') :
    Calls Tryd.prog 43 #[v, .func (.func 44) #[] #[.pointer (some ⟨b8, 0, none⟩), .pointer (some ⟨b9, 0, none⟩)]] w (DelPost q L base w) := by
  obtain ⟨A, c, rfl, hnc, hcm⟩ := (Rd.of_own ho).form
  have HI := Lib.hid (idx_any L q b8 b9 A L.length c w.heap.size w0 w hw (Rd.of_own ho) (Nat.le_refl _) HC)
  have HC := Lib.hid HC
  have HO := Lib.hid ho
  have HW := Lib.hid hw
  clear ho hw
  go_enter Tryd.func43, Tryd.ntmps43
  go_wp2_with fail
  refine HI.out.mono ?_
  rintro r w1 ⟨⟨z, rfl, hz⟩, hg1⟩
  have HG1 := Lib.hid hg1
  rcases hz with ⟨k, hk, rfl, hqk, hno⟩ | ⟨rfl, hno⟩
  · obtain ⟨g, cap, _, e1, hbg, _⟩ := own_parts HO.out (by omega)
    cases e1
    have hne : ((k : Int) == -1) = false := by simp
    have hst : DelRel q L base g c w (.int .i64 k) (.int .i64 ((k : Int) + 1)) w1 := by
      have hkt : (L.take (k + 1)).filter (fun e => !q e) = L.take k := by
        rw [List.take_succ_eq_append_getElem hk, List.filter_append, filter_all hno]
        simp [hqk]
      refine ⟨k + 1, L.take k, [L[k]], by omega, by simp, by rw [List.length_take, Nat.min_eq_left (by omega)], hkt.symm, by rw [List.length_take, Nat.min_eq_left (by omega)]; rfl, by simp, ?_, hg1.below.mono hbs⟩
      have e : L.take k ++ [L[k]] ++ L.drop (k + 1) = L := by
        rw [← List.take_succ_eq_append_getElem hk, List.take_append_drop]
      rw [e]
      exact own_grows HO.out hg1.below
    have HST := Lib.hid hst
    clear hst hqk hno hg1
    go_wp2
    go_loopw [5, 6] (fun i j wr => DelRel q L base g c w i j wr) (fun _ j _ => L.length - (intOf j).toNat)
    case atStart => exact HST.out
    case round =>
      clear HST
      obtain ⟨j, F, M, hj, rfl, rfl, hF, hFM, hM, hO, hb⟩ := hrel
      obtain ⟨wo, rfl⟩ : ∃ wo : World, wo = wr := ⟨_, rfl⟩
      have hXl : (F ++ M ++ L.drop j).length = L.length := by simp; omega
      have hgo : g < wo.heap.size := (hO.lt g rfl).2
      have hwo : Below w0.heap.size w0 wo := HW.out.trans (hb.mono hbw)
      by_cases hlt : j < L.length
      · have hdr : L.drop j = L[j] :: L.drop (j + 1) := List.drop_eq_getElem_cons hlt
        obtain ⟨gr, og, hge, hBr, hcell⟩ := rd_at elC 4 (fun _ => rfl) (by decide) (show Rd wo wo.heap.size 4 (.slice (some ⟨g, 0, none⟩) (F ++ M ++ L.drop j).length c) (F ++ M ++ L.drop j).length ((F ++ M ++ L.drop j).flatMap elC) from by rw [hXl]; exact Rd.of_own hO) (show j < (F ++ M ++ L.drop j).length by omega)
        have hget : (F ++ M ++ L.drop j)[j]'(by omega) = L[j] := by
          rw [List.getElem_append_right (by simp; omega)]
          simp [hFM]
        rw [hget] at hcell
        have hge2 : g = gr ∧ 0 = og := by
          injection hge with hge
          injection hge with h1 h2
          exact ⟨h1, h2⟩
        obtain ⟨rfl, rfl⟩ := hge2
        have htk := List.take_succ_eq_append_getElem hlt
        obtain ⟨e, he⟩ : ∃ e, L[j] = e := ⟨_, rfl⟩
        rw [he] at hcell hdr htk
        rw [hdr] at hO
        obtain ⟨m, M', rfl⟩ : ∃ m M', M = m :: M' := by
          cases M with
          | nil => simp at hM
          | cons m M' => exact ⟨m, M', rfl⟩
        have c0 : wo.cell? ⟨g, j * 4, none⟩ = some (.int .i64 e.id.s.T) := by have := hcell 0 _ rfl; simpa using this
        have c1 : wo.cell? ⟨g, j * 4 + 1, none⟩ = some (.int .i64 e.id.s.R) := by have := hcell 1 _ rfl; simpa using this
        have c2 : wo.cell? ⟨g, j * 4 + 2, none⟩ = some (.int .i64 e.id.I) := by have := hcell 2 _ rfl; simpa using this
        have c3 : wo.cell? ⟨g, j * 4 + 3, none⟩ = some (.string e.pc) := by have := hcell 3 _ rfl; simpa using this
        have i1 : (0 : Int) ≤ (j : Int) := by omega
        have i2 : (j : Int) < (L.length : Int) := by omega
        have hFl : F.length < L.length := by simp at hFM; omega
        have i3 : (0 : Int) ≤ (F.length : Int) := by omega
        have i4 : (F.length : Int) < (L.length : Int) := by omega
        have HO2 := Lib.hid hO
        have HB := Lib.hid hb
        have HWO := Lib.hid hwo
        have HF := Lib.hid hF
        have HTK := Lib.hid htk
        have HFM := Lib.hid hFM
        have hx7 : (wo.alloc (.cells (elC e).toArray 84)).heap[wo.heap.size]? = some (.cells (elC e).toArray 84 (0, 0)) := heap_alloc_new wo _
        have HX7 := Lib.hid hx7
        have HCe := Lib.hid (HC.out e (wo.alloc (.cells (elC e).toArray 84)) (hwo.alloc hwo.size _))
        unfold elV at HCe
        clear hcell hget hXl he hdr htk hO hb hwo hF hFM hM hx7 hge hBr
        go_wp2_with fail
        refine HCe.out.mono ?_
        rintro r w2 ⟨rfl, hg2⟩
        have hx2 : w2.heap[wo.heap.size]? = some (.cells (elC e).toArray 84 (0, 0)) := (hg2.below.block _ (by simp)).trans HX7.out
        have hO2 := own_grows (HO2.out.alloc (.cells (elC e).toArray 84)) hg2.below
        have hb2 : Below base w w2 := (HB.out.alloc (Nat.le_trans hbs HB.out.size) _).trans (hg2.below.mono (by have := HB.out.size; simp; omega))
        obtain ⟨d, hd⟩ : ∃ d, q e = d := ⟨_, rfl⟩
        have HD := Lib.hid hd
        rw [hd]
        clear hd c0 c1 c2 c3 hg2
        cases d
        · have hAl : (F.flatMap elC).length = F.length * 4 := flatl elC 4 (fun _ => rfl) F
          have hO3 : w2.ownsRow base 84 4 (.slice (some ⟨g, 0, none⟩) L.length c) L.length (F.flatMap elC ++ elC m ++ (M' ++ e :: L.drop (j + 1)).flatMap elC) := by simpa using hO2
          have hset := own_sets hO3 (elC e) rfl (by omega)
          rw [hAl] at hset
          have hset' : ((((w2.setCell ⟨g, F.length * 4, none⟩ (.int .i64 e.id.s.T)).setCell ⟨g, F.length * 4 + 1, none⟩ (.int .i64 e.id.s.R)).setCell ⟨g, F.length * 4 + 2, none⟩ (.int .i64 e.id.I)).setCell ⟨g, F.length * 4 + 3, none⟩ (.string e.pc)).ownsRow base 84 4 (.slice (some ⟨g, 0, none⟩) L.length c) L.length (F.flatMap elC ++ elC e ++ (M' ++ e :: L.drop (j + 1)).flatMap elC) := hset
          have hq : ∀ i u, (elC m)[i]? = some u → w2.cell? ⟨g, F.length * 4 + i, none⟩ = some u := fun i u hu => (own_cell hO3 (F.length * 4 + i) u (by
            rw [List.append_assoc, List.getElem?_append_right (by omega), hAl, Nat.add_sub_cancel_left, List.getElem?_append_left (List.getElem?_eq_some_iff.1 hu).1]
            exact hu)).1
          have q0 : w2.cell? ⟨g, F.length * 4, none⟩ = some (.int .i64 m.id.s.T) := hq 0 _ rfl
          have q1 : w2.cell? ⟨g, F.length * 4 + 1, none⟩ = some (.int .i64 m.id.s.R) := hq 1 _ rfl
          have q2 : w2.cell? ⟨g, F.length * 4 + 2, none⟩ = some (.int .i64 m.id.I) := hq 2 _ rfl
          have q3 : w2.cell? ⟨g, F.length * 4 + 3, none⟩ = some (.string m.pc) := hq 3 _ rfl
          have f0 := own_frozen hO3 (by omega)
          have d0 : w2.cell? ⟨wo.heap.size, 0, none⟩ = some (.int .i64 e.id.s.T) := cell_of_row _ _ 0 _ _ _ hx2
          have d1 : w2.cell? ⟨wo.heap.size, 1, none⟩ = some (.int .i64 e.id.s.R) := cell_of_row _ _ 1 _ _ _ hx2
          have d2 : w2.cell? ⟨wo.heap.size, 2, none⟩ = some (.int .i64 e.id.I) := cell_of_row _ _ 2 _ _ _ hx2
          have d3 : w2.cell? ⟨wo.heap.size, 3, none⟩ = some (.string e.pc) := cell_of_row _ _ 3 _ _ _ hx2
          have hb4 : Below base w ((((w2.setCell ⟨g, F.length * 4, none⟩ (.int .i64 e.id.s.T)).setCell ⟨g, F.length * 4 + 1, none⟩ (.int .i64 e.id.s.R)).setCell ⟨g, F.length * 4 + 2, none⟩ (.int .i64 e.id.I)).setCell ⟨g, F.length * 4 + 3, none⟩ (.string e.pc)) := (((hb2.setCell (p := ⟨g, F.length * 4, none⟩) hbg _).setCell (p := ⟨g, F.length * 4 + 1, none⟩) hbg _).setCell (p := ⟨g, F.length * 4 + 2, none⟩) hbg _).setCell (p := ⟨g, F.length * 4 + 3, none⟩) hbg _
          have HR := Lib.hid (show DelRel q L base g c w (.int .i64 ((F ++ [e]).length : Nat)) (.int .i64 ((j + 1 : Nat) : Int)) ((((w2.setCell ⟨g, F.length * 4, none⟩ (.int .i64 e.id.s.T)).setCell ⟨g, F.length * 4 + 1, none⟩ (.int .i64 e.id.s.R)).setCell ⟨g, F.length * 4 + 2, none⟩ (.int .i64 e.id.I)).setCell ⟨g, F.length * 4 + 3, none⟩ (.string e.pc)) from
            ⟨j + 1, F ++ [e], M' ++ [e], by omega, rfl, rfl, by rw [HTK.out, List.filter_append, ← HF.out]; simp [HD.out], by have := HFM.out; simp at this ⊢; omega, by simp, by simpa using hset', hb4⟩)
          clear hO2 hb2 hx2 hO3 hset hset' hq hb4
          go_wp2
          go_roundw
          case rel => simpa using HR.out
          case measure => simp [intOf]; omega
        · have HR := Lib.hid (show DelRel q L base g c w (.int .i64 F.length) (.int .i64 ((j + 1 : Nat) : Int)) w2 from
            ⟨j + 1, F, m :: M' ++ [e], by omega, rfl, rfl, by rw [HTK.out, List.filter_append, ← HF.out]; simp [HD.out], by have := HFM.out; simp at this ⊢; omega, by simp, by simpa using hO2, hb2⟩)
          clear hO2 hb2 hx2
          go_wp2
          go_roundw
          case rel => exact HR.out
          case measure => simp [intOf]; omega
      · obtain rfl : j = L.length := by omega
        rw [List.take_length] at hF
        have hdn : L.drop L.length = [] := List.drop_length
        rw [hdn, List.append_nil] at hO
        have hFl : F.length < L.length := by omega
        have hAl : (F.flatMap elC).length = F.length * 4 := flatl elC 4 (fun _ => rfl) F
        have hMl : (M.flatMap elC).length = (L.length - F.length) * 4 := by rw [flatl elC 4 (fun _ => rfl)]; omega
        rw [List.flatMap_append] at hO
        have hO0 : wo.ownsRow base 84 4 (.slice (some ⟨g, 0, none⟩) L.length c) L.length (F.flatMap elC ++ M.flatMap elC ++ []) := by simpa using hO
        have hset := own_sets hO0 (zEl (L.length - F.length)) (by rw [zEl_len, hMl]) (by omega)
        rw [hAl, List.append_nil] at hset
        have hcl := fun ty c' => run_clear_el wo ty g (F.length * 4) (L.length - F.length) c' (by omega) (fun i hi => by
          have hi2 : i < (M.flatMap elC).length := by rw [hMl]; exact hi
          have := (own_cell hO (F.length * 4 + i) ((M.flatMap elC)[i]) (by
            rw [List.getElem?_append_right (by omega), hAl, Nat.add_sub_cancel_left, List.getElem?_eq_getElem hi2])).1
          rw [this]
          rfl) (fun i _ => own_frozen hO (by omega) _)
        have hcut := own_cut hset (show F.length ≤ L.length by omega)
        rw [List.take_append_of_le_length (by omega), List.take_of_length_le (by omega)] at hcut
        have hbf := setCells_below hb hbg (F.length * 4) (zEl (L.length - F.length))
        have HP := Lib.hid (show DelPost q L base w (.returned (.slice (some ⟨g, 0, none⟩) F.length c)) (wo.setCells g (F.length * 4) (zEl (L.length - F.length))) from ⟨_, rfl, by rw [← hF]; exact hcut, hbf⟩)
        have i1 : (0 : Int) ≤ (F.length : Int) := by omega
        have i2 : (F.length : Int) ≤ (L.length : Int) := by omega
        have i3 : (L.length : Int) ≤ (c : Int) := by omega
        have i4 : (F.length : Int) < (c : Int) := by omega
        clear hO hO0 hset hcut hbf hF hdn hAl hMl hFM hM hXl hwo hb
        go_wp2
        go_ret
        exact HP.out
  · have HP := Lib.hid (show DelPost q L base w (.returned (.slice A L.length c)) w1 from ⟨_, rfl, by rw [filter_all hno]; exact own_grows HO.out hg1.below, hg1.below.mono hbs⟩)
    clear hno hg1
    go_wp2
    go_ret
    exact HP.out
end Go.Proofs.YtphapjbfaomblaaDoor
