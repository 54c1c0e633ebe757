/- The document's shelf: List. -/
import Derived.Test.YtphapjbfaomblaaRA
import Derived.Test.YtphapjbfaomblaaSC
namespace Go.Proofs.Ytphapjbfaomblaa
open Go Go.RowKit Go.Maps
def RlRel (R : Row Id) (s : Bool) (w : World) (out i : Value) (wr : World) : Prop :=
  ∃ j : Nat, j ≤ R.length ∧ i = .int .i64 j ∧ wr.ownsRow w.heap.size 33 3 out (listR (R.take j) s).length ((listR (R.take j) s).flatMap idC) ∧ Below w.heap.size w wr
theorem own_none (w : World) (base : Nat) (e : TypeId) (sz : Nat) : w.ownsRow base e sz (.slice none 0 0) 0 [] := ⟨by simp, .inl ⟨rfl, rfl⟩⟩
set_option maxRecDepth 100000 in
set_option maxHeartbeats 4000000 in
theorem rlist_any {w : World} {rb : Nat} {vi vs : Value} {R : Row Id} (h : RfIs w rb vi vs R) (hlen : R.length ≤ 100000) (s : Bool) :
    Calls Try.prog 17 #[.pointer (some ⟨rb, 0, none⟩), .bool s] w fun e w' => ∃ v, e = .returned v ∧ w'.ownsRow w.heap.size 33 3 v (listR R s).length ((listR R s).flatMap idC) ∧ Below w.heap.size w w' := by
  obtain ⟨i0, hi, hz0, hz1, hz2⟩ := info_parts info33
  obtain ⟨Ai, ci, rfl, _, hcm⟩ := (Rd.of_own h.ids).form
  obtain ⟨As, cs, rfl, _, hcm2⟩ := (Rd.of_own h.sn).form
  unfold maxLen at hcm hcm2
  have HH := Lib.hid (fun W (hW : Below w.heap.size w W) => h.below hW)
  clear h
  go_enter Try.func17, Try.ntmps17
  go_wp2
  go_loopw [5, 6] (fun out i wr => RlRel R s w out i wr) (fun _ i _ => R.length - (intOf i).toNat)
  case atStart => exact ⟨0, Nat.zero_le _, rfl, own_none _ _ _ _, Below.refl _ _⟩
  case round =>
    obtain ⟨j, hj, rfl, hOj, hbj⟩ := hrel
    obtain ⟨wq, rfl⟩ : ∃ wq : World, wq = wr := ⟨_, rfl⟩
    obtain ⟨Ao, co, rfl, _, _⟩ := (Rd.of_own hOj).form
    have HOj := Lib.hid hOj
    have HBj := Lib.hid hbj
    clear hOj hbj
    have c0 : wq.cell? ⟨rb, 0, none⟩ = some (.slice Ai R.length ci) := cell_of_row _ _ 0 _ _ _ (HH.out wq HBj.out).cell
    have c1 : wq.cell? ⟨rb, 1, none⟩ = some (.slice As R.length cs) := cell_of_row _ _ 1 _ _ _ (HH.out wq HBj.out).cell
    by_cases hjl : j < R.length
    · obtain ⟨b1, o1, rfl, hB1, hcell1⟩ := rd_at idC 3 (fun _ => rfl) (by decide) (Rd.of_own (HH.out wq HBj.out).ids) (show j < (namesR R).length by rw [names_len]; exact hjl)
      obtain ⟨b2, o2, rfl, hB2, hcell2⟩ := rd_at boC 1 (fun _ => rfl) (by decide) (Rd.of_own (HH.out wq HBj.out).sn) (show j < (seenR R).length by rw [seenR_len]; exact hjl)
      have hsn : (seenR R)[j]'(by rw [seenR_len]; exact hjl) = (R[j]).2 := by simp [seenR]
      have hnm : (namesR R)[j]'(by rw [names_len]; exact hjl) = (R[j]).1 := by simp [namesR]
      rw [hnm] at hcell1
      rw [hsn] at hcell2
      have hsnoc := listR_snoc (R.take j) R[j] s
      rw [← List.take_succ_eq_append_getElem hjl] at hsnoc
      obtain ⟨⟨x, q⟩, hx⟩ : ∃ p, R[j] = p := ⟨_, rfl⟩
      rw [hx] at hcell1 hcell2 hsnoc
      dsimp only at hcell1 hcell2 hsnoc
      have hle := listR_le (R.take j) s
      rw [List.length_take] at hle
      have d0 : wq.cell? ⟨b1, o1 + j * 3, none⟩ = some (.int .i64 x.s.T) := hcell1 0 _ rfl
      have d1 : wq.cell? ⟨b1, o1 + j * 3 + 1, none⟩ = some (.int .i64 x.s.R) := hcell1 1 _ rfl
      have d2 : wq.cell? ⟨b1, o1 + j * 3 + 2, none⟩ = some (.int .i64 x.I) := hcell1 2 _ rfl
      have e0 : wq.cell? ⟨b2, o2 + j, none⟩ = some (.bool q) := by
        have := hcell2 0 _ rfl
        simpa using this
      have i3 : (0 : Int) ≤ (j : Int) := by omega
      have i4 : (j : Int) < (R.length : Int) := by omega
      have HSN := Lib.hid hsnoc
      obtain ⟨LL, hLL⟩ : ∃ LL, listR (R.take j) s = LL := ⟨_, rfl⟩
      rw [hLL] at hle HSN HOj
      obtain ⟨LN, hLN⟩ : ∃ n, LL.length = n := ⟨_, rfl⟩
      rw [hLL]
      rw [hLN] at hle HOj ⊢
      have HLN := Lib.hid hLN
      clear hcell1 hcell2 hx hsn hnm hsnoc hLL hLN
      cases s
      · cases q
        all_goals
          go_wp2_with (at_builtin; refine wpList_append_own_at _ rfl _ _ 35 rfl w.heap.size 33 i0 _ 3 24 Try.underlying35 hi hz0 hz1 hz2 rfl (by decide) _ _ _ rfl (HOj.out.alloc _) ⟨wq.heap.size, 0, none⟩ 1 1 (idC x) rfl rfl ?qc (by simp [idC, Value.oneCell']) ?q2 ?q3 ?q4 ?_)
          case qc => exact cells_new wq (idC x) 33
          case q2 => unfold maxLen; omega
          case q3 => omega
          case q4 => have := HBj.out.size; simp; omega
          intro v7 W7 hown7 hgrow7 _ _
          have hb7 : Below w.heap.size w W7 := (HBj.out.alloc HBj.out.size _).grown hgrow7 (by have := HBj.out.size; simp; omega) (fun j hj => (HOj.out.lt j hj).1)
          have HB7 := Lib.hid hb7
          have HSN2 := Lib.hid (show listR (R.take (j + 1)) false = LL ++ [x] from by rw [HSN.out]; rfl)
          have HO7 := Lib.hid (show W7.ownsRow w.heap.size 33 3 v7 (listR (R.take (j + 1)) false).length ((listR (R.take (j + 1)) false).flatMap idC) by rw [HSN2.out, List.length_append, HLN.out, List.flatMap_append, List.flatMap_singleton]; exact hown7)
          clear hown7 hgrow7 hb7 d0 d1 d2 e0
          go_wp2
          go_roundw
          case rel => exact ⟨j + 1, by omega, by go_num, HO7.out, HB7.out⟩
          case measure => simp [intOf]; omega
      · cases q
        · have HSN2 := Lib.hid (show listR (R.take (j + 1)) true = LL from by rw [HSN.out]; simp)
          have HO7 := Lib.hid (show wq.ownsRow w.heap.size 33 3 (.slice Ao LN co) (listR (R.take (j + 1)) true).length ((listR (R.take (j + 1)) true).flatMap idC) by rw [HSN2.out, HLN.out]; exact HOj.out)
          go_wp2
          go_roundw
          case rel => exact ⟨j + 1, by omega, by go_num, HO7.out, HBj.out⟩
          case measure => simp [intOf]; omega
        · skip
          go_wp2_with (at_builtin; refine wpList_append_own_at _ rfl _ _ 35 rfl w.heap.size 33 i0 _ 3 24 Try.underlying35 hi hz0 hz1 hz2 rfl (by decide) _ _ _ rfl (HOj.out.alloc _) ⟨wq.heap.size, 0, none⟩ 1 1 (idC x) rfl rfl ?qc (by simp [idC, Value.oneCell']) ?q2 ?q3 ?q4 ?_)
          case qc => exact cells_new wq (idC x) 33
          case q2 => unfold maxLen; omega
          case q3 => omega
          case q4 => have := HBj.out.size; simp; omega
          intro v7 W7 hown7 hgrow7 _ _
          have hb7 : Below w.heap.size w W7 := (HBj.out.alloc HBj.out.size _).grown hgrow7 (by have := HBj.out.size; simp; omega) (fun j hj => (HOj.out.lt j hj).1)
          have HB7 := Lib.hid hb7
          have HSN2 := Lib.hid (show listR (R.take (j + 1)) true = LL ++ [x] from by rw [HSN.out]; rfl)
          have HO7 := Lib.hid (show W7.ownsRow w.heap.size 33 3 v7 (listR (R.take (j + 1)) true).length ((listR (R.take (j + 1)) true).flatMap idC) by rw [HSN2.out, List.length_append, HLN.out, List.flatMap_append, List.flatMap_singleton]; exact hown7)
          clear hown7 hgrow7 hb7 d0 d1 d2 e0
          go_wp2
          go_roundw
          case rel => exact ⟨j + 1, by omega, by go_num, HO7.out, HB7.out⟩
          case measure => simp [intOf]; omega
    · obtain rfl : j = R.length := by omega
      rw [List.take_length] at HOj
      rw [List.take_length]
      go_wp2
      go_ret
      exact ⟨_, rfl, HOj.out, HBj.out⟩
end Go.Proofs.Ytphapjbfaomblaa
