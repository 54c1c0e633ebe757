/- What the law's awake asks, in plain words. -/
import Derived.Test.YtphapjbfaomblaaDoorGK
namespace Go.Proofs.YtphapjbfaomblaaDoor
open Go Go.RowKit
def mk (t r i : Int) (ht : I64 t := by decide) (hr : I64 r := by decide) (hi : I64 i := by decide) : Id := ⟨⟨t, r, ht, hr⟩, i, hi⟩
def tx (l : List UInt8) : ByteArray := ⟨l.toArray⟩
def aR : List Rn := [⟨zeroI, mk 1 1 0, tx [97, 98]⟩, ⟨mk 1 1 0, mk 2 2 0, tx [88]⟩, ⟨mk 1 1 0, mk 3 1 0, tx [89]⟩]
def eA : El := ⟨mk 1 1 0, zeroI, tx [97]⟩
def eB : El := ⟨mk 1 1 1, mk 1 1 0, tx [98]⟩
def eX : El := ⟨mk 2 2 0, mk 1 1 0, tx [88]⟩
def eY : El := ⟨mk 3 1 0, mk 1 1 0, tx [89]⟩
theorem pcs_two : pcs [97, 98] = [[97], [98]] := pcs_of (ps := [[97], [98]]) (AllP.cons (isP_ascii (by decide)) (AllP.cons (isP_ascii (by decide)) AllP.nil))
theorem pcs_X : pcs [88] = [[88]] := pcs_of (ps := [[88]]) (AllP.cons (isP_ascii (by decide)) AllP.nil)
theorem pcs_Y : pcs [89] = [[89]] := pcs_of (ps := [[89]]) (AllP.cons (isP_ascii (by decide)) AllP.nil)
theorem aFlat : flat aR = [eA, eB, eX, eY] := by
  show flatOf zeroI (mk 1 1 0) (pcs [97, 98]) ++ (flatOf (mk 1 1 0) (mk 2 2 0) (pcs [88]) ++ (flatOf (mk 1 1 0) (mk 3 1 0) (pcs [89]) ++ [])) = _
  rw [pcs_two, pcs_X, pcs_Y]
  rfl
def aO : List Nd := [([mk 1 1 0], eA), ([mk 1 1 0, mk 3 1 0], eY), ([mk 1 1 0, mk 2 2 0], eX), ([mk 1 1 0, mk 1 1 1], eB)]
theorem aCounts {e : El} (h : e ∈ [eA, eB, eX, eY]) : Counts (flat aR) e := by
  rw [aFlat]
  simp only [List.mem_cons, List.mem_nil_iff, or_false] at h
  rcases h with rfl | rfl | rfl | rfl <;> exact ⟨by unfold FirstK; rfl, by decide⟩
theorem aNodes : ∀ n ∈ aO, IsNode El.id El.af zeroI (Counts (flat aR)) n := by
  have hA : IsPath El.id El.af zeroI (Counts (flat aR)) [mk 1 1 0] (mk 1 1 0) := .step [] eA _ _ .root (aCounts (by simp)) rfl rfl
  intro n hn
  simp only [aO, List.mem_cons, List.mem_nil_iff, or_false] at hn
  rcases hn with rfl | rfl | rfl | rfl
  · exact ⟨aCounts (by simp), [], .root, rfl⟩
  · exact ⟨aCounts (by simp), [mk 1 1 0], hA, rfl⟩
  · exact ⟨aCounts (by simp), [mk 1 1 0], hA, rfl⟩
  · exact ⟨aCounts (by simp), [mk 1 1 0], hA, rfl⟩
theorem aOrder : OrderOf Id.Lt El.id El.af zeroI (Counts (flat aR)) aO := by
  refine ⟨?_, fun n => ⟨aNodes n, fun hn => ?_⟩⟩
  · simp [aO, PLt, Id.Lt, Stamp.Lt, mk]
  · have hm := counts_mem hn.1
    rw [aFlat] at hm
    have key : ∀ m ∈ aO, m.2 = n.2 → n ∈ aO := fun m hm e => by
      have := node_unique (counts_names (flat aR)) (aNodes m hm) hn (by rw [e])
      rw [← this]; exact hm
    simp only [List.mem_cons, List.mem_nil_iff, or_false] at hm
    rcases hm with h | h | h | h
    · exact key ([mk 1 1 0], eA) (by simp [aO]) h.symm
    · exact key ([mk 1 1 0, mk 1 1 1], eB) (by simp [aO]) h.symm
    · exact key ([mk 1 1 0, mk 2 2 0], eX) (by simp [aO]) h.symm
    · exact key ([mk 1 1 0, mk 3 1 0], eY) (by simp [aO]) h.symm
theorem aIs {O : List Nd} (h : OrderOf Id.Lt El.id El.af zeroI (Counts (flat aR)) O) : O = aO := order_unique idSTO h aOrder
theorem aText : ofL (txt (els aO)) = ⟨#[97, 89, 88, 98]⟩ := rfl
def aOn : List Stamp := [⟨1, 1, by decide, by decide⟩, ⟨2, 2, by decide, by decide⟩]
def aGone : List Id := [mk 1 1 1]
theorem aSeen : seenOf aOn aGone aO = [eA, eX] := by rfl
theorem aText2 : ofL (txt [eA, eX]) = ⟨#[97, 88]⟩ := rfl
theorem rd_new {w : World} {b n : Nat} {e : TypeId} {K : Nat} {xs : List Value} (h : w.heap[b]? = some (.cells xs.toArray e (0, 0))) (hl : xs.length = n * K) (hn : n ≤ maxLen) : Rd w w.heap.size K (.slice (some ⟨b, 0, none⟩) n n) n xs :=
  Rd.of_own (own_mk (base := 0) (R := []) hl (Nat.zero_le _) (Nat.le_refl _) hn (by simpa using h) (by simpa using hl))
theorem id3_at (t r i : Int) (w : World) : Calls Tryd.prog 39 #[.int .i64 t, .int .i64 r, .int .i64 i] w fun e w' => e = .returned (.agg #[.int .i64 t, .int .i64 r, .int .i64 i]) ∧ Grows w w' := by
  go_enter Tryd.func39, Tryd.ntmps39
  go_wp2
  refine bodyPost_ret (results_cell_row rfl _ _ w.heap.size 26 #[.int .i64 t, .int .i64 r, .int .i64 i] (0, 0) _ rfl (heap_alloc_new w _) Tryd.underlying26 rfl (by kernel_rfl)) rfl ⟨rfl, (Grows.refl w).alloc _⟩
end Go.Proofs.YtphapjbfaomblaaDoor
