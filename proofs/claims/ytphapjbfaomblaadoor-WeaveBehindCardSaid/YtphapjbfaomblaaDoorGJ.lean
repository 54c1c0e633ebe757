/- Maps that count; the function by which weave.Seen leaves elements out. -/
import Derived.Test.YtphapjbfaomblaaDoorGC
import Derived.Test.YtphapjbfaomblaaDoorGI
import Derived.Test.YtphapjbfaomblaaDoorGH
namespace Go.Proofs.YtphapjbfaomblaaDoor
open Go Go.RowKit Go.Maps
def cnt {α : Type} [DecidableEq α] (l : List α) (s : α) : Nat := (l.filter (fun x => decide (x = s))).length
theorem cnt_snoc {α : Type} [DecidableEq α] (l : List α) (x s : α) : cnt (l ++ [x]) s = cnt l s + if x = s then 1 else 0 := by
  unfold cnt
  rw [List.filter_append, List.length_append]
  by_cases h : x = s <;> simp [h]
theorem cnt_le {α : Type} [DecidableEq α] (l : List α) (s : α) : cnt l s ≤ l.length := List.length_filter_le _ _
theorem cnt_zero {α : Type} [DecidableEq α] (l : List α) (s : α) : cnt l s = 0 ↔ s ∉ l := by
  unfold cnt
  rw [List.length_eq_zero_iff, List.filter_eq_nil_iff]
  constructor
  · intro h hs; exact h s hs (by simp)
  · intro h x hx e; exact h (by simpa using (by simpa using e : x = s) ▸ hx)
structure CM {α : Type} [DecidableEq α] (k : TypeId) (K : α → Lit) (l : List α) (wr : World) (b m : Nat) (D : DataW HH) : Prop where
  map : wr.ownsMap Tryd.prog k (plainElem (H := HH) Tryd.prog 3) b m D
  le : m ≤ l.length
  ct : ∀ s, D.atKey (K s) (.lit (.int .i64 0)) = .lit (.int .i64 (cnt l s : Nat))
section
variable {α : Type} [DecidableEq α] {k t : TypeId} {V : α → Value} {K : α → Lit} {l : List α} {wr wr' : World} {b m : Nat} {D : DataW HH}
theorem CM.touch {F : Nat → Prop} (h : CM k K l wr b m D) (t : Touch F wr wr') (hb : ¬ F b) : CM k K l wr' b m D := ⟨map_touch h.map t hb, h.le, h.ct⟩
theorem CM.below (h : CM k K l wr b m D) (hb : Below wr.heap.size wr wr') : CM k K l wr' b m D := h.touch (Below.touch hb (fun _ => False)) (fun h => h)
theorem CM.look (ok : KeyOk k V K) (ht : Tryd.prog.underlying t = some (.map k 3)) (h : CM k K l wr b m D) (x : α) : (Instr.lookup t (.map (some b)) (V x) false).run Tryd.prog wr = .ok (.int .i64 (cnt l x : Nat)) wr := by
  obtain ⟨c, h1, h2, _⟩ := h.map.lookup_int ok.keyed ht Tryd.underlying3 (zero3 wr) (ok.val x)
  have h3 := h.ct x
  rw [h2] at h3
  have : c = (cnt l x : Nat) := by simpa using h3
  rw [h1, this]
theorem CM.tick (ok : KeyOk k V K) (kl : WideMaps.KeyLaw Tryd.prog k) (ht : Tryd.prog.underlying t = some (.map k 3)) (h : CM k K l wr b m D) (x : α) (hl : l.length ≤ 1000000) :
    ∃ st w1 w2, (Instr.mapEntry t (.map (some b)) (V x)).run Tryd.prog wr = .ok (.tuple #[.int .i64 (cnt l x : Nat), goInt st]) w1 ∧ (Instr.lookup t (.map (some b)) (V x) false).run Tryd.prog w1 = .ok (.int .i64 (cnt l x : Nat)) w1 ∧
      (Instr.entryStore t (.map (some b)) (goInt st) (.int .i64 ((cnt l x : Nat) + 1))).run Tryd.prog w1 = .ok () w2 ∧ wr.grownBy w2 (some b) ∧ ∃ D3, CM k K (l ++ [x]) w2 b (m + 1) D3 := by
  have hle := cnt_le l x
  have hm := h.le
  have hw : I64 (((cnt l x : Nat) : Int) + 1) := by unfold I64; omega
  obtain ⟨v0, st, w1, w2, e1, e2, e3, e4, hM, hg⟩ := own_entry (val := .int .i64 (((cnt l x : Nat) : Int) + 1)) h.map kl ht (fun u => zero3 u) (by unfold maxLen; omega) (ok.val x) (plain3 _ hw)
  have hv : v0 = .int .i64 (cnt l x : Nat) := by
    rw [h.look ok ht x] at e1
    cases e1
    rfl
  subst hv
  refine ⟨st, w1, w2, e2, e3, e4, hg, D.put (K x) (.lit (.int .i64 (((cnt l x : Nat) : Int) + 1))), hM, by simp; omega, fun s => ?_⟩
  rw [cnt_snoc]
  by_cases hs : x = s
  · subst hs
    rw [Maps.atKey_put_same h.map.isMap (ok.keyed.key (ok.val x)), if_pos rfl]
    simp
  · rw [Maps.atKey_put_other (fun e' => hs (ok.inj e').symm), h.ct s, if_neg hs]
    simp
end
/-- who is left out: whose stamp is not on, and who is gone -/
def leaves (on : List Stamp) (gone : List Id) (e : El) : Bool := decide (e.id.s ∉ on) || decide (e.id ∈ gone)
set_option maxRecDepth 100000 in
set_option maxHeartbeats 1000000 in
theorem seen1_any (on : List Stamp) (gone : List Id) (e : El) (b8 b9 bi bo m m2 : Nat) (D D2 : DataW HH) (W : World) (h8 : W.heap[b8]? = some (.cells #[.map (some bi)] 80 (0, 0))) (h9 : W.heap[b9]? = some (.cells #[.map (some bo)] 81 (0, 0)))
    (hi : CM 24 stK on W bi m D) (ho : CM 26 idK gone W bo m2 D2) :
    Calls Tryd.prog 44 #[elV e, .pointer (some ⟨b8, 0, none⟩), .pointer (some ⟨b9, 0, none⟩)] W fun r W' => r = .returned (.bool (leaves on gone e)) ∧ Grows W W' := by
  have hb : Below W.heap.size W (W.alloc (.cells #[.int .i64 e.id.s.T, .int .i64 e.id.s.R, .int .i64 e.id.I, .string e.pc] 84)) := (Below.refl _ W).alloc (Nat.le_refl _) _
  have l1 := (hi.below hb).look ok24 Tryd.underlying80 e.id.s
  have l2 := (ho.below hb).look ok26 Tryd.underlying81 e.id
  have c8 : W.cell? ⟨b8, 0, none⟩ = some (.map (some bi)) := cell_of_row _ _ 0 _ _ _ h8
  have c9 : W.cell? ⟨b9, 0, none⟩ = some (.map (some bo)) := cell_of_row _ _ 0 _ _ _ h9
  have hl8 := (Array.getElem?_eq_some_iff.1 h8).1
  have hl9 := (Array.getElem?_eq_some_iff.1 h9).1
  have hlv : leaves on gone e = (decide (cnt on e.id.s = 0) || decide (0 < cnt gone e.id)) := by
    unfold leaves
    have h1 := cnt_zero on e.id.s
    have h2 := cnt_zero gone e.id
    congr 1
    · exact decide_eq_decide.2 h1.symm
    · refine decide_eq_decide.2 ?_
      constructor
      · intro h; exact Nat.pos_of_ne_zero (fun e => (h2.1 e) h)
      · intro h
        by_cases h3 : e.id ∈ gone
        · exact h3
        · have := h2.2 h3; omega
  have HLV := Lib.hid hlv
  obtain ⟨x, hx⟩ : ∃ x, cnt on e.id.s = x := ⟨_, rfl⟩
  obtain ⟨y, hy⟩ : ∃ y, cnt gone e.id = y := ⟨_, rfl⟩
  rw [hx] at l1 HLV
  rw [hy] at l2 HLV
  unfold stV at l1
  unfold idV at l2
  unfold elV
  clear h8 h9 hi ho hb hlv hx hy
  by_cases h0 : x = 0
  · subst h0
    go_enter Tryd.func44, Tryd.ntmps44
    go_wp2
    go_ret
    exact ⟨by rw [HLV.out]; rfl, (Grows.refl W).alloc _⟩
  · have hx0 : ((x : Int) == 0) = false := by simp; omega
    by_cases h1 : y = 0
    · subst h1
      go_enter Tryd.func44, Tryd.ntmps44
      go_wp2
      go_ret
      exact ⟨by rw [HLV.out]; simp [h0], (Grows.refl W).alloc _⟩
    · have hy0 : (0 : Int) < (y : Int) := by omega
      go_enter Tryd.func44, Tryd.ntmps44
      go_wp2
      go_ret
      exact ⟨by rw [HLV.out]; simp [h0], (Grows.refl W).alloc _⟩
end Go.Proofs.YtphapjbfaomblaaDoor
