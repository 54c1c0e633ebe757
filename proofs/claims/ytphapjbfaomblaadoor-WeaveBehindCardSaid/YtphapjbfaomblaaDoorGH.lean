/- The program's Order. -/
import Derived.Test.YtphapjbfaomblaaDoorGG
namespace Go.Proofs.YtphapjbfaomblaaDoor
open Go Go.RowKit
theorem pcs_all (l : List UInt8) : AllP (pcs l) := by
  unfold pcs
  split
  · rename_i h; exact h.choose_spec.1
  · exact AllP.nil
theorem flatOf_pc : ∀ (ps : List (List UInt8)) (af x : Id), AllP ps → ∀ e ∈ flatOf af x ps, e.pc.size ≤ 4
  | [], _, _, _, e, he => by cases he
  | p :: ps, af, x, h, e, he => by
    rw [flatOf] at he
    rcases List.mem_cons.1 he with rfl | he
    · show (ofL p).size ≤ 4
      rw [ofL_size]
      exact h.head.four
    · exact flatOf_pc ps x (nextI x) h.tail e he
theorem flat_pc (R : List Rn) : ∀ e ∈ flat R, e.pc.size ≤ 4 := by
  intro e he
  obtain ⟨r, _, hr⟩ := List.mem_flatMap.1 he
  exact flatOf_pc _ _ _ (pcs_all _) e hr
theorem txt_len4 : ∀ (L : List El), (∀ e ∈ L, e.pc.size ≤ 4) → (txt L).length ≤ L.length * 4
  | [], _ => by simp [txt]
  | e :: L, h => by
    have h1 := txt_len4 L (fun x hx => h x (List.mem_cons_of_mem _ hx))
    have h2 := h e (by simp)
    have h3 : txt (e :: L) = e.pc.data.toList ++ txt L := by simp [txt]
    have h4 : e.pc.data.toList.length = e.pc.size := (Lib.size_eq e.pc).symm
    rw [h3, List.length_append, List.length_cons]
    omega
def els (O : List Nd) : List El := O.map (·.2)
theorem ndC_els (O : List Nd) : O.flatMap ndC = (els O).flatMap elC := by
  unfold els
  rw [List.flatMap_map]
  rfl
theorem order_els {F : List El} {O : List Nd} (h : OrderOf Id.Lt El.id El.af zeroI (Counts F) O) : ∀ e ∈ els O, e ∈ F := by
  intro e he
  obtain ⟨n, hn, rfl⟩ := List.mem_map.1 he
  exact counts_mem ((h.2 n).1 hn).1
def OrdPost (R : List Rn) (w : World) (e : Ending) (w' : World) : Prop :=
  ∃ O v, OrderOf Id.Lt El.id El.af zeroI (Counts (flat R)) O ∧ e = .returned (.tuple #[v, .string (ofL (txt (els O)))]) ∧ w'.ownsRow w.heap.size 26 3 v O.length (((els O).map El.id).flatMap idC) ∧ O.length ≤ (flat R).length ∧ Below w.heap.size w w'
set_option maxRecDepth 100000 in
set_option maxHeartbeats 1000000 in
theorem order_any (R : List Rn) (A : Option Addr) (n c B0 : Nat) (w : World) (hR : Rd w B0 7 (.slice A n c) n (R.flatMap rnC)) (hB : B0 ≤ w.heap.size) (hT : Tabs w) (hF : (flat R).length ≤ 100000) (htx : ∀ r ∈ R, r.tx.size ≤ 100000) :
    Calls Tryd.prog 13 #[.slice A n c] w (OrdPost R w) := by
  have HOrd := Lib.hid (ordered_any R A n c B0 w hR hB hT hF htx)
  have HF := Lib.hid hF
  clear hR hT hF htx
  go_enter Tryd.func13, Tryd.ntmps13
  go_wp2_with fail
  refine HOrd.out.mono ?_
  rintro e w1 ⟨v, O, rfl, hO, hrow, hle, hb1⟩
  rw [ndC_els] at hrow
  have hl : (els O).length = O.length := by simp [els]
  obtain ⟨Av, cv, rfl, _, _⟩ := (Rd.of_own hrow).form
  have hx : (txt (els O)).length ≤ 1000000000 := by
    have h1 := txt_len4 (els O) (fun e he => flat_pc R e (order_els hO e he))
    have := HF.out
    omega
  have HTo := Lib.hid (told_any (els O) Av O.length cv w1.heap.size w1 (Rd.of_own hrow) (Nat.le_refl _) (by have := HF.out; omega) hx)
  have HO := Lib.hid hO
  have HB1 := Lib.hid hb1
  have HLe := Lib.hid hle
  have HL := Lib.hid hl
  clear hrow hO hb1 hx hle hl HOrd
  go_wp2_with fail
  refine HTo.out.mono ?_
  rintro e w2 ⟨v2, rfl, hv2, hb2⟩
  have HP := Lib.hid (show OrdPost R w (.returned (.tuple #[v2, .string (ofL (txt (els O)))])) w2 from ⟨O, v2, HO.out, rfl, by rw [← HL.out]; exact own_base hv2 HB1.out.size, HLe.out, HB1.out.trans (hb2.mono HB1.out.size)⟩)
  clear hv2 hb2
  go_wp2
  go_ret2
  exact HP.out
end Go.Proofs.YtphapjbfaomblaaDoor
