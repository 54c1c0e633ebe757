/- One is shown or hidden in a shelf: the store. -/
import Derived.Test.YtphapjbfaomblaaSM
import Derived.Test.YtphapjbfaomblaaRE
namespace Go.Proofs.Ytphapjbfaomblaa
open Go Go.RowKit Go.Maps
theorem ShIs.set {w : World} {sb mp : Nat} {vb : Value} {pre post : List Bl} {ad g cap : Nat} {vi : Value} {n : Int} {R : Row Id} {D : DataW (Option Nat)} {t : Int}
    (h : ShIs w sb mp vb (pre ++ ⟨ad, vi, .slice (some ⟨g, 0, none⟩) R.length cap, n, R⟩ :: post) D t) {x : Id} (hx : x ∈ namesR R) (q : Bool) :
    ShIs (w.setCell ⟨g, ixR R x, none⟩ (.bool q)) sb mp vb (pre ++ ⟨ad, vi, .slice (some ⟨g, 0, none⟩) R.length cap, n, showR R x q⟩ :: post) D t := by
  have hb := h.bl _ (List.mem_append_right pre (List.mem_cons_self ..))
  have hk := ixR_lt.2 hx
  have hkS : ixR R x < (seenR R).length := by rw [seenR_len]; exact hk
  have hown : (Value.slice (some ⟨g, 0, none⟩) R.length cap).ownBlock = some g := rfl
  have hsn := hb.sn
  have hids := hb.ids
  have hcell := hb.cell
  dsimp only at hsn hids hcell
  have ht : Touch (fun y => y = g) w (w.setCell ⟨g, ixR R x, none⟩ (.bool q)) := (Touch.refl (fun y => y = g) w).setCell (fun _ => rfl) _
  refine h.change (ht.mono (fun y _ hy => .inr (.inr (by rw [hy]; exact hown)))) ⟨?_, ?_, ?_⟩ rfl (.inl rfl) (.inl rfl)
  · exact block_touch hcell ht (fun e => ne_kind (kind_cell hcell) (kind_row hsn hown) (by decide) e)
  · dsimp only
    rw [showR_len, showR_names q hx]
    exact own_touch hids ht (fun y hy e => ne_kind (kind_row hids hy) (kind_row hsn hown) (by decide) e)
  · dsimp only
    rw [boC_map, map_split _ hkS] at hsn
    have := own_sets hsn [Value.bool q] rfl (by omega)
    rw [showR_len, showR_seen, boC_map, map_set _ hkS]
    have hl : ((List.take (ixR R x) (seenR R)).map Value.bool).length = ixR R x := by rw [List.length_map, List.length_take]; omega
    rw [hl] at this
    exact this
end Go.Proofs.Ytphapjbfaomblaa
