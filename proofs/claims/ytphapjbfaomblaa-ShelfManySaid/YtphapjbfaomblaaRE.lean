/- The document's shelf: Show. -/
import Derived.Test.YtphapjbfaomblaaRB
namespace Go.Proofs.Ytphapjbfaomblaa
open Go Go.RowKit Go.Maps
theorem boC_map (S : List Bool) : S.flatMap boC = S.map Value.bool := by
  induction S with
  | nil => rfl
  | cons a S ih => rw [List.flatMap_cons, ih]; rfl
theorem map_split (S : List Bool) {k : Nat} (hk : k < S.length) : S.map Value.bool = (S.take k).map Value.bool ++ [.bool S[k]] ++ (S.drop (k + 1)).map Value.bool := by
  have h := List.take_append_drop k S
  rw [List.drop_eq_getElem_cons hk] at h
  have h2 := congrArg (List.map Value.bool) h
  rw [List.map_append, List.map_cons] at h2
  rw [List.append_assoc]
  exact h2.symm
theorem map_set (S : List Bool) {k : Nat} (hk : k < S.length) (q : Bool) : (S.set k q).map Value.bool = (S.take k).map Value.bool ++ [.bool q] ++ (S.drop (k + 1)).map Value.bool := by
  rw [List.set_eq_take_append_cons_drop, if_pos hk]
  simp
/-- one is shown or hidden -/
theorem RfIs.show {w : World} {rb : Nat} {vi : Value} {g cap : Nat} {R : Row Id} (h : RfIs w rb vi (.slice (some ⟨g, 0, none⟩) R.length cap) R) {x : Id} (hx : x ∈ namesR R) (q : Bool) :
    RfIs (w.setCell ⟨g, ixR R x, none⟩ (.bool q)) rb vi (.slice (some ⟨g, 0, none⟩) R.length cap) (showR R x q) := by
  have hk := ixR_lt.2 hx
  have hkS : ixR R x < (seenR R).length := by rw [seenR_len]; exact hk
  have ht : Touch (fun y => y = g) w (w.setCell ⟨g, ixR R x, none⟩ (.bool q)) := (Touch.refl (fun y => y = g) w).setCell (fun _ => rfl) _
  have hown : (Value.slice (some ⟨g, 0, none⟩) R.length cap).ownBlock = some g := rfl
  refine ⟨block_touch h.cell ht (fun e => ne_kind (kind_cell h.cell) (kind_row h.sn hown) (by decide) e), ?_, ?_⟩
  · rw [showR_len, showR_names q hx]
    exact own_touch h.ids ht (fun y hy e => ne_kind (kind_row h.ids hy) (kind_row h.sn hown) (by decide) e)
  · have hs := h.sn
    rw [boC_map, map_split _ hkS] at hs
    have := own_sets hs [Value.bool q] rfl (by omega)
    rw [showR_len, showR_seen, boC_map, map_set _ hkS]
    have hl : ((List.take (ixR R x) (seenR R)).map Value.bool).length = ixR R x := by rw [List.length_map, List.length_take]; omega
    rw [hl] at this
    exact this
def RshowPost (w : World) (rb : Nat) (vi vs : Value) (R : Row Id) (x : Id) (q : Bool) (e : Ending) (w' : World) : Prop :=
  e = .returned (.int .i64 (if x ∈ namesR R then 0 else 111)) ∧ RfIs w' rb vi vs (if x ∈ namesR R then showR R x q else R) ∧ Touch (fun y => vs.ownBlock = some y) w w'
set_option maxHeartbeats 2000000 in
theorem rshow_any {w : World} {rb : Nat} {vi vs : Value} {R : Row Id} (h : RfIs w rb vi vs R) (x : Id) (q : Bool) :
    Calls Try.prog 22 #[.pointer (some ⟨rb, 0, none⟩), idV x, .bool q] w (RshowPost w rb vi vs R x q) := by
  have HH := Lib.hid (fun W (hW : Below w.heap.size w W) => h.below hW)
  have HA := Lib.hid (fun W (hW : Below w.heap.size w W) => rat_any (h.below hW) x)
  unfold idV at HA
  unfold idV
  by_cases hx : x ∈ namesR R
  · have hk := ixR_lt.2 hx
    obtain ⟨g, cap, C, rfl, _, _, hnc, hcm, hg, _⟩ := own_parts h.sn (by omega)
    unfold maxLen at hcm
    have HX := Lib.hid hx
    have hkS : ixR R x < (seenR R).length := by rw [seenR_len]; exact hk
    have hF := fun W (hW : Below w.heap.size w W) => (show W.cell? ⟨rb, 1, none⟩ = some (.slice (some ⟨g, 0, none⟩) R.length cap) ∧ W.cell? ⟨g, ixR R x, none⟩ = some (.bool (seenR R)[ixR R x]) ∧ ∀ i, W.frozen? ⟨g, i, none⟩ = false from by
      have hgW := (hW.block g (Array.getElem?_eq_some_iff.1 hg).1).trans hg
      refine ⟨cell_of_row _ _ 1 _ _ _ (h.below hW).cell, ?_, fun i => by simp [World.frozen?, hgW]⟩
      have := cell_of_row _ _ (ixR R x) _ _ _ hgW
      rw [this, boC_map]
      rw [List.getElem?_toArray, List.getElem?_append_left (by simpa using hkS), List.getElem?_map, List.getElem?_eq_getElem hkS]
      rfl)
    have HF := Lib.hid hF
    have i1 : (0 : Int) ≤ (ixR R x : Int) := by omega
    have i2 : (ixR R x : Int) < (R.length : Int) := by omega
    have i3 : ¬ ((ixR R x : Int) < 0) := by omega
    clear h hx hk hg hF
    go_enter Try.func22, Try.ntmps22
    go_wp2_with (go_at_call 30; refine (HA.out _ ((Below.refl _ w).alloc (Nat.le_refl _) _)).mono ?_; rintro e w1 ⟨⟨r, rfl, hr⟩, hgr⟩; obtain rfl := at_ix hr HX.out; have HG := Lib.hid ((((Grows.refl w).alloc _).trans hgr).below); obtain ⟨c1, d0, zf⟩ := HF.out w1 HG.out; clear hr hgr)
    go_ret
    unfold RshowPost
    rw [if_pos HX.out, if_pos HX.out]
    have tt : Touch (fun y => (Value.slice (some ⟨g, 0, none⟩) R.length cap).ownBlock = some y) w w1 := Below.touch HG.out _
    exact ⟨rfl, (HH.out w1 HG.out).show HX.out q, tt.setCell (p := ⟨g, ixR R x, none⟩) (fun _ => rfl) _⟩
  · have HX := Lib.hid hx
    have HR1 := Lib.hid (fun r (hr : AtIs (namesR R) x r) => (show r = -1 from by
      rcases hr with ⟨k, hk, _, h2, _⟩ | ⟨h1, _⟩
      · exact absurd (h2 ▸ List.getElem_mem hk) HX.out
      · exact h1))
    clear h hx
    go_enter Try.func22, Try.ntmps22
    go_wp2_with (go_at_call 30; refine (HA.out _ ((Below.refl _ w).alloc (Nat.le_refl _) _)).mono ?_; rintro e w1 ⟨⟨r, rfl, hr⟩, hgr⟩; obtain rfl := HR1.out r hr; have HG := Lib.hid ((((Grows.refl w).alloc _).trans hgr).below); clear hr hgr)
    go_ret
    unfold RshowPost
    rw [if_neg HX.out, if_neg HX.out]
    exact ⟨rfl, HH.out w1 HG.out, Below.touch HG.out _⟩
end Go.Proofs.Ytphapjbfaomblaa
