/- Texts of this seat, one behind the other: SI, SM, RX, SN, SF2, SO, JA, JB. -/
import Derived.Test.YtphapjbfaomblaaDoorZb12
import Derived.Deep.RegionHeld3
import Derived.Test.YtphapjbfaomblaaDoorZb7
import Derived.Test.YtphapjbfaomblaaDoorZb8
import Derived.Test.YtphapjbfaomblaaDoorZb9
import Derived.Test.YtphapjbfaomblaaDoorZb2
import Derived.Test.YtphapjbfaomblaaDoorZb5
/- The shelf's functions at a shelf in order; the law's awake. -/
namespace Go.Proofs.YtphapjbfaomblaaDoor
open Go Go.RowKit Go.Maps
theorem count_at {w : World} {F : Nat → Prop} {sb : Nat} {R : Row Id} (h : ShelfAt w F sb R) : Calls Tryd.prog 55 #[.pointer (some ⟨sb, 0, none⟩)] w fun e w' => e = .returned (.int .i64 (cntR R)) ∧ w' = w := by
  obtain ⟨mp, vb, Bs, D, t, h1, h2, _, _, _⟩ := h
  have := count_any h1
  rw [h2.all] at this
  exact this
theorem list_at {w : World} {F : Nat → Prop} {sb : Nat} {R : Row Id} (h : ShelfAt w F sb R) (hl : R.length ≤ 100000) (s : Bool) : Calls Tryd.prog 52 #[.pointer (some ⟨sb, 0, none⟩), .bool s] w fun e w' => ∃ v, e = .returned v ∧ w'.ownsRow w.heap.size 26 3 v (listR R s).length ((listR R s).flatMap idC) ∧ Below w.heap.size w w' := by
  obtain ⟨mp, vb, Bs, D, t, h1, h2, _, _, _⟩ := h
  have := list_any h1 (by rw [h2.row]; exact hl) s
  rw [h2.row] at this
  exact this
theorem find_at {w : World} {F : Nat → Prop} {sb : Nat} {R : Row Id} (h : ShelfAt w F sb R) (hl : R.length ≤ 100000) (k : Int) : Calls Tryd.prog 58 #[.pointer (some ⟨sb, 0, none⟩), .int .i64 k] w (FindPost R k w) := by
  obtain ⟨mp, vb, Bs, D, t, h1, h2, _, _, _⟩ := h
  exact find_any h1 h2 hl k
theorem place_at {w : World} {F : Nat → Prop} {sb : Nat} {R : Row Id} (h : ShelfAt w F sb R) (hl : R.length ≤ 100000) (x : Id) : Calls Tryd.prog 67 #[.pointer (some ⟨sb, 0, none⟩), idV x] w (PlacePost R x w) := by
  obtain ⟨mp, vb, Bs, D, t, h1, h2, _, _, _⟩ := h
  exact place_any h1 h2 hl x
/-- a shelf laid since w0 -/
def Aw (w0 : World) (sb : Nat) (R : Row Id) (w : World) : Prop := ∃ F, ShelfAt w F sb R ∧ (∀ k, F k → w0.heap.size ≤ k) ∧ Below w0.heap.size w0 w
theorem Aw.below {w0 w w' : World} {sb : Nat} {R : Row Id} (h : Aw w0 sb R w) (hb : Below w.heap.size w w') : Aw w0 sb R w' := by
  obtain ⟨F, h1, h2, h3⟩ := h
  exact ⟨F, h1.below hb, h2, h3.trans (hb.mono h3.size)⟩
theorem Aw.drew {w0 w : World} {sb : Nat} {R : Row Id} (h : Aw w0 sb R w) : Aw w0 sb R w.drew := h.below (Below.refl _ w).drew
theorem Aw.alloc {w0 w : World} {sb : Nat} {R : Row Id} (h : Aw w0 sb R w) (o : Obj) : Aw w0 sb R (w.alloc o) := h.below ((Below.refl _ w).alloc (Nat.le_refl _) o)
theorem Aw.out {w0 w : World} {sb : Nat} {R : Row Id} (h : Aw w0 sb R w) : Below w0.heap.size w0 w := h.choose_spec.2.2
theorem Aw.new (w : World) : Calls Tryd.prog 46 #[] w fun e w' => ∃ sb, e = .returned (.pointer (some ⟨sb, 0, none⟩)) ∧ Aw w sb [] w' := by
  refine (new_any w).mono ?_
  rintro e w' ⟨sb, rfl, _, h, hb⟩
  exact ⟨sb, rfl, _, h, fun k hk => hk.1, hb⟩
theorem Aw.count {w0 w : World} {sb : Nat} {R : Row Id} (h : Aw w0 sb R w) : Calls Tryd.prog 55 #[.pointer (some ⟨sb, 0, none⟩)] w fun e w' => e = .returned (.int .i64 (cntR R)) ∧ w' = w := count_at h.choose_spec.1
theorem Aw.list {w0 w : World} {sb : Nat} {R : Row Id} (h : Aw w0 sb R w) (hl : R.length ≤ 100000) (s : Bool) : Calls Tryd.prog 52 #[.pointer (some ⟨sb, 0, none⟩), .bool s] w fun e w' => ∃ v, e = .returned v ∧ w'.ownsRow w.heap.size 26 3 v (listR R s).length ((listR R s).flatMap idC) ∧ Aw w0 sb R w' ∧ Below w.heap.size w w' := by
  refine (list_at h.choose_spec.1 hl s).mono ?_
  rintro e w' ⟨v, rfl, h1, h2⟩
  exact ⟨v, rfl, h1, h.below h2, h2⟩
theorem Aw.find {w0 w : World} {sb : Nat} {R : Row Id} (h : Aw w0 sb R w) (hl : R.length ≤ 100000) (k : Int) : Calls Tryd.prog 58 #[.pointer (some ⟨sb, 0, none⟩), .int .i64 k] w fun e w' => e = .returned (.tuple #[idV (findV R k).1, .int .i64 (findV R k).2]) ∧ Aw w0 sb R w' ∧ Below w.heap.size w w' := by
  refine (find_at h.choose_spec.1 hl k).mono ?_
  rintro e w' ⟨rfl, h2⟩
  exact ⟨rfl, h.below h2, h2⟩
theorem Aw.place {w0 w : World} {sb : Nat} {R : Row Id} (h : Aw w0 sb R w) (hl : R.length ≤ 100000) (x : Id) : Calls Tryd.prog 67 #[.pointer (some ⟨sb, 0, none⟩), idV x] w fun e w' => e = .returned (.tuple #[.int .i64 (placeV R x).1, .int .i64 (placeV R x).2.1, .int .i64 (placeV R x).2.2]) ∧ Aw w0 sb R w' ∧ Below w.heap.size w w' := by
  refine (place_at h.choose_spec.1 hl x).mono ?_
  rintro e w' ⟨rfl, h2⟩
  exact ⟨rfl, h.below h2, h2⟩
theorem Aw.put {w0 w : World} {sb : Nat} {R : Row Id} (h : Aw w0 sb R w) (hl : R.length ≤ 10000) (at_ : Int) (x : Id) (q : Bool) : Calls Tryd.prog 69 #[.pointer (some ⟨sb, 0, none⟩), .int .i64 at_, idV x, .bool q] w fun e w' => e = .returned (.int .i64 (errP R at_ x)) ∧ Aw w0 sb (putV R at_ x q) w' ∧ ∃ F : Nat → Prop, (∀ k, F k → w0.heap.size ≤ k) ∧ Touch F w w' := by
  obtain ⟨F, h1, h2, h3⟩ := h
  refine (put_any h1 hl at_ x q).mono ?_
  rintro e w' ⟨rfl, F', h4, h5, h6⟩
  refine ⟨rfl, ⟨F', h4, fun k hk => (h6 k hk).elim (h2 k) (fun h => Nat.le_trans h3.size h), h3.trans (h5.below h3.size (fun x hx hF => absurd (h2 x hF) (by omega)))⟩, F, h2, h5⟩
end Go.Proofs.YtphapjbfaomblaaDoor
/- One is shown or hidden in a shelf: the plain part. -/
namespace Go.Proofs.YtphapjbfaomblaaDoor
open Go Go.RowKit Go.Maps
theorem inF_same {pre post : List Bl} {b b' : Bl} (had : b'.ad = b.ad) (hn : namesR b'.R = namesR b.R) : inF (pre ++ b' :: post) = inF (pre ++ b :: post) := by
  funext y
  unfold inF
  rw [List.find?_append, List.find?_append, List.find?_cons, List.find?_cons, hn]
  cases List.find? (fun b => decide (y ∈ namesR b.R)) pre with
  | some c => rfl
  | none =>
    by_cases hy : y ∈ namesR b.R
    · simp [hy, had]
    · simp [hy]
/-- the row, one changed in its block -/
theorem tidy_show {pre post : List Bl} {b b' : Bl} {D : DataW (Option Nat)} {t : Int} {R0 : Row Id} {x : Id} {q : Bool} {t' : Int} (hT : Tidy (pre ++ b :: post) D t R0) (hp : x ∉ namesR (rowOf pre)) (hb : x ∈ namesR b.R)
    (had : b'.ad = b.ad) (hR : b'.R = showR b.R x q) (hn : b'.n = cntR (showR b.R x q)) (ht : t' = cntR (showR R0 x q)) : Tidy (pre ++ b' :: post) D t' (showR R0 x q) := by
  obtain ⟨h1, h2, h3, h4, h5, h6⟩ := hT
  have h0 : R0 = rowOf pre ++ (b.R ++ rowOf post) := by rw [← h1, rowOf_app, rowOf_cons]
  have hx : x ∈ namesR R0 := by rw [h0, names_app, names_app]; exact List.mem_append_right _ (List.mem_append_left _ hb)
  refine ⟨?_, by rw [showR_names q hx]; exact h2, fun c hc => ?_, ht, by rw [showR_len]; exact h5, ?_⟩
  · rw [rowOf_app, rowOf_cons, hR, h0, show_mid q hp hb]
  · rcases List.mem_append.1 hc with hc | hc
    · exact h3 c (List.mem_append_left _ hc)
    · rcases List.mem_cons.1 hc with rfl | hc
      · rw [hn, hR]
      · exact h3 c (List.mem_append_right _ (List.mem_cons_of_mem _ hc))
  · rw [inF_same had (by rw [hR, showR_names q hb])]
    exact h6
end Go.Proofs.YtphapjbfaomblaaDoor
/- Rows of Bools: one of them set. Plain. -/
namespace Go.Proofs.YtphapjbfaomblaaDoor
open Go Go.RowKit Go.Maps
theorem boC_map (S : List Bool) : S.flatMap boC = S.map Value.bool := by
  induction S with
  | nil => rfl
  | cons a S ih => rw [List.flatMap_cons, ih]; rfl
theorem map_split (S : List Bool) {k : Nat} (hk : k < S.length) : S.map Value.bool = (S.take k).map Value.bool ++ [.bool S[k]] ++ (S.drop (k + 1)).map Value.bool := by
  have h := List.take_append_drop k S
  rw [List.drop_eq_getElem_cons hk] at h
  have h2 := congrArg (List.map Value.bool) h
  rw [List.map_append, List.map_cons] at h2
  rw [List.append_assoc]
  exact h2.symm
theorem map_set (S : List Bool) {k : Nat} (hk : k < S.length) (q : Bool) : (S.set k q).map Value.bool = (S.take k).map Value.bool ++ [.bool q] ++ (S.drop (k + 1)).map Value.bool := by
  rw [List.set_eq_take_append_cons_drop, if_pos hk]
  simp
end Go.Proofs.YtphapjbfaomblaaDoor
/- One is shown or hidden in a shelf: the store. -/
namespace Go.Proofs.YtphapjbfaomblaaDoor
open Go Go.RowKit Go.Maps
theorem ShIs.set {w : World} {sb mp : Nat} {vb : Value} {pre post : List Bl} {ad g cap : Nat} {vi : Value} {n : Int} {R : Row Id} {D : DataW (Option Nat)} {t : Int}
    (h : ShIs w sb mp vb (pre ++ ⟨ad, vi, .slice (some ⟨g, 0, none⟩) R.length cap, n, R⟩ :: post) D t) {x : Id} (hx : x ∈ namesR R) (q : Bool) :
    ShIs (w.setCell ⟨g, ixR R x, none⟩ (.bool q)) sb mp vb (pre ++ ⟨ad, vi, .slice (some ⟨g, 0, none⟩) R.length cap, n, showR R x q⟩ :: post) D t := by
  have hb := h.bl _ (List.mem_append_right pre (List.mem_cons_self ..))
  have hk := ixR_lt.2 hx
  have hkS : ixR R x < (seenR R).length := by rw [seenR_len]; exact hk
  have hown : (Value.slice (some ⟨g, 0, none⟩) R.length cap).ownBlock = some g := rfl
  have hsn := hb.sn
  have hids := hb.ids
  have hcell := hb.cell
  dsimp only at hsn hids hcell
  have ht : Touch (fun y => y = g) w (w.setCell ⟨g, ixR R x, none⟩ (.bool q)) := (Touch.refl (fun y => y = g) w).setCell (fun _ => rfl) _
  refine h.change (ht.mono (fun y _ hy => .inr (.inr (by rw [hy]; exact hown)))) ⟨?_, ?_, ?_⟩ rfl (.inl rfl) (.inl rfl)
  · exact block_touch hcell ht (fun e => ne_kind (kind_cell hcell) (kind_row hsn hown) (by decide) e)
  · dsimp only
    rw [showR_len, showR_names q hx]
    exact own_touch hids ht (fun y hy e => ne_kind (kind_row hids hy) (kind_row hsn hown) (by decide) e)
  · dsimp only
    rw [boC_map, map_split _ hkS] at hsn
    have := own_sets hsn [Value.bool q] rfl (by omega)
    rw [showR_len, showR_seen, boC_map, map_set _ hkS]
    have hl : ((List.take (ixR R x) (seenR R)).map Value.bool).length = ixR R x := by rw [List.length_map, List.length_take]; omega
    rw [hl] at this
    exact this
end Go.Proofs.YtphapjbfaomblaaDoor
/- The end of the shelf's Show. -/
namespace Go.Proofs.YtphapjbfaomblaaDoor
open Go Go.RowKit Go.Maps
theorem show_fin {w w6 : World} {F : Nat → Prop} {sb mp : Nat} {vb : Value} {pre post : List Bl} {ad g cap : Nat} {vi : Value} {n n' : Int} {R R0 : Row Id} {D : DataW (Option Nat)} {t t' : Int} {x : Id} {q : Bool}
    (hT : Tidy (pre ++ ⟨ad, vi, .slice (some ⟨g, 0, none⟩) R.length cap, n, R⟩ :: post) D t R0) (hF : ∀ k, foot sb mp vb (pre ++ ⟨ad, vi, .slice (some ⟨g, 0, none⟩) R.length cap, n, R⟩ :: post) k → F k) (hFl : ∀ k, F k → k < w.heap.size)
    (hBn : (pre ++ (⟨ad, vi, .slice (some ⟨g, 0, none⟩) R.length cap, n, R⟩ : Bl) :: post).length ≤ 2 * R0.length) (hp : x ∉ namesR (rowOf pre)) (hx : x ∈ namesR R)
    (h6 : ShIs w6 sb mp vb (pre ++ ⟨ad, vi, .slice (some ⟨g, 0, none⟩) R.length cap, n', R⟩ :: post) D t') (t6 : Touch F w w6) (hn' : n' = cntR (showR R x q)) (ht' : t' = cntR (showR R0 x q)) :
    ShelfAt (w6.setCell ⟨g, ixR R x, none⟩ (.bool q)) F sb (showR R0 x q) ∧ Touch F w (w6.setCell ⟨g, ixR R x, none⟩ (.bool q)) := by
  have hFg : F g := hF g (.inr (.inr (.inr ⟨_, List.mem_append_right pre (List.mem_cons_self ..), .inr (.inr rfl)⟩)))
  have tt : Touch F w (w6.setCell ⟨g, ixR R x, none⟩ (.bool q)) := t6.setCell (p := ⟨g, ixR R x, none⟩) (fun _ => hFg) _
  refine ⟨⟨mp, vb, pre ++ ⟨ad, vi, .slice (some ⟨g, 0, none⟩) R.length cap, n', showR R x q⟩ :: post, D, t', h6.set hx q, tidy_show hT hp hx rfl rfl hn' ht', fun k hk => hF k ?_, fun k hk => Nat.lt_of_lt_of_le (hFl k hk) tt.size, ?_⟩, tt⟩
  · rcases hk with h | h | h | ⟨c, hc, h⟩
    · exact .inl h
    · exact .inr (.inl h)
    · exact .inr (.inr (.inl h))
    · refine .inr (.inr (.inr ?_))
      rcases List.mem_append.1 hc with hc | hc
      · exact ⟨c, List.mem_append_left _ hc, h⟩
      · rcases List.mem_cons.1 hc with rfl | hc
        · exact ⟨_, List.mem_append_right pre (List.mem_cons_self ..), h⟩
        · exact ⟨c, List.mem_append_right _ (List.mem_cons_of_mem _ hc), h⟩
  · rw [showR_len]
    simpa using hBn
end Go.Proofs.YtphapjbfaomblaaDoor
/- The shelf's Show. -/
namespace Go.Proofs.YtphapjbfaomblaaDoor
open Go Go.RowKit Go.Maps
def ShowPost (F : Nat → Prop) (sb : Nat) (R : Row Id) (x : Id) (q : Bool) (w : World) (e : Ending) (w' : World) : Prop :=
  e = .returned (.int .i64 (if x ∈ namesR R then 0 else 111)) ∧ ShelfAt w' F sb (if x ∈ namesR R then showR R x q else R) ∧ Touch F w w'
theorem blk_facts {w : World} {sb mp : Nat} {vb : Value} {pre post : List Bl} {ad g cap : Nat} {vi : Value} {n : Int} {R : Row Id} {D : DataW (Option Nat)} {t : Int}
    (h : ShIs w sb mp vb (pre ++ ⟨ad, vi, .slice (some ⟨g, 0, none⟩) R.length cap, n, R⟩ :: post) D t) {x : Id} (hx : x ∈ namesR R) {o : Bool} (ho : (R[ixR R x]'(ixR_lt.2 hx)).2 = o) :
    w.cell? ⟨ad, 0, none⟩ = some vi ∧ w.cell? ⟨ad, 1, none⟩ = some (.slice (some ⟨g, 0, none⟩) R.length cap) ∧ w.cell? ⟨g, ixR R x, none⟩ = some (.bool o) ∧ ∀ i, w.frozen? ⟨g, i, none⟩ = false := by
  have hb := h.bl _ (List.mem_append_right pre (List.mem_cons_self ..))
  have hk := ixR_lt.2 hx
  have hkS : ixR R x < (seenR R).length := by rw [seenR_len]; exact hk
  have hsn := hb.sn
  have hcell := hb.cell
  dsimp only at hsn hcell
  obtain ⟨g', cap', C, e, _, _, _, _, hg, _⟩ := own_parts hsn (by omega)
  injection e with e1 _ e3
  injection e1 with e1
  injection e1 with e1
  subst e1
  refine ⟨cell_of_row _ _ 0 _ _ _ hcell, cell_of_row _ _ 1 _ _ _ hcell, ?_, fun i => by simp [World.frozen?, hg]⟩
  have := cell_of_row _ _ (ixR R x) _ _ _ hg
  rw [this, boC_map]
  rw [List.getElem?_toArray, List.getElem?_append_left (by simpa using hkS), List.getElem?_map, List.getElem?_eq_getElem hkS]
  rw [← ho]
  simp [seenR]
set_option maxRecDepth 100000 in
set_option maxHeartbeats 4000000 in
theorem show_any {w : World} {F : Nat → Prop} {sb : Nat} {R0 : Row Id} (hA : ShelfAt w F sb R0) (hlen : R0.length ≤ 100000) (x : Id) (q : Bool) :
    Calls Tryd.prog 72 #[.pointer (some ⟨sb, 0, none⟩), idV x, .bool q] w (ShowPost F sb R0 x q w) := by
  have HA := Lib.hid hA
  obtain ⟨mp, vb, Bs, D, t, h, hT, hfF, hFl, hBn⟩ := hA
  obtain ⟨W0, hW0⟩ : ∃ W, w.alloc (.cells #[.int .i64 x.s.T, .int .i64 x.s.R, .int .i64 x.I] 26) = W := ⟨_, rfl⟩
  have hb0 : Below w.heap.size w W0 := by rw [← hW0]; exact (Below.refl _ w).alloc (Nat.le_refl _) _
  have hx0 : W0.heap[w.heap.size]? = some (.cells #[.int .i64 x.s.T, .int .i64 x.s.R, .int .i64 x.I] 26 (0, 0)) := by rw [← hW0]; exact heap_alloc_new w _
  have h0 := h.below hb0
  obtain ⟨bx, hbx⟩ : ∃ z, w.heap.size = z := ⟨_, rfl⟩
  rw [hbx] at hx0
  have c1 : W0.cell? ⟨sb, 1, none⟩ = some (.map (some mp)) := cell_of_row _ _ 1 _ _ _ h0.cell
  have g0 : W0.cell? ⟨bx, 0, none⟩ = some (.int .i64 x.s.T) := cell_of_row _ _ 0 _ _ _ hx0
  have g1 : W0.cell? ⟨bx, 1, none⟩ = some (.int .i64 x.s.R) := cell_of_row _ _ 1 _ _ _ hx0
  have g2 : W0.cell? ⟨bx, 2, none⟩ = some (.int .i64 x.I) := cell_of_row _ _ 2 _ _ _ hx0
  have hlk := (h0.below (Below.refl _ W0).drew).look hT.fm x
  have hlk' := h0.look hT.fm x
  unfold idV at hlk hlk'
  have HB0 := Lib.hid hb0
  have HW0 := Lib.hid hW0
  have HBX := Lib.hid hbx
  have HX0 := Lib.hid hx0
  have HS0 := Lib.hid h0
  have HT := Lib.hid hT
  have HFF := Lib.hid hfF
  have HFL := Lib.hid hFl
  clear h hfF hFl hW0 hb0 hx0 h0 hbx
  by_cases hx : x ∈ namesR R0
  · obtain ⟨pre, b, post, hBs, hxb, hxp, hin⟩ := inF_some (hT.row.symm ▸ hx)
    rw [hin] at hlk hlk'
    dsimp only [Option.getD_some, ptV] at hlk hlk'
    subst hBs
    have hbl := fun W (hW : Below W0.heap.size W0 W) => HS0.out.below hW
    have hcnt := hT.cnt b (by simp)
    obtain ⟨ad, vi, vs, n, R⟩ := b
    dsimp only at hxb hcnt
    have hkx := ixR_lt.2 hxb
    have hb0 := HS0.out.bl _ (List.mem_append_right pre (List.mem_cons_self ..))
    obtain ⟨Ai, ci, hvi, _, hcm⟩ := (Rd.of_own hb0.ids).form
    dsimp only at hvi
    subst hvi
    obtain ⟨g, cap, C, hvs, _, _, hnc, hcm2, _, _⟩ := own_parts hb0.sn (by dsimp only; omega)
    dsimp only at hvs hnc
    subst hvs
    unfold maxLen at hcm hcm2
    obtain ⟨o, ho⟩ : ∃ o, (R[ixR R x]'hkx).2 = o := ⟨_, rfl⟩
    have HFA := Lib.hid (fun W (hW : Below W0.heap.size W0 W) => blk_facts (hbl W hW) hxb ho)
    have hbxl : bx < W0.heap.size := (Array.getElem?_eq_some_iff.1 HX0.out).1
    have HXB := Lib.hid hxb
    have HXP := Lib.hid hxp
    have HX := Lib.hid hx
    have HO := Lib.hid ho
    have HN := Lib.hid hcnt
    have HI := Lib.hid (fun W (hW : Below W0.heap.size W0 W) => (show Calls Tryd.prog 77 #[.slice Ai R.length ci, idV x] W (fun e w' => (∃ r, e = .returned (.int .i64 r) ∧ AtIsS (namesR R) x r) ∧ Grows W w') from
      index_any (namesR R) x Ai R.length ci W0.heap.size W ((Rd.of_own hb0.ids).below' hW (Nat.le_refl _)) hW.size))
    unfold idV at HI
    have HXo := Lib.hid (fun W (hW : Below W0.heap.size W0 W) => (show (W.cell? ⟨bx, 0, none⟩ = some (.int .i64 x.s.T) ∧ W.cell? ⟨bx, 1, none⟩ = some (.int .i64 x.s.R) ∧ W.cell? ⟨bx, 2, none⟩ = some (.int .i64 x.I)) ∧ W.cell? ⟨ad, 0, none⟩ = some (.slice Ai R.length ci) from
      ⟨⟨(hW.cell (p := ⟨bx, 0, none⟩) hbxl).trans g0, (hW.cell (p := ⟨bx, 1, none⟩) hbxl).trans g1, (hW.cell (p := ⟨bx, 2, none⟩) hbxl).trans g2⟩, (HFA.out W hW).1⟩))
    have k1 : Below W0.heap.size W0 W0.drew := (Below.refl _ W0).drew
    have k2 : Below W0.heap.size W0 W0.drew.drew := k1.drew
    clear hbl hcnt hxb hxp hin hb0 ho hT hx
    unfold idV
    go_enter Tryd.func72, Tryd.ntmps72
    go_wp2
    rw [HW0.out, HBX.out]
    go_region
    go_wp2
    go_region_held3 (fun W => (W.cell? ⟨bx, 0, none⟩ = some (.int .i64 x.s.T) ∧ W.cell? ⟨bx, 1, none⟩ = some (.int .i64 x.s.R) ∧ W.cell? ⟨bx, 2, none⟩ = some (.int .i64 x.I)) ∧ W.cell? ⟨ad, 0, none⟩ = some (.slice Ai R.length ci))
      (first | exact HXo.out _ (by assumption) | go_keep)
      (first | (go_at_call 77; refine (HI.out _ k2).mono ?_; rintro e w5 ⟨⟨r, rfl, hr⟩, hg5⟩; obtain rfl := at_ix hr HXB.out; have k3 := k2.trans (hg5.below.mono k2.size); clear hg5 hr))
    have H5 := Lib.hid (HS0.out.below k3)
    have K3 := Lib.hid k3
    have hlt := ixR_lt.2 HXB.out
    have e1 : (0 : Int) ≤ (ixR R x : Int) := by omega
    have e2 : (ixR R x : Int) < (R.length : Int) := by omega
    have hall := HT.out.all
    have hc0 := cntR_le R0
    have hc1 := cntR_le R
    have hrl : R.length ≤ R0.length := by
      have := congrArg List.length HT.out.row
      rw [rowOf_app, rowOf_cons] at this
      simp only [List.length_append] at this
      omega
    have hset : cntR (showR R x q) + o.toNat = cntR R + q.toNat := by
      have := cntR_set (R := R) hlt x q
      rw [HO.out] at this
      exact this
    have HAD := Lib.hid (fun k (h1 : -1 ≤ k ∧ k ≤ 1) => add_any (k := k) H5.out h1 (by omega) (by have := HN.out; dsimp only at this ⊢; omega))
    clear k1 k2 k3 hlk hlk' c1 g0 g1 g2 hbxl hnc hcm hcm2
    have hset2 : cntR (showR R0 x q) + o.toNat = cntR R0 + q.toNat := by
      have h0 : R0 = rowOf pre ++ (R ++ rowOf post) := by rw [← HT.out.row, rowOf_app, rowOf_cons]
      rw [h0, show_mid q HXP.out HXB.out, cntR_app, cntR_app, cntR_app, cntR_app]
      omega
    have HS1 := Lib.hid hset
    have HS2 := Lib.hid hset2
    have HAL := Lib.hid hall
    have T5 := Lib.hid (show Touch F w w5 from Below.touch (HB0.out.trans (K3.out.mono HB0.out.size)) F)
    have HFIN := Lib.hid (fun w6 n' t' h6 t6 hn' ht' => show_fin (w := w) (w6 := w6) (n' := n') (t' := t') (q := q) HT.out HFF.out HFL.out hBn HXP.out HXB.out h6 t6 hn' ht')
    clear hset hset2 hall hc0 hc1 hrl
    cases q <;> cases o
    · obtain ⟨f0, f1, f2, f3⟩ := HFA.out w5 K3.out
      go_wp2
      go_ret
      have hf := HFIN.out w5 _ _ H5.out T5.out (by have := HS1.out; have := HN.out; simp at *; omega) (by have := HS2.out; have := HAL.out; simp at *; omega)
      exact ⟨by rw [if_pos HX.out]; rfl, by rw [if_pos HX.out]; exact hf.1, hf.2⟩
    · obtain ⟨f0, f1, f2, f3⟩ := HFA.out w5 K3.out
      go_wp2_with (go_at_call 84; refine (HAD.out (-1) (by omega)).mono ?_; rintro e w6 ⟨⟨v, rfl⟩, h6, t6⟩; obtain ⟨z0, z1, z2, z3⟩ := blk_facts h6 HXB.out HO.out; have H6 := Lib.hid h6; have T6 := Lib.hid t6; clear h6 t6)
      go_ret
      have hf := HFIN.out w6 _ _ H6.out (T5.out.trans T6.out (fun y _ hy => hy.elim (fun e => e ▸ HFF.out ad (.inr (.inr (.inr ⟨_, List.mem_append_right pre (List.mem_cons_self ..), .inl rfl⟩)))) (fun e => e ▸ HFF.out sb (.inl rfl)))) (by have := HS1.out; have := HN.out; simp at *; omega) (by have := HS2.out; have := HAL.out; simp at *; omega)
      exact ⟨by rw [if_pos HX.out]; rfl, by rw [if_pos HX.out]; exact hf.1, hf.2⟩
    · obtain ⟨f0, f1, f2, f3⟩ := HFA.out w5 K3.out
      go_wp2_with (go_at_call 84; refine (HAD.out (1) (by omega)).mono ?_; rintro e w6 ⟨⟨v, rfl⟩, h6, t6⟩; obtain ⟨z0, z1, z2, z3⟩ := blk_facts h6 HXB.out HO.out; have H6 := Lib.hid h6; have T6 := Lib.hid t6; clear h6 t6)
      go_ret
      have hf := HFIN.out w6 _ _ H6.out (T5.out.trans T6.out (fun y _ hy => hy.elim (fun e => e ▸ HFF.out ad (.inr (.inr (.inr ⟨_, List.mem_append_right pre (List.mem_cons_self ..), .inl rfl⟩)))) (fun e => e ▸ HFF.out sb (.inl rfl)))) (by have := HS1.out; have := HN.out; simp at *; omega) (by have := HS2.out; have := HAL.out; simp at *; omega)
      exact ⟨by rw [if_pos HX.out]; rfl, by rw [if_pos HX.out]; exact hf.1, hf.2⟩
    · obtain ⟨f0, f1, f2, f3⟩ := HFA.out w5 K3.out
      go_wp2
      go_ret
      have hf := HFIN.out w5 _ _ H5.out T5.out (by have := HS1.out; have := HN.out; simp at *; omega) (by have := HS2.out; have := HAL.out; simp at *; omega)
      exact ⟨by rw [if_pos HX.out]; rfl, by rw [if_pos HX.out]; exact hf.1, hf.2⟩
  · have hin := inF_none (Bs := Bs) (x := x) (by rw [hT.row]; exact hx)
    rw [hin] at hlk hlk'
    dsimp only [Option.getD_none, ptV] at hlk hlk'
    have HX := Lib.hid hx
    clear hin hT hx
    unfold idV
    go_enter Tryd.func72, Tryd.ntmps72
    go_wp2
    rw [HW0.out, HBX.out]
    go_region
    go_wp2
    go_ret
    unfold ShowPost
    rw [if_neg HX.out, if_neg HX.out]
    exact ⟨rfl, HA.out.below HB0.out.drew, Below.touch HB0.out.drew F⟩
end Go.Proofs.YtphapjbfaomblaaDoor
/- A new one comes into the order: where the walk stops is its place. Plain. -/
namespace Go.Proofs.YtphapjbfaomblaaDoor
section
variable {α : Type} {lt : α → α → Prop}
theorem plt_cases : ∀ {p s : List α}, PLt lt p s → p <+: s ∨ SLt lt p s
  | [], [], h => h.elim
  | [], _ :: _, _ => .inl (List.nil_prefix)
  | _ :: _, [], h => h.elim
  | a :: p, b :: s, h => by
    rcases h with h | ⟨rfl, h⟩
    · exact .inr (.inl h)
    · rcases plt_cases h with h | h
      · exact .inl (by obtain ⟨t, rfl⟩ := h; exact ⟨t, rfl⟩)
      · exact .inr (.inr ⟨rfl, h⟩)
theorem slt_split : ∀ {p s : List α}, SLt lt p s → ∃ a b p' c s', p = a ++ b :: p' ∧ s = a ++ c :: s' ∧ lt c b
  | [], _, h => h.elim
  | _ :: _, [], h => h.elim
  | a :: p, b :: s, h => by
    rcases h with h | ⟨rfl, h⟩
    · exact ⟨[], a, p, b, s, rfl, rfl, h⟩
    · obtain ⟨u, v, p', c, s', rfl, rfl, hc⟩ := slt_split h
      exact ⟨a :: u, v, p', c, s', rfl, rfl, hc⟩
theorem slt_at {b c : α} (h : lt c b) : ∀ (a p' s' : List α), SLt lt (a ++ b :: p') (a ++ c :: s')
  | [], _, _ => .inl h
  | _ :: a, p', s' => .inr ⟨rfl, slt_at h a p' s'⟩
theorem plt_kids (O : STO lt) : ∀ (p : List α) {c x : α}, PLt lt (p ++ [c]) (p ++ [x]) → lt x c
  | [], _, _, h => h.elim id (fun h => h.2.elim)
  | _ :: p, _, _, h => h.elim (fun h => absurd h (O.irrefl _)) (fun h => plt_kids O p h.2)
end
section
variable {α ε : Type} {lt : α → α → Prop} {idf af : ε → α} {z : α} {E : ε → Prop}
/-- where the walk is: all that is ahead is ahead of the new one, and what of it is behind its parent is deeper -/
structure PutAt (lt : α → α → Prop) (O : List (List α × ε)) (p : List α) (x : α) (k : Nat) : Prop where
  le : k ≤ O.length
  done : ∀ i (h : i < O.length), i < k → PLt lt O[i].1 (p ++ [x])
  deep : ∀ i (h : i < O.length), i < k → PLt lt p O[i].1 → p.length < O[i].1.length
  rest : ∀ i (h : i < O.length), k ≤ i → PLt lt p O[i].1
def PutEnd (lt : α → α → Prop) (O : List (List α × ε)) (p : List α) (x : α) (k : Nat) : Prop :=
  k ≤ O.length ∧ (∀ i (h : i < O.length), i < k → PLt lt O[i].1 (p ++ [x])) ∧ ∀ i (h : i < O.length), k ≤ i → PLt lt (p ++ [x]) O[i].1
/-- a node that is behind the parent and deeper is under it -/
theorem put_under (T : STO lt) {O : List (List α × ε)} (hO : OrderOf lt idf af z E O) {p : List α} {x : α} {k : Nat} (h : PutAt lt O p x k) (hk : k < O.length) (hd : p.length < O[k].1.length) : ∃ c r, O[k].1 = p ++ c :: r := by
  rcases plt_cases (h.rest k hk (Nat.le_refl _)) with ⟨t, ht⟩ | hs
  · cases t with
    | nil => rw [List.append_nil] at ht; rw [ht] at hd; omega
    | cons c r => exact ⟨c, r, ht.symm⟩
  · exfalso
    obtain ⟨a, b, p', c, s', hp, hn, hc⟩ := slt_split hs
    have hnode := (hO.2 _).1 (List.getElem_mem hk)
    obtain ⟨e, y, h1, h2, h3, h4⟩ := path_cut (node_path hnode) hn
    have hm : (a ++ [c], e) ∈ O := (hO.2 _).2 ⟨h1, a, h3 ▸ h4, by rw [h2]⟩
    obtain ⟨i, hi, hie⟩ := List.getElem_of_mem hm
    have hi1 : O[i].1 = a ++ [c] := by rw [hie]
    have hpl : a.length + 1 ≤ p.length := by rw [hp]; simp
    cases s' with
    | nil => rw [hn] at hd; simp at hd; omega
    | cons c' s' =>
      have hlt : PLt lt O[i].1 O[k].1 := by
        rw [hi1, hn, show a ++ c :: c' :: s' = (a ++ [c]) ++ c' :: s' by simp]
        exact plt_more _ _ _
      have hik := order_idx T hO.1 hi hk hlt
      have := h.deep i hi hik (by rw [hi1, hp]; exact slt_plt (slt_at hc a p' []))
      rw [hi1] at this
      simp at this
      omega
theorem put_deeper (T : STO lt) {O : List (List α × ε)} (hO : OrderOf lt idf af z E O) {p : List α} {x : α} {k : Nat} (h : PutAt lt O p x k) (hk : k < O.length) (hd : p.length + 1 < O[k].1.length) : PutAt lt O p x (k + 1) := by
  obtain ⟨c, r, hn⟩ := put_under T hO h hk (by omega)
  have hnode := (hO.2 _).1 (List.getElem_mem hk)
  obtain ⟨e, y, h1, h2, h3, h4⟩ := path_cut (node_path hnode) hn
  have hm : (p ++ [c], e) ∈ O := (hO.2 _).2 ⟨h1, p, h3 ▸ h4, by rw [h2]⟩
  obtain ⟨i, hi, hie⟩ := List.getElem_of_mem hm
  have hi1 : O[i].1 = p ++ [c] := by rw [hie]
  have hik : i < k := by
    refine order_idx T hO.1 hi hk ?_
    cases r with
    | nil => rw [hn] at hd; simp at hd
    | cons c' r =>
      rw [hi1, hn, show p ++ c :: c' :: r = (p ++ [c]) ++ c' :: r by simp]
      exact plt_more _ _ _
  have hxc : lt x c := plt_kids T p (hi1 ▸ h.done i hi hik)
  refine ⟨hk, fun j hj hjk => ?_, fun j hj hjk hp => ?_, fun j hj hjk => h.rest j hj (by omega)⟩
  · rcases Nat.lt_or_ge j k with hl | hl
    · exact h.done j hj hl
    · obtain rfl : j = k := by omega
      rw [hn]
      exact slt_plt (slt_at hxc p r [])
  · rcases Nat.lt_or_ge j k with hl | hl
    · exact h.deep j hj hl hp
    · obtain rfl : j = k := by omega
      omega
theorem put_stop (T : STO lt) {O : List (List α × ε)} (hO : OrderOf lt idf af z E O) {p : List α} {x : α} {k : Nat} (h : PutAt lt O p x k) (hk : k < O.length) (hq : PLt lt (p ++ [x]) O[k].1) : PutEnd lt O p x k := by
  refine ⟨h.le, h.done, fun i hi hki => ?_⟩
  rcases Nat.lt_or_ge k i with hl | hl
  · exact plt_trans T _ _ _ hq (List.pairwise_iff_getElem.1 hO.1 k i hk hi hl)
  · obtain rfl : i = k := by omega
    exact hq
theorem put_higher (T : STO lt) {O : List (List α × ε)} (hO : OrderOf lt idf af z E O) {p : List α} {x : α} {k : Nat} (h : PutAt lt O p x k) (hk : k < O.length) (hd : O[k].1.length < p.length + 1) : PutEnd lt O p x k := by
  refine put_stop T hO h hk ?_
  rcases plt_cases (h.rest k hk (Nat.le_refl _)) with ⟨t, ht⟩ | hs
  · exfalso
    have hr := h.rest k hk (Nat.le_refl _)
    have ht' := congrArg List.length ht
    rw [List.length_append] at ht'
    obtain rfl : t = [] := List.eq_nil_of_length_eq_zero (by omega)
    rw [List.append_nil] at ht
    rw [← ht] at hr
    exact plt_irrefl T _ hr
  · have := slt_more [x] [] hs
    rw [List.append_nil] at this
    exact slt_plt this
theorem put_beside (T : STO lt) {O : List (List α × ε)} (hO : OrderOf lt idf af z E O) {p : List α} {x : α} {k : Nat} (h : PutAt lt O p x k) (hk : k < O.length) (hd : O[k].1.length = p.length + 1) :
    (lt (idf O[k].2) x → PutEnd lt O p x k) ∧ (lt x (idf O[k].2) → PutAt lt O p x (k + 1)) := by
  obtain ⟨c, r, hn⟩ := put_under T hO h hk (by omega)
  obtain rfl : r = [] := by
    rw [hn] at hd
    simp at hd
    exact hd
  obtain ⟨_, q, _, h3⟩ := (hO.2 _).1 (List.getElem_mem hk)
  have hc : c = idf O[k].2 := by
    rw [hn] at h3
    have := (List.append_inj' h3 rfl).2
    simpa using this
  rw [← hc]
  refine ⟨fun hl => put_stop T hO h hk (by rw [hn]; exact slt_plt (slt_kids hl p)), fun hl => ⟨hk, fun j hj hjk => ?_, fun j hj hjk hp => ?_, fun j hj hjk => h.rest j hj (by omega)⟩⟩
  · rcases Nat.lt_or_ge j k with hl' | hl'
    · exact h.done j hj hl'
    · obtain rfl : j = k := by omega
      rw [hn]
      exact slt_plt (slt_kids hl p)
  · rcases Nat.lt_or_ge j k with hl' | hl'
    · exact h.deep j hj hl' hp
    · obtain rfl : j = k := by omega
      omega
theorem put_last {O : List (List α × ε)} {p : List α} {x : α} {k : Nat} (h : PutAt lt O p x k) (hk : k = O.length) : PutEnd lt O p x k :=
  ⟨h.le, h.done, fun i hi hki => by omega⟩
/-- where the walk begins -/
theorem put_first {O : List (List α × ε)} (hO : OrderOf lt idf af z E O) (x : α) : PutAt lt O [] x 0 :=
  ⟨Nat.zero_le _, fun i _ h => by omega, fun i _ h => by omega, fun i hi _ => by
    obtain ⟨_, q, _, h3⟩ := (hO.2 _).1 (List.getElem_mem hi)
    rw [h3]
    cases q <;> trivial⟩
theorem put_behind (T : STO lt) {O : List (List α × ε)} (hO : OrderOf lt idf af z E O) {j : Nat} (hj : j < O.length) (x : α) : PutAt lt O O[j].1 x (j + 1) := by
  have hle : ∀ i (hi : i < O.length), i < j + 1 → O[i].1 = O[j].1 ∨ PLt lt O[i].1 O[j].1 := fun i hi hij => by
    rcases Nat.lt_or_ge i j with hl | hl
    · exact .inr (List.pairwise_iff_getElem.1 hO.1 i j hi hj hl)
    · obtain rfl : i = j := by omega
      exact .inl rfl
  refine ⟨hj, fun i hi hij => ?_, fun i hi hij hp => ?_, fun i hi hij => List.pairwise_iff_getElem.1 hO.1 j i hj hi (by omega)⟩
  · rcases hle i hi hij with h | h
    · rw [h]; exact plt_more _ _ _
    · exact plt_right _ h
  · exfalso
    rcases hle i hi hij with h | h
    · rw [h] at hp; exact plt_irrefl T _ hp
    · exact plt_irrefl T _ (plt_trans T _ _ _ hp h)
/-- the new one's path, and that all others keep theirs -/
structure NewOne (idf af : ε → α) (z : α) (E : ε → Prop) (e0 : ε) : Prop where
  fresh : ∀ e, E e → idf e ≠ idf e0
  nz : idf e0 ≠ z
  behind : af e0 = z ∨ ∃ f, E f ∧ idf f = af e0
  closed : ∀ e, E e → af e = z ∨ ∃ f, E f ∧ idf f = af e
theorem new_path {e0 : ε} (h : NewOne idf af z E e0) {q : List α} {y : α} (hp : IsPath idf af z (fun e => E e ∨ e = e0) q y) : (y = z ∨ ∃ f, E f ∧ idf f = y) → IsPath idf af z E q y := by
  induction hp with
  | root => exact fun _ => .root
  | step p e x y h1 h2 h3 h4 ih =>
    intro hy
    rcases h2 with h2 | rfl
    · exact .step p e x y (ih (h3 ▸ h.closed e h2)) h2 h3 h4
    · exfalso
      rcases hy with hy | ⟨f, hf, hy⟩
      · exact h.nz (h4.trans hy)
      · exact h.fresh f hf (hy.trans h4.symm)
theorem put_order {O : List (List α × ε)} (hO : OrderOf lt idf af z E O) {e0 : ε} (h : NewOne idf af z E e0) {p : List α} (hp : IsPath idf af z E p (af e0)) (N : Names idf z E) {k : Nat} (hk : PutEnd lt O p (idf e0) k) :
    OrderOf lt idf af z (fun e => E e ∨ e = e0) (O.take k ++ (p ++ [idf e0], e0) :: O.drop k) := by
  obtain ⟨h1, h2, h3⟩ := hk
  refine ⟨?_, fun n => ?_⟩
  · have hp := List.pairwise_append.1 (show (O.take k ++ O.drop k).Pairwise (fun u v => PLt lt u.1 v.1) by rw [List.take_append_drop]; exact hO.1)
    refine List.pairwise_append.2 ⟨hp.1, List.pairwise_cons.2 ⟨fun v hv => ?_, hp.2.1⟩, fun u hu v hv => ?_⟩
    · obtain ⟨i, hi, rfl⟩ := List.getElem_of_mem hv
      rw [List.getElem_drop]
      exact h3 _ _ (Nat.le_add_right _ _)
    · rcases List.mem_cons.1 hv with rfl | hv
      · obtain ⟨i, hi, rfl⟩ := List.getElem_of_mem hu
        rw [List.length_take] at hi
        rw [List.getElem_take]
        exact h2 _ _ (by omega)
      · exact hp.2.2 u hu v hv
  · have hmem : n ∈ O.take k ++ (p ++ [idf e0], e0) :: O.drop k ↔ n ∈ O ∨ n = (p ++ [idf e0], e0) := by
      rw [List.mem_append, List.mem_cons]
      have : n ∈ O ↔ n ∈ O.take k ∨ n ∈ O.drop k := by rw [← List.mem_append, List.take_append_drop]
      rw [this]
      constructor
      · rintro (h | h | h)
        · exact .inl (.inl h)
        · exact .inr h
        · exact .inl (.inr h)
      · rintro ((h | h) | h)
        · exact .inl h
        · exact .inr (.inr h)
        · exact .inr (.inl h)
    rw [hmem]
    constructor
    · rintro (hn | rfl)
      · exact node_mono (fun e he => .inl he) ((hO.2 n).1 hn)
      · have hm : ∀ {q y}, IsPath idf af z E q y → IsPath idf af z (fun e => E e ∨ e = e0) q y := by
          intro q y hq
          induction hq with
          | root => exact .root
          | step p e x y _ h2 h3 h4 ih => exact .step p e x y ih (.inl h2) h3 h4
        exact ⟨.inr rfl, p, hm hp, rfl⟩
    · rintro ⟨he, q, hq, hn⟩
      rcases he with he | he
      · left
        exact (hO.2 n).2 ⟨he, q, new_path h hq (h.closed _ he), hn⟩
      · right
        have hq2 := new_path h hq (he ▸ h.behind)
        rw [he] at hq2
        have := path_unique N hq2 hp
        exact Prod.ext (by rw [hn, this, he]) he
end
end Go.Proofs.YtphapjbfaomblaaDoor
/- The sheet's map of stamps to ids: each element a row of its own; its map of counts. -/
namespace Go.Proofs.YtphapjbfaomblaaDoor
open Go Go.RowKit Go.Maps Go.ChangeMaps
def hds (hd : Stamp → Hd) (x : Stamp) : Option Hd := (hd x).map some
structure SRows (w : World) (base bm m : Nat) (D : DataW Hd) (hd : Stamp → Hd) (B : Stamp → List Id) : Prop where
  map : w.ownsMap Tryd.prog 24 (objElem hdV) bm m D
  fm : FMap stK (hds hd) D
  rows : ∀ x, w.ownsRow base 26 3 (hdV (hd x)) (B x).length ((B x).flatMap idC)
  apart : ∀ x y, x ≠ y → ∀ g, (hdV (hd x)).ownBlock = some g → (hdV (hd y)).ownBlock ≠ some g
section
variable {w w' : World} {base bm m : Nat} {D : DataW Hd} {hd : Stamp → Hd} {B : Stamp → List Id}
theorem SRows.cells (h : SRows w base bm m D hd B) {x : Stamp} {g : Nat} (hg : (hdV (hd x)).ownBlock = some g) : ∃ cur, w.heap[g]? = some (.cells cur 26 (0, 0)) := by
  rcases (h.rows x).2 with ⟨e, _⟩ | ⟨g', cap, cur, e, _, hh, _⟩
  · rw [e] at hg; cases hg
  · rw [e] at hg; cases hg; exact ⟨cur, hh⟩
theorem SRows.isMap (h : SRows w base bm m D hd B) : ∃ es clock, w.heap[bm]? = some (.map es clock) := by
  obtain ⟨es, clock, h1, _⟩ := h.map
  exact ⟨es, clock, h1⟩
theorem SRows.ne (h : SRows w base bm m D hd B) {x : Stamp} {g : Nat} (hg : (hdV (hd x)).ownBlock = some g) : g ≠ bm := by
  rintro rfl
  obtain ⟨cur, h1⟩ := h.cells hg
  obtain ⟨es, clock, h2⟩ := h.isMap
  rw [h1] at h2
  cases h2
theorem SRows.touch {F : Nat → Prop} (h : SRows w base bm m D hd B) (t : Touch F w w') (hb : ¬ F bm) (hr : ∀ x g, (hdV (hd x)).ownBlock = some g → ¬ F g) : SRows w' base bm m D hd B :=
  ⟨map_touch h.map t hb, h.fm, fun x => own_touch (h.rows x) t (hr x), h.apart⟩
theorem SRows.below (h : SRows w base bm m D hd B) (hb : Below w.heap.size w w') : SRows w' base bm m D hd B :=
  h.touch (Below.touch hb (fun _ => False)) (fun h => h) (fun _ _ _ h => h)
theorem zero31 (u : World) : (zeroValue 31).run Tryd.prog u = .ok (hdV none) u := Tryd.zeroValue31 u
theorem SRows.look (h : SRows w base bm m D hd B) (x : Stamp) : (Instr.lookup 89 (.map (some bm)) (stV x) false).run Tryd.prog w = .ok (hdV (hd x)) w := by
  obtain ⟨v, ps, h1, h2⟩ := h.map.lookup keyed24 Tryd.underlying89 (zero31 w) (objElem_mk hdV_inj none) (ok24.val x)
  obtain ⟨a, rfl, h3⟩ := objElem_inv h2
  have h4 : D.atKey (stK x) (.held none) = .held a := congrArg Prod.fst h3
  rw [h.fm x] at h4
  have ha : a = hd x := by
    unfold hds at h4
    cases e : hd x with
    | none => rw [e] at h4; cases h4; rfl
    | some y => rw [e] at h4; cases h4; rfl
  rw [h1, ha]
theorem SRows.entry (h : SRows w base bm m D hd B) (hm : m < maxLen) (x : Stamp) :
    ∃ st w1 o1, (Instr.mapEntry 89 (.map (some bm)) (stV x)).run Tryd.prog w = .ok (.tuple #[hdV (hd x), goInt st]) w1 ∧ w.grownBy w1 (some bm) ∧ w1.heap[bm]? = some o1 ∧ (∃ es c, o1 = .map es c) ∧
      ∀ (u : World) (a : Hd), u.heap[bm]? = some o1 → ∃ u2, (Instr.entryStore 89 (.map (some bm)) (goInt st) (hdV a)).run Tryd.prog u = .ok () u2 ∧ u2.ownsMap Tryd.prog 24 (objElem hdV) bm (m + 1) (D.put (stK x) (.held a)) ∧ u.grownBy u2 (some bm) := by
  have hup := fun a => h.map.update (Keyed.of_law law24) Tryd.underlying89 hm (ok24.val x) (objElem_mk hdV_inj a)
  obtain ⟨v0', st', w1', w2', hl, hme, _⟩ := own_entry h.map law24 Tryd.underlying89 (z := hdV none) (fun u => zero31 u) hm (ok24.val x) (objElem_mk hdV_inj none)
  obtain ⟨es, clock, hb, F, hs, hD⟩ := h.map
  obtain ⟨v0, st, es1, clock1, h1, _, h2⟩ := WideElems.entry_then_store law24 Tryd.underlying89 (z := hdV none) (fun u => zero31 u) hb F (ok24.val x)
  have hv : v0 = hdV (hd x) := by
    have e1 := hme.symm.trans h1
    simp only [Result.ok.injEq, Value.tuple.injEq] at e1
    have h9 : #[v0', goInt st'].toList = #[v0, goInt st].toList := congrArg Array.toList e1.1
    have h8 : v0' = v0 := (List.cons.inj h9).1
    have e2 := hl.symm.trans (SRows.look h x)
    simp only [Result.ok.injEq] at e2
    rw [← h8]
    exact e2.1
  subst hv
  refine ⟨st, _, _, h1, ⟨rfl, rfl, rfl, by simp [setBlock], fun i _ hi => heap_setBlock_other hb _ (fun e => hi (by rw [e]))⟩, heap_setBlock_same hb _, ⟨_, _, rfl⟩, fun u a hu => ?_⟩
  obtain ⟨es', clock', h3, h4⟩ := h2 u (hdV a) hu
  obtain ⟨w', hu', ho, _⟩ := hup a
  have e1 : w' = setBlock w bm (.map es' clock') := by
    rw [hu'] at h4
    cases h4
    rfl
  refine ⟨_, h3, ?_, ⟨rfl, rfl, rfl, by simp [setBlock], fun i _ hi => heap_setBlock_other hu _ (fun e => hi (by rw [e]))⟩⟩
  obtain ⟨es2, cl2, g1, g2⟩ := ho
  rw [e1, heap_setBlock_same hb _] at g1
  exact ⟨es2, cl2, (heap_setBlock_same hu _).trans g1, g2⟩
/-- one row more, or another one in its place -/
theorem SRows.put {u2 : World} (h : SRows w base bm m D hd B) {x : Stamp} {a : Hd} {l : List Id} (hmap : u2.ownsMap Tryd.prog 24 (objElem hdV) bm (m + 1) (D.put (stK x) (.held a))) (ha : a ≠ none)
    (hx : u2.ownsRow base 26 3 (hdV a) l.length (l.flatMap idC)) (ho : ∀ y, y ≠ x → u2.ownsRow base 26 3 (hdV (hd y)) (B y).length ((B y).flatMap idC)) (hap : ∀ y, y ≠ x → ∀ g, (hdV a).ownBlock = some g → (hdV (hd y)).ownBlock ≠ some g) :
    SRows u2 base bm (m + 1) (D.put (stK x) (.held a)) (fun y => if y = x then a else hd y) (fun y => if y = x then l else B y) where
  map := hmap
  fm := (h.fm.put ok24 h.map.isMap x a).congr (fun s => by
    unfold hds
    by_cases e : s = x
    · simp only [if_pos e]
      cases a with
      | none => exact absurd rfl ha
      | some y => rfl
    · simp only [if_neg e])
  rows := fun y => by
    by_cases e : y = x
    · simp only [if_pos e]; exact hx
    · simp only [if_neg e]; exact ho y e
  apart := fun y z hyz g => by
    by_cases e : y = x
    · by_cases e' : z = x
      · exact absurd (e.trans e'.symm) hyz
      · simp only [if_pos e, if_neg e']; exact hap z e' g
    · by_cases e' : z = x
      · simp only [if_neg e, if_pos e']
        intro h1 h2
        exact hap y e g h2 h1
      · simp only [if_neg e, if_neg e']; exact h.apart y z hyz g
/-- a row turned in place -/
theorem SRows.turn {u : World} (h : SRows w base bm m D hd B) {x : Stamp} {l : List Id} (hg : w.grownBy u (hdV (hd x)).ownBlock) (hx : u.ownsRow base 26 3 (hdV (hd x)) l.length (l.flatMap idC)) :
    SRows u base bm m D hd (fun y => if y = x then l else B y) where
  map := h.map.kept hg (by
    intro e
    exact h.ne e.symm rfl)
  fm := h.fm
  rows := fun y => by
    by_cases e : y = x
    · simp only [if_pos e]; rw [e]; exact hx
    · simp only [if_neg e]
      refine (h.rows y).kept hg ?_
      cases hv : (hdV (hd y)).ownBlock with
      | none => exact .inl rfl
      | some g => exact .inr (fun e' => h.apart y x e g hv e'.symm)
  apart := h.apart
end
end Go.Proofs.YtphapjbfaomblaaDoor
