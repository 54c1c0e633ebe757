/- The shelf's functions at a shelf in order; the law's awake. -/
import Derived.Test.YtphapjbfaomblaaSG
import Derived.Deep.RegionHeld3
namespace Go.Proofs.Ytphapjbfaomblaa
open Go Go.RowKit Go.Maps
theorem all_at {w : World} {F : Nat → Prop} {sb : Nat} {R : Row Id} (h : ShelfAt w F sb R) : Calls Try.prog 8 #[.pointer (some ⟨sb, 0, none⟩)] w fun e w' => e = .returned (.int .i64 R.length) ∧ w' = w := by
  obtain ⟨mp, vb, Bs, D, t, h1, h2, _, _, _⟩ := h
  have := all_any h1
  rw [h2.size] at this
  exact this
theorem count_at {w : World} {F : Nat → Prop} {sb : Nat} {R : Row Id} (h : ShelfAt w F sb R) : Calls Try.prog 12 #[.pointer (some ⟨sb, 0, none⟩)] w fun e w' => e = .returned (.int .i64 (cntR R)) ∧ w' = w := by
  obtain ⟨mp, vb, Bs, D, t, h1, h2, _, _, _⟩ := h
  have := count_any h1
  rw [h2.all] at this
  exact this
theorem list_at {w : World} {F : Nat → Prop} {sb : Nat} {R : Row Id} (h : ShelfAt w F sb R) (hl : R.length ≤ 100000) (s : Bool) : Calls Try.prog 11 #[.pointer (some ⟨sb, 0, none⟩), .bool s] w fun e w' => ∃ v, e = .returned v ∧ w'.ownsRow w.heap.size 33 3 v (listR R s).length ((listR R s).flatMap idC) ∧ Below w.heap.size w w' := by
  obtain ⟨mp, vb, Bs, D, t, h1, h2, _, _, _⟩ := h
  have := list_any h1 (by rw [h2.row]; exact hl) s
  rw [h2.row] at this
  exact this
theorem find_at {w : World} {F : Nat → Prop} {sb : Nat} {R : Row Id} (h : ShelfAt w F sb R) (hl : R.length ≤ 100000) (k : Int) : Calls Try.prog 14 #[.pointer (some ⟨sb, 0, none⟩), .int .i64 k] w (FindPost R k w) := by
  obtain ⟨mp, vb, Bs, D, t, h1, h2, _, _, _⟩ := h
  exact find_any h1 h2 hl k
theorem place_at {w : World} {F : Nat → Prop} {sb : Nat} {R : Row Id} (h : ShelfAt w F sb R) (hl : R.length ≤ 100000) (x : Id) : Calls Try.prog 13 #[.pointer (some ⟨sb, 0, none⟩), idV x] w (PlacePost R x w) := by
  obtain ⟨mp, vb, Bs, D, t, h1, h2, _, _, _⟩ := h
  exact place_any h1 h2 hl x
/-- a shelf laid since w0 -/
def Aw (w0 : World) (sb : Nat) (R : Row Id) (w : World) : Prop := ∃ F, ShelfAt w F sb R ∧ (∀ k, F k → w0.heap.size ≤ k) ∧ Below w0.heap.size w0 w
theorem Aw.below {w0 w w' : World} {sb : Nat} {R : Row Id} (h : Aw w0 sb R w) (hb : Below w.heap.size w w') : Aw w0 sb R w' := by
  obtain ⟨F, h1, h2, h3⟩ := h
  exact ⟨F, h1.below hb, h2, h3.trans (hb.mono h3.size)⟩
theorem Aw.drew {w0 w : World} {sb : Nat} {R : Row Id} (h : Aw w0 sb R w) : Aw w0 sb R w.drew := h.below (Below.refl _ w).drew
theorem Aw.alloc {w0 w : World} {sb : Nat} {R : Row Id} (h : Aw w0 sb R w) (o : Obj) : Aw w0 sb R (w.alloc o) := h.below ((Below.refl _ w).alloc (Nat.le_refl _) o)
theorem Aw.out {w0 w : World} {sb : Nat} {R : Row Id} (h : Aw w0 sb R w) : Below w0.heap.size w0 w := h.choose_spec.2.2
theorem Aw.new (w : World) : Calls Try.prog 7 #[] w fun e w' => ∃ sb, e = .returned (.pointer (some ⟨sb, 0, none⟩)) ∧ Aw w sb [] w' := by
  refine (new_any w).mono ?_
  rintro e w' ⟨sb, rfl, _, h, hb⟩
  exact ⟨sb, rfl, _, h, fun k hk => hk.1, hb⟩
theorem Aw.all {w0 w : World} {sb : Nat} {R : Row Id} (h : Aw w0 sb R w) : Calls Try.prog 8 #[.pointer (some ⟨sb, 0, none⟩)] w fun e w' => e = .returned (.int .i64 R.length) ∧ w' = w := all_at h.choose_spec.1
theorem Aw.count {w0 w : World} {sb : Nat} {R : Row Id} (h : Aw w0 sb R w) : Calls Try.prog 12 #[.pointer (some ⟨sb, 0, none⟩)] w fun e w' => e = .returned (.int .i64 (cntR R)) ∧ w' = w := count_at h.choose_spec.1
theorem Aw.list {w0 w : World} {sb : Nat} {R : Row Id} (h : Aw w0 sb R w) (hl : R.length ≤ 100000) (s : Bool) : Calls Try.prog 11 #[.pointer (some ⟨sb, 0, none⟩), .bool s] w fun e w' => ∃ v, e = .returned v ∧ w'.ownsRow w.heap.size 33 3 v (listR R s).length ((listR R s).flatMap idC) ∧ Aw w0 sb R w' ∧ Below w.heap.size w w' := by
  refine (list_at h.choose_spec.1 hl s).mono ?_
  rintro e w' ⟨v, rfl, h1, h2⟩
  exact ⟨v, rfl, h1, h.below h2, h2⟩
theorem Aw.find {w0 w : World} {sb : Nat} {R : Row Id} (h : Aw w0 sb R w) (hl : R.length ≤ 100000) (k : Int) : Calls Try.prog 14 #[.pointer (some ⟨sb, 0, none⟩), .int .i64 k] w fun e w' => e = .returned (.tuple #[idV (findV R k).1, .int .i64 (findV R k).2]) ∧ Aw w0 sb R w' ∧ Below w.heap.size w w' := by
  refine (find_at h.choose_spec.1 hl k).mono ?_
  rintro e w' ⟨rfl, h2⟩
  exact ⟨rfl, h.below h2, h2⟩
theorem Aw.place {w0 w : World} {sb : Nat} {R : Row Id} (h : Aw w0 sb R w) (hl : R.length ≤ 100000) (x : Id) : Calls Try.prog 13 #[.pointer (some ⟨sb, 0, none⟩), idV x] w fun e w' => e = .returned (.tuple #[.int .i64 (placeV R x).1, .int .i64 (placeV R x).2.1, .int .i64 (placeV R x).2.2]) ∧ Aw w0 sb R w' ∧ Below w.heap.size w w' := by
  refine (place_at h.choose_spec.1 hl x).mono ?_
  rintro e w' ⟨rfl, h2⟩
  exact ⟨rfl, h.below h2, h2⟩
theorem Aw.put {w0 w : World} {sb : Nat} {R : Row Id} (h : Aw w0 sb R w) (hl : R.length ≤ 10000) (at_ : Int) (x : Id) (q : Bool) : Calls Try.prog 9 #[.pointer (some ⟨sb, 0, none⟩), .int .i64 at_, idV x, .bool q] w fun e w' => e = .returned (.int .i64 (errP R at_ x)) ∧ Aw w0 sb (putV R at_ x q) w' ∧ ∃ F : Nat → Prop, (∀ k, F k → w0.heap.size ≤ k) ∧ Touch F w w' := by
  obtain ⟨F, h1, h2, h3⟩ := h
  refine (put_any h1 hl at_ x q).mono ?_
  rintro e w' ⟨rfl, F', h4, h5, h6⟩
  refine ⟨rfl, ⟨F', h4, fun k hk => (h6 k hk).elim (h2 k) (fun h => Nat.le_trans h3.size h), h3.trans (h5.below h3.size (fun x hx hF => absurd (h2 x hF) (by omega)))⟩, F, h2, h5⟩
/-- the law's id -/
def idN (n : Int) (h : I64 n) : Id := ⟨⟨1, 1, by decide, by decide⟩, n, h⟩
theorem id_at (n : Int) (w : World) : Calls Try.prog 10 #[.int .i64 n] w fun e w' => e = .returned (.agg #[.int .i64 1, .int .i64 1, .int .i64 n]) ∧ Grows w w' := by
  go_enter Try.func10, Try.ntmps10
  go_wp2
  refine bodyPost_ret (results_cell_row rfl _ _ w.heap.size 33 #[.int .i64 1, .int .i64 1, .int .i64 n] (0, 0) _ rfl (heap_alloc_new w _) Try.underlying33 rfl (by kernel_rfl)) rfl ⟨rfl, (Grows.refl w).alloc _⟩
def j1 : Id := idN 1 (by decide)
def j2 : Id := idN 2 (by decide)
def j3 : Id := idN 3 (by decide)
theorem q1 : putV [] 0 j1 true = [(j1, true)] := by decide
theorem q2 : putV [(j1, true)] 0 j2 false = [(j2, false), (j1, true)] := by decide
theorem q3 : putV [(j2, false), (j1, true)] 1 j3 true = [(j2, false), (j3, true), (j1, true)] := by decide
theorem e3 : errP [(j2, false), (j1, true)] 1 j3 = 0 := by decide
theorem e4 : errP [(j2, false), (j3, true), (j1, true)] 0 j1 = 110 := by decide
theorem g3 : findV [(j2, false), (j3, true), (j1, true)] 0 = (j3, 0) := by decide
theorem l3 : placeV [(j2, false), (j3, true), (j1, true)] j1 = (2, 1, 0) := by decide
end Go.Proofs.Ytphapjbfaomblaa
