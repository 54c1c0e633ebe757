/- The document's sheet: a row of it grows by one; Set and Take. -/
import Derived.Test.YtphapjbfaomblaaDoorZcKE
import Derived.Test.YtphapjbfaomblaaDoorZb6
import Derived.Deep.RegionLaw
import Derived.Deep.AppendLies
namespace Go.Proofs.YtphapjbfaomblaaDoor
open Go Go.RowKit Go.Maps
theorem stC_oneK (x : Stamp) : ∀ u ∈ stC x, u.oneCell' = true := by
  intro u hu
  simp [stC] at hu
  rcases hu with rfl | rfl <;> rfl
theorem info24K : (Tryd.prog.info? 24).map (fun i => (i.zero, i.size, i.bytes)) = some (some (.agg #[.int .i64 0, .int .i64 0]), 2, 16) := by kernel_rfl
theorem own_kindOf {w : World} {b : Nat} {e : TypeId} {K n : Nat} {v : Value} {xs : List Value} (h : w.ownsRow b e K v n xs) {g : Nat} (hg : v.ownBlock = some g) : ∃ cur, w.heap[g]? = some (.cells cur e (0, 0)) := by
  rcases h.2 with ⟨rfl, _⟩ | ⟨g', cap, cur, rfl, _, hh, _⟩
  · cases hg
  · cases hg
    exact ⟨cur, hh⟩
theorem own_ne2 {w : World} {b b' : Nat} {e e' : TypeId} {K K' n n' : Nat} {v v' : Value} {xs xs' : List Value} (h : w.ownsRow b e K v n xs) (h' : w.ownsRow b' e' K' v' n' xs') (he : e ≠ e') : Own2 v v' := by
  intro g h1 h2
  obtain ⟨_, k1⟩ := own_kindOf h h1
  obtain ⟨_, k2⟩ := own_kindOf h' h2
  rw [k1] at k2
  cases k2
  exact he rfl
theorem own_ne_cell {w : World} {b : Nat} {e t : TypeId} {K n rb : Nat} {v : Value} {xs : List Value} {cs : Array Value} {fr : Nat × Nat} (h : w.ownsRow b e K v n xs) (hc : w.heap[rb]? = some (.cells cs t fr)) (ht : t ≠ e) : ∀ g, v.ownBlock = some g → g ≠ rb := by
  intro g h1 hg
  obtain ⟨_, k1⟩ := own_kindOf h h1
  rw [hg, hc] at k1
  cases k1
  exact ht rfl
theorem Own2.symm {v1 v2 : Value} (h : Own2 v1 v2) : Own2 v2 v1 := fun g h1 h2 => h g h2 h1
theorem Own2.fresh {v1 v1' v2 : Value} (h : Own2 v1 v2) {n : Nat} (hat : ∀ g, v1'.ownBlock = some g → v1.ownBlock = some g ∨ n ≤ g) (h2 : ∀ g, v2.ownBlock = some g → g < n) : Own2 v1' v2 := by
  intro g h1 h3
  rcases hat g h1 with h4 | h4
  · exact h g h4 h3
  · have := h2 g h3; omega
section
variable {w W : World} {rb : Nat} {v : RsV} {s : Rs}
theorem RsIs.apart (h : RsIs w rb v s) : Own2 v.r v.o ∧ Own2 v.r v.f ∧ Own2 v.r v.g ∧ Own2 v.r v.t ∧ Own2 v.o v.g ∧ Own2 v.o v.t ∧ Own2 v.f v.g ∧ Own2 v.f v.t :=
  ⟨own_ne2 h.r h.o (by decide), own_ne2 h.r h.f (by decide), own_ne2 h.r h.g (by decide), own_ne2 h.r h.t (by decide), own_ne2 h.o h.g (by decide), own_ne2 h.o h.t (by decide), own_ne2 h.f h.g (by decide), own_ne2 h.f h.t (by decide)⟩
theorem RsIs.far (h : RsIs w rb v s) : (∀ g, v.r.ownBlock = some g → g ≠ rb) ∧ (∀ g, v.o.ownBlock = some g → g ≠ rb) ∧ (∀ g, v.f.ownBlock = some g → g ≠ rb) ∧ (∀ g, v.g.ownBlock = some g → g ≠ rb) ∧ ∀ g, v.t.ownBlock = some g → g ≠ rb :=
  ⟨own_ne_cell h.r h.cell (by decide), own_ne_cell h.o h.cell (by decide), own_ne_cell h.f h.cell (by decide), own_ne_cell h.g h.cell (by decide), own_ne_cell h.t h.cell (by decide)⟩
theorem RsIs.step_r (h : RsIs w rb v s) {o : Obj} {u : Value} {x : Rn} (hown : W.ownsRow 0 28 7 u (s.R.length + 1) (s.R.flatMap rnC ++ rnC x)) {w1 : World} (hb : Below w.heap.size w w1) (hg : (w1.alloc o).grownBy W v.r.ownBlock) (hat : ∀ g, u.ownBlock = some g → v.r.ownBlock = some g ∨ w.heap.size ≤ g) :
    RsIs (W.setCell ⟨rb, 0, none⟩ u) rb { v with r := u } { s with R := s.R ++ [x] } ∧ Touch (rfoot rb v) w (W.setCell ⟨rb, 0, none⟩ u) ∧ ∀ k, rfoot rb { v with r := u } k → rfoot rb v k ∨ w.heap.size ≤ k := by
  have tg : Touch (fun k => v.r.ownBlock = some k) w W := Touch.grown (Touch.alloc (Below.touch hb _) o) hg (fun k hk _ => hk)
  have tt : Touch (fun k => v.r.ownBlock = some k ∨ k = rb) w (W.setCell ⟨rb, 0, none⟩ u) := (tg.mono (fun _ _ hk => .inl hk)).setCell (fun _ => .inr rfl) u
  have hc := block_touch h.cell tg (fun e => h.far.1 rb e rfl)
  have tk : Touch (fun k => k = rb) W (W.setCell ⟨rb, 0, none⟩ u) := Touch.setCell (F := fun k => k = rb) (Touch.refl _ _) (p := ⟨rb, 0, none⟩) (fun _ => rfl) u
  have hfar : ∀ g, u.ownBlock = some g → g ≠ rb := own_ne_cell hown hc (by decide)
  refine ⟨?_, tt.mono (fun k _ hk => hk.elim (fun e => .inr (.inl e)) .inl), fun k hk => ?_⟩
  · -- the rows
    have ko := fun (g : Nat) (hg : v.o.ownBlock = some g) (hh : (v.r.ownBlock = some g ∨ g = rb)) => hh.elim (fun e => h.apart.1.symm g hg e) (fun e => h.far.2.1 g hg e)
    have kf := fun (g : Nat) (hg : v.f.ownBlock = some g) (hh : (v.r.ownBlock = some g ∨ g = rb)) => hh.elim (fun e => h.apart.2.1.symm g hg e) (fun e => h.far.2.2.1 g hg e)
    have kg := fun (g : Nat) (hg : v.g.ownBlock = some g) (hh : (v.r.ownBlock = some g ∨ g = rb)) => hh.elim (fun e => h.apart.2.2.1.symm g hg e) (fun e => h.far.2.2.2.1 g hg e)
    have kt := fun (g : Nat) (hg : v.t.ownBlock = some g) (hh : (v.r.ownBlock = some g ∨ g = rb)) => hh.elim (fun e => h.apart.2.2.2.1.symm g hg e) (fun e => h.far.2.2.2.2 g hg e)
    exact ⟨by
      have h2 : W.heap[rb]? = some (.cells #[v.r, v.o, v.f, v.g, v.t] 53 (0, 0)) := hc
      simp [World.setCell, Array.getElem?_modify, h2], by rw [List.length_append, List.flatMap_append]; simpa using own_touch hown tk (fun g hg e => hfar g hg e), own_touch h.o tt ko, own_touch h.f tt kf, own_touch h.g tt kg, own_touch h.t tt kt, h.of, h.gt⟩
  · rcases hk with hk | hk | hk | hk | hk | hk
    · exact .inl (.inl hk)
    · exact (hat k hk).imp (fun e => .inr (.inl e)) id
    · exact .inl (.inr (.inr (.inl hk)))
    · exact .inl (.inr (.inr (.inr (.inl hk))))
    · exact .inl (.inr (.inr (.inr (.inr (.inl hk)))))
    · exact .inl (.inr (.inr (.inr (.inr (.inr hk)))))

theorem RsIs.step_o (h : RsIs w rb v s) {o : Obj} {u : Value} {x : Stamp} (hown : W.ownsRow 0 24 2 u (s.on.length + 1) (s.on.flatMap stC ++ stC x)) {w1 : World} (hb : Below w.heap.size w w1) (hg : (w1.alloc o).grownBy W v.o.ownBlock) (hat : ∀ g, u.ownBlock = some g → v.o.ownBlock = some g ∨ w.heap.size ≤ g) :
    RsIs (W.setCell ⟨rb, 1, none⟩ u) rb { v with o := u } { s with on := s.on ++ [x] } ∧ Touch (rfoot rb v) w (W.setCell ⟨rb, 1, none⟩ u) ∧ ∀ k, rfoot rb { v with o := u } k → rfoot rb v k ∨ w.heap.size ≤ k := by
  have tg : Touch (fun k => v.o.ownBlock = some k) w W := Touch.grown (Touch.alloc (Below.touch hb _) o) hg (fun k hk _ => hk)
  have tt : Touch (fun k => v.o.ownBlock = some k ∨ k = rb) w (W.setCell ⟨rb, 1, none⟩ u) := (tg.mono (fun _ _ hk => .inl hk)).setCell (fun _ => .inr rfl) u
  have hc := block_touch h.cell tg (fun e => h.far.2.1 rb e rfl)
  have tk : Touch (fun k => k = rb) W (W.setCell ⟨rb, 1, none⟩ u) := Touch.setCell (F := fun k => k = rb) (Touch.refl _ _) (p := ⟨rb, 1, none⟩) (fun _ => rfl) u
  have hfar : ∀ g, u.ownBlock = some g → g ≠ rb := own_ne_cell hown hc (by decide)
  refine ⟨?_, tt.mono (fun k _ hk => hk.elim (fun e => .inr (.inr (.inl e))) .inl), fun k hk => ?_⟩
  · -- the rows
    have kr := fun (g : Nat) (hg : v.r.ownBlock = some g) (hh : (v.o.ownBlock = some g ∨ g = rb)) => hh.elim (fun e => h.apart.1 g hg e) (fun e => h.far.1 g hg e)
    have kf := fun (g : Nat) (hg : v.f.ownBlock = some g) (hh : (v.o.ownBlock = some g ∨ g = rb)) => hh.elim (fun e => h.of.symm g hg e) (fun e => h.far.2.2.1 g hg e)
    have kg := fun (g : Nat) (hg : v.g.ownBlock = some g) (hh : (v.o.ownBlock = some g ∨ g = rb)) => hh.elim (fun e => h.apart.2.2.2.2.1.symm g hg e) (fun e => h.far.2.2.2.1 g hg e)
    have kt := fun (g : Nat) (hg : v.t.ownBlock = some g) (hh : (v.o.ownBlock = some g ∨ g = rb)) => hh.elim (fun e => h.apart.2.2.2.2.2.1.symm g hg e) (fun e => h.far.2.2.2.2 g hg e)
    exact ⟨by
      have h2 : W.heap[rb]? = some (.cells #[v.r, v.o, v.f, v.g, v.t] 53 (0, 0)) := hc
      simp [World.setCell, Array.getElem?_modify, h2], own_touch h.r tt kr, by rw [List.length_append, List.flatMap_append]; simpa using own_touch hown tk (fun g hg e => hfar g hg e), own_touch h.f tt kf, own_touch h.g tt kg, own_touch h.t tt kt, h.of.fresh hat (fun g hg => (h.f.lt g hg).2), h.gt⟩
  · rcases hk with hk | hk | hk | hk | hk | hk
    · exact .inl (.inl hk)
    · exact .inl (.inr (.inl hk))
    · exact (hat k hk).imp (fun e => .inr (.inr (.inl e))) id
    · exact .inl (.inr (.inr (.inr (.inl hk))))
    · exact .inl (.inr (.inr (.inr (.inr (.inl hk)))))
    · exact .inl (.inr (.inr (.inr (.inr (.inr hk)))))

theorem RsIs.step_g (h : RsIs w rb v s) {o : Obj} {u : Value} {x : Id} (hown : W.ownsRow 0 26 3 u (s.go.length + 1) (s.go.flatMap idC ++ idC x)) {w1 : World} (hb : Below w.heap.size w w1) (hg : (w1.alloc o).grownBy W v.g.ownBlock) (hat : ∀ g, u.ownBlock = some g → v.g.ownBlock = some g ∨ w.heap.size ≤ g) :
    RsIs (W.setCell ⟨rb, 3, none⟩ u) rb { v with g := u } { s with go := s.go ++ [x] } ∧ Touch (rfoot rb v) w (W.setCell ⟨rb, 3, none⟩ u) ∧ ∀ k, rfoot rb { v with g := u } k → rfoot rb v k ∨ w.heap.size ≤ k := by
  have tg : Touch (fun k => v.g.ownBlock = some k) w W := Touch.grown (Touch.alloc (Below.touch hb _) o) hg (fun k hk _ => hk)
  have tt : Touch (fun k => v.g.ownBlock = some k ∨ k = rb) w (W.setCell ⟨rb, 3, none⟩ u) := (tg.mono (fun _ _ hk => .inl hk)).setCell (fun _ => .inr rfl) u
  have hc := block_touch h.cell tg (fun e => h.far.2.2.2.1 rb e rfl)
  have tk : Touch (fun k => k = rb) W (W.setCell ⟨rb, 3, none⟩ u) := Touch.setCell (F := fun k => k = rb) (Touch.refl _ _) (p := ⟨rb, 3, none⟩) (fun _ => rfl) u
  have hfar : ∀ g, u.ownBlock = some g → g ≠ rb := own_ne_cell hown hc (by decide)
  refine ⟨?_, tt.mono (fun k _ hk => hk.elim (fun e => .inr (.inr (.inr (.inr (.inl e))))) .inl), fun k hk => ?_⟩
  · -- the rows
    have kr := fun (g : Nat) (hg : v.r.ownBlock = some g) (hh : (v.g.ownBlock = some g ∨ g = rb)) => hh.elim (fun e => h.apart.2.2.1 g hg e) (fun e => h.far.1 g hg e)
    have ko := fun (g : Nat) (hg : v.o.ownBlock = some g) (hh : (v.g.ownBlock = some g ∨ g = rb)) => hh.elim (fun e => h.apart.2.2.2.2.1 g hg e) (fun e => h.far.2.1 g hg e)
    have kf := fun (g : Nat) (hg : v.f.ownBlock = some g) (hh : (v.g.ownBlock = some g ∨ g = rb)) => hh.elim (fun e => h.apart.2.2.2.2.2.2.1 g hg e) (fun e => h.far.2.2.1 g hg e)
    have kt := fun (g : Nat) (hg : v.t.ownBlock = some g) (hh : (v.g.ownBlock = some g ∨ g = rb)) => hh.elim (fun e => h.gt.symm g hg e) (fun e => h.far.2.2.2.2 g hg e)
    exact ⟨by
      have h2 : W.heap[rb]? = some (.cells #[v.r, v.o, v.f, v.g, v.t] 53 (0, 0)) := hc
      simp [World.setCell, Array.getElem?_modify, h2], own_touch h.r tt kr, own_touch h.o tt ko, own_touch h.f tt kf, by rw [List.length_append, List.flatMap_append]; simpa using own_touch hown tk (fun g hg e => hfar g hg e), own_touch h.t tt kt, h.of, h.gt.fresh hat (fun g hg => (h.t.lt g hg).2)⟩
  · rcases hk with hk | hk | hk | hk | hk | hk
    · exact .inl (.inl hk)
    · exact .inl (.inr (.inl hk))
    · exact .inl (.inr (.inr (.inl hk)))
    · exact .inl (.inr (.inr (.inr (.inl hk))))
    · exact (hat k hk).imp (fun e => .inr (.inr (.inr (.inr (.inl e))))) id
    · exact .inl (.inr (.inr (.inr (.inr (.inr hk)))))

theorem RsIs.step_t (h : RsIs w rb v s) {o : Obj} {u : Value} {x : Id} (hown : W.ownsRow 0 26 3 u (s.re.length + 1) (s.re.flatMap idC ++ idC x)) {w1 : World} (hb : Below w.heap.size w w1) (hg : (w1.alloc o).grownBy W v.t.ownBlock) (hat : ∀ g, u.ownBlock = some g → v.t.ownBlock = some g ∨ w.heap.size ≤ g) :
    RsIs (W.setCell ⟨rb, 4, none⟩ u) rb { v with t := u } { s with re := s.re ++ [x] } ∧ Touch (rfoot rb v) w (W.setCell ⟨rb, 4, none⟩ u) ∧ ∀ k, rfoot rb { v with t := u } k → rfoot rb v k ∨ w.heap.size ≤ k := by
  have tg : Touch (fun k => v.t.ownBlock = some k) w W := Touch.grown (Touch.alloc (Below.touch hb _) o) hg (fun k hk _ => hk)
  have tt : Touch (fun k => v.t.ownBlock = some k ∨ k = rb) w (W.setCell ⟨rb, 4, none⟩ u) := (tg.mono (fun _ _ hk => .inl hk)).setCell (fun _ => .inr rfl) u
  have hc := block_touch h.cell tg (fun e => h.far.2.2.2.2 rb e rfl)
  have tk : Touch (fun k => k = rb) W (W.setCell ⟨rb, 4, none⟩ u) := Touch.setCell (F := fun k => k = rb) (Touch.refl _ _) (p := ⟨rb, 4, none⟩) (fun _ => rfl) u
  have hfar : ∀ g, u.ownBlock = some g → g ≠ rb := own_ne_cell hown hc (by decide)
  refine ⟨?_, tt.mono (fun k _ hk => hk.elim (fun e => .inr (.inr (.inr (.inr (.inr e))))) .inl), fun k hk => ?_⟩
  · -- the rows
    have kr := fun (g : Nat) (hg : v.r.ownBlock = some g) (hh : (v.t.ownBlock = some g ∨ g = rb)) => hh.elim (fun e => h.apart.2.2.2.1 g hg e) (fun e => h.far.1 g hg e)
    have ko := fun (g : Nat) (hg : v.o.ownBlock = some g) (hh : (v.t.ownBlock = some g ∨ g = rb)) => hh.elim (fun e => h.apart.2.2.2.2.2.1 g hg e) (fun e => h.far.2.1 g hg e)
    have kf := fun (g : Nat) (hg : v.f.ownBlock = some g) (hh : (v.t.ownBlock = some g ∨ g = rb)) => hh.elim (fun e => h.apart.2.2.2.2.2.2.2 g hg e) (fun e => h.far.2.2.1 g hg e)
    have kg := fun (g : Nat) (hg : v.g.ownBlock = some g) (hh : (v.t.ownBlock = some g ∨ g = rb)) => hh.elim (fun e => h.gt g hg e) (fun e => h.far.2.2.2.1 g hg e)
    exact ⟨by
      have h2 : W.heap[rb]? = some (.cells #[v.r, v.o, v.f, v.g, v.t] 53 (0, 0)) := hc
      simp [World.setCell, Array.getElem?_modify, h2], own_touch h.r tt kr, own_touch h.o tt ko, own_touch h.f tt kf, own_touch h.g tt kg, by rw [List.length_append, List.flatMap_append]; simpa using own_touch hown tk (fun g hg e => hfar g hg e), h.of, (h.gt.symm.fresh hat (fun g hg => (h.g.lt g hg).2)).symm⟩
  · rcases hk with hk | hk | hk | hk | hk | hk
    · exact .inl (.inl hk)
    · exact .inl (.inr (.inl hk))
    · exact .inl (.inr (.inr (.inl hk)))
    · exact .inl (.inr (.inr (.inr (.inl hk))))
    · exact .inl (.inr (.inr (.inr (.inr (.inl hk)))))
    · exact (hat k hk).imp (fun e => .inr (.inr (.inr (.inr (.inr e))))) id

end
end Go.Proofs.YtphapjbfaomblaaDoor
