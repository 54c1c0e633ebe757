/- Texts of this seat, one behind the other: JQ, JR. -/
import Derived.Test.YtphapjbfaomblaaDoorZb20
/- A sheet: Add. -/
namespace Go.Proofs.YtphapjbfaomblaaDoor
open Go Go.RowKit Go.Maps Go.ChangeMaps
theorem flatOf_ids (af el : Id) (ps : List (List UInt8)) : ∀ j, j ≤ ps.length → (flatOf af el (ps.take j)).map El.id = (List.range j).map (nthI el)
  | 0, _ => rfl
  | j + 1, h => by
    rw [flatOf_take af el ps h, List.map_append, flatOf_ids af el ps j (by omega), List.range_succ, List.map_append]
    rfl
section
variable {w0 w w' : World} {P P' : Nat → Prop} {p : Loc} {c : Nat} {F : List El} {O : List Nd} {on : Stamp → Int} {gn : Id → Int}
def AdRel (w0 : World) (P' : Nat → Prop) (p : Loc) (c : Nat) (F : List El) (on : Stamp → Int) (gn : Id → Int) (af el : Id) (ps : List (List UInt8)) (bX bA b : Nat) (v : Value) (W5 : World) (i : Value) (wr : World) : Prop :=
  ∃ j : Nat, j ≤ ps.length ∧ i = .int .i64 j ∧ Box wr bX (nthI el j) ∧ Box wr bA (nthA af el j) ∧ wr.ownsRow b 9 1 v ps.length (ps.map str) ∧ (∃ O', Sht w0 P' p (c + j) (F ++ flatOf af el (ps.take j)) O' on gn wr) ∧ Touch (fun k => w0.heap.size ≤ k ∧ (¬ P' k ∨ k = bX ∨ k = bA)) W5 wr
theorem flat_str (ps : List (List UInt8)) : ps.flatMap (fun l => [str l]) = ps.map str := by
  induction ps with
  | nil => rfl
  | cons p ps ih => rw [List.flatMap_cons, ih]; rfl
theorem adrel_next {w0 w w6 w7 wo W5 : World} {P' : Nat → Prop} {p : Loc} {c : Nat} {F : List El} {O2 : List Nd} {on : Stamp → Int} {gn : Id → Int} {af el x y : Id} {ps : List (List UInt8)} {q : List UInt8} {bX bA j : Nat} {v : Value}
    (hlt : j < ps.length) (hx : nthI el j = x) (hft : flatOf af el (ps.take (j + 1)) = flatOf af el (ps.take j) ++ [⟨x, y, ofL q⟩]) (hne : bX ≠ bA) (hX7 : Box w7 bX x) (hA7 : Box w7 bA x) (hO6 : w6.ownsRow w.heap.size 9 1 v ps.length (ps.map str))
    (hS6 : Sht w0 P' p (c + j + 1) (F ++ flatOf af el (ps.take j) ++ [⟨x, y, ofL q⟩]) O2 on gn w6) (ht : Touch (fun k => w0.heap.size ≤ k ∧ (¬ P' k ∨ k = bX ∨ k = bA)) W5 wo) (ht6 : Tch w0 P' wo w6) (tk : Touch (fun k => k = bX ∨ k = bA) w6 (w7.setCell ⟨bX, 2, none⟩ (.int .i64 (nextI x).I)))
    (hin : (w.heap.size ≤ bX ∧ bX < W5.heap.size) ∧ (w.heap.size ≤ bA ∧ bA < W5.heap.size)) (hP : ∀ b, w.heap.size ≤ b ∧ b < W5.heap.size → P' b) (hw0 : w0.heap.size ≤ w.heap.size) (hk : ∀ k cur fr, (k = bX ∨ k = bA) → w6.heap[k]? ≠ some (.cells cur 9 fr)) :
    AdRel w0 P' p c F on gn af el ps bX bA w.heap.size v W5 (.int .i64 ((j : Int) + 1)) (w7.setCell ⟨bX, 2, none⟩ (.int .i64 (nextI x).I)) := by
  refine ⟨j + 1, hlt, rfl, ?_, ?_, own_kind hO6 tk hk, ⟨O2, ?_⟩, ?_⟩
  · show Box _ bX (nextI (nthI el j))
    rw [hx]
    exact set_third hX7
  · show Box _ bA (nthI el j)
    rw [hx]
    exact (Below.heap_setCell _ _ _ _ (fun e => hne e.symm)).trans hA7
  · rw [hft, ← List.append_assoc]
    refine Sht.go hS6 (tk.mono (fun k _ hk => ?_)) (fun k h => .inl h)
    rcases hk with rfl | rfl
    · exact ⟨hP _ hin.1, by omega⟩
    · exact ⟨hP _ hin.2, by omega⟩
  · refine ht.trans ((ht6.mono (fun k _ hk => ⟨hk.1, .inl hk.2⟩)).trans (tk.mono (fun k _ hk => ?_)) (fun _ _ h => h)) (fun _ _ h => h)
    rcases hk with rfl | rfl
    · exact ⟨by omega, .inr (.inl rfl)⟩
    · exact ⟨by omega, .inr (.inr rfl)⟩
set_option maxRecDepth 100000 in
set_option maxHeartbeats 8000000 in
theorem Sht.add (h : Sht w0 P p c F O on gn w) (r : Rn) (ps : List (List UInt8)) (hps : AllP ps) (htx : r.tx = ofL ps.flatten) (hpl : 0 < ps.length ∧ ps.length ≤ 1000) (hfl : ps.flatten.length ≤ 1000000000) (hT : Tabs w) (hc : c + ps.length ≤ 4000)
    (haf : r.af = zeroI ∨ r.af ∈ F.map El.id) (hg : ∀ j, j < ps.length → nthI r.el j ≠ zeroI ∧ nthI r.el j ∉ F.map El.id) (hd : ∀ i j, i < j → j < ps.length → nthI r.el i ≠ nthI r.el j) :
    Calls Tryd.prog 23 #[.pointer (some ⟨p.sh, 0, none⟩), rnU r] w fun e w' => e = .returned (.int .i64 0) ∧ (∃ O', Sht w0 P p (c + ps.length) (F ++ flatOf r.af r.el ps) O' on gn w') ∧ Tch w0 P w w' := by
  have hS0 := h
  obtain ⟨Fs, Es, n, m, n2, D, Dr, hdd, Dn, h1, h2, h3, h4, h5, h6, h7⟩ := h
  have hidF : ∀ y, y ∈ F.map El.id ↔ ∃ e ∈ Es, e.id = y := fun y => by
    rw [← h3, List.map_map]
    exact List.mem_map
  obtain ⟨af, el, tx⟩ := r
  dsimp only at htx haf hg hd ⊢
  obtain ⟨W0, hW0⟩ : ∃ W, w.alloc (.cells #[.int .i64 af.s.T, .int .i64 af.s.R, .int .i64 af.I, .int .i64 el.s.T, .int .i64 el.s.R, .int .i64 el.I, .string tx] 28) = W := ⟨_, rfl⟩
  have hb0 : Below w.heap.size w W0 := by rw [← hW0]; exact (Below.refl _ w).alloc (Nat.le_refl _) _
  have hx0 : W0.heap[w.heap.size]? = some (.cells #[.int .i64 af.s.T, .int .i64 af.s.R, .int .i64 af.I, .int .i64 el.s.T, .int .i64 el.s.R, .int .i64 el.I, .string tx] 28 (0, 0)) := by rw [← hW0]; exact heap_alloc_new w _
  have HCK := Lib.hid (check_good (h1.below hb0) ⟨af, el, tx⟩ ps hps htx ⟨hpl.1, by omega⟩ hfl (hT.below hb0) h2.nz (haf.imp id (fun h => (hidF af).1 h)) (fun j hj => ⟨(hg j hj).1, fun e he h => (hg j hj).2 ((hidF _).2 ⟨e, he, h⟩)⟩))
  unfold rnU at HCK
  dsimp only at HCK
  have hsz : w.heap.size < W0.heap.size := (Array.getElem?_eq_some_iff.1 hx0).1
  have HX0 := Lib.hid (fun W (hW : Below W0.heap.size W0 W) => (hW.block w.heap.size hsz).trans hx0)
  have HPL := Lib.hid (fun k (hk : P k) => (h6 k hk).1)
  have HW7 := Lib.hid h7.size
  obtain ⟨bx, hbx⟩ : ∃ z, w.heap.size = z := ⟨_, rfl⟩
  rw [hbx] at HX0 hx0
  have e0 : W0.cell? ⟨bx, 0, none⟩ = some (.int .i64 af.s.T) := cell_of_row _ _ 0 _ _ _ hx0
  have e1 : W0.cell? ⟨bx, 1, none⟩ = some (.int .i64 af.s.R) := cell_of_row _ _ 1 _ _ _ hx0
  have e2 : W0.cell? ⟨bx, 2, none⟩ = some (.int .i64 af.I) := cell_of_row _ _ 2 _ _ _ hx0
  have e3 : W0.cell? ⟨bx, 3, none⟩ = some (.int .i64 el.s.T) := cell_of_row _ _ 3 _ _ _ hx0
  have e4 : W0.cell? ⟨bx, 4, none⟩ = some (.int .i64 el.s.R) := cell_of_row _ _ 4 _ _ _ hx0
  have e5 : W0.cell? ⟨bx, 5, none⟩ = some (.int .i64 el.I) := cell_of_row _ _ 5 _ _ _ hx0
  have e6 : W0.cell? ⟨bx, 6, none⟩ = some (.string tx) := cell_of_row _ _ 6 _ _ _ hx0
  have HS0 := Lib.hid hS0
  have HAF := Lib.hid haf
  have HG := Lib.hid hg
  have HD := Lib.hid hd
  have HW0 := Lib.hid hW0
  have HBX := Lib.hid hbx
  have HB0 := Lib.hid hb0
  obtain ⟨hpl0, hpl1⟩ := hpl
  clear h1 h2 h3 h4 h5 h6 h7 hS0 hidF haf hg hd hW0 hb0 hx0 hsz hT hfl htx
  unfold rnU
  dsimp only
  go_enter Tryd.func23, Tryd.ntmps23
  go_wp2_with (go_at_call 47; rw [HW0.out]; refine HCK.out.mono ?_; rintro r w1 ⟨v, rfl, hown, hb1⟩; obtain ⟨A, cp, rfl, hnc, hcm⟩ := (Rd.of_own hown).form; unfold maxLen at hcm; have hh := HX0.out w1 hb1; have HB1 := Lib.hid (HB0.out.trans (hb1.mono HB0.out.size)); have HOWN := Lib.hid (own_base hown HB0.out.size); have y0 : w1.cell? ⟨bx, 0, none⟩ = some (.int .i64 af.s.T) := cell_of_row _ _ 0 _ _ _ hh; have y1 : w1.cell? ⟨bx, 1, none⟩ = some (.int .i64 af.s.R) := cell_of_row _ _ 1 _ _ _ hh; have y2 : w1.cell? ⟨bx, 2, none⟩ = some (.int .i64 af.I) := cell_of_row _ _ 2 _ _ _ hh; have y3 : w1.cell? ⟨bx, 3, none⟩ = some (.int .i64 el.s.T) := cell_of_row _ _ 3 _ _ _ hh; have y4 : w1.cell? ⟨bx, 4, none⟩ = some (.int .i64 el.s.R) := cell_of_row _ _ 4 _ _ _ hh; have y5 : w1.cell? ⟨bx, 5, none⟩ = some (.int .i64 el.I) := cell_of_row _ _ 5 _ _ _ hh; have hbl1 : bx < w1.heap.size := (Array.getElem?_eq_some_iff.1 hh).1; have hbb : Below w1.heap.size w1 (w1.alloc (.cells #[.int .i64 0, .int .i64 0, .int .i64 0] 26)) := (Below.refl _ w1).alloc (Nat.le_refl _) _; have gZ0 : (w1.alloc (.cells #[.int .i64 0, .int .i64 0, .int .i64 0] 26)).cell? ⟨bx, 0, none⟩ = some (.int .i64 af.s.T) := (hbb.cell (p := ⟨bx, 0, none⟩) hbl1).trans y0; have gZ1 : (w1.alloc (.cells #[.int .i64 0, .int .i64 0, .int .i64 0] 26)).cell? ⟨bx, 1, none⟩ = some (.int .i64 af.s.R) := (hbb.cell (p := ⟨bx, 1, none⟩) hbl1).trans y1; have gZ2 : (w1.alloc (.cells #[.int .i64 0, .int .i64 0, .int .i64 0] 26)).cell? ⟨bx, 2, none⟩ = some (.int .i64 af.I) := (hbb.cell (p := ⟨bx, 2, none⟩) hbl1).trans y2; have gZ3 : (w1.alloc (.cells #[.int .i64 0, .int .i64 0, .int .i64 0] 26)).cell? ⟨bx, 3, none⟩ = some (.int .i64 el.s.T) := (hbb.cell (p := ⟨bx, 3, none⟩) hbl1).trans y3; have gZ4 : (w1.alloc (.cells #[.int .i64 0, .int .i64 0, .int .i64 0] 26)).cell? ⟨bx, 4, none⟩ = some (.int .i64 el.s.R) := (hbb.cell (p := ⟨bx, 4, none⟩) hbl1).trans y4; have gZ5 : (w1.alloc (.cells #[.int .i64 0, .int .i64 0, .int .i64 0] 26)).cell? ⟨bx, 5, none⟩ = some (.int .i64 el.I) := (hbb.cell (p := ⟨bx, 5, none⟩) hbl1).trans y5; clear hbb; have hbb : Below w1.heap.size w1 (w1.alloc (.cells #[.int .i64 el.s.T, .int .i64 el.s.R, .int .i64 el.I] 26)) := (Below.refl _ w1).alloc (Nat.le_refl _) _; have gE0 : (w1.alloc (.cells #[.int .i64 el.s.T, .int .i64 el.s.R, .int .i64 el.I] 26)).cell? ⟨bx, 0, none⟩ = some (.int .i64 af.s.T) := (hbb.cell (p := ⟨bx, 0, none⟩) hbl1).trans y0; have gE1 : (w1.alloc (.cells #[.int .i64 el.s.T, .int .i64 el.s.R, .int .i64 el.I] 26)).cell? ⟨bx, 1, none⟩ = some (.int .i64 af.s.R) := (hbb.cell (p := ⟨bx, 1, none⟩) hbl1).trans y1; have gE2 : (w1.alloc (.cells #[.int .i64 el.s.T, .int .i64 el.s.R, .int .i64 el.I] 26)).cell? ⟨bx, 2, none⟩ = some (.int .i64 af.I) := (hbb.cell (p := ⟨bx, 2, none⟩) hbl1).trans y2; have gE3 : (w1.alloc (.cells #[.int .i64 el.s.T, .int .i64 el.s.R, .int .i64 el.I] 26)).cell? ⟨bx, 3, none⟩ = some (.int .i64 el.s.T) := (hbb.cell (p := ⟨bx, 3, none⟩) hbl1).trans y3; have gE4 : (w1.alloc (.cells #[.int .i64 el.s.T, .int .i64 el.s.R, .int .i64 el.I] 26)).cell? ⟨bx, 4, none⟩ = some (.int .i64 el.s.R) := (hbb.cell (p := ⟨bx, 4, none⟩) hbl1).trans y4; have gE5 : (w1.alloc (.cells #[.int .i64 el.s.T, .int .i64 el.s.R, .int .i64 el.I] 26)).cell? ⟨bx, 5, none⟩ = some (.int .i64 el.I) := (hbb.cell (p := ⟨bx, 5, none⟩) hbl1).trans y5; clear hbb; have hbb : Below w1.heap.size w1 (w1.alloc (.cells #[.int .i64 af.s.T, .int .i64 af.s.R, .int .i64 af.I] 26)) := (Below.refl _ w1).alloc (Nat.le_refl _) _; have gA0 : (w1.alloc (.cells #[.int .i64 af.s.T, .int .i64 af.s.R, .int .i64 af.I] 26)).cell? ⟨bx, 0, none⟩ = some (.int .i64 af.s.T) := (hbb.cell (p := ⟨bx, 0, none⟩) hbl1).trans y0; have gA1 : (w1.alloc (.cells #[.int .i64 af.s.T, .int .i64 af.s.R, .int .i64 af.I] 26)).cell? ⟨bx, 1, none⟩ = some (.int .i64 af.s.R) := (hbb.cell (p := ⟨bx, 1, none⟩) hbl1).trans y1; have gA2 : (w1.alloc (.cells #[.int .i64 af.s.T, .int .i64 af.s.R, .int .i64 af.I] 26)).cell? ⟨bx, 2, none⟩ = some (.int .i64 af.I) := (hbb.cell (p := ⟨bx, 2, none⟩) hbl1).trans y2; have gA3 : (w1.alloc (.cells #[.int .i64 af.s.T, .int .i64 af.s.R, .int .i64 af.I] 26)).cell? ⟨bx, 3, none⟩ = some (.int .i64 el.s.T) := (hbb.cell (p := ⟨bx, 3, none⟩) hbl1).trans y3; have gA4 : (w1.alloc (.cells #[.int .i64 af.s.T, .int .i64 af.s.R, .int .i64 af.I] 26)).cell? ⟨bx, 4, none⟩ = some (.int .i64 el.s.R) := (hbb.cell (p := ⟨bx, 4, none⟩) hbl1).trans y4; have gA5 : (w1.alloc (.cells #[.int .i64 af.s.T, .int .i64 af.s.R, .int .i64 af.I] 26)).cell? ⟨bx, 5, none⟩ = some (.int .i64 el.I) := (hbb.cell (p := ⟨bx, 5, none⟩) hbl1).trans y5; clear hbb; have hbb : Below w1.heap.size w1 ((w1.alloc (.cells #[.int .i64 0, .int .i64 0, .int .i64 0] 26)).alloc (.cells #[.int .i64 0, .int .i64 0, .int .i64 0] 26)) := ((Below.refl _ w1).alloc (Nat.le_refl _) _).alloc (by simp) _; have gZZ0 : ((w1.alloc (.cells #[.int .i64 0, .int .i64 0, .int .i64 0] 26)).alloc (.cells #[.int .i64 0, .int .i64 0, .int .i64 0] 26)).cell? ⟨bx, 0, none⟩ = some (.int .i64 af.s.T) := (hbb.cell (p := ⟨bx, 0, none⟩) hbl1).trans y0; have gZZ1 : ((w1.alloc (.cells #[.int .i64 0, .int .i64 0, .int .i64 0] 26)).alloc (.cells #[.int .i64 0, .int .i64 0, .int .i64 0] 26)).cell? ⟨bx, 1, none⟩ = some (.int .i64 af.s.R) := (hbb.cell (p := ⟨bx, 1, none⟩) hbl1).trans y1; have gZZ2 : ((w1.alloc (.cells #[.int .i64 0, .int .i64 0, .int .i64 0] 26)).alloc (.cells #[.int .i64 0, .int .i64 0, .int .i64 0] 26)).cell? ⟨bx, 2, none⟩ = some (.int .i64 af.I) := (hbb.cell (p := ⟨bx, 2, none⟩) hbl1).trans y2; have gZZ3 : ((w1.alloc (.cells #[.int .i64 0, .int .i64 0, .int .i64 0] 26)).alloc (.cells #[.int .i64 0, .int .i64 0, .int .i64 0] 26)).cell? ⟨bx, 3, none⟩ = some (.int .i64 el.s.T) := (hbb.cell (p := ⟨bx, 3, none⟩) hbl1).trans y3; have gZZ4 : ((w1.alloc (.cells #[.int .i64 0, .int .i64 0, .int .i64 0] 26)).alloc (.cells #[.int .i64 0, .int .i64 0, .int .i64 0] 26)).cell? ⟨bx, 4, none⟩ = some (.int .i64 el.s.R) := (hbb.cell (p := ⟨bx, 4, none⟩) hbl1).trans y4; have gZZ5 : ((w1.alloc (.cells #[.int .i64 0, .int .i64 0, .int .i64 0] 26)).alloc (.cells #[.int .i64 0, .int .i64 0, .int .i64 0] 26)).cell? ⟨bx, 5, none⟩ = some (.int .i64 el.I) := (hbb.cell (p := ⟨bx, 5, none⟩) hbl1).trans y5; clear hbb; have hbb : Below w1.heap.size w1 ((w1.alloc (.cells #[.int .i64 0, .int .i64 0, .int .i64 0] 26)).alloc (.cells #[.int .i64 el.s.T, .int .i64 el.s.R, .int .i64 el.I] 26)) := ((Below.refl _ w1).alloc (Nat.le_refl _) _).alloc (by simp) _; have gZE0 : ((w1.alloc (.cells #[.int .i64 0, .int .i64 0, .int .i64 0] 26)).alloc (.cells #[.int .i64 el.s.T, .int .i64 el.s.R, .int .i64 el.I] 26)).cell? ⟨bx, 0, none⟩ = some (.int .i64 af.s.T) := (hbb.cell (p := ⟨bx, 0, none⟩) hbl1).trans y0; have gZE1 : ((w1.alloc (.cells #[.int .i64 0, .int .i64 0, .int .i64 0] 26)).alloc (.cells #[.int .i64 el.s.T, .int .i64 el.s.R, .int .i64 el.I] 26)).cell? ⟨bx, 1, none⟩ = some (.int .i64 af.s.R) := (hbb.cell (p := ⟨bx, 1, none⟩) hbl1).trans y1; have gZE2 : ((w1.alloc (.cells #[.int .i64 0, .int .i64 0, .int .i64 0] 26)).alloc (.cells #[.int .i64 el.s.T, .int .i64 el.s.R, .int .i64 el.I] 26)).cell? ⟨bx, 2, none⟩ = some (.int .i64 af.I) := (hbb.cell (p := ⟨bx, 2, none⟩) hbl1).trans y2; have gZE3 : ((w1.alloc (.cells #[.int .i64 0, .int .i64 0, .int .i64 0] 26)).alloc (.cells #[.int .i64 el.s.T, .int .i64 el.s.R, .int .i64 el.I] 26)).cell? ⟨bx, 3, none⟩ = some (.int .i64 el.s.T) := (hbb.cell (p := ⟨bx, 3, none⟩) hbl1).trans y3; have gZE4 : ((w1.alloc (.cells #[.int .i64 0, .int .i64 0, .int .i64 0] 26)).alloc (.cells #[.int .i64 el.s.T, .int .i64 el.s.R, .int .i64 el.I] 26)).cell? ⟨bx, 4, none⟩ = some (.int .i64 el.s.R) := (hbb.cell (p := ⟨bx, 4, none⟩) hbl1).trans y4; have gZE5 : ((w1.alloc (.cells #[.int .i64 0, .int .i64 0, .int .i64 0] 26)).alloc (.cells #[.int .i64 el.s.T, .int .i64 el.s.R, .int .i64 el.I] 26)).cell? ⟨bx, 5, none⟩ = some (.int .i64 el.I) := (hbb.cell (p := ⟨bx, 5, none⟩) hbl1).trans y5; clear hbb; have hbb : Below w1.heap.size w1 ((w1.alloc (.cells #[.int .i64 el.s.T, .int .i64 el.s.R, .int .i64 el.I] 26)).alloc (.cells #[.int .i64 0, .int .i64 0, .int .i64 0] 26)) := ((Below.refl _ w1).alloc (Nat.le_refl _) _).alloc (by simp) _; have gEZ0 : ((w1.alloc (.cells #[.int .i64 el.s.T, .int .i64 el.s.R, .int .i64 el.I] 26)).alloc (.cells #[.int .i64 0, .int .i64 0, .int .i64 0] 26)).cell? ⟨bx, 0, none⟩ = some (.int .i64 af.s.T) := (hbb.cell (p := ⟨bx, 0, none⟩) hbl1).trans y0; have gEZ1 : ((w1.alloc (.cells #[.int .i64 el.s.T, .int .i64 el.s.R, .int .i64 el.I] 26)).alloc (.cells #[.int .i64 0, .int .i64 0, .int .i64 0] 26)).cell? ⟨bx, 1, none⟩ = some (.int .i64 af.s.R) := (hbb.cell (p := ⟨bx, 1, none⟩) hbl1).trans y1; have gEZ2 : ((w1.alloc (.cells #[.int .i64 el.s.T, .int .i64 el.s.R, .int .i64 el.I] 26)).alloc (.cells #[.int .i64 0, .int .i64 0, .int .i64 0] 26)).cell? ⟨bx, 2, none⟩ = some (.int .i64 af.I) := (hbb.cell (p := ⟨bx, 2, none⟩) hbl1).trans y2; have gEZ3 : ((w1.alloc (.cells #[.int .i64 el.s.T, .int .i64 el.s.R, .int .i64 el.I] 26)).alloc (.cells #[.int .i64 0, .int .i64 0, .int .i64 0] 26)).cell? ⟨bx, 3, none⟩ = some (.int .i64 el.s.T) := (hbb.cell (p := ⟨bx, 3, none⟩) hbl1).trans y3; have gEZ4 : ((w1.alloc (.cells #[.int .i64 el.s.T, .int .i64 el.s.R, .int .i64 el.I] 26)).alloc (.cells #[.int .i64 0, .int .i64 0, .int .i64 0] 26)).cell? ⟨bx, 4, none⟩ = some (.int .i64 el.s.R) := (hbb.cell (p := ⟨bx, 4, none⟩) hbl1).trans y4; have gEZ5 : ((w1.alloc (.cells #[.int .i64 el.s.T, .int .i64 el.s.R, .int .i64 el.I] 26)).alloc (.cells #[.int .i64 0, .int .i64 0, .int .i64 0] 26)).cell? ⟨bx, 5, none⟩ = some (.int .i64 el.I) := (hbb.cell (p := ⟨bx, 5, none⟩) hbl1).trans y5; clear hbb; have hbb : Below w1.heap.size w1 ((w1.alloc (.cells #[.int .i64 0, .int .i64 0, .int .i64 0] 26)).alloc (.cells #[.int .i64 af.s.T, .int .i64 af.s.R, .int .i64 af.I] 26)) := ((Below.refl _ w1).alloc (Nat.le_refl _) _).alloc (by simp) _; have gZA0 : ((w1.alloc (.cells #[.int .i64 0, .int .i64 0, .int .i64 0] 26)).alloc (.cells #[.int .i64 af.s.T, .int .i64 af.s.R, .int .i64 af.I] 26)).cell? ⟨bx, 0, none⟩ = some (.int .i64 af.s.T) := (hbb.cell (p := ⟨bx, 0, none⟩) hbl1).trans y0; have gZA1 : ((w1.alloc (.cells #[.int .i64 0, .int .i64 0, .int .i64 0] 26)).alloc (.cells #[.int .i64 af.s.T, .int .i64 af.s.R, .int .i64 af.I] 26)).cell? ⟨bx, 1, none⟩ = some (.int .i64 af.s.R) := (hbb.cell (p := ⟨bx, 1, none⟩) hbl1).trans y1; have gZA2 : ((w1.alloc (.cells #[.int .i64 0, .int .i64 0, .int .i64 0] 26)).alloc (.cells #[.int .i64 af.s.T, .int .i64 af.s.R, .int .i64 af.I] 26)).cell? ⟨bx, 2, none⟩ = some (.int .i64 af.I) := (hbb.cell (p := ⟨bx, 2, none⟩) hbl1).trans y2; have gZA3 : ((w1.alloc (.cells #[.int .i64 0, .int .i64 0, .int .i64 0] 26)).alloc (.cells #[.int .i64 af.s.T, .int .i64 af.s.R, .int .i64 af.I] 26)).cell? ⟨bx, 3, none⟩ = some (.int .i64 el.s.T) := (hbb.cell (p := ⟨bx, 3, none⟩) hbl1).trans y3; have gZA4 : ((w1.alloc (.cells #[.int .i64 0, .int .i64 0, .int .i64 0] 26)).alloc (.cells #[.int .i64 af.s.T, .int .i64 af.s.R, .int .i64 af.I] 26)).cell? ⟨bx, 4, none⟩ = some (.int .i64 el.s.R) := (hbb.cell (p := ⟨bx, 4, none⟩) hbl1).trans y4; have gZA5 : ((w1.alloc (.cells #[.int .i64 0, .int .i64 0, .int .i64 0] 26)).alloc (.cells #[.int .i64 af.s.T, .int .i64 af.s.R, .int .i64 af.I] 26)).cell? ⟨bx, 5, none⟩ = some (.int .i64 el.I) := (hbb.cell (p := ⟨bx, 5, none⟩) hbl1).trans y5; clear hbb; have hbb : Below w1.heap.size w1 ((w1.alloc (.cells #[.int .i64 af.s.T, .int .i64 af.s.R, .int .i64 af.I] 26)).alloc (.cells #[.int .i64 0, .int .i64 0, .int .i64 0] 26)) := ((Below.refl _ w1).alloc (Nat.le_refl _) _).alloc (by simp) _; have gAZ0 : ((w1.alloc (.cells #[.int .i64 af.s.T, .int .i64 af.s.R, .int .i64 af.I] 26)).alloc (.cells #[.int .i64 0, .int .i64 0, .int .i64 0] 26)).cell? ⟨bx, 0, none⟩ = some (.int .i64 af.s.T) := (hbb.cell (p := ⟨bx, 0, none⟩) hbl1).trans y0; have gAZ1 : ((w1.alloc (.cells #[.int .i64 af.s.T, .int .i64 af.s.R, .int .i64 af.I] 26)).alloc (.cells #[.int .i64 0, .int .i64 0, .int .i64 0] 26)).cell? ⟨bx, 1, none⟩ = some (.int .i64 af.s.R) := (hbb.cell (p := ⟨bx, 1, none⟩) hbl1).trans y1; have gAZ2 : ((w1.alloc (.cells #[.int .i64 af.s.T, .int .i64 af.s.R, .int .i64 af.I] 26)).alloc (.cells #[.int .i64 0, .int .i64 0, .int .i64 0] 26)).cell? ⟨bx, 2, none⟩ = some (.int .i64 af.I) := (hbb.cell (p := ⟨bx, 2, none⟩) hbl1).trans y2; have gAZ3 : ((w1.alloc (.cells #[.int .i64 af.s.T, .int .i64 af.s.R, .int .i64 af.I] 26)).alloc (.cells #[.int .i64 0, .int .i64 0, .int .i64 0] 26)).cell? ⟨bx, 3, none⟩ = some (.int .i64 el.s.T) := (hbb.cell (p := ⟨bx, 3, none⟩) hbl1).trans y3; have gAZ4 : ((w1.alloc (.cells #[.int .i64 af.s.T, .int .i64 af.s.R, .int .i64 af.I] 26)).alloc (.cells #[.int .i64 0, .int .i64 0, .int .i64 0] 26)).cell? ⟨bx, 4, none⟩ = some (.int .i64 el.s.R) := (hbb.cell (p := ⟨bx, 4, none⟩) hbl1).trans y4; have gAZ5 : ((w1.alloc (.cells #[.int .i64 af.s.T, .int .i64 af.s.R, .int .i64 af.I] 26)).alloc (.cells #[.int .i64 0, .int .i64 0, .int .i64 0] 26)).cell? ⟨bx, 5, none⟩ = some (.int .i64 el.I) := (hbb.cell (p := ⟨bx, 5, none⟩) hbl1).trans y5; clear hbb; clear hbl1; clear hown hb1 hh)
  go_region
  · obtain ⟨W5, hW5⟩ : ∃ W, ((w1.alloc (.cells #[.int .i64 el.s.T, .int .i64 el.s.R, .int .i64 el.I] 26)).alloc (.cells #[.int .i64 af.s.T, .int .i64 af.s.R, .int .i64 af.I] 26)).drew = W := ⟨_, rfl⟩
    have hb15 : Below w1.heap.size w1 W5 := by rw [← hW5]; exact (((Below.refl _ w1).alloc (Nat.le_refl _) _).alloc (by simp) _).drew
    have hX5 : Box W5 (w1.heap.size) el := by rw [← hW5]; exact (Below.heap_alloc _ _ _ (by simp)).trans (heap_alloc_new w1 _)
    have hA5 : Box W5 (w1.heap.size + 1) af := by rw [← hW5]; exact (by have := heap_alloc_new (w1.alloc (.cells #[.int .i64 el.s.T, .int .i64 el.s.R, .int .i64 el.I] 26)) (.cells #[.int .i64 af.s.T, .int .i64 af.s.R, .int .i64 af.I] 26); rw [World.size_alloc] at this; exact this)
    have hs5 : W5.heap.size = w1.heap.size + 2 := by rw [← hW5]; show ((w1.alloc _).alloc _).heap.size = _; simp
    obtain ⟨bX, hbX⟩ : ∃ z, w1.heap.size = z := ⟨_, rfl⟩
    obtain ⟨bA, hbA⟩ : ∃ z, w1.heap.size + 1 = z := ⟨_, rfl⟩
    rw [hbX] at hX5
    rw [hbA] at hA5
    have hne : bX ≠ bA := by omega
    have hbw5 : Below w.heap.size w W5 := HB1.out.trans (hb15.mono HB1.out.size)
    have hO5 := own_grows HOWN.out hb15
    have hS5 : Sht w0 (fun k => P k ∨ (w.heap.size ≤ k ∧ k < W5.heap.size)) p c F O on gn W5 := HS0.out.go (Below.touch hbw5 _) (fun k hk => hk)
    have hst : AdRel w0 (fun k => P k ∨ (w.heap.size ≤ k ∧ k < W5.heap.size)) p c F on gn af el ps bX bA w.heap.size (.slice A ps.length cp) W5 (.int .i64 0) W5 := ⟨0, Nat.zero_le _, rfl, hX5, hA5, hO5, ⟨O, by simpa [flatOf] using hS5⟩, Touch.refl _ _⟩
    have HST := Lib.hid hst
    have HBW5 := Lib.hid hbw5
    have HINX := Lib.hid (show (w.heap.size ≤ bX ∧ bX < W5.heap.size) ∧ (w.heap.size ≤ bA ∧ bA < W5.heap.size) by have := HB1.out.size; omega)
    have HOL := Lib.hid (fun g (hg : (Value.slice A ps.length cp).ownBlock = some g) => (show w.heap.size ≤ g ∧ g < W5.heap.size from hO5.lt g hg))
    have HNE := Lib.hid hne
    rw [hW5, hbA, hbX]
    clear hW5 hb15 hX5 hA5 hs5 hbX hbA hne hbw5 hO5 hS5 hst gZ0 gZ1 gZ2 gZ3 gZ4 gZ5 gE0 gE1 gE2 gE3 gE4 gE5 gA0 gA1 gA2 gA3 gA4 gA5 gZZ0 gZZ1 gZZ2 gZZ3 gZZ4 gZZ5 gZE0 gZE1 gZE2 gZE3 gZE4 gZE5 gEZ0 gEZ1 gEZ2 gEZ3 gEZ4 gEZ5 gZA0 gZA1 gZA2 gZA3 gZA4 gZA5 gAZ0 gAZ1 gAZ2 gAZ3 gAZ4 gAZ5
    go_wp2
    go_loopw [10, 26] (fun _ i wr => AdRel w0 (fun k => P k ∨ (w.heap.size ≤ k ∧ k < W5.heap.size)) p c F on gn af el ps bX bA w.heap.size (.slice A ps.length cp) W5 i wr) (fun _ i _ => ps.length - (intOf i).toNat)
    case atStart => exact HST.out
    case round =>
      clear HST
      obtain ⟨j, hj, rfl, hX, hA, hO, ⟨O', hS⟩, ht⟩ := hrel
      obtain ⟨wo, rfl⟩ : ∃ wo : World, wo = wr := ⟨_, rfl⟩
      by_cases hlt : j < ps.length
      · obtain ⟨gp, op, rfl, hBr, hcp⟩ := rd_at (fun l => [str l]) 1 (fun _ => rfl) (by decide) (by rw [flat_str]; exact Rd.of_own hO) hlt
        have d0 : wo.cell? ⟨gp, op + j * 1, none⟩ = some (str ps[j]) := hcp 0 _ rfl
        rw [Nat.mul_one] at d0
        have hft := flatOf_take af el ps hlt
        obtain ⟨x, hx⟩ : ∃ x, nthI el j = x := ⟨_, rfl⟩
        obtain ⟨y, hy⟩ : ∃ y, nthA af el j = y := ⟨_, rfl⟩
        obtain ⟨q, hq⟩ : ∃ q, ps[j] = q := ⟨_, rfl⟩
        obtain ⟨hgz, hgn⟩ := HG.out j hlt
        have hxin : nthI el j ∉ (F ++ flatOf af el (ps.take j)).map El.id := by
          rw [List.map_append, List.mem_append, flatOf_ids af el ps j hj]
          rintro (h | h)
          · exact hgn h
          · obtain ⟨i, hi, h9⟩ := List.mem_map.1 h
            exact HD.out i j (List.mem_range.1 hi) hlt h9
        have hyin : nthA af el j = zeroI ∨ nthA af el j ∈ (F ++ flatOf af el (ps.take j)).map El.id := by
          rw [List.map_append, List.mem_append]
          cases j with
          | zero => exact HAF.out.imp id .inl
          | succ i =>
            right; right
            rw [flatOf_ids af el ps (i + 1) hj]
            exact List.mem_map.2 ⟨i, List.mem_range.2 (Nat.lt_succ_self i), rfl⟩
        rw [hx] at hX hft hgz hxin
        rw [hy] at hA hft hyin
        rw [hq] at d0 hft
        unfold str at d0
        have HPUT := Lib.hid (hS.put x y (ofL q) (by omega) hxin hgz hyin)
        unfold idV at HPUT
        have x0 : wo.cell? ⟨bX, 0, none⟩ = some (.int .i64 x.s.T) := cell_of_row _ _ 0 _ _ _ hX
        have x1 : wo.cell? ⟨bX, 1, none⟩ = some (.int .i64 x.s.R) := cell_of_row _ _ 1 _ _ _ hX
        have x2 : wo.cell? ⟨bX, 2, none⟩ = some (.int .i64 x.I) := cell_of_row _ _ 2 _ _ _ hX
        have a0 : wo.cell? ⟨bA, 0, none⟩ = some (.int .i64 y.s.T) := cell_of_row _ _ 0 _ _ _ hA
        have a1 : wo.cell? ⟨bA, 1, none⟩ = some (.int .i64 y.s.R) := cell_of_row _ _ 1 _ _ _ hA
        have a2 : wo.cell? ⟨bA, 2, none⟩ = some (.int .i64 y.I) := cell_of_row _ _ 2 _ _ _ hA
        have i1 : (0 : Int) ≤ (j : Int) := by omega
        have i2 : (j : Int) < (ps.length : Int) := by omega
        have HX := Lib.hid hX
        have HA := Lib.hid hA
        have HO := Lib.hid hO
        have HT := Lib.hid ht
        have HFT := Lib.hid hft
        have HXX := Lib.hid hx
        have HLT := Lib.hid hlt
        clear hX hA hO hS ht hft hx hy hq hgz hgn hxin hyin hcp
        go_wp2_with (go_at_call 48; refine HPUT.out.mono ?_; rintro r w6 ⟨⟨_, rfl⟩, ⟨O2, hS6⟩, ht6⟩; have hP' : ∀ b, w.heap.size ≤ b ∧ b < W5.heap.size → (fun k => P k ∨ (w.heap.size ≤ k ∧ k < W5.heap.size)) b := (fun b hb => .inr hb); have hX6 : Box w6 bX x := block_touch HX.out ht6 (fun h => h.2 (hP' _ HINX.out.1)); have hA6 : Box w6 bA y := block_touch HA.out ht6 (fun h => h.2 (hP' _ HINX.out.2)); have hO6 := own_touch HO.out ht6 (fun g hg h => h.2 (hP' _ (HOL.out g hg))); have s0 : w6.cell? ⟨bX, 0, none⟩ = some (.int .i64 x.s.T) := cell_of_row _ _ 0 _ _ _ hX6; have s1 : w6.cell? ⟨bX, 1, none⟩ = some (.int .i64 x.s.R) := cell_of_row _ _ 1 _ _ _ hX6; have s2 : w6.cell? ⟨bX, 2, none⟩ = some (.int .i64 x.I) := cell_of_row _ _ 2 _ _ _ hX6; have b0 : w6.cell? ⟨bA, 0, none⟩ = some (.int .i64 y.s.T) := cell_of_row _ _ 0 _ _ _ hA6; have b1 : w6.cell? ⟨bA, 1, none⟩ = some (.int .i64 y.s.R) := cell_of_row _ _ 1 _ _ _ hA6; have b2 : w6.cell? ⟨bA, 2, none⟩ = some (.int .i64 y.I) := cell_of_row _ _ 2 _ _ _ hA6; have bf : ∀ i, w6.frozen? ⟨bA, i, none⟩ = false := (fun i => by simp [World.frozen?, show w6.heap[bA]? = _ from hA6]); obtain ⟨w7, hw7⟩ : ∃ W, ((w6.setCell ⟨bA, 0, none⟩ (.int .i64 x.s.T)).setCell ⟨bA, 1, none⟩ (.int .i64 x.s.R)).setCell ⟨bA, 2, none⟩ (.int .i64 x.I) = W := ⟨_, rfl⟩; have hX7 : Box w7 bX x := (by rw [← hw7]; exact (set3_other HNE.out).trans hX6); have hA7 : Box w7 bA x := (by rw [← hw7]; exact set3_heap hA6); have r2 : (((w6.setCell ⟨bA, 0, none⟩ (.int .i64 x.s.T)).setCell ⟨bA, 1, none⟩ (.int .i64 x.s.R)).setCell ⟨bA, 2, none⟩ (.int .i64 x.I)).cell? ⟨bX, 2, none⟩ = some (.int .i64 x.I) := (by rw [hw7]; exact cell_of_row _ _ 2 _ _ _ hX7); have rf : (((w6.setCell ⟨bA, 0, none⟩ (.int .i64 x.s.T)).setCell ⟨bA, 1, none⟩ (.int .i64 x.s.R)).setCell ⟨bA, 2, none⟩ (.int .i64 x.I)).frozen? ⟨bX, 2, none⟩ = false := (by rw [hw7]; simp [World.frozen?, show w7.heap[bX]? = _ from hX7]); have tk : Touch (fun k => k = bX ∨ k = bA) w6 (w7.setCell ⟨bX, 2, none⟩ (.int .i64 (nextI x).I)) := (by rw [← hw7]; exact ((((Touch.refl _ w6).setCell (p := ⟨bA, 0, none⟩) (fun _ => .inr rfl) _).setCell (p := ⟨bA, 1, none⟩) (fun _ => .inr rfl) _).setCell (p := ⟨bA, 2, none⟩) (fun _ => .inr rfl) _).setCell (p := ⟨bX, 2, none⟩) (fun _ => .inl rfl) _); have hw := wrap_next x; have HREL := Lib.hid (show AdRel w0 (fun k => P k ∨ (w.heap.size ≤ k ∧ k < W5.heap.size)) p c F on gn af el ps bX bA w.heap.size (.slice (some ⟨gp, op, none⟩) ps.length cp) W5 (.int .i64 ((j : Int) + 1)) ((((w6.setCell ⟨bA, 0, none⟩ (.int .i64 x.s.T)).setCell ⟨bA, 1, none⟩ (.int .i64 x.s.R)).setCell ⟨bA, 2, none⟩ (.int .i64 x.I)).setCell ⟨bX, 2, none⟩ (.int .i64 (nextI x).I)) from (by rw [hw7]; exact adrel_next HLT.out HXX.out HFT.out HNE.out hX7 hA7 hO6 hS6 HT.out ht6 tk HINX.out hP' HW7.out (fun k cur fr hk he => by have h9 := hX6; have h8 := hA6; unfold Box at h9 h8; rcases hk with rfl | rfl; (rw [he] at h9; cases h9); (rw [he] at h8; cases h8)))); clear hX6 hA6 hO6 hX7 hA7 hS6 ht6 tk hw7 hP')
        go_roundw
        case rel => exact HREL.out
        case measure => have := HLT.out; simp [intOf]; omega
      · obtain rfl : j = ps.length := by omega
        rw [List.take_length] at hS
        have HFIN := Lib.hid (show (∃ O', Sht w0 P p (c + ps.length) (F ++ flatOf af el ps) O' on gn wo) ∧ Tch w0 P w wo from
          ⟨⟨O', hS.go (Touch.refl _ _) (fun k hk => .inl (.inl hk))⟩, (Below.touch HBW5.out _).trans (ht.mono (fun k hk hF => by
            have h1 := HINX.out
            refine ⟨hF.1, fun hp => ?_⟩
            have := HPL.out k hp
            rcases hF.2 with h | rfl | rfl
            · exact h (.inl hp)
            · omega
            · omega)) (fun _ _ h => h)⟩)
        clear hS ht hX hA hO
        go_wp2
        go_ret
        exact ⟨rfl, HFIN.out⟩
  · obtain ⟨W5, hW5⟩ : ∃ W, ((w1.alloc (.cells #[.int .i64 af.s.T, .int .i64 af.s.R, .int .i64 af.I] 26)).alloc (.cells #[.int .i64 el.s.T, .int .i64 el.s.R, .int .i64 el.I] 26)).drew = W := ⟨_, rfl⟩
    have hb15 : Below w1.heap.size w1 W5 := by rw [← hW5]; exact (((Below.refl _ w1).alloc (Nat.le_refl _) _).alloc (by simp) _).drew
    have hX5 : Box W5 (w1.heap.size + 1) el := by rw [← hW5]; exact (by have := heap_alloc_new (w1.alloc (.cells #[.int .i64 af.s.T, .int .i64 af.s.R, .int .i64 af.I] 26)) (.cells #[.int .i64 el.s.T, .int .i64 el.s.R, .int .i64 el.I] 26); rw [World.size_alloc] at this; exact this)
    have hA5 : Box W5 (w1.heap.size) af := by rw [← hW5]; exact (Below.heap_alloc _ _ _ (by simp)).trans (heap_alloc_new w1 _)
    have hs5 : W5.heap.size = w1.heap.size + 2 := by rw [← hW5]; show ((w1.alloc _).alloc _).heap.size = _; simp
    obtain ⟨bX, hbX⟩ : ∃ z, w1.heap.size + 1 = z := ⟨_, rfl⟩
    obtain ⟨bA, hbA⟩ : ∃ z, w1.heap.size = z := ⟨_, rfl⟩
    rw [hbX] at hX5
    rw [hbA] at hA5
    have hne : bX ≠ bA := by omega
    have hbw5 : Below w.heap.size w W5 := HB1.out.trans (hb15.mono HB1.out.size)
    have hO5 := own_grows HOWN.out hb15
    have hS5 : Sht w0 (fun k => P k ∨ (w.heap.size ≤ k ∧ k < W5.heap.size)) p c F O on gn W5 := HS0.out.go (Below.touch hbw5 _) (fun k hk => hk)
    have hst : AdRel w0 (fun k => P k ∨ (w.heap.size ≤ k ∧ k < W5.heap.size)) p c F on gn af el ps bX bA w.heap.size (.slice A ps.length cp) W5 (.int .i64 0) W5 := ⟨0, Nat.zero_le _, rfl, hX5, hA5, hO5, ⟨O, by simpa [flatOf] using hS5⟩, Touch.refl _ _⟩
    have HST := Lib.hid hst
    have HBW5 := Lib.hid hbw5
    have HINX := Lib.hid (show (w.heap.size ≤ bX ∧ bX < W5.heap.size) ∧ (w.heap.size ≤ bA ∧ bA < W5.heap.size) by have := HB1.out.size; omega)
    have HOL := Lib.hid (fun g (hg : (Value.slice A ps.length cp).ownBlock = some g) => (show w.heap.size ≤ g ∧ g < W5.heap.size from hO5.lt g hg))
    have HNE := Lib.hid hne
    rw [hW5, hbX, hbA]
    clear hW5 hb15 hX5 hA5 hs5 hbX hbA hne hbw5 hO5 hS5 hst gZ0 gZ1 gZ2 gZ3 gZ4 gZ5 gE0 gE1 gE2 gE3 gE4 gE5 gA0 gA1 gA2 gA3 gA4 gA5 gZZ0 gZZ1 gZZ2 gZZ3 gZZ4 gZZ5 gZE0 gZE1 gZE2 gZE3 gZE4 gZE5 gEZ0 gEZ1 gEZ2 gEZ3 gEZ4 gEZ5 gZA0 gZA1 gZA2 gZA3 gZA4 gZA5 gAZ0 gAZ1 gAZ2 gAZ3 gAZ4 gAZ5
    go_wp2
    go_loopw [10, 26] (fun _ i wr => AdRel w0 (fun k => P k ∨ (w.heap.size ≤ k ∧ k < W5.heap.size)) p c F on gn af el ps bX bA w.heap.size (.slice A ps.length cp) W5 i wr) (fun _ i _ => ps.length - (intOf i).toNat)
    case atStart => exact HST.out
    case round =>
      clear HST
      obtain ⟨j, hj, rfl, hX, hA, hO, ⟨O', hS⟩, ht⟩ := hrel
      obtain ⟨wo, rfl⟩ : ∃ wo : World, wo = wr := ⟨_, rfl⟩
      by_cases hlt : j < ps.length
      · obtain ⟨gp, op, rfl, hBr, hcp⟩ := rd_at (fun l => [str l]) 1 (fun _ => rfl) (by decide) (by rw [flat_str]; exact Rd.of_own hO) hlt
        have d0 : wo.cell? ⟨gp, op + j * 1, none⟩ = some (str ps[j]) := hcp 0 _ rfl
        rw [Nat.mul_one] at d0
        have hft := flatOf_take af el ps hlt
        obtain ⟨x, hx⟩ : ∃ x, nthI el j = x := ⟨_, rfl⟩
        obtain ⟨y, hy⟩ : ∃ y, nthA af el j = y := ⟨_, rfl⟩
        obtain ⟨q, hq⟩ : ∃ q, ps[j] = q := ⟨_, rfl⟩
        obtain ⟨hgz, hgn⟩ := HG.out j hlt
        have hxin : nthI el j ∉ (F ++ flatOf af el (ps.take j)).map El.id := by
          rw [List.map_append, List.mem_append, flatOf_ids af el ps j hj]
          rintro (h | h)
          · exact hgn h
          · obtain ⟨i, hi, h9⟩ := List.mem_map.1 h
            exact HD.out i j (List.mem_range.1 hi) hlt h9
        have hyin : nthA af el j = zeroI ∨ nthA af el j ∈ (F ++ flatOf af el (ps.take j)).map El.id := by
          rw [List.map_append, List.mem_append]
          cases j with
          | zero => exact HAF.out.imp id .inl
          | succ i =>
            right; right
            rw [flatOf_ids af el ps (i + 1) hj]
            exact List.mem_map.2 ⟨i, List.mem_range.2 (Nat.lt_succ_self i), rfl⟩
        rw [hx] at hX hft hgz hxin
        rw [hy] at hA hft hyin
        rw [hq] at d0 hft
        unfold str at d0
        have HPUT := Lib.hid (hS.put x y (ofL q) (by omega) hxin hgz hyin)
        unfold idV at HPUT
        have x0 : wo.cell? ⟨bX, 0, none⟩ = some (.int .i64 x.s.T) := cell_of_row _ _ 0 _ _ _ hX
        have x1 : wo.cell? ⟨bX, 1, none⟩ = some (.int .i64 x.s.R) := cell_of_row _ _ 1 _ _ _ hX
        have x2 : wo.cell? ⟨bX, 2, none⟩ = some (.int .i64 x.I) := cell_of_row _ _ 2 _ _ _ hX
        have a0 : wo.cell? ⟨bA, 0, none⟩ = some (.int .i64 y.s.T) := cell_of_row _ _ 0 _ _ _ hA
        have a1 : wo.cell? ⟨bA, 1, none⟩ = some (.int .i64 y.s.R) := cell_of_row _ _ 1 _ _ _ hA
        have a2 : wo.cell? ⟨bA, 2, none⟩ = some (.int .i64 y.I) := cell_of_row _ _ 2 _ _ _ hA
        have i1 : (0 : Int) ≤ (j : Int) := by omega
        have i2 : (j : Int) < (ps.length : Int) := by omega
        have HX := Lib.hid hX
        have HA := Lib.hid hA
        have HO := Lib.hid hO
        have HT := Lib.hid ht
        have HFT := Lib.hid hft
        have HXX := Lib.hid hx
        have HLT := Lib.hid hlt
        clear hX hA hO hS ht hft hx hy hq hgz hgn hxin hyin hcp
        go_wp2_with (go_at_call 48; refine HPUT.out.mono ?_; rintro r w6 ⟨⟨_, rfl⟩, ⟨O2, hS6⟩, ht6⟩; have hP' : ∀ b, w.heap.size ≤ b ∧ b < W5.heap.size → (fun k => P k ∨ (w.heap.size ≤ k ∧ k < W5.heap.size)) b := (fun b hb => .inr hb); have hX6 : Box w6 bX x := block_touch HX.out ht6 (fun h => h.2 (hP' _ HINX.out.1)); have hA6 : Box w6 bA y := block_touch HA.out ht6 (fun h => h.2 (hP' _ HINX.out.2)); have hO6 := own_touch HO.out ht6 (fun g hg h => h.2 (hP' _ (HOL.out g hg))); have s0 : w6.cell? ⟨bX, 0, none⟩ = some (.int .i64 x.s.T) := cell_of_row _ _ 0 _ _ _ hX6; have s1 : w6.cell? ⟨bX, 1, none⟩ = some (.int .i64 x.s.R) := cell_of_row _ _ 1 _ _ _ hX6; have s2 : w6.cell? ⟨bX, 2, none⟩ = some (.int .i64 x.I) := cell_of_row _ _ 2 _ _ _ hX6; have b0 : w6.cell? ⟨bA, 0, none⟩ = some (.int .i64 y.s.T) := cell_of_row _ _ 0 _ _ _ hA6; have b1 : w6.cell? ⟨bA, 1, none⟩ = some (.int .i64 y.s.R) := cell_of_row _ _ 1 _ _ _ hA6; have b2 : w6.cell? ⟨bA, 2, none⟩ = some (.int .i64 y.I) := cell_of_row _ _ 2 _ _ _ hA6; have bf : ∀ i, w6.frozen? ⟨bA, i, none⟩ = false := (fun i => by simp [World.frozen?, show w6.heap[bA]? = _ from hA6]); obtain ⟨w7, hw7⟩ : ∃ W, ((w6.setCell ⟨bA, 0, none⟩ (.int .i64 x.s.T)).setCell ⟨bA, 1, none⟩ (.int .i64 x.s.R)).setCell ⟨bA, 2, none⟩ (.int .i64 x.I) = W := ⟨_, rfl⟩; have hX7 : Box w7 bX x := (by rw [← hw7]; exact (set3_other HNE.out).trans hX6); have hA7 : Box w7 bA x := (by rw [← hw7]; exact set3_heap hA6); have r2 : (((w6.setCell ⟨bA, 0, none⟩ (.int .i64 x.s.T)).setCell ⟨bA, 1, none⟩ (.int .i64 x.s.R)).setCell ⟨bA, 2, none⟩ (.int .i64 x.I)).cell? ⟨bX, 2, none⟩ = some (.int .i64 x.I) := (by rw [hw7]; exact cell_of_row _ _ 2 _ _ _ hX7); have rf : (((w6.setCell ⟨bA, 0, none⟩ (.int .i64 x.s.T)).setCell ⟨bA, 1, none⟩ (.int .i64 x.s.R)).setCell ⟨bA, 2, none⟩ (.int .i64 x.I)).frozen? ⟨bX, 2, none⟩ = false := (by rw [hw7]; simp [World.frozen?, show w7.heap[bX]? = _ from hX7]); have tk : Touch (fun k => k = bX ∨ k = bA) w6 (w7.setCell ⟨bX, 2, none⟩ (.int .i64 (nextI x).I)) := (by rw [← hw7]; exact ((((Touch.refl _ w6).setCell (p := ⟨bA, 0, none⟩) (fun _ => .inr rfl) _).setCell (p := ⟨bA, 1, none⟩) (fun _ => .inr rfl) _).setCell (p := ⟨bA, 2, none⟩) (fun _ => .inr rfl) _).setCell (p := ⟨bX, 2, none⟩) (fun _ => .inl rfl) _); have hw := wrap_next x; have HREL := Lib.hid (show AdRel w0 (fun k => P k ∨ (w.heap.size ≤ k ∧ k < W5.heap.size)) p c F on gn af el ps bX bA w.heap.size (.slice (some ⟨gp, op, none⟩) ps.length cp) W5 (.int .i64 ((j : Int) + 1)) ((((w6.setCell ⟨bA, 0, none⟩ (.int .i64 x.s.T)).setCell ⟨bA, 1, none⟩ (.int .i64 x.s.R)).setCell ⟨bA, 2, none⟩ (.int .i64 x.I)).setCell ⟨bX, 2, none⟩ (.int .i64 (nextI x).I)) from (by rw [hw7]; exact adrel_next HLT.out HXX.out HFT.out HNE.out hX7 hA7 hO6 hS6 HT.out ht6 tk HINX.out hP' HW7.out (fun k cur fr hk he => by have h9 := hX6; have h8 := hA6; unfold Box at h9 h8; rcases hk with rfl | rfl; (rw [he] at h9; cases h9); (rw [he] at h8; cases h8)))); clear hX6 hA6 hO6 hX7 hA7 hS6 ht6 tk hw7 hP')
        go_roundw
        case rel => exact HREL.out
        case measure => have := HLT.out; simp [intOf]; omega
      · obtain rfl : j = ps.length := by omega
        rw [List.take_length] at hS
        have HFIN := Lib.hid (show (∃ O', Sht w0 P p (c + ps.length) (F ++ flatOf af el ps) O' on gn wo) ∧ Tch w0 P w wo from
          ⟨⟨O', hS.go (Touch.refl _ _) (fun k hk => .inl (.inl hk))⟩, (Below.touch HBW5.out _).trans (ht.mono (fun k hk hF => by
            have h1 := HINX.out
            refine ⟨hF.1, fun hp => ?_⟩
            have := HPL.out k hp
            rcases hF.2 with h | rfl | rfl
            · exact h (.inl hp)
            · omega
            · omega)) (fun _ _ h => h)⟩)
        clear hS ht hX hA hO
        go_wp2
        go_ret
        exact ⟨rfl, HFIN.out⟩
end
end Go.Proofs.YtphapjbfaomblaaDoor
/- A sheet: Add where the first name is had. -/
namespace Go.Proofs.YtphapjbfaomblaaDoor
open Go Go.RowKit Go.Maps Go.ChangeMaps
section
variable {w0 w w' : World} {P P' : Nat → Prop} {p : Loc} {c : Nat} {F : List El} {O : List Nd} {on : Stamp → Int} {gn : Id → Int}
set_option maxRecDepth 100000 in
set_option maxHeartbeats 8000000 in
theorem Sht.addHad (h : Sht w0 P p c F O on gn w) (r : Rn) (ps : List (List UInt8)) (hps : AllP ps) (htx : r.tx = ofL ps.flatten) (hpl : 0 < ps.length ∧ ps.length ≤ 1000) (hfl : ps.flatten.length ≤ 1000000000) (hT : Tabs w)
    (haf : r.af = zeroI) (hg : r.el ∈ F.map El.id) :
    Calls Tryd.prog 23 #[.pointer (some ⟨p.sh, 0, none⟩), rnU r] w fun e w' => e = .returned (.int .i64 110) ∧ Below w.heap.size w w' := by
  obtain ⟨Fs, Es, n, m, n2, D, Dr, hdd, Dn, h1, h2, h3, h4, h5, h6, h7⟩ := h
  obtain ⟨af, el, tx⟩ := r
  dsimp only at htx haf hg ⊢
  obtain ⟨W0, hW0⟩ : ∃ W, w.alloc (.cells #[.int .i64 af.s.T, .int .i64 af.s.R, .int .i64 af.I, .int .i64 el.s.T, .int .i64 el.s.R, .int .i64 el.I, .string tx] 28) = W := ⟨_, rfl⟩
  have hb0 : Below w.heap.size w W0 := by rw [← hW0]; exact (Below.refl _ w).alloc (Nat.le_refl _) _
  have HCK := Lib.hid (check_twice (h1.below hb0) ⟨af, el, tx⟩ ps hps htx ⟨hpl.1, by omega⟩ hfl (hT.below hb0) h2.nz haf (by
    rw [← h3, List.map_map] at hg
    obtain ⟨e, he, h⟩ := List.mem_map.1 hg
    exact ⟨e, he, h⟩))
  unfold rnU at HCK
  dsimp only at HCK
  have HW0 := Lib.hid hW0
  have HB0 := Lib.hid hb0
  clear h1 h2 h3 h4 h5 h6 h7 haf hg hW0 hb0 hT hfl htx hpl
  unfold rnU
  dsimp only
  go_enter Tryd.func23, Tryd.ntmps23
  go_wp2_with (go_at_call 47; rw [HW0.out]; refine HCK.out.mono ?_; rintro r w1 ⟨v, rfl, hb1⟩; have HB1 := Lib.hid (HB0.out.trans (hb1.mono HB0.out.size)); clear hb1)
  go_ret
  exact ⟨rfl, HB1.out⟩
end
end Go.Proofs.YtphapjbfaomblaaDoor
