/- A map of slices, each a row of the call's own. -/
import Derived.Test.YtphapjbfaomblaaDoorEG
import Derived.Test.YtphapjbfaomblaaDoorEM
import Derived.Test.YtphapjbfaomblaaDoorGA
import Derived.Test.YtphapjbfaomblaaDoorFT
import Derived.Test.YtphapjbfaomblaaDoorR
namespace Go.Proofs.YtphapjbfaomblaaDoor
open Go Go.RowKit Go.Maps Go.ChangeMaps
abbrev Hd := Option (Nat × Nat × Nat)
def hdV : Hd → Value
  | none => .slice none 0 0
  | some (g, n, c) => .slice (some ⟨g, 0, none⟩) n c
theorem hdV_inj {a b : Hd} (h : hdV a = hdV b) : a = b := by
  rcases a with _ | ⟨g, n, c⟩ <;> rcases b with _ | ⟨g', n', c'⟩ <;> simp [hdV] at h ⊢
  exact h
theorem hd_of {w : World} {base : Nat} {e : TypeId} {K n : Nat} {v : Value} {xs : List Value} (h : w.ownsRow base e K v n xs) : ∃ a, v = hdV a := by
  rcases h.2 with ⟨rfl, _⟩ | ⟨g, cap, _, rfl, _⟩
  · exact ⟨none, rfl⟩
  · exact ⟨some (g, n, cap), rfl⟩
def hdf (hd : Id → Hd) (x : Id) : Option Hd := (hd x).map some
structure MRows (w : World) (base bm m : Nat) (D : DataW Hd) (hd : Id → Hd) (B : Id → List El) : Prop where
  map : w.ownsMap Tryd.prog 26 (objElem hdV) bm m D
  fm : FMap idK (hdf hd) D
  rows : ∀ x, w.ownsRow base 84 4 (hdV (hd x)) (B x).length ((B x).flatMap elC)
  apart : ∀ x y, x ≠ y → ∀ g, (hdV (hd x)).ownBlock = some g → (hdV (hd y)).ownBlock ≠ some g
section
variable {w w' : World} {base bm m : Nat} {D : DataW Hd} {hd : Id → Hd} {B : Id → List El}
theorem MRows.cells (h : MRows w base bm m D hd B) {x : Id} {g : Nat} (hg : (hdV (hd x)).ownBlock = some g) : ∃ cur, w.heap[g]? = some (.cells cur 84 (0, 0)) := by
  rcases (h.rows x).2 with ⟨e, _⟩ | ⟨g', cap, cur, e, _, hh, _⟩
  · rw [e] at hg; cases hg
  · rw [e] at hg; cases hg; exact ⟨cur, hh⟩
theorem MRows.isMap (h : MRows w base bm m D hd B) : ∃ es clock, w.heap[bm]? = some (.map es clock) := by
  obtain ⟨es, clock, h1, _⟩ := h.map
  exact ⟨es, clock, h1⟩
theorem MRows.ne (h : MRows w base bm m D hd B) {x : Id} {g : Nat} (hg : (hdV (hd x)).ownBlock = some g) : g ≠ bm := by
  rintro rfl
  obtain ⟨cur, h1⟩ := h.cells hg
  obtain ⟨es, clock, h2⟩ := h.isMap
  rw [h1] at h2
  cases h2
theorem MRows.touch {F : Nat → Prop} (h : MRows w base bm m D hd B) (t : Touch F w w') (hb : ¬ F bm) (hr : ∀ x g, (hdV (hd x)).ownBlock = some g → ¬ F g) : MRows w' base bm m D hd B :=
  ⟨map_touch h.map t hb, h.fm, fun x => own_touch (h.rows x) t (hr x), h.apart⟩
theorem MRows.below (h : MRows w base bm m D hd B) (hb : Below w.heap.size w w') : MRows w' base bm m D hd B :=
  h.touch (Below.touch hb (fun _ => False)) (fun h => h) (fun _ _ _ h => h)
theorem zero75 (u : World) : (zeroValue 75).run Tryd.prog u = .ok (hdV none) u := Tryd.zeroValue75 u
theorem MRows.look (h : MRows w base bm m D hd B) (x : Id) : (Instr.lookup 115 (.map (some bm)) (idV x) false).run Tryd.prog w = .ok (hdV (hd x)) w := by
  obtain ⟨v, ps, h1, h2⟩ := h.map.lookup keyed26 Tryd.underlying115 (zero75 w) (objElem_mk hdV_inj none) (ok26.val x)
  obtain ⟨a, rfl, h3⟩ := objElem_inv h2
  have h4 : D.atKey (idK x) (.held none) = .held a := congrArg Prod.fst h3
  rw [h.fm x] at h4
  have ha : a = hd x := by
    unfold hdf at h4
    cases e : hd x with
    | none => rw [e] at h4; cases h4; rfl
    | some y => rw [e] at h4; cases h4; rfl
  rw [h1, ha]
theorem MRows.entry (h : MRows w base bm m D hd B) (hm : m < maxLen) (x : Id) :
    ∃ st w1 o1, (Instr.mapEntry 115 (.map (some bm)) (idV x)).run Tryd.prog w = .ok (.tuple #[hdV (hd x), goInt st]) w1 ∧ w.grownBy w1 (some bm) ∧ w1.heap[bm]? = some o1 ∧ (∃ es c, o1 = .map es c) ∧
      ∀ (u : World) (a : Hd), u.heap[bm]? = some o1 → ∃ u2, (Instr.entryStore 115 (.map (some bm)) (goInt st) (hdV a)).run Tryd.prog u = .ok () u2 ∧ u2.ownsMap Tryd.prog 26 (objElem hdV) bm (m + 1) (D.put (idK x) (.held a)) ∧ u.grownBy u2 (some bm) := by
  have hup := fun a => h.map.update (Keyed.of_law law26) Tryd.underlying115 hm (ok26.val x) (objElem_mk hdV_inj a)
  obtain ⟨v0', st', w1', w2', hl, hme, _⟩ := own_entry h.map law26 Tryd.underlying115 (z := hdV none) (fun u => zero75 u) hm (ok26.val x) (objElem_mk hdV_inj none)
  obtain ⟨es, clock, hb, F, hs, hD⟩ := h.map
  obtain ⟨v0, st, es1, clock1, h1, _, h2⟩ := WideElems.entry_then_store law26 Tryd.underlying115 (z := hdV none) (fun u => zero75 u) hb F (ok26.val x)
  have hv : v0 = hdV (hd x) := by
    have e1 := hme.symm.trans h1
    simp only [Result.ok.injEq, Value.tuple.injEq] at e1
    have h9 : #[v0', goInt st'].toList = #[v0, goInt st].toList := congrArg Array.toList e1.1
    have h8 : v0' = v0 := (List.cons.inj h9).1
    have e2 := hl.symm.trans (MRows.look h x)
    simp only [Result.ok.injEq] at e2
    rw [← h8]
    exact e2.1
  subst hv
  refine ⟨st, _, _, h1, ⟨rfl, rfl, rfl, by simp [setBlock], fun i _ hi => heap_setBlock_other hb _ (fun e => hi (by rw [e]))⟩, heap_setBlock_same hb _, ⟨_, _, rfl⟩, fun u a hu => ?_⟩
  obtain ⟨es', clock', h3, h4⟩ := h2 u (hdV a) hu
  obtain ⟨w', hu', ho, _⟩ := hup a
  have e1 : w' = setBlock w bm (.map es' clock') := by
    rw [hu'] at h4
    cases h4
    rfl
  refine ⟨_, h3, ?_, ⟨rfl, rfl, rfl, by simp [setBlock], fun i _ hi => heap_setBlock_other hu _ (fun e => hi (by rw [e]))⟩⟩
  obtain ⟨es2, cl2, g1, g2⟩ := ho
  rw [e1, heap_setBlock_same hb _] at g1
  exact ⟨es2, cl2, (heap_setBlock_same hu _).trans g1, g2⟩
/-- one row more, or another one in its place -/
theorem MRows.put {u2 : World} (h : MRows w base bm m D hd B) {x : Id} {a : Hd} {l : List El} (hmap : u2.ownsMap Tryd.prog 26 (objElem hdV) bm (m + 1) (D.put (idK x) (.held a))) (ha : a ≠ none)
    (hx : u2.ownsRow base 84 4 (hdV a) l.length (l.flatMap elC)) (ho : ∀ y, y ≠ x → u2.ownsRow base 84 4 (hdV (hd y)) (B y).length ((B y).flatMap elC)) (hap : ∀ y, y ≠ x → ∀ g, (hdV a).ownBlock = some g → (hdV (hd y)).ownBlock ≠ some g) :
    MRows u2 base bm (m + 1) (D.put (idK x) (.held a)) (fun y => if y = x then a else hd y) (fun y => if y = x then l else B y) where
  map := hmap
  fm := (h.fm.put ok26 h.map.isMap x a).congr (fun s => by
    unfold hdf
    by_cases e : s = x
    · simp only [if_pos e]
      cases a with
      | none => exact absurd rfl ha
      | some y => rfl
    · simp only [if_neg e])
  rows := fun y => by
    by_cases e : y = x
    · simp only [if_pos e]; exact hx
    · simp only [if_neg e]; exact ho y e
  apart := fun y z hyz g => by
    by_cases e : y = x
    · by_cases e' : z = x
      · exact absurd (e.trans e'.symm) hyz
      · simp only [if_pos e, if_neg e']; exact hap z e' g
    · by_cases e' : z = x
      · simp only [if_neg e, if_pos e']
        intro h1 h2
        exact hap y e g h2 h1
      · simp only [if_neg e, if_neg e']; exact h.apart y z hyz g
/-- a row turned in place -/
theorem MRows.turn {u : World} (h : MRows w base bm m D hd B) {x : Id} {l : List El} (hg : w.grownBy u (hdV (hd x)).ownBlock) (hx : u.ownsRow base 84 4 (hdV (hd x)) l.length (l.flatMap elC)) :
    MRows u base bm m D hd (fun y => if y = x then l else B y) where
  map := h.map.kept hg (by
    intro e
    exact h.ne e.symm rfl)
  fm := h.fm
  rows := fun y => by
    by_cases e : y = x
    · simp only [if_pos e]; rw [e]; exact hx
    · simp only [if_neg e]
      refine (h.rows y).kept hg ?_
      cases hv : (hdV (hd y)).ownBlock with
      | none => exact .inl rfl
      | some g => exact .inr (fun e' => h.apart y x e g hv e'.symm)
  apart := h.apart
end
end Go.Proofs.YtphapjbfaomblaaDoor
