/- Maps whose elements are structs: what they hold, as a function of the key. Plain, over the seat's program. -/
import Derived.Test.YtphapjbfaomblaaM
namespace Go.Proofs.Ytphapjbfaomblaa
open Go Go.RowKit Go.Maps
section
variable {α κ : Type}
open Classical in
noncomputable def objElem (V : α → Value) (v : Value) : Option (DataW α × List MemPlace) := if h : ∃ a, v = V a then some (.held h.choose, []) else none
theorem objElem_mk {V : α → Value} (hi : ∀ {a b}, V a = V b → a = b) (a : α) : objElem V (V a) = some (.held a, []) := by
  unfold objElem
  have h : ∃ b, V a = V b := ⟨a, rfl⟩
  rw [dif_pos h, ← hi h.choose_spec]
theorem objElem_inv {V : α → Value} {v : Value} {z : DataW α × List MemPlace} (h : objElem V v = some z) : ∃ a, v = V a ∧ z = (.held a, []) := by
  unfold objElem at h
  split at h
  · rename_i h1
    cases h
    exact ⟨_, h1.choose_spec, rfl⟩
  · cases h
/-- a map holds what a function of its keys says -/
def FMap (K : κ → Lit) (f : κ → Option α) (D : DataW α) : Prop := ∀ s z, D.atKey (K s) z = match f s with
  | some a => .held a
  | none => z
theorem FMap.start (K : κ → Lit) : FMap K (fun _ => (none : Option α)) (.map []) := fun s z => by simp [DataW.atKey]
theorem FMap.has {K : κ → Lit} {f : κ → Option α} {D : DataW α} (h : FMap K f D) (s : κ) : has D (K s) = (f s).isSome := by
  cases e : f s with
  | some a => exact has_true_of_atKey (y := .held a) (fun z => by rw [h s z, e])
  | none => exact has_false_of_atKey (fun z => by rw [h s z, e])
theorem FMap.put [DecidableEq κ] {k : TypeId} {W : κ → Value} {K : κ → Lit} (ok : KeyOk k W K) {f : κ → Option α} {D : DataW α} (h : FMap K f D) (hD : IsMap D) (x : κ) (a : α) : FMap K (fun s => if s = x then some a else f s) (D.put (K x) (.held a)) := by
  intro s z
  by_cases e : s = x
  · subst e
    rw [atKey_put_same hD (ok.keyed.key (ok.val s))]
    simp
  · rw [atKey_put_other (fun e' => e (ok.inj e')), h s z]
    simp [e]
theorem FMap.congr {K : κ → Lit} {f g : κ → Option α} {D : DataW α} (h : FMap K f D) (e : ∀ s, f s = g s) : FMap K g D := fun s z => by rw [h s z, e s]
theorem obj_look_ok {k t e : TypeId} {W : κ → Value} {K : κ → Lit} (ok : KeyOk k W K) {V : α → Value} (hi : ∀ {a b}, V a = V b → a = b) {w : World} {b n : Nat} {D : DataW α} (h : w.ownsMap Try.prog k (objElem V) b n D) (ht : Try.prog.underlying t = some (.map k e)) (a0 : α) (hz : (zeroValue e).run Try.prog w = .ok (V a0) w)
    {f : κ → Option α} (hF : FMap K f D) (s : κ) : (Instr.lookup t (.map (some b)) (W s) true).run Try.prog w = .ok (.tuple #[V ((f s).getD a0), .bool (f s).isSome]) w := by
  obtain ⟨v, ps, h1, h2⟩ := h.look_ok ok.keyed ht hz (objElem_mk hi a0) (ok.val s)
  obtain ⟨a, rfl, h3⟩ := objElem_inv h2
  rw [hF.has] at h1
  have h4 : D.atKey (K s) (.held a0) = .held a := congrArg Prod.fst h3
  rw [hF s] at h4
  have : a = (f s).getD a0 := by
    cases e : f s with
    | some y => rw [e] at h4; cases h4; rfl
    | none => rw [e] at h4; cases h4; rfl
  rw [this] at h1
  exact h1
end
end Go.Proofs.Ytphapjbfaomblaa
