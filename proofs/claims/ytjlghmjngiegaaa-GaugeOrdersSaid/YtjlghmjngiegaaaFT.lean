/- Footprints: what a call may have written. Plain, over any program. -/
import Derived.Below
import Derived.Maps.Own
import Derived.Sort.Grow
import Derived.Laws.OwnMore
namespace Go.Proofs.Ytjlghmjngiegaaa
open Go Go.RowKit
/-- all that was there and does not lie in F is as it was -/
structure Touch (F : Nat → Prop) (w w' : World) : Prop where
  os : w'.os = w.os
  tape : w'.tape = w.tape
  output : w'.output = w.output
  size : w.heap.size ≤ w'.heap.size
  block : ∀ k, k < w.heap.size → ¬ F k → w'.heap[k]? = w.heap[k]?
section
variable {F G : Nat → Prop} {w w' a b c : World}
theorem Touch.refl (F : Nat → Prop) (w : World) : Touch F w w := ⟨rfl, rfl, rfl, Nat.le_refl _, fun _ _ _ => rfl⟩
theorem Touch.trans (h : Touch F a b) (k : Touch G b c) (hs : ∀ x, x < a.heap.size → G x → F x) : Touch F a c :=
  ⟨k.os.trans h.os, k.tape.trans h.tape, k.output.trans h.output, Nat.le_trans h.size k.size, fun x hx hn => (k.block x (Nat.lt_of_lt_of_le hx h.size) (fun g => hn (hs x hx g))).trans (h.block x hx hn)⟩
theorem Touch.mono (h : Touch F w w') (hs : ∀ x, x < w.heap.size → F x → G x) : Touch G w w' := ⟨h.os, h.tape, h.output, h.size, fun k hk hn => h.block k hk (fun f => hn (hs k hk f))⟩
theorem Touch.below {n : Nat} (h : Touch F w w') (hn : n ≤ w.heap.size) (hF : ∀ x, x < n → ¬ F x) : Below n w w' := ⟨h.os, h.tape, h.output, h.size, fun k hk => h.block k (Nat.lt_of_lt_of_le hk hn) (hF k hk)⟩
theorem Below.touch (h : Below w.heap.size w w') (F : Nat → Prop) : Touch F w w' := ⟨h.os, h.tape, h.output, h.size, fun k hk _ => h.block k hk⟩
theorem Below.touch' {n : Nat} (h : Below n w w') (hF : ∀ x, x < w.heap.size → n ≤ x → F x) : Touch F w w' := ⟨h.os, h.tape, h.output, h.size, fun k hk hn => h.block k (Nat.lt_of_not_le (fun h' => hn (hF k hk h')))⟩
theorem Touch.drew (h : Touch F a w) : Touch F a w.drew := ⟨h.os, h.tape, h.output, h.size, h.block⟩
theorem Touch.alloc (h : Touch F a w) (o : Obj) : Touch F a (w.alloc o) :=
  h.trans (G := fun _ => False) ⟨rfl, rfl, rfl, by simp, fun k hk _ => Below.heap_alloc _ _ _ hk⟩ (fun _ _ h => h.elim)
theorem Touch.setCell (h : Touch F a w) {p : Addr} (hp : p.block < a.heap.size → F p.block) (u : Value) : Touch F a (w.setCell p u) :=
  h.trans (G := fun x => x = p.block) ⟨rfl, rfl, rfl, by simp [World.setCell], fun k _ hk => Below.heap_setCell _ _ _ _ hk⟩ (fun _ hx e => e ▸ hp (e ▸ hx))
theorem Touch.grown {row : Option Nat} (h : Touch F a w) (hg : w.grownBy w' row) (hr : ∀ k, row = some k → k < a.heap.size → F k) : Touch F a w' :=
  h.trans (G := fun x => row = some x) ⟨hg.os, hg.tape, hg.output, hg.size, fun k hk hn => hg.block k hk (fun e => hn e.symm)⟩ (fun x hx e => hr x e hx)
theorem Touch.cell (h : Touch F w w') {p : Addr} (hp : p.block < w.heap.size) (hF : ¬ F p.block) : w'.cell? p = w.cell? p := World.cell?_of_block (h.block p.block hp hF)
/-- a row that does not lie in the footprint -/
theorem own_touch {base : Nat} {e : TypeId} {size n : Nat} {v : Value} {xs : List Value} (h : w.ownsRow base e size v n xs) (t : Touch F w w') (hF : ∀ g, v.ownBlock = some g → ¬ F g) : w'.ownsRow base e size v n xs := by
  refine ⟨h.1, ?_⟩
  rcases h.2 with h1 | ⟨g, cap, cur, rfl, h2, h3, h4⟩
  · exact .inl h1
  · have hlt : g < w.heap.size := (Array.getElem?_eq_some_iff.1 h3).1
    exact .inr ⟨g, cap, cur, rfl, h2, (t.block g hlt (hF g rfl)).trans h3, h4⟩
theorem map_touch {H : Type} {P : Program} {k : TypeId} {R : Value → Option (DataW H × List MemPlace)} {m n : Nat} {D : DataW H} (h : w.ownsMap P k R m n D) (t : Touch F w w') (hF : ¬ F m) : w'.ownsMap P k R m n D := by
  obtain ⟨es, clock, h1, h2⟩ := h
  have hlt : m < w.heap.size := (Array.getElem?_eq_some_iff.1 h1).1
  exact ⟨es, clock, (t.block m hlt hF).trans h1, h2⟩
theorem block_touch {k : Nat} {o : Obj} (h : w.heap[k]? = some o) (t : Touch F w w') (hF : ¬ F k) : w'.heap[k]? = some o :=
  (t.block k (Array.getElem?_eq_some_iff.1 h).1 hF).trans h
end
end Go.Proofs.Ytjlghmjngiegaaa
