/- Stamps, ids, dots: their cells; the order of them, as the document's functions compute it. -/
import Derived.WalkLawsBesides
import Derived.WalkKit
import Derived.WalkSpells
import Derived.ProofKit
import Derived.Deep.QuietTactic
import Derived.BigQuiet
import Derived.RegionTactic
import Derived.Lib.Hide
import Derived.Outline
import Derived.Test.YtphapjbfaomblaaProg
import Derived.Test.YtphapjbfaomblaaV1
import Derived.Sort.Grow
import Derived.Laws.Rows
import Derived.StillTailTactics
import Derived.Test.YtphapjbfaomblaaQ
import Derived.Deep.RegionWith
namespace Go.Proofs.Ytphapjbfaomblaa
open Go Go.RowKit
def I64 (x : Int) : Prop := -9223372036854775808 ≤ x ∧ x ≤ 9223372036854775807
instance (x : Int) : Decidable (I64 x) := inferInstanceAs (Decidable (_ ∧ _))
structure Stamp where
  T : Int
  R : Int
  hT : I64 T
  hR : I64 R
deriving DecidableEq
structure Id where
  s : Stamp
  I : Int
  hI : I64 I
deriving DecidableEq
structure Dot where
  n : Id
  b : Stamp
deriving DecidableEq
def stC (x : Stamp) : List Value := [.int .i64 x.T, .int .i64 x.R]
def idC (x : Id) : List Value := [.int .i64 x.s.T, .int .i64 x.s.R, .int .i64 x.I]
def dotC (x : Dot) : List Value := [.int .i64 x.n.s.T, .int .i64 x.n.s.R, .int .i64 x.n.I, .int .i64 x.b.T, .int .i64 x.b.R]
def stV (x : Stamp) : Value := .agg #[.int .i64 x.T, .int .i64 x.R]
def idV (x : Id) : Value := .agg #[.int .i64 x.s.T, .int .i64 x.s.R, .int .i64 x.I]
def dotV (x : Dot) : Value := .agg #[.int .i64 x.n.s.T, .int .i64 x.n.s.R, .int .i64 x.n.I, .int .i64 x.b.T, .int .i64 x.b.R]
def Stamp.lt (a b : Stamp) : Bool := decide (a.T < b.T) || decide (a.T = b.T) && decide (a.R < b.R)
theorem ret_b {a b : Bool} (h : a = b) : Ending.returned (.bool a) = Ending.returned (.bool b) := by rw [h]
theorem ret_i {k : IntKind} {a b : Int} (h : a = b) : Ending.returned (.int k a) = Ending.returned (.int k b) := by rw [h]
/-- the world has grown: draws, new blocks, nothing else -/
def Grows (w w' : World) : Prop := ∃ q os, w' = Sort.grow (w.drewN q) os
theorem Grows.refl (w : World) : Grows w w := ⟨0, #[], by rw [Sort.grow_empty]; rfl⟩
theorem Grows.alloc {w w' : World} (h : Grows w w') (o : Obj) : Grows w (w'.alloc o) := by
  obtain ⟨q, os, rfl⟩ := h
  exact ⟨q, os ++ #[o], by rw [Sort.alloc_eq_grow, Sort.grow_grow]⟩
theorem Grows.drewN {w w' : World} (h : Grows w w') (n : Nat) : Grows w (w'.drewN n) := by
  obtain ⟨q, os, rfl⟩ := h
  exact ⟨q + n, os, by rw [← World.drewN_drewN]; rfl⟩
theorem Grows.trans {a b c : World} (h : Grows a b) (k : Grows b c) : Grows a c := by
  obtain ⟨q, os, rfl⟩ := h
  obtain ⟨q', os', rfl⟩ := k
  refine ⟨q + q', os ++ os', ?_⟩
  rw [← World.drewN_drewN, ← Sort.grow_grow]
  rfl
theorem Grows.below {a b : World} (h : Grows a b) : Below a.heap.size a b := by
  obtain ⟨q, os, rfl⟩ := h
  exact ⟨rfl, rfl, rfl, by rw [Sort.size_grow]; exact Nat.le_add_right _ _, fun i hi => Sort.heap_grow_old (a.drewN q) os hi⟩
theorem bcell {W w1 : World} (hb : Below W.heap.size W w1) : (∀ b o, b < W.heap.size → w1.cell? ⟨b, o, none⟩ = W.cell? ⟨b, o, none⟩) ∧ (∀ b o, b < W.heap.size → w1.frozen? ⟨b, o, none⟩ = W.frozen? ⟨b, o, none⟩) :=
  ⟨fun b o h => hb.cell (p := ⟨b, o, none⟩) h, fun b o h => hb.frozen (p := ⟨b, o, none⟩) h⟩
def Stamp.cmp (a b : Stamp) : Int := if a.lt b then -1 else if b.lt a then 1 else 0
theorem row_grown {w : World} {g : Nat} {cs : Array Value} {t : TypeId} (h : w.heap[g]? = some (.cells cs t (0, 0))) (n : Nat) (os : Array Obj) (i : Nat) : (Sort.grow (w.drewN n) os).cell? ⟨g, i, none⟩ = cs[i]? := by
  rw [Sort.cell?_grow _ _ _ (show g < w.heap.size from (Array.getElem?_eq_some_iff.1 h).1)]
  exact cell_of_row w g i cs t (0, 0) h
theorem grown_of_grows {P : Program} {f : FuncId} {args : Array Value} {w : World} {n : Nat} {os : Array Obj} {v : Value}
    (h : Calls P f args (Sort.grow (w.drewN n) os) fun e w' => e = .returned v ∧ Grows (Sort.grow (w.drewN n) os) w') : Calls P f args (Sort.grow (w.drewN n) os) fun e w'' => e = .returned v ∧ ∃ p : Go.GrownBy, w'' = Sort.grow (w.drewN p.n) p.os :=
  Calls.grown_of (h.mono fun _ _ ⟨h1, q, os', h2⟩ => ⟨h1, q, os', h2⟩)
theorem grown_of_same {P : Program} {f : FuncId} {args : Array Value} {w : World} {n : Nat} {os : Array Obj} {v : Value}
    (h : Calls P f args (Sort.grow (w.drewN n) os) fun e w' => e = .returned v ∧ Sort.grow (w.drewN n) os = w') : Calls P f args (Sort.grow (w.drewN n) os) fun e w'' => e = .returned v ∧ ∃ p : Go.GrownBy, w'' = Sort.grow (w.drewN p.n) p.os :=
  h.mono fun _ _ ⟨h1, h2⟩ => ⟨h1, ⟨n, os⟩, h2.symm⟩
def icmp (a b : Int) : Int := if a < b then -1 else if b < a then 1 else 0
def orI (a b : Int) : Int := if a = 0 then b else a
theorem same_drew {w W : World} {n : Nat} (h : W = w.drewN n) : (∀ b o, W.cell? ⟨b, o, none⟩ = w.cell? ⟨b, o, none⟩) ∧ (∀ b o, W.frozen? ⟨b, o, none⟩ = w.frozen? ⟨b, o, none⟩) := by
  subst h
  exact ⟨fun _ _ => rfl, fun _ _ => rfl⟩
def Id.cmp (a b : Id) : Int := orI (a.s.cmp b.s) (icmp a.I b.I)
end Go.Proofs.Ytphapjbfaomblaa
