/- A part of a row that comes in, from a place on: as a step of a walk. Plain, over any program. -/
import Derived.Test.YtphapjbfaomblaaDoorZb10
import Derived.Laws.Slices
namespace Go.Proofs.YtphapjbfaomblaaDoor
open Go Go.RowKit
theorem Rd.from {w : World} {B sz n : Nat} {A : Option Addr} {c : Nat} {xs : List Value} (h : Rd w B sz (.slice A n c) n xs) {l : Nat} (hl : l ≤ n) :
    Rd w B sz (sliced A l n c sz) (n - l) (xs.drop (l * sz)) := by
  have h0 := h.1
  have hc := h.len
  have e : (xs.drop (l * sz)).take ((n - l) * sz) = xs.drop (l * sz) := List.take_of_length_le (by rw [List.length_drop, h0, Nat.sub_mul]; exact Nat.le_refl _)
  rw [← e]
  refine h.sub hl (Nat.le_refl _) _ (fun hn b o hA => ?_) (by omega) (by omega)
  rw [if_neg (by omega), hA]
  simp [Addr.add_lit]
theorem wpList_slice_from {P : Program} {w : World} {ops : Array Oper} {rest : List Oper} {o : Oper} {a : Act} {Q : Exit → Act → World → Prop} (hgd : o.guard = none) (x lo : Operand) (t : TypeId)
    (ho : o.op = .slice t x (some lo) none none) (ht : P.underlying t = some (.slice (P.elem t))) (sz : Nat) (hsz : (sizeOf (P.elem t)).run P w = .ok sz w)
    (k : IntKind) (A : Option Addr) (n c l B : Nat) (xs : List Value) (hl : a.eval lo = .int k (l : Int)) (hx : a.eval x = .slice A n c) (hR : Rd w B sz (.slice A n c) n xs) (hln : l ≤ n)
    (h : ∀ A' c', Rd w B sz (.slice A' (n - l) c') (n - l) (xs.drop (l * sz)) → wpList P ops Q rest (a.put o.dst (.slice A' (n - l) c')) w) : wpList P ops Q (o :: rest) a w := by
  have hr := run_slice_l (P := P) w t A n c ht k (l : Int) (by omega) (by omega)
  rw [hsz] at hr
  simp only [Result.andThen, Int.toNat_natCast] at hr
  refine wpList_plain hgd fun _ hK => ?_
  unfold Oper.wp execOp
  simp only [ho, Sem.run_bind, Sem.run_pure, Option.map_some, Option.map_none, hx, hl, run_sliceAt_slice w t _ _ _ _ ht, hr, Result.andThen]
  exact hK _ _ (h _ _ (hR.from hln))
end Go.Proofs.YtphapjbfaomblaaDoor
