/- Words for memory: a slice that reads as a list of cells; what stands when new memory is made. -/
import Derived.Below
import Derived.Laws.OwnMore
import Derived.Deep.Draws
import Derived.Lib.Strings
import Derived.Lib.OthersKept
namespace Go.Proofs.Ytjlghmjngiegaaa
open Go Go.RowKit

def ofL (l : List UInt8) : ByteArray := ⟨l.toArray⟩
theorem ofL_toList (l : List UInt8) : (ofL l).data.toList = l := by simp [ofL]
theorem ofL_data (s : ByteArray) : ofL s.data.toList = s := Lib.mk_data s
theorem ofL_size (l : List UInt8) : (ofL l).size = l.length := by rw [Lib.size_eq, ofL_toList]
theorem ofL_inj {l m : List UInt8} (h : ofL l = ofL m) : l = m := by rw [← ofL_toList l, h, ofL_toList]
theorem ofL_extract (l : List UInt8) (a b : Nat) : (ofL l).extract a b = ofL ((l.drop a).take (b - a)) := by
  rw [Lib.extract_eq, ofL_toList]; rfl
theorem ofL_append (l m : List UInt8) : ofL l ++ ofL m = ofL (l ++ m) := by
  apply ByteArray.ext
  simp [ofL]
def str (l : List UInt8) : Value := .string (ofL l)
theorem str_one (ls : List (List UInt8)) : ∀ u ∈ ls.map str, u.oneCell' = true := by
  intro u hu
  obtain ⟨l, _, rfl⟩ := List.mem_map.1 hu
  rfl

/-- the slice value v reads, below block B, as the cells xs: n elements of sz cells each -/
def Rd (w : World) (B sz : Nat) (v : Value) (n : Nat) (xs : List Value) : Prop :=
  xs.length = n * sz ∧ ∃ A c, v = .slice A n c ∧ n ≤ c ∧ c ≤ maxLen ∧ (0 < n → ∃ b o, A = some ⟨b, o, none⟩ ∧ b < B ∧ ∀ j u, xs[j]? = some u → w.cell? ⟨b, o + j, none⟩ = some u)
section
variable {w w' : World} {B B' sz n : Nat} {v : Value} {xs : List Value}
theorem Rd.form (h : Rd w B sz v n xs) : ∃ A c, v = .slice A n c ∧ n ≤ c ∧ c ≤ maxLen := by
  obtain ⟨_, A, c, h1, h2, h3, _⟩ := h
  exact ⟨A, c, h1, h2, h3⟩
theorem Rd.cells {A : Option Addr} {m c : Nat} (h : Rd w B sz (.slice A m c) n xs) (hn : 0 < n) : ∃ b o, A = some ⟨b, o, none⟩ ∧ b < B ∧ ∀ j u, xs[j]? = some u → w.cell? ⟨b, o + j, none⟩ = some u := by
  obtain ⟨_, A', c', h1, _, _, h4⟩ := h
  injection h1 with h1 h2 h3
  subst h1
  exact h4 hn
theorem Rd.len {A : Option Addr} {m c : Nat} (h : Rd w B sz (.slice A m c) n xs) : m = n ∧ n ≤ c ∧ c ≤ maxLen := by
  obtain ⟨_, A', c', h1, h2, h3, _⟩ := h
  injection h1 with h4 h5 h6
  subst h5; subst h6
  exact ⟨rfl, h2, h3⟩
theorem Rd.keep (h : Rd w B sz v n xs) (hk : ∀ p : Addr, p.block < B → w'.cell? p = w.cell? p) : Rd w' B sz v n xs := by
  obtain ⟨h0, A, c, h1, h2, h3, h4⟩ := h
  refine ⟨h0, A, c, h1, h2, h3, fun hn => ?_⟩
  obtain ⟨b, o, e, hb, hc⟩ := h4 hn
  exact ⟨b, o, e, hb, fun j u hu => (hk ⟨b, o + j, none⟩ hb).trans (hc j u hu)⟩
theorem Rd.more (h : Rd w B sz v n xs) (hB : B ≤ B') : Rd w B' sz v n xs := by
  obtain ⟨h0, A, c, h1, h2, h3, h4⟩ := h
  refine ⟨h0, A, c, h1, h2, h3, fun hn => ?_⟩
  obtain ⟨b, o, e, hb, hc⟩ := h4 hn
  exact ⟨b, o, e, by omega, hc⟩
theorem Rd.below (h : Rd w B sz v n xs) (hb : Below B w w') : Rd w' B sz v n xs := h.keep fun _ hp => hb.cell hp
theorem Rd.below' (h : Rd w B sz v n xs) (hb : Below w.heap.size w w') (hB : B ≤ w.heap.size) : Rd w' B sz v n xs := h.keep fun p hp => hb.cell (by omega)
theorem Rd.nil (w : World) (B sz : Nat) : Rd w B sz (.slice none 0 0) 0 [] := ⟨by simp, none, 0, rfl, Nat.le_refl _, Nat.zero_le _, fun h => absurd h (by omega)⟩
theorem Rd.of_own {base : Nat} {e : TypeId} (h : w.ownsRow base e sz v n xs) : Rd w w.heap.size sz v n xs := by
  refine ⟨h.1, ?_⟩
  rcases h.2 with ⟨hv, hn⟩ | ⟨g, cap, cur, hv, hb, hg, hnc, hcm, hcs, ht⟩
  · exact ⟨none, 0, by rw [hv, hn], by omega, Nat.zero_le _, fun h => absurd h (by omega)⟩
  · refine ⟨_, cap, hv, hnc, hcm, fun hn => ⟨g, 0, rfl, (Array.getElem?_eq_some_iff.1 hg).1, fun j u hu => ?_⟩⟩
    have := h.cells (g := g) (by rw [hv]; rfl) j u hu
    rw [Nat.zero_add]
    unfold Addr.add at this
    split at this
    · rename_i h0; subst h0; exact this
    · simpa using this
/-- a part of it -/
theorem Rd.sub {A : Option Addr} {c : Nat} (h : Rd w B sz (.slice A n c) n xs) {i k : Nat} (hi : i ≤ k) (hk : k ≤ n) (A' : Option Addr)
    (hA : 0 < k - i → ∀ b o, A = some ⟨b, o, none⟩ → A' = some ⟨b, o + i * sz, none⟩) {c' : Nat} (hc' : k - i ≤ c') (hm : c' ≤ maxLen) : Rd w B sz (.slice A' (k - i) c') (k - i) ((xs.drop (i * sz)).take ((k - i) * sz)) := by
  have h0 := h.1
  have hle : k * sz ≤ n * sz := Nat.mul_le_mul_right _ hk
  have hle2 : i * sz ≤ k * sz := Nat.mul_le_mul_right _ hi
  refine ⟨by rw [List.length_take, List.length_drop, h0, Nat.sub_mul]; omega, A', c', rfl, hc', hm, fun hn => ?_⟩
  obtain ⟨b, o, e, hb, hcell⟩ := h.cells (by omega)
  refine ⟨b, o + i * sz, hA hn b o e, hb, fun j u hu => ?_⟩
  rw [List.getElem?_take] at hu
  split at hu
  · rw [List.getElem?_drop] at hu
    have := hcell _ u hu
    rw [Nat.add_assoc]
    exact this
  · cases hu
end
theorem below_drewN {B : Nat} {a w : World} (h : Below B a w) (n : Nat) : Below B a (w.drewN n) := ⟨h.os, h.tape, h.output, h.size, h.block⟩
theorem below_iterAt {B : Nat} {a w : World} (h : Below B a w) {k : Nat} (hk : B ≤ k) (s : ByteArray) (pos : Nat) : Below B a (w.iterAt k s pos) := Lib.below_iterAt h hk s pos
/-- a row of the call's own is no iterator -/
theorem own_ne_iter {w : World} {base : Nat} {e : TypeId} {sz n : Nat} {v : Value} {xs : List Value} (h : w.ownsRow base e sz v n xs) {k : Nat} {s : ByteArray} {pos : Nat} (hk : w.heap[k]? = some (.stringIter s pos)) : v.ownBlock ≠ some k := by
  rcases h.2 with ⟨rfl, _⟩ | ⟨g, cap, cur, rfl, _, hg, _⟩
  · simp [Value.ownBlock]
  · intro e1
    simp only [Value.ownBlock, Option.some.injEq] at e1
    subst e1
    rw [hk] at hg
    cases hg
theorem own_iterAt {w : World} {base : Nat} {e : TypeId} {sz n : Nat} {v : Value} {xs : List Value} (h : w.ownsRow base e sz v n xs) {k : Nat} {s : ByteArray} {pos : Nat} (hk : w.heap[k]? = some (.stringIter s pos)) (pos' : Nat) :
    (w.iterAt k s pos').ownsRow base e sz v n xs :=
  h.kept (row := some k) ⟨rfl, rfl, rfl, by rw [Lib.iterAt_size]; exact Nat.le_refl _, fun j _ hj => Lib.iterAt_other w k j s pos' (fun e1 => hj (by rw [e1]))⟩ (.inr (own_ne_iter h hk))
end Go.Proofs.Ytjlghmjngiegaaa
