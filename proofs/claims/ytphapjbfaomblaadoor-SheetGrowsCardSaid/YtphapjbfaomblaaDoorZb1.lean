/- Texts of this seat, one behind the other: V1, Q, A, M, EG. -/
import Derived.Below
import Derived.Laws.OwnMore
import Derived.Deep.Draws
import Derived.Lib.Strings
import Derived.Lib.OthersKept
import Derived.Shelf.SlSortCmp.QuietGrown
import Derived.StillTail
import Derived.WalkLawsBesides
import Derived.WalkKit
import Derived.WalkSpells
import Derived.ProofKit
import Derived.Deep.QuietTactic
import Derived.BigQuiet
import Derived.RegionTactic
import Derived.Lib.Hide
import Derived.Outline
import Derived.Test.YtphapjbfaomblaaDoorProg
import Derived.Sort.Grow
import Derived.Laws.Rows
import Derived.StillTailTactics
import Derived.Deep.RegionWith
import Derived.DeepKeys4
import Derived.Maps.OwnSet
import Derived.Maps.RangeWalk
import Derived.Maps.Views
/- Words for memory: a slice that reads as a list of cells; what stands when new memory is made. -/
namespace Go.Proofs.YtphapjbfaomblaaDoor
open Go Go.RowKit

def ofL (l : List UInt8) : ByteArray := ⟨l.toArray⟩
theorem ofL_toList (l : List UInt8) : (ofL l).data.toList = l := by simp [ofL]
theorem ofL_data (s : ByteArray) : ofL s.data.toList = s := Lib.mk_data s
theorem ofL_size (l : List UInt8) : (ofL l).size = l.length := by rw [Lib.size_eq, ofL_toList]
theorem ofL_inj {l m : List UInt8} (h : ofL l = ofL m) : l = m := by rw [← ofL_toList l, h, ofL_toList]
theorem ofL_extract (l : List UInt8) (a b : Nat) : (ofL l).extract a b = ofL ((l.drop a).take (b - a)) := by
  rw [Lib.extract_eq, ofL_toList]; rfl
theorem ofL_append (l m : List UInt8) : ofL l ++ ofL m = ofL (l ++ m) := by
  apply ByteArray.ext
  simp [ofL]
def str (l : List UInt8) : Value := .string (ofL l)
theorem str_one (ls : List (List UInt8)) : ∀ u ∈ ls.map str, u.oneCell' = true := by
  intro u hu
  obtain ⟨l, _, rfl⟩ := List.mem_map.1 hu
  rfl

/-- the slice value v reads, below block B, as the cells xs: n elements of sz cells each -/
def Rd (w : World) (B sz : Nat) (v : Value) (n : Nat) (xs : List Value) : Prop :=
  xs.length = n * sz ∧ ∃ A c, v = .slice A n c ∧ n ≤ c ∧ c ≤ maxLen ∧ (0 < n → ∃ b o, A = some ⟨b, o, none⟩ ∧ b < B ∧ ∀ j u, xs[j]? = some u → w.cell? ⟨b, o + j, none⟩ = some u)
section
variable {w w' : World} {B B' sz n : Nat} {v : Value} {xs : List Value}
theorem Rd.form (h : Rd w B sz v n xs) : ∃ A c, v = .slice A n c ∧ n ≤ c ∧ c ≤ maxLen := by
  obtain ⟨_, A, c, h1, h2, h3, _⟩ := h
  exact ⟨A, c, h1, h2, h3⟩
theorem Rd.cells {A : Option Addr} {m c : Nat} (h : Rd w B sz (.slice A m c) n xs) (hn : 0 < n) : ∃ b o, A = some ⟨b, o, none⟩ ∧ b < B ∧ ∀ j u, xs[j]? = some u → w.cell? ⟨b, o + j, none⟩ = some u := by
  obtain ⟨_, A', c', h1, _, _, h4⟩ := h
  injection h1 with h1 h2 h3
  subst h1
  exact h4 hn
theorem Rd.len {A : Option Addr} {m c : Nat} (h : Rd w B sz (.slice A m c) n xs) : m = n ∧ n ≤ c ∧ c ≤ maxLen := by
  obtain ⟨_, A', c', h1, h2, h3, _⟩ := h
  injection h1 with h4 h5 h6
  subst h5; subst h6
  exact ⟨rfl, h2, h3⟩
theorem Rd.keep (h : Rd w B sz v n xs) (hk : ∀ p : Addr, p.block < B → w'.cell? p = w.cell? p) : Rd w' B sz v n xs := by
  obtain ⟨h0, A, c, h1, h2, h3, h4⟩ := h
  refine ⟨h0, A, c, h1, h2, h3, fun hn => ?_⟩
  obtain ⟨b, o, e, hb, hc⟩ := h4 hn
  exact ⟨b, o, e, hb, fun j u hu => (hk ⟨b, o + j, none⟩ hb).trans (hc j u hu)⟩
theorem Rd.more (h : Rd w B sz v n xs) (hB : B ≤ B') : Rd w B' sz v n xs := by
  obtain ⟨h0, A, c, h1, h2, h3, h4⟩ := h
  refine ⟨h0, A, c, h1, h2, h3, fun hn => ?_⟩
  obtain ⟨b, o, e, hb, hc⟩ := h4 hn
  exact ⟨b, o, e, by omega, hc⟩
theorem Rd.below (h : Rd w B sz v n xs) (hb : Below B w w') : Rd w' B sz v n xs := h.keep fun _ hp => hb.cell hp
theorem Rd.below' (h : Rd w B sz v n xs) (hb : Below w.heap.size w w') (hB : B ≤ w.heap.size) : Rd w' B sz v n xs := h.keep fun p hp => hb.cell (by omega)
theorem Rd.nil (w : World) (B sz : Nat) : Rd w B sz (.slice none 0 0) 0 [] := ⟨by simp, none, 0, rfl, Nat.le_refl _, Nat.zero_le _, fun h => absurd h (by omega)⟩
theorem Rd.of_own {base : Nat} {e : TypeId} (h : w.ownsRow base e sz v n xs) : Rd w w.heap.size sz v n xs := by
  refine ⟨h.1, ?_⟩
  rcases h.2 with ⟨hv, hn⟩ | ⟨g, cap, cur, hv, hb, hg, hnc, hcm, hcs, ht⟩
  · exact ⟨none, 0, by rw [hv, hn], by omega, Nat.zero_le _, fun h => absurd h (by omega)⟩
  · refine ⟨_, cap, hv, hnc, hcm, fun hn => ⟨g, 0, rfl, (Array.getElem?_eq_some_iff.1 hg).1, fun j u hu => ?_⟩⟩
    have := h.cells (g := g) (by rw [hv]; rfl) j u hu
    rw [Nat.zero_add]
    unfold Addr.add at this
    split at this
    · rename_i h0; subst h0; exact this
    · simpa using this
/-- a part of it -/
theorem Rd.sub {A : Option Addr} {c : Nat} (h : Rd w B sz (.slice A n c) n xs) {i k : Nat} (hi : i ≤ k) (hk : k ≤ n) (A' : Option Addr)
    (hA : 0 < k - i → ∀ b o, A = some ⟨b, o, none⟩ → A' = some ⟨b, o + i * sz, none⟩) {c' : Nat} (hc' : k - i ≤ c') (hm : c' ≤ maxLen) : Rd w B sz (.slice A' (k - i) c') (k - i) ((xs.drop (i * sz)).take ((k - i) * sz)) := by
  have h0 := h.1
  have hle : k * sz ≤ n * sz := Nat.mul_le_mul_right _ hk
  have hle2 : i * sz ≤ k * sz := Nat.mul_le_mul_right _ hi
  refine ⟨by rw [List.length_take, List.length_drop, h0, Nat.sub_mul]; omega, A', c', rfl, hc', hm, fun hn => ?_⟩
  obtain ⟨b, o, e, hb, hcell⟩ := h.cells (by omega)
  refine ⟨b, o + i * sz, hA hn b o e, hb, fun j u hu => ?_⟩
  rw [List.getElem?_take] at hu
  split at hu
  · rw [List.getElem?_drop] at hu
    have := hcell _ u hu
    rw [Nat.add_assoc]
    exact this
  · cases hu
end
theorem below_drewN {B : Nat} {a w : World} (h : Below B a w) (n : Nat) : Below B a (w.drewN n) := ⟨h.os, h.tape, h.output, h.size, h.block⟩
theorem below_iterAt {B : Nat} {a w : World} (h : Below B a w) {k : Nat} (hk : B ≤ k) (s : ByteArray) (pos : Nat) : Below B a (w.iterAt k s pos) := Lib.below_iterAt h hk s pos
/-- a row of the call's own is no iterator -/
theorem own_ne_iter {w : World} {base : Nat} {e : TypeId} {sz n : Nat} {v : Value} {xs : List Value} (h : w.ownsRow base e sz v n xs) {k : Nat} {s : ByteArray} {pos : Nat} (hk : w.heap[k]? = some (.stringIter s pos)) : v.ownBlock ≠ some k := by
  rcases h.2 with ⟨rfl, _⟩ | ⟨g, cap, cur, rfl, _, hg, _⟩
  · simp [Value.ownBlock]
  · intro e1
    simp only [Value.ownBlock, Option.some.injEq] at e1
    subst e1
    rw [hk] at hg
    cases hg
theorem own_iterAt {w : World} {base : Nat} {e : TypeId} {sz n : Nat} {v : Value} {xs : List Value} (h : w.ownsRow base e sz v n xs) {k : Nat} {s : ByteArray} {pos : Nat} (hk : w.heap[k]? = some (.stringIter s pos)) (pos' : Nat) :
    (w.iterAt k s pos').ownsRow base e sz v n xs :=
  h.kept (row := some k) ⟨rfl, rfl, rfl, by rw [Lib.iterAt_size]; exact Nat.le_refl _, fun j _ hj => Lib.iterAt_other w k j s pos' (fun e1 => hj (by rw [e1]))⟩ (.inr (own_ne_iter h hk))
end Go.Proofs.YtphapjbfaomblaaDoor
/- A region that draws its order, whose head reads and calls (callees may draw and lay blocks), and whose tail stands in one order: one walk. Plain, over any program. -/
namespace Go.Proofs.YtphapjbfaomblaaDoor
open Go Go.Sort
section
variable {P : Program} {ops : Array Oper} {md : Region.Mode} {C : World → Prop}
def wpAnyLQ (P : Program) (md : Region.Mode) (ops : Array Oper) (C : World → Prop) (n : Nat) (L : Array Bool → Act → Prop) : Nat → Array Bool → Act → Prop
  | 0, listed, a => L listed a
  | f + 1, listed, a =>
    Region.ready md ops listed ≠ [] ∧ ∀ i ∈ Region.ready md ops listed, i < n ∧ qOp P ops C i (wpAnyLQ P md ops C n L f (listed.setIfInBounds i true)) a
theorem wpAny_of_headQ {n g : Nat} {L : Array Bool → Act → Prop} {Q' : Exit → Act → World → Prop} (hL : ∀ listed a w, C w → L listed a → wpAny P md ops Q' g listed a w) :
    ∀ (f : Nat) (listed : Array Bool) (a : Act) (w : World), C w → wpAnyLQ P md ops C n L f listed a → wpAny P md ops Q' (f + g) listed a w
  | 0, listed, a, w, hw, h => by rw [Nat.zero_add]; exact hL _ _ _ hw h
  | f + 1, listed, a, w, hw, h => by
    rw [show f + 1 + g = (f + g) + 1 by omega]
    exact ⟨fun h0 => absurd h0 h.1, fun i hi => wpOp_of_qOp hw (fun a' w' hw' h' => wpAny_of_headQ hL f _ a' w' hw' h') (h.2 i hi).2⟩
theorem wpAnyLQ_first {n i : Nat} {oi : Oper} {v : Value} {L : Array Bool → Act → Prop} (hi : ops[i]? = some oi) (hsel : ∀ (j : Nat) (o : Oper) cs b, ops[j]? = some o → o.op ≠ .select cs b)
    (hs : Region.sinkB md ops n = true) (hc : Region.chainB md ops n = true) (hn : n < ops.size) (hin : i < n)
    (hdone : ∀ listed a, L listed a → ∀ j ∈ Region.ready md ops listed, n ≤ j) :
    ∀ (f : Nat) (listed : Array Bool) (a : Act), HeadInv md ops n listed →
      (∀ j oj, ops[j]? = some oj → j ≠ i → listed.getD j true = false → (∀ e ∈ oj.after, Region.binds md e = true → e.on ≠ i) → oi.apart ops oj = true) →
      i ∈ Region.ready md ops listed → YieldsIn P ops C oi v a →
      wpAnyLQ P md ops C n L f (listed.setIfInBounds i true) (a.put oi.dst v) → wpAnyLQ P md ops C n L (f + 1) listed a := by
  intro f
  induction f with
  | zero =>
    intro listed a inv _ hr hy H
    have hun := (mem_ready.1 hr).1
    refine ⟨fun h => (by rw [h] at hr; cases hr), fun j hj => ?_⟩
    have hjn : j < n := by
      rcases Nat.lt_or_ge j n with h | h
      · exact h
      · exact absurd hj (tail_waits hs hc hn inv _ i rfl hin hun j h)
    refine ⟨hjn, ?_⟩
    by_cases hji : j = i
    · subst hji; exact hy.qOp hi H
    · have := hdone _ _ H j (ready_mono hj hji)
      omega
  | succ f ih =>
    intro listed a inv hfree hr hy H
    have hun := (mem_ready.1 hr).1
    refine ⟨fun h => (by rw [h] at hr; cases hr), fun j hj => ?_⟩
    have hjn : j < n := by
      rcases Nat.lt_or_ge j n with h | h
      · exact h
      · exact absurd hj (tail_waits hs hc hn inv _ i rfl hin hun j h)
    refine ⟨hjn, ?_⟩
    by_cases hji : j = i
    · subst hji; exact hy.qOp hi H
    · have h1 := (H.2 j (ready_mono hj hji)).2
      obtain ⟨hjun, oj, hoj, hall⟩ := mem_ready.1 hj
      have hnot : ∀ e ∈ oj.after, Region.binds md e = true → e.on ≠ i := fun e he hb heq => by
        have h1 := hall e he hb
        rw [heq, getD_both hun] at h1
        cases h1
      have h2 := qOp_put hoj (hfree j oj hoj hji hjun hnot) (fun cs b => hsel i oi cs b hi) (fun cs b => hsel j oj cs b hoj) hy h1
      have hfree' : ∀ k ok, ops[k]? = some ok → k ≠ i → (listed.setIfInBounds j true).getD k true = false →
          (∀ e ∈ ok.after, Region.binds md e = true → e.on ≠ i) → oi.apart ops ok = true := fun k ok hk hki hun hno => by
        refine hfree k ok hk hki ?_ hno
        by_cases hjk : j = k
        · subst hjk; exact hjun
        · rw [getD_set_ne true hjk] at hun; exact hun
      refine qOp_mono (fun a' h3 => ih (listed.setIfInBounds j true) a' (inv.set hj hjn) hfree' (ready_mono hr (Ne.symm hji)) h3.1 ?_) h2
      rw [Array.setIfInBounds_comm _ _ hji]
      exact h3.2
theorem wpAnyLQ_lex {n g : Nat} {Lq : Act → Prop} (hsel : Region.noSelect ops = true) (hs : Region.sinkB md ops n = true) (hc : Region.chainB md ops n = true) (hn : n < ops.size) :
    ∀ (l : List Oper) (k : Nat) (listed : Array Bool) (a : Act), (∀ j, j < l.length → l[j]? = ops[k + j]?) → k + l.length = n → HeadInv md ops n listed →
    Region.lexHead md ops g l.length k listed = true → wpQuiet P ops C Lq l a →
    wpAnyLQ P md ops C n (fun listed' a' => Region.seqB md ops g n listed' = true ∧ Lq a') l.length listed a
  | [], k, listed, a, _, hk, _, hB, h => by
    have : k = n := by simpa using hk
    subst this
    exact ⟨by simpa [Region.lexHead] using hB, h⟩
  | o :: l, k, listed, a, hl, hk, inv, hB, h => by
    have h0 : ops[k]? = some o := by simpa using (hl 0 (by simp)).symm
    simp only [List.length_cons, Region.lexHead, Bool.and_eq_true] at hB
    obtain ⟨⟨hr, hf⟩, hB'⟩ := hB
    have hkn : k < n := by simp only [List.length_cons] at hk; omega
    have hr' : k ∈ Region.ready md ops listed := by simpa using hr
    have hst : qOp P ops C k (wpQuiet P ops C Lq l) a := by unfold qOp; simp only [h0]; exact h
    obtain ⟨v, hy, hK⟩ := yieldsIn_of_qOp h0 hst
    exact wpAnyLQ_first h0 (Region.noSelect_spec hsel) hs hc hn hkn (fun listed' a' hL => seqB_ready hL.1) l.length listed a inv (Region.free_spec h0 hf) hr' hy
      (wpAnyLQ_lex hsel hs hc hn l (k + 1) _ _ (fun j hj => by have := hl (j + 1) (by simp; omega); simpa [Nat.add_assoc, Nat.add_comm 1 j] using this) (by simp only [List.length_cons] at hk; omega) (inv.set hr' hkn) hB' hK)
end
theorem region_quiet_tail {P : Program} {C : World → Prop} {id : Nat} {Q : Exit → Act → World → Prop} {a : Act} {w : World} {l : List Oper} (n : Nat) (hm : P.follows .mixedOrders = true) (hB : Region.lexTailB .any l.toArray n = true) (hC : C (w.drewN 1))
    (h : wpQuiet P l.toArray C (fun a' => ∀ w', C w' → wpList P l.toArray Q (l.drop n) a' w') (l.take n) a) : (Code.region id l.toArray true).wp P Q a w := by
  simp only [Region.lexTailB, Bool.and_eq_true, decide_eq_true_eq] at hB
  obtain ⟨⟨⟨⟨hsel, hn⟩, hs⟩, hc⟩, hlex⟩ := hB
  have hn' : n < l.length := by simpa using hn
  have htl : (l.take n).length = n := by simp; omega
  have hdl : (l.drop n).length = l.toArray.size - n := by simp
  have inv0 : HeadInv .any l.toArray n (Array.replicate l.toArray.size false) :=
    ⟨by simp, fun j oj _ hl => (by rw [getD_replicate_false] at hl; cases hl), fun t _ ht => getD_in (by simpa using ht) (getD_replicate_false _ _)⟩
  have H := wpAnyLQ_lex (C := C) (md := .any) (g := l.toArray.size - n) hsel hs hc hn (l.take n) 0 _ a (fun j hj => by
    have hj' : j < n := by rw [htl] at hj; exact hj
    simp [hj']) (by simpa using htl) inv0 (by rw [htl]; exact hlex) h
  refine wp_region_any hm ?_
  have := wpAny_of_headQ (Q' := Q) (g := l.toArray.size - n) (fun listed a' w' hw' hL => by
    have := wpAny_of_seq (md := .any) (Q' := Q) (l.drop n) n listed a' w' (fun j => by simp [List.getElem?_drop]) (by rw [hdl]; exact hL.1) (hL.2 w' hw')
    rwa [hdl] at this) _ _ _ _ hC H
  rw [htl, show n + (l.toArray.size - n) = l.toArray.size by omega] at this
  exact this
/-- .. at the class 'so many draws on, these blocks laid' -/
theorem region_grown_tail {P : Program} {id : Nat} {Q : Exit → Act → World → Prop} {a : Act} {w : World} {l : List Oper} (n : Nat) (hm : P.follows .mixedOrders = true) (hB : Region.lexTailB .any l.toArray n = true)
    (h : wpQuiet P l.toArray (fun w' => ∃ p : GrownBy, w' = grow (w.drewN p.n) p.os) (fun a' => ∀ w', (∃ p : GrownBy, w' = grow (w.drewN p.n) p.os) → wpList P l.toArray Q (l.drop n) a' w') (l.take n) a) : (Code.region id l.toArray true).wp P Q a w :=
  region_quiet_tail n hm hB ⟨⟨1, #[]⟩, by rw [grow_empty]⟩ h
/-- .. that reads alone, the world under one name -/
theorem region_tail {P : Program} {id : Nat} {Q : Exit → Act → World → Prop} {a : Act} {w : World} {l : List Oper} (n : Nat) (hm : P.follows .mixedOrders = true) (hB : Region.lexTailB .any l.toArray n = true)
    (h : ∀ W : World, W = w.drewN 1 → wpStill P l.toArray W (fun a' => wpList P l.toArray Q (l.drop n) a' W) (l.take n) a) : (Code.region id l.toArray true).wp P Q a w :=
  wp_region_still_tail n hm hB (h (w.drewN 1) rfl)
theorem region_grown {P : Program} {id : Nat} {Q : Exit → Act → World → Prop} {a : Act} {w : World} {l : List Oper} (hm : P.follows .mixedOrders = true) (hB : Region.lexB .any l.toArray = true)
    (h : wpQuiet P l.toArray (fun w' => ∃ p : GrownBy, w' = grow (w.drewN p.n) p.os) (fun a' => ∀ w', (∃ p : GrownBy, w' = grow (w.drewN p.n) p.os) → Q .normal a' w') l a) : (Code.region id l.toArray true).wp P Q a w :=
  wp_region_quiet_grown hm hB h
/-- a region that reads alone, the world under one name -/
theorem region_still {P : Program} {id : Nat} {Q : Exit → Act → World → Prop} {a : Act} {w : World} {l : List Oper} (hm : P.follows .mixedOrders = true) (hB : Region.lexB .any l.toArray = true)
    (h : ∀ W : World, W = w.drewN 1 → wpStill P l.toArray W (fun a' => Q .normal a' W) l a) : (Code.region id l.toArray true).wp P Q a w := by
  have := h (w.drewN 1) rfl
  exact wp_region_still_lit hm hB this
end Go.Proofs.YtphapjbfaomblaaDoor
/- Stamps, ids, dots: their cells; the order of them, as the document's functions compute it. -/
namespace Go.Proofs.YtphapjbfaomblaaDoor
open Go Go.RowKit
def I64 (x : Int) : Prop := -9223372036854775808 ≤ x ∧ x ≤ 9223372036854775807
instance (x : Int) : Decidable (I64 x) := inferInstanceAs (Decidable (_ ∧ _))
structure Stamp where
  T : Int
  R : Int
  hT : I64 T
  hR : I64 R
deriving DecidableEq
structure Id where
  s : Stamp
  I : Int
  hI : I64 I
deriving DecidableEq
structure Dot where
  n : Id
  b : Stamp
deriving DecidableEq
def stC (x : Stamp) : List Value := [.int .i64 x.T, .int .i64 x.R]
def idC (x : Id) : List Value := [.int .i64 x.s.T, .int .i64 x.s.R, .int .i64 x.I]
def dotC (x : Dot) : List Value := [.int .i64 x.n.s.T, .int .i64 x.n.s.R, .int .i64 x.n.I, .int .i64 x.b.T, .int .i64 x.b.R]
def stV (x : Stamp) : Value := .agg #[.int .i64 x.T, .int .i64 x.R]
def idV (x : Id) : Value := .agg #[.int .i64 x.s.T, .int .i64 x.s.R, .int .i64 x.I]
def dotV (x : Dot) : Value := .agg #[.int .i64 x.n.s.T, .int .i64 x.n.s.R, .int .i64 x.n.I, .int .i64 x.b.T, .int .i64 x.b.R]
def Stamp.lt (a b : Stamp) : Bool := decide (a.T < b.T) || decide (a.T = b.T) && decide (a.R < b.R)
theorem ret_b {a b : Bool} (h : a = b) : Ending.returned (.bool a) = Ending.returned (.bool b) := by rw [h]
theorem ret_i {k : IntKind} {a b : Int} (h : a = b) : Ending.returned (.int k a) = Ending.returned (.int k b) := by rw [h]
/-- the world has grown: draws, new blocks, nothing else -/
def Grows (w w' : World) : Prop := ∃ q os, w' = Sort.grow (w.drewN q) os
theorem Grows.refl (w : World) : Grows w w := ⟨0, #[], by rw [Sort.grow_empty]; rfl⟩
theorem Grows.alloc {w w' : World} (h : Grows w w') (o : Obj) : Grows w (w'.alloc o) := by
  obtain ⟨q, os, rfl⟩ := h
  exact ⟨q, os ++ #[o], by rw [Sort.alloc_eq_grow, Sort.grow_grow]⟩
theorem Grows.drewN {w w' : World} (h : Grows w w') (n : Nat) : Grows w (w'.drewN n) := by
  obtain ⟨q, os, rfl⟩ := h
  exact ⟨q + n, os, by rw [← World.drewN_drewN]; rfl⟩
theorem Grows.trans {a b c : World} (h : Grows a b) (k : Grows b c) : Grows a c := by
  obtain ⟨q, os, rfl⟩ := h
  obtain ⟨q', os', rfl⟩ := k
  refine ⟨q + q', os ++ os', ?_⟩
  rw [← World.drewN_drewN, ← Sort.grow_grow]
  rfl
theorem Grows.below {a b : World} (h : Grows a b) : Below a.heap.size a b := by
  obtain ⟨q, os, rfl⟩ := h
  exact ⟨rfl, rfl, rfl, by rw [Sort.size_grow]; exact Nat.le_add_right _ _, fun i hi => Sort.heap_grow_old (a.drewN q) os hi⟩
theorem bcell {W w1 : World} (hb : Below W.heap.size W w1) : (∀ b o, b < W.heap.size → w1.cell? ⟨b, o, none⟩ = W.cell? ⟨b, o, none⟩) ∧ (∀ b o, b < W.heap.size → w1.frozen? ⟨b, o, none⟩ = W.frozen? ⟨b, o, none⟩) :=
  ⟨fun b o h => hb.cell (p := ⟨b, o, none⟩) h, fun b o h => hb.frozen (p := ⟨b, o, none⟩) h⟩
set_option maxHeartbeats 400000 in
theorem before_any (a b : Stamp) (w : World) : Calls Tryd.prog 63 #[stV a, stV b] w fun e w' => e = .returned (.bool (a.lt b)) ∧ Grows w w' := by
  obtain ⟨t1, r1, _, _⟩ := a
  obtain ⟨t2, r2, _, _⟩ := b
  unfold stV Stamp.lt
  dsimp only
  go_enter Tryd.func63, Tryd.ntmps63
  go_wp2
  all_goals
    go_ret
    refine ⟨ret_b ?_, ((Grows.refl w).alloc _).alloc _⟩
  all_goals first | rfl | (simp [*]; done) | (simp; omega)
def Stamp.cmp (a b : Stamp) : Int := if a.lt b then -1 else if b.lt a then 1 else 0
set_option maxHeartbeats 400000 in
theorem rcmp_any (a b : Stamp) (w : World) : Calls Tryd.prog 42 #[stV a, stV b] w fun e w' => e = .returned (.int .i64 (a.cmp b)) ∧ Grows w w' := by
  have H1 := Lib.hid (fun w => before_any a b w)
  have H2 := Lib.hid (fun w => before_any b a w)
  have HC := Lib.hid (show a.cmp b = if a.lt b then -1 else if b.lt a then 1 else 0 from rfl)
  generalize a.cmp b = c at *
  generalize a.lt b = x at *
  generalize b.lt a = y at *
  obtain ⟨t1, r1, _, _⟩ := a
  obtain ⟨t2, r2, _, _⟩ := b
  unfold stV at *
  dsimp only at *
  cases x
  · cases y
    all_goals
      go_enter Tryd.func42, Tryd.ntmps42
      go_wp2_with fail
      refine (H1.out _).mono ?_
      rintro e w1 ⟨rfl, hg⟩
      obtain ⟨hc, hf⟩ := bcell hg.below
      go_wp2_with fail
      refine (H2.out _).mono ?_
      rintro e w2 ⟨rfl, hg2⟩
      go_wp2
      go_ret
      exact ⟨ret_i (by rw [HC.out]; simp), ((((Grows.refl w).alloc _).alloc _).trans hg).trans hg2⟩
  · go_enter Tryd.func42, Tryd.ntmps42
    go_wp2_with fail
    refine (H1.out _).mono ?_
    rintro e w1 ⟨rfl, hg⟩
    go_wp2
    go_ret
    exact ⟨ret_i (by rw [HC.out]; simp), (((Grows.refl w).alloc _).alloc _).trans hg⟩
theorem row_grown {w : World} {g : Nat} {cs : Array Value} {t : TypeId} (h : w.heap[g]? = some (.cells cs t (0, 0))) (n : Nat) (os : Array Obj) (i : Nat) : (Sort.grow (w.drewN n) os).cell? ⟨g, i, none⟩ = cs[i]? := by
  rw [Sort.cell?_grow _ _ _ (show g < w.heap.size from (Array.getElem?_eq_some_iff.1 h).1)]
  exact cell_of_row w g i cs t (0, 0) h
theorem grown_of_grows {P : Program} {f : FuncId} {args : Array Value} {w : World} {n : Nat} {os : Array Obj} {v : Value}
    (h : Calls P f args (Sort.grow (w.drewN n) os) fun e w' => e = .returned v ∧ Grows (Sort.grow (w.drewN n) os) w') : Calls P f args (Sort.grow (w.drewN n) os) fun e w'' => e = .returned v ∧ ∃ p : Go.GrownBy, w'' = Sort.grow (w.drewN p.n) p.os :=
  Calls.grown_of (h.mono fun _ _ ⟨h1, q, os', h2⟩ => ⟨h1, q, os', h2⟩)
theorem grown_of_same {P : Program} {f : FuncId} {args : Array Value} {w : World} {n : Nat} {os : Array Obj} {v : Value}
    (h : Calls P f args (Sort.grow (w.drewN n) os) fun e w' => e = .returned v ∧ Sort.grow (w.drewN n) os = w') : Calls P f args (Sort.grow (w.drewN n) os) fun e w'' => e = .returned v ∧ ∃ p : Go.GrownBy, w'' = Sort.grow (w.drewN p.n) p.os :=
  h.mono fun _ _ ⟨h1, h2⟩ => ⟨h1, ⟨n, os⟩, h2.symm⟩
def icmp (a b : Int) : Int := if a < b then -1 else if b < a then 1 else 0
set_option maxHeartbeats 400000 in
theorem isNaN_any (a : Int) (w : World) : Calls Tryd.prog 91 #[.int .i64 a] w fun e w' => e = .returned (.bool false) ∧ w = w' := by
  go_enter Tryd.func91, Tryd.ntmps91
  go_wp2
  go_ret
  exact ⟨rfl, rfl⟩
set_option maxHeartbeats 400000 in
theorem compare_any (a b : Int) (w : World) : Calls Tryd.prog 80 #[.int .i64 a, .int .i64 b] w fun e w' => e = .returned (.int .i64 (icmp a b)) ∧ w = w' := by
  have H1 := Lib.hid (fun a w => isNaN_any a w)
  have HC := Lib.hid (show icmp a b = if a < b then -1 else if b < a then 1 else 0 from rfl)
  generalize icmp a b = c at *
  rcases Int.lt_trichotomy a b with h | h | h
  · have h1 : decide (a < b) = true := by simpa using h
    rw [if_pos h] at HC
    go_enter Tryd.func80, Tryd.ntmps80
    go_wp2_with (go_at_call 91; refine (H1.out _ _).mono ?_; rintro e w' ⟨rfl, rfl⟩)
    go_ret
    exact ⟨ret_i HC.out.symm, rfl⟩
  · subst h
    rw [if_neg (by omega), if_neg (by omega)] at HC
    go_enter Tryd.func80, Tryd.ntmps80
    go_wp2_with (go_at_call 91; refine (H1.out _ _).mono ?_; rintro e w' ⟨rfl, rfl⟩)
    go_ret
    exact ⟨ret_i HC.out.symm, rfl⟩
  · have h1 : decide (a < b) = false := by simp; omega
    rw [if_neg (by omega), if_pos h] at HC
    go_enter Tryd.func80, Tryd.ntmps80
    go_wp2_with (go_at_call 91; refine (H1.out _ _).mono ?_; rintro e w' ⟨rfl, rfl⟩)
    go_ret
    exact ⟨ret_i HC.out.symm, rfl⟩
def orI (a b : Int) : Int := if a = 0 then b else a
set_option maxHeartbeats 400000 in
theorem or2_any (a b : Int) (g : Nat) (w : World) (hg : w.heap[g]? = some (.cells #[.int .i64 a, .int .i64 b] 3 (0, 0))) : Calls Tryd.prog 78 #[.slice (some ⟨g, 0, none⟩) 2 2] w fun e w' => e = .returned (.int .i64 (orI a b)) ∧ w = w' := by
  unfold orI
  have c0 : w.cell? ⟨g, 0, none⟩ = some (.int .i64 a) := cell_of_row w g 0 _ _ _ hg
  have c1 : w.cell? ⟨g, 1, none⟩ = some (.int .i64 b) := cell_of_row w g 1 _ _ _ hg
  clear hg
  by_cases h : a = 0
  · rw [if_pos h]
    subst h
    by_cases h' : b = 0
    · subst h'
      go_enter Tryd.func78, Tryd.ntmps78
      go_wp2
      refine wp_loop_rounds 3 ?_
      rw [rounds_succ]
      go_wp2
      rw [rounds_succ]
      go_wp2
      rw [rounds_succ]
      go_wp2
      go_ret
      exact ⟨rfl, rfl⟩
    · have hb : (b != 0) = true := by simpa using h'
      go_enter Tryd.func78, Tryd.ntmps78
      go_wp2
      refine wp_loop_rounds 3 ?_
      rw [rounds_succ]
      go_wp2
      rw [rounds_succ]
      go_wp2
      go_ret
      exact ⟨rfl, rfl⟩
  · rw [if_neg h]
    have ha : (a != 0) = true := by simpa using h
    go_enter Tryd.func78, Tryd.ntmps78
    go_wp2
    refine wp_loop_rounds 3 ?_
    rw [rounds_succ]
    go_wp2
    go_ret
    exact ⟨rfl, rfl⟩
theorem same_drew {w W : World} {n : Nat} (h : W = w.drewN n) : (∀ b o, W.cell? ⟨b, o, none⟩ = w.cell? ⟨b, o, none⟩) ∧ (∀ b o, W.frozen? ⟨b, o, none⟩ = w.frozen? ⟨b, o, none⟩) := by
  subst h
  exact ⟨fun _ _ => rfl, fun _ _ => rfl⟩
theorem cmp_or (a b : Stamp) : orI (icmp a.T b.T) (icmp a.R b.R) = a.cmp b := by
  unfold orI icmp Stamp.cmp Stamp.lt
  simp only [Bool.or_eq_true, Bool.and_eq_true, decide_eq_true_eq]
  repeat' split
  all_goals omega
set_option maxRecDepth 100000 in
set_option maxHeartbeats 400000 in
theorem scmp_any (a b : Stamp) (w : World) : Calls Tryd.prog 79 #[stV a, stV b] w fun e w' => e = .returned (.int .i64 (a.cmp b)) ∧ Grows w w' := by
  have HF := Lib.hid (cmp_or a b)
  generalize a.cmp b = r at *
  obtain ⟨t1, r1, _, _⟩ := a
  obtain ⟨t2, r2, _, _⟩ := b
  have HC := Lib.hid (fun a b w => compare_any a b w)
  unfold stV
  dsimp only at HF ⊢
  go_enter Tryd.func79, Tryd.ntmps79
  go_wp2
  refine region_tail 10 (by kernel_rfl) (by kernel_rfl) ?_
  intro W hW
  obtain ⟨hc, hf⟩ := same_drew hW
  have hg : Grows w W := by rw [hW]; exact (((Grows.refl w).alloc _).alloc _).drewN 1
  clear hW
  simp only [List.take_succ_cons, List.take_zero, List.drop_succ_cons, List.drop_zero]
  repeat still_step
  still_call ((HC.out _ _ _).mono fun _ _ h => ⟨h.1, h.2.symm⟩)
  repeat still_step
  still_call ((HC.out _ _ _).mono fun _ _ h => ⟨h.1, h.2.symm⟩)
  refine wpStill_nil ?_
  go_wp2_with fail
  refine (or2_any _ _ _ _ (heap_alloc_new W _)).mono ?_
  rintro e w' ⟨rfl, rfl⟩
  go_wp2
  go_ret
  exact ⟨ret_i HF.out, hg.alloc _⟩
def Id.cmp (a b : Id) : Int := orI (a.s.cmp b.s) (icmp a.I b.I)
set_option maxRecDepth 100000 in
set_option maxHeartbeats 400000 in
theorem scmpId_any (a b : Id) (w : World) : Calls Tryd.prog 68 #[idV a, idV b] w fun e w' => e = .returned (.int .i64 (a.cmp b)) ∧ Grows w w' := by
  have HS := Lib.hid (fun w => scmp_any a.s b.s w)
  have HC := Lib.hid (fun a b w => compare_any a b w)
  have HF := Lib.hid (show a.cmp b = orI (a.s.cmp b.s) (icmp a.I b.I) from rfl)
  generalize a.cmp b = r at *
  generalize a.s.cmp b.s = x at *
  obtain ⟨⟨t1, r1, _, _⟩, i1, _⟩ := a
  obtain ⟨⟨t2, r2, _, _⟩, i2, _⟩ := b
  unfold idV
  unfold stV at HS
  dsimp only at HF HS ⊢
  go_enter Tryd.func68, Tryd.ntmps68
  go_wp2
  obtain ⟨W0, hW0⟩ : ∃ W, ((w.alloc (.cells #[.int .i64 t1, .int .i64 r1, .int .i64 i1] 26)).alloc (.cells #[.int .i64 t2, .int .i64 r2, .int .i64 i2] 26)) = W := ⟨_, rfl⟩
  have hg : Grows w W0 := by rw [← hW0]; exact ((Grows.refl w).alloc _).alloc _
  have hb1 : W0.heap[w.heap.size]? = some (.cells #[.int .i64 t1, .int .i64 r1, .int .i64 i1] 26 (0, 0)) := by rw [← hW0]; exact (Below.heap_alloc _ _ _ (by simp)).trans (heap_alloc_new w _)
  have hb2 : W0.heap[w.heap.size + 1]? = some (.cells #[.int .i64 t2, .int .i64 r2, .int .i64 i2] 26 (0, 0)) := by
    rw [← hW0]
    have := heap_alloc_new (w.alloc (.cells #[.int .i64 t1, .int .i64 r1, .int .i64 i1] 26)) (.cells #[.int .i64 t2, .int .i64 r2, .int .i64 i2] 26)
    simpa using this
  rw [hW0]
  have f1 := fun n os => row_grown hb1 n os 0
  have f2 := fun n os => row_grown hb1 n os 1
  have f3 := fun n os => row_grown hb1 n os 2
  have g1 := fun n os => row_grown hb2 n os 0
  have g2 := fun n os => row_grown hb2 n os 1
  have g3 := fun n os => row_grown hb2 n os 2
  clear hW0 hb1 hb2
  refine region_grown_tail 10 (by kernel_rfl) (by kernel_rfl) ?_
  simp only [List.take_succ_cons, List.take_zero, List.drop_succ_cons, List.drop_zero]
  repeat (quiet_step (first | (go_at_call 79; exact grown_of_grows (HS.out _)) | (go_at_call 80; exact grown_of_same (HC.out _ _ _))))
  refine wpQuiet_nil ?_
  rintro W ⟨⟨n, os⟩, hW⟩
  have hg2 : Grows w W := by rw [hW]; exact hg.trans ⟨n, os, rfl⟩
  clear hW
  go_wp2_with fail
  refine (or2_any _ _ _ _ (heap_alloc_new W _)).mono ?_
  rintro e w' ⟨rfl, rfl⟩
  go_wp2
  go_ret
  exact ⟨ret_i HF.out.symm, hg2.alloc _⟩
set_option maxHeartbeats 400000 in
theorem rcmpId_any (a b : Id) (w : World) : Calls Tryd.prog 17 #[idV a, idV b] w fun e w' => e = .returned (.int .i64 (a.cmp b)) ∧ Grows w w' := by
  have HS := Lib.hid (fun w => rcmp_any a.s b.s w)
  have HF := Lib.hid (show a.cmp b = orI (a.s.cmp b.s) (icmp a.I b.I) from rfl)
  generalize a.cmp b = r at *
  generalize a.s.cmp b.s = x at *
  obtain ⟨⟨t1, r1, _, _⟩, i1, _⟩ := a
  obtain ⟨⟨t2, r2, _, _⟩, i2, _⟩ := b
  unfold idV
  unfold stV at HS
  unfold orI icmp at HF
  dsimp only at HF HS ⊢
  by_cases hx : x = 0
  · subst hx
    rw [if_pos rfl] at HF
    rcases Int.lt_trichotomy i1 i2 with h | h | h
    · have h1 : decide (i1 < i2) = true := by simpa using h
      rw [if_pos h] at HF
      go_enter Tryd.func17, Tryd.ntmps17
      go_wp2_with fail
      refine (HS.out _).mono ?_
      rintro e w1 ⟨rfl, hg⟩
      obtain ⟨hc, hf⟩ := bcell hg.below
      go_wp2
      go_ret
      exact ⟨ret_i HF.out.symm, (((Grows.refl w).alloc _).alloc _).trans hg⟩
    · subst h
      rw [if_neg (by omega), if_neg (by omega)] at HF
      go_enter Tryd.func17, Tryd.ntmps17
      go_wp2_with fail
      refine (HS.out _).mono ?_
      rintro e w1 ⟨rfl, hg⟩
      obtain ⟨hc, hf⟩ := bcell hg.below
      go_wp2
      go_ret
      exact ⟨ret_i HF.out.symm, (((Grows.refl w).alloc _).alloc _).trans hg⟩
    · have h1 : decide (i1 < i2) = false := by simp; omega
      rw [if_neg (by omega), if_pos h] at HF
      go_enter Tryd.func17, Tryd.ntmps17
      go_wp2_with fail
      refine (HS.out _).mono ?_
      rintro e w1 ⟨rfl, hg⟩
      obtain ⟨hc, hf⟩ := bcell hg.below
      go_wp2
      go_ret
      exact ⟨ret_i HF.out.symm, (((Grows.refl w).alloc _).alloc _).trans hg⟩
  · rw [if_neg hx] at HF
    have h0 : (x != 0) = true := by simpa using hx
    go_enter Tryd.func17, Tryd.ntmps17
    go_wp2_with fail
    refine (HS.out _).mono ?_
    rintro e w1 ⟨rfl, hg⟩
    go_wp2
    go_ret
    exact ⟨ret_i HF.out.symm, (((Grows.refl w).alloc _).alloc _).trans hg⟩
end Go.Proofs.YtphapjbfaomblaaDoor
/- Maps keyed by stamps, ids and dots. -/
namespace Go.Proofs.YtphapjbfaomblaaDoor
open Go Go.RowKit Go.Maps
theorem laidOut : laidOutB Tryd.prog = true := by kernel_rfl
theorem krow24 : (24 : TypeId) < Tryd.prog.types.size := of_decide_eq_true (by kernel_rfl)
theorem krow26 : (26 : TypeId) < Tryd.prog.types.size := of_decide_eq_true (by kernel_rfl)
theorem ka24 : Tryd.prog.keyTypeAt 4 24 = true := by kernel_rfl
theorem ka26 : Tryd.prog.keyTypeAt 4 26 = true := by kernel_rfl
theorem keyed24 : Keyed Tryd.prog 24 := Keyed.of_law (deep_law_laid laidOut (m := 4) (by omega) krow24 ka24 (by rw [Tryd.underlying24]))
theorem keyed26 : Keyed Tryd.prog 26 := Keyed.of_law (deep_law_laid laidOut (m := 4) (by omega) krow26 ka26 (by rw [Tryd.underlying26]))
theorem kt24 : Tryd.prog.keyType 24 = true := by kernel_rfl
theorem kt26 : Tryd.prog.keyType 26 = true := by kernel_rfl
theorem co24 : Tryd.prog.cellsOf 24 = 2 := by kernel_rfl
theorem co26 : Tryd.prog.cellsOf 26 = 3 := by kernel_rfl
theorem co3 : Tryd.prog.cellsOf 3 = 1 := by kernel_rfl
theorem tysz : ∃ m, Tryd.prog.types.size = m + 6 := ⟨_, rfl⟩
theorem wf64 (a : Int) : ((Lit.int .i64 a).wf = true) ↔ I64 a := by
  have h1 : IntKind.i64.min = -9223372036854775808 := rfl
  unfold I64 Lit.wf
  simp [h1]
theorem lits3 (m : Nat) {a : Int} (ha : I64 a) : Tryd.prog.keyLits (m + 1) 3 [.int .i64 a] = some [.int .i64 a] := by
  unfold Program.keyLits
  simp [Tryd.underlying3, (wf64 a).2 ha]
theorem lits24 (m : Nat) {a b : Int} (ha : I64 a) (hb : I64 b) : Tryd.prog.keyLits (m + 2) 24 [.int .i64 a, .int .i64 b] = some [.int .i64 a, .int .i64 b] := by
  unfold Program.keyLits
  simp only [Tryd.underlying24]
  simp [co24, co3, Program.keyLits, Tryd.underlying3, (wf64 a).2 ha, (wf64 b).2 hb]
theorem lits26 (m : Nat) {a b c : Int} (ha : I64 a) (hb : I64 b) (hc : I64 c) : Tryd.prog.keyLits (m + 3) 26 [.int .i64 a, .int .i64 b, .int .i64 c] = some [.int .i64 a, .int .i64 b, .int .i64 c] := by
  have h := lits24 m ha hb
  have h3 := lits3 (m + 1) hc
  unfold Program.keyLits
  simp only [Tryd.underlying26]
  simp [co26, co24, co3, h, h3]
def stK (s : Stamp) : Lit := .string (keyBytes [.int .i64 s.T, .int .i64 s.R])
def idK (x : Id) : Lit := .string (keyBytes [.int .i64 x.s.T, .int .i64 x.s.R, .int .i64 x.I])
theorem key24 (s : Stamp) : keyOf Tryd.prog 24 (stV s) = some (stK s) := by
  obtain ⟨m, hm⟩ := tysz
  unfold keyOf stV
  simp only [Tryd.underlying24]
  rw [if_pos (by simp [kt24, Value.formed, Tryd.underlying24, co24]), hm, show m + 6 + 1 = m + 5 + 2 from rfl]
  simp only [Value.cells]
  rw [lits24 _ s.hT s.hR]
  rfl
theorem key26 (x : Id) : keyOf Tryd.prog 26 (idV x) = some (idK x) := by
  obtain ⟨m, hm⟩ := tysz
  unfold keyOf idV
  simp only [Tryd.underlying26]
  rw [if_pos (by simp [kt26, Value.formed, Tryd.underlying26, co26]), hm, show m + 6 + 1 = m + 4 + 3 from rfl]
  simp only [Value.cells]
  rw [lits26 _ x.s.hT x.s.hR x.hI]
  rfl
theorem lits3_inv {m : Nat} {c : Value} {ls : List Lit} (h : Tryd.prog.keyLits (m + 1) 3 [c] = some ls) : ∃ n, c = .int .i64 n ∧ I64 n ∧ ls = [.int .i64 n] := by
  unfold Program.keyLits at h
  cases c <;> simp [Tryd.underlying3] at h
  rename_i q n
  obtain ⟨⟨rfl, hw⟩, rfl⟩ := h
  exact ⟨n, rfl, (wf64 n).1 hw, rfl⟩
theorem lits24_inv {m : Nat} {c0 c1 : Value} {ls : List Lit} (h : Tryd.prog.keyLits (m + 2) 24 [c0, c1] = some ls) : ∃ a b, c0 = .int .i64 a ∧ c1 = .int .i64 b ∧ I64 a ∧ I64 b := by
  unfold Program.keyLits at h
  simp only [Tryd.underlying24] at h
  simp [co24, co3, Option.bind_eq_some_iff] at h
  obtain ⟨l0, h0, _, ⟨l1, h1, _⟩, _⟩ := h
  obtain ⟨a, rfl, ha, _⟩ := lits3_inv h0
  obtain ⟨b, rfl, hb, _⟩ := lits3_inv h1
  exact ⟨a, b, rfl, rfl, ha, hb⟩
theorem lits26_inv {m : Nat} {c0 c1 c2 : Value} {ls : List Lit} (h : Tryd.prog.keyLits (m + 3) 26 [c0, c1, c2] = some ls) : ∃ a b c, c0 = .int .i64 a ∧ c1 = .int .i64 b ∧ c2 = .int .i64 c ∧ I64 a ∧ I64 b ∧ I64 c := by
  unfold Program.keyLits at h
  simp only [Tryd.underlying26] at h
  simp [co26, co24, co3, Option.bind_eq_some_iff] at h
  obtain ⟨l0, h0, _, ⟨l1, h1, _⟩, _⟩ := h
  obtain ⟨a, b, rfl, rfl, ha, hb⟩ := lits24_inv h0
  obtain ⟨c, rfl, hc, _⟩ := lits3_inv h1
  exact ⟨a, b, c, rfl, rfl, rfl, ha, hb, hc⟩
theorem formed_agg {k : TypeId} {fs : Array Field} (hu : Tryd.prog.underlying k = some (.struct fs)) {v : Value} (h : v.formed Tryd.prog k = true) : ∃ cs : Array Value, v = .agg cs ∧ cs.size = Tryd.prog.cellsOf k := by
  cases v <;> simp [Value.formed, hu] at h
  exact ⟨_, rfl, h⟩
theorem key_parts {k : TypeId} {fs : Array Field} (hu : Tryd.prog.underlying k = some (.struct fs)) {v : Value} {l : Lit} (h : keyOf Tryd.prog k v = some l) :
    ∃ cs : Array Value, v = .agg cs ∧ cs.size = Tryd.prog.cellsOf k ∧ ∃ ls, Tryd.prog.keyLits (Tryd.prog.types.size + 1) k cs.toList = some ls := by
  unfold keyOf at h
  simp only [hu] at h
  split at h
  · rename_i hc
    simp only [Bool.and_eq_true] at hc
    obtain ⟨cs, rfl, hs⟩ := formed_agg hu hc.2
    simp only [Option.map_eq_some_iff] at h
    obtain ⟨ls, h1, _⟩ := h
    exact ⟨cs, rfl, hs, ls, h1⟩
  · cases h
theorem len2 {α : Type} {l : List α} (h : l.length = 2) : ∃ a b, l = [a, b] := by
  match l, h with
  | [a, b], _ => exact ⟨a, b, rfl⟩
theorem len3 {α : Type} {l : List α} (h : l.length = 3) : ∃ a b c, l = [a, b, c] := by
  match l, h with
  | [a, b, c], _ => exact ⟨a, b, c, rfl⟩
theorem key24_inv {v : Value} {l : Lit} (h : keyOf Tryd.prog 24 v = some l) : ∃ s : Stamp, v = stV s ∧ l = stK s := by
  obtain ⟨cs, rfl, hs, ls, hl⟩ := key_parts Tryd.underlying24 h
  obtain ⟨m, hm⟩ := tysz
  rw [co24] at hs
  obtain ⟨cs⟩ := cs
  obtain ⟨c0, c1, rfl⟩ := len2 (show cs.length = 2 from hs)
  · skip
    rw [hm, show m + 6 + 1 = m + 5 + 2 from rfl] at hl
    obtain ⟨a, b, rfl, rfl, ha, hb⟩ := lits24_inv hl
    refine ⟨⟨a, b, ha, hb⟩, rfl, ?_⟩
    have := key24 ⟨a, b, ha, hb⟩
    exact Option.some.inj (h.symm.trans this)
theorem key26_inv {v : Value} {l : Lit} (h : keyOf Tryd.prog 26 v = some l) : ∃ x : Id, v = idV x ∧ l = idK x := by
  obtain ⟨cs, rfl, hs, ls, hl⟩ := key_parts Tryd.underlying26 h
  obtain ⟨m, hm⟩ := tysz
  rw [co26] at hs
  obtain ⟨cs⟩ := cs
  obtain ⟨c0, c1, c2, rfl⟩ := len3 (show cs.length = 3 from hs)
  · skip
    rw [hm, show m + 6 + 1 = m + 4 + 3 from rfl] at hl
    obtain ⟨a, b, c, rfl, rfl, rfl, ha, hb, hc⟩ := lits26_inv hl
    refine ⟨⟨⟨a, b, ha, hb⟩, c, hc⟩, rfl, ?_⟩
    have := key26 ⟨⟨a, b, ha, hb⟩, c, hc⟩
    exact Option.some.inj (h.symm.trans this)
theorem stV_inj {a b : Stamp} (h : stV a = stV b) : a = b := by
  obtain ⟨a1, a2, _, _⟩ := a
  obtain ⟨b1, b2, _, _⟩ := b
  simpa [stV] using h
theorem idV_inj {a b : Id} (h : idV a = idV b) : a = b := by
  obtain ⟨⟨a1, a2, _, _⟩, a3, _⟩ := a
  obtain ⟨⟨b1, b2, _, _⟩, b3, _⟩ := b
  simpa [idV, and_assoc] using h
theorem stK_inj {a b : Stamp} (h : stK a = stK b) : a = b := stV_inj (keyed24.inj (key24 a) (h ▸ key24 b))
theorem idK_inj {a b : Id} (h : idK a = idK b) : a = b := idV_inj (keyed26.inj (key26 a) (h ▸ key26 b))
/-- a type of keys: its values, what they read as -/
structure KeyOk {α : Type} (k : TypeId) (V : α → Value) (L : α → Lit) : Prop where
  keyed : Keyed Tryd.prog k
  val : ∀ a, keyOf Tryd.prog k (V a) = some (L a)
  inv : ∀ {v l}, keyOf Tryd.prog k v = some l → ∃ a, v = V a ∧ l = L a
  inj : ∀ {a b}, L a = L b → a = b
  vinj : ∀ {a b}, V a = V b → a = b
theorem ok24 : KeyOk 24 stV stK := ⟨keyed24, key24, key24_inv, stK_inj, stV_inj⟩
theorem ok26 : KeyOk 26 idV idK := ⟨keyed26, key26, key26_inv, idK_inj, idV_inj⟩
section
variable {α : Type} {k : TypeId} {V : α → Value} {L : α → Lit} {H : Type}
theorem KeyOk.same_self (K : KeyOk k V L) (a : α) : (L a).sameKey (L a) = true := WideAt.sameKey_self (K.keyed.key (K.val a))
theorem KeyOk.same_ne (K : KeyOk k V L) {a b : α} (h : a ≠ b) : (L a).sameKey (L b) = false := by
  rcases e : (L a).sameKey (L b) with _ | _
  · rfl
  · exact absurd (K.inj (WideAt.sameKey_eq e)) h
theorem KeyOk.has_put [DecidableEq α] (K : KeyOk k V L) {D : DataW H} (hD : IsMap D) (a b : α) (d : DataW H) : has (D.put (L a) d) (L b) = (decide (b = a) || has D (L b)) := by
  by_cases h : b = a
  · subst h
    rw [has_put_same hD (K.keyed.key (K.val b))]
    simp
  · rw [has_put_other (fun e => h (K.inj e))]
    simp [h]
theorem KeyOk.has_del [DecidableEq α] (K : KeyOk k V L) {D : DataW H} (a b : α) : has (D.del (L a)) (L b) = (!decide (b = a) && has D (L b)) := by
  by_cases h : b = a
  · subst h
    rw [has_del_same]
    simp
  · rw [has_del_other (fun e => h (K.inj e))]
    simp [h]
/-- what has come of a map's keys -/
def Come (L : α → Lit) (D0 : DataW H) (left : Lit → Bool) (ss : List α) : Prop := ss.Nodup ∧ ∀ x, x ∈ ss ↔ (has D0 (L x) = true ∧ left (L x) = false)
theorem Come.start (L : α → Lit) (D0 : DataW H) : Come L D0 (has D0) [] := ⟨List.nodup_nil, fun x => by cases has D0 (L x) <;> simp⟩
theorem Come.step (K : KeyOk k V L) {D0 : DataW H} {left : Lit → Bool} {ss : List α} (h : Come L D0 left ss) {x : α} {y : DataW H} (hlk : left (L x) = true) (hat : ∀ zd, D0.atKey (L x) zd = y) :
    Come L D0 (fun z => left z && !z.sameKey (L x)) (ss ++ [x]) := by
  have hhas : has D0 (L x) = true := has_true_of_atKey hat
  have hnew : x ∉ ss := fun hx => by have := ((h.2 x).1 hx).2; rw [hlk] at this; cases this
  refine ⟨List.nodup_append.2 ⟨h.1, by simp, fun a ha b hb => by simp at hb; subst hb; exact fun e => hnew (e ▸ ha)⟩, fun y => ?_⟩
  by_cases hy : y = x
  · subst hy
    simp [hhas, K.same_self]
  · simp [h.2 y, hy, K.same_ne hy]
end
end Go.Proofs.YtphapjbfaomblaaDoor
/- Maps whose elements are structs: what they hold, as a function of the key. Plain, over the seat's program. -/
namespace Go.Proofs.YtphapjbfaomblaaDoor
open Go Go.RowKit Go.Maps
section
variable {α κ : Type}
open Classical in
noncomputable def objElem (V : α → Value) (v : Value) : Option (DataW α × List MemPlace) := if h : ∃ a, v = V a then some (.held h.choose, []) else none
theorem objElem_mk {V : α → Value} (hi : ∀ {a b}, V a = V b → a = b) (a : α) : objElem V (V a) = some (.held a, []) := by
  unfold objElem
  have h : ∃ b, V a = V b := ⟨a, rfl⟩
  rw [dif_pos h, ← hi h.choose_spec]
theorem objElem_inv {V : α → Value} {v : Value} {z : DataW α × List MemPlace} (h : objElem V v = some z) : ∃ a, v = V a ∧ z = (.held a, []) := by
  unfold objElem at h
  split at h
  · rename_i h1
    cases h
    exact ⟨_, h1.choose_spec, rfl⟩
  · cases h
/-- a map holds what a function of its keys says -/
def FMap (K : κ → Lit) (f : κ → Option α) (D : DataW α) : Prop := ∀ s z, D.atKey (K s) z = match f s with
  | some a => .held a
  | none => z
theorem FMap.start (K : κ → Lit) : FMap K (fun _ => (none : Option α)) (.map []) := fun s z => by simp [DataW.atKey]
theorem FMap.has {K : κ → Lit} {f : κ → Option α} {D : DataW α} (h : FMap K f D) (s : κ) : has D (K s) = (f s).isSome := by
  cases e : f s with
  | some a => exact has_true_of_atKey (y := .held a) (fun z => by rw [h s z, e])
  | none => exact has_false_of_atKey (fun z => by rw [h s z, e])
theorem FMap.put [DecidableEq κ] {k : TypeId} {W : κ → Value} {K : κ → Lit} (ok : KeyOk k W K) {f : κ → Option α} {D : DataW α} (h : FMap K f D) (hD : IsMap D) (x : κ) (a : α) : FMap K (fun s => if s = x then some a else f s) (D.put (K x) (.held a)) := by
  intro s z
  by_cases e : s = x
  · subst e
    rw [atKey_put_same hD (ok.keyed.key (ok.val s))]
    simp
  · rw [atKey_put_other (fun e' => e (ok.inj e')), h s z]
    simp [e]
theorem FMap.congr {K : κ → Lit} {f g : κ → Option α} {D : DataW α} (h : FMap K f D) (e : ∀ s, f s = g s) : FMap K g D := fun s z => by rw [h s z, e s]
theorem obj_look_ok {k t e : TypeId} {W : κ → Value} {K : κ → Lit} (ok : KeyOk k W K) {V : α → Value} (hi : ∀ {a b}, V a = V b → a = b) {w : World} {b n : Nat} {D : DataW α} (h : w.ownsMap Tryd.prog k (objElem V) b n D) (ht : Tryd.prog.underlying t = some (.map k e)) (a0 : α) (hz : (zeroValue e).run Tryd.prog w = .ok (V a0) w)
    {f : κ → Option α} (hF : FMap K f D) (s : κ) : (Instr.lookup t (.map (some b)) (W s) true).run Tryd.prog w = .ok (.tuple #[V ((f s).getD a0), .bool (f s).isSome]) w := by
  obtain ⟨v, ps, h1, h2⟩ := h.look_ok ok.keyed ht hz (objElem_mk hi a0) (ok.val s)
  obtain ⟨a, rfl, h3⟩ := objElem_inv h2
  rw [hF.has] at h1
  have h4 : D.atKey (K s) (.held a0) = .held a := congrArg Prod.fst h3
  rw [hF s] at h4
  have : a = (f s).getD a0 := by
    cases e : f s with
    | some y => rw [e] at h4; cases h4; rfl
    | none => rw [e] at h4; cases h4; rfl
  rw [this] at h1
  exact h1
end
end Go.Proofs.YtphapjbfaomblaaDoor
