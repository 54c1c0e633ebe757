/- Texts of this seat, one behind the other: GA, FT, R, GB. -/
import Derived.Test.YtphapjbfaomblaaDoorZb2
import Derived.Test.YtphapjbfaomblaaDoorZb1
import Derived.Below
import Derived.Maps.Own
import Derived.Sort.Grow
import Derived.Laws.OwnMore
import Derived.Laws.IdiomCopy
import Derived.Laws.Rows
import Derived.Maps.AppendAt
/- Runs as elements; the first of each name; what stands behind each one. Plain. -/
namespace Go.Proofs.YtphapjbfaomblaaDoor
open Go
/-! the first of each key -/
section
variable {α κ : Type} [DecidableEq κ]
def FirstK (key : α → κ) (l : List α) (h : α) : Prop := l.find? (fun g => decide (key g = key h)) = some h
variable {key : α → κ}
theorem firstK_mem {l : List α} {h : α} (f : FirstK key l h) : h ∈ l := List.mem_of_find?_eq_some f
theorem firstK_same {l : List α} {g h : α} (f : FirstK key l g) (k : FirstK key l h) (e : key g = key h) : g = h := by
  unfold FirstK at f k
  rw [e] at f
  exact Option.some.inj (f.symm.trans k)
theorem firstK_snoc (l : List α) (x h : α) : FirstK key (l ++ [x]) h ↔ FirstK key l h ∨ h = x ∧ ∀ g ∈ l, key g ≠ key x := by
  unfold FirstK
  rw [List.find?_append]
  cases e : l.find? (fun g => decide (key g = key h)) with
  | some y =>
    simp only [Option.some_or, Option.some.injEq]
    refine ⟨fun h1 => .inl h1, fun h1 => ?_⟩
    rcases h1 with h1 | ⟨rfl, h2⟩
    · exact h1
    · have hy := List.find?_some e
      exact absurd (by simpa using hy) (h2 y (List.mem_of_find?_eq_some e))
  | none =>
    rw [List.find?_eq_none] at e
    simp only [Option.none_or, reduceCtorEq, false_or]
    by_cases hx : key x = key h
    · simp only [List.find?_cons, hx, decide_true, Option.some.injEq]
      constructor
      · rintro rfl
        exact ⟨rfl, fun g hg => by simpa using e g hg⟩
      · rintro ⟨rfl, _⟩
        rfl
    · simp only [List.find?_cons, hx, decide_false, List.find?_nil, reduceCtorEq, false_iff]
      rintro ⟨rfl, _⟩
      exact hx rfl
theorem firstK_exists {l : List α} {g : α} (hg : g ∈ l) : ∃ h, FirstK key l h ∧ key h = key g := by
  cases e : l.find? (fun k => decide (key k = key g)) with
  | some y =>
    have hy : key y = key g := by have := List.find?_some e; simpa using this
    exact ⟨y, by unfold FirstK; rw [hy]; exact e, hy⟩
  | none =>
    rw [List.find?_eq_none] at e
    exact absurd (decide_eq_true rfl) (e g hg)
def UnlikeK (key : α → κ) (l : List α) : Prop := l.Pairwise (fun a b => key a ≠ key b)
omit [DecidableEq κ] in
theorem UnlikeK.eq {l : List α} (h : UnlikeK key l) {a b : α} (ha : a ∈ l) (hb : b ∈ l) (e : key a = key b) : a = b := by
  unfold UnlikeK at h
  induction l with
  | nil => cases ha
  | cons x l ih =>
    obtain ⟨h1, h2⟩ := List.pairwise_cons.1 h
    rcases List.mem_cons.1 ha with ha1 | ha1
    · rcases List.mem_cons.1 hb with hb1 | hb1
      · exact ha1.trans hb1.symm
      · exact absurd (ha1 ▸ e) (h1 b hb1)
    · rcases List.mem_cons.1 hb with hb1 | hb1
      · exact absurd (hb1 ▸ e.symm) (h1 a ha1)
      · exact ih h2 ha1 hb1
theorem UnlikeK.first {l : List α} (u : UnlikeK key l) (h : α) : FirstK key l h ↔ h ∈ l := by
  refine ⟨firstK_mem, fun hm => ?_⟩
  obtain ⟨g, hg, e⟩ := firstK_exists (key := key) hm
  rw [← u.eq (firstK_mem hg) hm e]
  exact hg
omit [DecidableEq κ] in
theorem UnlikeK.perm {l m : List α} (u : UnlikeK key l) (p : l.Perm m) : UnlikeK key m := (p.pairwise_iff (fun {_ _} h e => h e.symm)).1 u
end
/-! elements -/
structure El where
  id : Id
  af : Id
  pc : ByteArray
deriving DecidableEq
structure Rn where
  af : Id
  el : Id
  tx : ByteArray
def elC (e : El) : List Value := [.int .i64 e.id.s.T, .int .i64 e.id.s.R, .int .i64 e.id.I, .string e.pc]
def rnC (r : Rn) : List Value := [.int .i64 r.af.s.T, .int .i64 r.af.s.R, .int .i64 r.af.I, .int .i64 r.el.s.T, .int .i64 r.el.s.R, .int .i64 r.el.I, .string r.tx]
theorem elC_one (x : El) : ∀ u ∈ elC x, u.oneCell' = true := by
  intro u hu
  simp [elC] at hu
  rcases hu with rfl | rfl | rfl | rfl <;> rfl
theorem rnC_one (x : Rn) : ∀ u ∈ rnC x, u.oneCell' = true := by
  intro u hu
  simp [rnC] at hu
  rcases hu with rfl | rfl | rfl | rfl | rfl | rfl | rfl <;> rfl
def zeroI : Id := ⟨⟨0, 0, by decide, by decide⟩, 0, by decide⟩
/-- the pieces of a text; none, if it is no text -/
noncomputable def pcs (l : List UInt8) : List (List UInt8) := open Classical in if h : ∃ ps, AllP ps ∧ l = ps.flatten then h.choose else []
theorem pcs_of {ps : List (List UInt8)} (h : AllP ps) : pcs ps.flatten = ps := by
  have hx : ∃ qs, AllP qs ∧ ps.flatten = qs.flatten := ⟨ps, h, rfl⟩
  unfold pcs
  rw [dif_pos hx]
  exact pieces_unique _ _ hx.choose_spec.1 h hx.choose_spec.2.symm
theorem pcs_bad {l : List UInt8} (h : Lib.validD l = false) : pcs l = [] := by
  unfold pcs
  rw [dif_neg]
  rintro ⟨ps, h1, rfl⟩
  rw [valid_flatten ps h1] at h
  cases h
theorem pcs_le (l : List UInt8) : (pcs l).length ≤ l.length := by
  unfold pcs
  split
  · rename_i h
    have h1 := length_le_flatten _ h.choose_spec.1
    rw [← h.choose_spec.2] at h1
    exact h1
  · simp
/-- the next name: it turns over behind the last number -/
def nextI (x : Id) : Id := ⟨x.s, if x.I = 9223372036854775807 then -9223372036854775808 else x.I + 1, by have := x.hI; unfold I64 at *; split <;> omega⟩
def flatOf (af x : Id) : List (List UInt8) → List El
  | [] => []
  | p :: ps => ⟨x, af, ofL p⟩ :: flatOf x (nextI x) ps
theorem flatOf_len : ∀ (ps : List (List UInt8)) (af x : Id), (flatOf af x ps).length = ps.length
  | [], _, _ => rfl
  | _ :: ps, _, x => by rw [flatOf, List.length_cons, List.length_cons, flatOf_len ps]
def nthI (x : Id) : Nat → Id
  | 0 => x
  | k + 1 => nextI (nthI x k)
def nthA (af x : Id) : Nat → Id
  | 0 => af
  | k + 1 => nthI x k
theorem nthI_next (x : Id) : ∀ k, nthI (nextI x) k = nthI x (k + 1)
  | 0 => rfl
  | k + 1 => by rw [nthI, nthI_next x k]; rfl
theorem flatOf_snoc : ∀ (ps : List (List UInt8)) (p : List UInt8) (af x : Id), flatOf af x (ps ++ [p]) = flatOf af x ps ++ [⟨nthI x ps.length, nthA af x ps.length, ofL p⟩]
  | [], _, _, _ => rfl
  | q :: ps, p, af, x => by
    rw [List.cons_append, flatOf, flatOf, flatOf_snoc ps p x (nextI x), List.cons_append, List.length_cons, nthI_next]
    cases ps with
    | nil => rfl
    | cons q' ps => rw [List.length_cons, nthA, nthI_next]; rfl
noncomputable def flat (l : List Rn) : List El := l.flatMap (fun r => flatOf r.af r.el (pcs r.tx.data.toList))
theorem flat_snoc (l : List Rn) (r : Rn) : flat (l ++ [r]) = flat l ++ flatOf r.af r.el (pcs r.tx.data.toList) := by simp [flat]
/-- how often a name has come, the beginning's once ahead -/
def had (F : List El) (x : Id) : Nat := (F.filter (fun e => decide (e.id = x))).length + if x = zeroI then 1 else 0
theorem had_snoc (F : List El) (e : El) (x : Id) : had (F ++ [e]) x = had F x + if e.id = x then 1 else 0 := by
  unfold had
  rw [List.filter_append, List.length_append]
  by_cases h : e.id = x <;> simp [h] <;> omega
theorem had_le (F : List El) (x : Id) : had F x ≤ F.length + 1 := by
  unfold had
  have := List.length_filter_le (fun e : El => decide (e.id = x)) F
  split <;> omega
/-- those that count: the first of each name, none of the beginning's -/
def Counts (F : List El) (e : El) : Prop := FirstK El.id F e ∧ e.id ≠ zeroI
theorem counts_snoc (F : List El) (x e : El) : Counts (F ++ [x]) e ↔ Counts F e ∨ (e = x ∧ had F x.id = 0) := by
  unfold Counts
  rw [firstK_snoc]
  have key : had F x.id = 0 ↔ (∀ g ∈ F, g.id ≠ x.id) ∧ x.id ≠ zeroI := by
    unfold had
    constructor
    · intro h
      refine ⟨fun g hg e => ?_, fun e => ?_⟩
      · have h1 : (F.filter (fun e => decide (e.id = x.id))).length = 0 := by omega
        rw [List.length_eq_zero_iff, List.filter_eq_nil_iff] at h1
        exact h1 g hg (by simp [e])
      · rw [if_pos e] at h; omega
    · rintro ⟨h1, h2⟩
      rw [if_neg h2, Nat.add_zero, List.length_eq_zero_iff, List.filter_eq_nil_iff]
      intro g hg
      simpa using h1 g hg
  rw [key]
  constructor
  · rintro ⟨h1 | ⟨rfl, h1⟩, h2⟩
    · exact .inl ⟨h1, h2⟩
    · exact .inr ⟨rfl, h1, h2⟩
  · rintro (⟨h1, h2⟩ | ⟨rfl, h1, h2⟩)
    · exact ⟨.inl h1, h2⟩
    · exact ⟨.inr ⟨rfl, h1⟩, h2⟩
theorem counts_mem {F : List El} {e : El} (h : Counts F e) : e ∈ F := firstK_mem h.1
theorem counts_names (F : List El) : Names El.id zeroI (Counts F) := ⟨fun _ _ h k e => firstK_same h.1 k.1 e, fun _ h => h.2⟩
/-- what is gathered, in the order in which it came -/
def Gathered (F : List El) (B : Id → List El) : Prop := ∀ x, (B x).Nodup ∧ ∀ e, e ∈ B x ↔ Counts F e ∧ e.af = x
theorem gathered_start : Gathered [] (fun _ => []) := fun x => ⟨List.nodup_nil, fun e => ⟨fun h => absurd h (by simp), fun h => absurd (counts_mem h.1) (by simp)⟩⟩
theorem gathered_had {F : List El} {B : Id → List El} (h : Gathered F B) {x : El} (hx : had F x.id ≠ 0) : Gathered (F ++ [x]) B := fun y => ⟨(h y).1, fun e => by
  rw [(h y).2 e, counts_snoc]
  constructor
  · rintro ⟨h1, h2⟩; exact ⟨.inl h1, h2⟩
  · rintro ⟨h1 | ⟨_, h1⟩, h2⟩
    · exact ⟨h1, h2⟩
    · exact absurd h1 hx⟩
theorem gathered_new {F : List El} {B : Id → List El} (h : Gathered F B) {x : El} (hx : had F x.id = 0) : Gathered (F ++ [x]) (fun y => if y = x.af then B y ++ [x] else B y) := by
  have hno : ¬ Counts F x := by
    intro hc
    have hm := counts_mem hc
    unfold had at hx
    have h1 : (F.filter (fun e => decide (e.id = x.id))).length = 0 := by omega
    rw [List.length_eq_zero_iff, List.filter_eq_nil_iff] at h1
    exact h1 x hm (by simp)
  intro y
  by_cases e : y = x.af
  · subst e
    simp only [if_true]
    refine ⟨?_, fun e => ?_⟩
    · rw [List.nodup_append]
      refine ⟨(h x.af).1, by simp, fun a ha b hb => ?_⟩
      rw [List.mem_singleton] at hb
      subst hb
      rintro rfl
      exact hno (((h a.af).2 a).1 ha).1
    · rw [List.mem_append, (h x.af).2 e, counts_snoc, List.mem_singleton]
      constructor
      · rintro (⟨h1, h2⟩ | rfl)
        · exact ⟨.inl h1, h2⟩
        · exact ⟨.inr ⟨rfl, hx⟩, rfl⟩
      · rintro ⟨h1 | ⟨rfl, _⟩, h2⟩
        · exact .inl ⟨h1, h2⟩
        · exact .inr rfl
  · simp only [if_neg e]
    refine ⟨(h y).1, fun a => ?_⟩
    rw [(h y).2 a, counts_snoc]
    constructor
    · rintro ⟨h1, h2⟩; exact ⟨.inl h1, h2⟩
    · rintro ⟨h1 | ⟨rfl, _⟩, h2⟩
      · exact ⟨h1, h2⟩
      · exact absurd h2.symm e
theorem gathered_le {F : List El} {B : Id → List El} (h : Gathered F B) (x : Id) : (B x).length ≤ F.length :=
  pigeon' (h x).1 (fun e he => counts_mem (((h x).2 e).1 he).1)
/-- .. sorted -/
theorem gathered_sorted {F : List El} {B S : Id → List El} (h : Gathered F B) (hp : ∀ x, (S x).Perm (B x)) (hs : ∀ x, (S x).Pairwise (fun a b => ¬ b.id.cmp a.id < 0)) : BehindOf Id.Lt El.id El.af (Counts F) S := by
  intro x
  refine ⟨?_, fun e => ((hp x).mem_iff).trans ((h x).2 e)⟩
  have hn : (S x).Nodup := (hp x).nodup_iff.2 (h x).1
  have key : ∀ {l : List El}, (∀ a b, a ∈ l → b ∈ l → a.id = b.id → a = b) → l.Nodup → l.Pairwise (fun a b => ¬ b.id.cmp a.id < 0) → l.Pairwise (fun a b => a.id.Lt b.id) := by
    intro l
    induction l with
    | nil => intro _ _ _; exact List.Pairwise.nil
    | cons a l ih =>
      intro hu hn hs
      rw [List.nodup_cons] at hn
      rw [List.pairwise_cons] at hs
      refine List.pairwise_cons.2 ⟨fun b hb => ?_, ih (fun c d hc hd => hu c d (by simp [hc]) (by simp [hd])) hn.2 hs.2⟩
      rcases idSTO.total a.id b.id with t | t | t
      · exact t
      · exact absurd (hu a b (by simp) (by simp [hb]) t ▸ hb) hn.1
      · exact absurd ((icmp_id_neg _ _).2 t) (hs.1 b hb)
  exact key (fun a b ha hb e => firstK_same (((h x).2 a).1 ((hp x).mem_iff.1 ha)).1.1 (((h x).2 b).1 ((hp x).mem_iff.1 hb)).1.1 e) hn (hs x)
end Go.Proofs.YtphapjbfaomblaaDoor
/- Footprints: what a call may have written. Plain, over any program. -/
namespace Go.Proofs.YtphapjbfaomblaaDoor
open Go Go.RowKit
/-- all that was there and does not lie in F is as it was -/
structure Touch (F : Nat → Prop) (w w' : World) : Prop where
  os : w'.os = w.os
  tape : w'.tape = w.tape
  output : w'.output = w.output
  size : w.heap.size ≤ w'.heap.size
  block : ∀ k, k < w.heap.size → ¬ F k → w'.heap[k]? = w.heap[k]?
section
variable {F G : Nat → Prop} {w w' a b c : World}
theorem Touch.refl (F : Nat → Prop) (w : World) : Touch F w w := ⟨rfl, rfl, rfl, Nat.le_refl _, fun _ _ _ => rfl⟩
theorem Touch.trans (h : Touch F a b) (k : Touch G b c) (hs : ∀ x, x < a.heap.size → G x → F x) : Touch F a c :=
  ⟨k.os.trans h.os, k.tape.trans h.tape, k.output.trans h.output, Nat.le_trans h.size k.size, fun x hx hn => (k.block x (Nat.lt_of_lt_of_le hx h.size) (fun g => hn (hs x hx g))).trans (h.block x hx hn)⟩
theorem Touch.mono (h : Touch F w w') (hs : ∀ x, x < w.heap.size → F x → G x) : Touch G w w' := ⟨h.os, h.tape, h.output, h.size, fun k hk hn => h.block k hk (fun f => hn (hs k hk f))⟩
theorem Touch.below {n : Nat} (h : Touch F w w') (hn : n ≤ w.heap.size) (hF : ∀ x, x < n → ¬ F x) : Below n w w' := ⟨h.os, h.tape, h.output, h.size, fun k hk => h.block k (Nat.lt_of_lt_of_le hk hn) (hF k hk)⟩
theorem Below.touch (h : Below w.heap.size w w') (F : Nat → Prop) : Touch F w w' := ⟨h.os, h.tape, h.output, h.size, fun k hk _ => h.block k hk⟩
theorem Below.touch' {n : Nat} (h : Below n w w') (hF : ∀ x, x < w.heap.size → n ≤ x → F x) : Touch F w w' := ⟨h.os, h.tape, h.output, h.size, fun k hk hn => h.block k (Nat.lt_of_not_le (fun h' => hn (hF k hk h')))⟩
theorem Touch.drew (h : Touch F a w) : Touch F a w.drew := ⟨h.os, h.tape, h.output, h.size, h.block⟩
theorem Touch.alloc (h : Touch F a w) (o : Obj) : Touch F a (w.alloc o) :=
  h.trans (G := fun _ => False) ⟨rfl, rfl, rfl, by simp, fun k hk _ => Below.heap_alloc _ _ _ hk⟩ (fun _ _ h => h.elim)
theorem Touch.setCell (h : Touch F a w) {p : Addr} (hp : p.block < a.heap.size → F p.block) (u : Value) : Touch F a (w.setCell p u) :=
  h.trans (G := fun x => x = p.block) ⟨rfl, rfl, rfl, by simp [World.setCell], fun k _ hk => Below.heap_setCell _ _ _ _ hk⟩ (fun _ hx e => e ▸ hp (e ▸ hx))
theorem Touch.grown {row : Option Nat} (h : Touch F a w) (hg : w.grownBy w' row) (hr : ∀ k, row = some k → k < a.heap.size → F k) : Touch F a w' :=
  h.trans (G := fun x => row = some x) ⟨hg.os, hg.tape, hg.output, hg.size, fun k hk hn => hg.block k hk (fun e => hn e.symm)⟩ (fun x hx e => hr x e hx)
theorem Touch.cell (h : Touch F w w') {p : Addr} (hp : p.block < w.heap.size) (hF : ¬ F p.block) : w'.cell? p = w.cell? p := World.cell?_of_block (h.block p.block hp hF)
/-- a row that does not lie in the footprint -/
theorem own_touch {base : Nat} {e : TypeId} {size n : Nat} {v : Value} {xs : List Value} (h : w.ownsRow base e size v n xs) (t : Touch F w w') (hF : ∀ g, v.ownBlock = some g → ¬ F g) : w'.ownsRow base e size v n xs := by
  refine ⟨h.1, ?_⟩
  rcases h.2 with h1 | ⟨g, cap, cur, rfl, h2, h3, h4⟩
  · exact .inl h1
  · have hlt : g < w.heap.size := (Array.getElem?_eq_some_iff.1 h3).1
    exact .inr ⟨g, cap, cur, rfl, h2, (t.block g hlt (hF g rfl)).trans h3, h4⟩
theorem map_touch {H : Type} {P : Program} {k : TypeId} {R : Value → Option (DataW H × List MemPlace)} {m n : Nat} {D : DataW H} (h : w.ownsMap P k R m n D) (t : Touch F w w') (hF : ¬ F m) : w'.ownsMap P k R m n D := by
  obtain ⟨es, clock, h1, h2⟩ := h
  have hlt : m < w.heap.size := (Array.getElem?_eq_some_iff.1 h1).1
  exact ⟨es, clock, (t.block m hlt hF).trans h1, h2⟩
theorem block_touch {k : Nat} {o : Obj} (h : w.heap[k]? = some o) (t : Touch F w w') (hF : ¬ F k) : w'.heap[k]? = some o :=
  (t.block k (Array.getElem?_eq_some_iff.1 h).1 hF).trans h
end
end Go.Proofs.YtphapjbfaomblaaDoor
/- Rows of the call's own: stores of several cells in them; one more element. Plain, over any program. -/
namespace Go.Proofs.YtphapjbfaomblaaDoor
open Go Go.RowKit
theorem heap_setCells {g : Nat} {e : TypeId} : ∀ (new old A R : List Value) (w : World), w.heap[g]? = some (.cells (A ++ old ++ R).toArray e (0, 0)) → new.length = old.length → (w.setCells g A.length new).heap[g]? = some (.cells (A ++ new ++ R).toArray e (0, 0))
  | [], old, A, R, w, h, hl => by
    have : old = [] := List.eq_nil_of_length_eq_zero hl.symm
    subst this
    exact h
  | v :: new, [], A, R, w, h, hl => by simp at hl
  | v :: new, u :: old, A, R, w, h, hl => by
    have h1 : (w.setCell ⟨g, A.length, none⟩ v).heap[g]? = some (.cells ((A ++ [v]) ++ old ++ R).toArray e (0, 0)) := by
      simp [World.setCell, Array.getElem?_modify, h]
    have := heap_setCells new old (A ++ [v]) R _ h1 (by simpa using hl)
    rw [World.setCells]
    simpa using this
theorem setCells_other {g : Nat} : ∀ (vs : List Value) (o : Nat) (w : World) (k : Nat), k ≠ g → (w.setCells g o vs).heap[k]? = w.heap[k]?
  | [], _, _, _, _ => rfl
  | v :: vs, o, w, k, h => by
    rw [World.setCells, setCells_other vs (o + 1) _ k h]
    exact Below.heap_setCell _ _ _ _ h
theorem setCells_same {g : Nat} : ∀ (vs : List Value) (o : Nat) (w : World), (w.setCells g o vs).os = w.os ∧ (w.setCells g o vs).tape = w.tape ∧ (w.setCells g o vs).output = w.output ∧ (w.setCells g o vs).heap.size = w.heap.size
  | [], _, _ => ⟨rfl, rfl, rfl, rfl⟩
  | v :: vs, o, w => by
    rw [World.setCells]
    obtain ⟨h1, h2, h3, h4⟩ := setCells_same vs (o + 1) (w.setCell ⟨g, o, none⟩ v)
    exact ⟨h1, h2, h3, by rw [h4]; simp [World.setCell]⟩
theorem setCells_below {B g : Nat} {a w : World} (h : Below B a w) (hg : B ≤ g) (o : Nat) (vs : List Value) : Below B a (w.setCells g o vs) := by
  obtain ⟨h1, h2, h3, h4⟩ := setCells_same (g := g) vs o w
  exact ⟨h1.trans h.os, h2.trans h.tape, h3.trans h.output, by rw [h4]; exact h.size, fun k hk => by rw [setCells_other vs o w k (by omega)]; exact h.block k hk⟩
/-- a row of the call's own that is not nil: its block, whole -/
theorem own_parts {w : World} {base : Nat} {e : TypeId} {K n : Nat} {v : Value} {xs : List Value} (h : w.ownsRow base e K v n xs) (hn : 0 < n) :
    ∃ g cap R, v = .slice (some ⟨g, 0, none⟩) n cap ∧ base ≤ g ∧ g < w.heap.size ∧ n ≤ cap ∧ cap ≤ maxLen ∧ w.heap[g]? = some (.cells (xs ++ R).toArray e (0, 0)) ∧ (xs ++ R).length = cap * K := by
  rcases h.2 with ⟨_, h0⟩ | ⟨g, cap, cur, rfl, hb, hg, hnc, hm, hs, ht⟩
  · omega
  · refine ⟨g, cap, cur.toList.drop (n * K), rfl, hb, (Array.getElem?_eq_some_iff.1 hg).1, hnc, hm, ?_, ?_⟩
    · rw [← ht, List.take_append_drop]; exact hg
    · rw [← ht, List.take_append_drop]; simpa using hs
theorem own_mk {w : World} {base : Nat} {e : TypeId} {K n g cap : Nat} {xs R : List Value} (hl : xs.length = n * K) (hb : base ≤ g) (hn : n ≤ cap) (hm : cap ≤ maxLen) (hg : w.heap[g]? = some (.cells (xs ++ R).toArray e (0, 0))) (hs : (xs ++ R).length = cap * K) :
    w.ownsRow base e K (.slice (some ⟨g, 0, none⟩) n cap) n xs :=
  ⟨hl, .inr ⟨g, cap, _, rfl, hb, hg, hn, hm, by simpa using hs, by simp [← hl]⟩⟩
/-- several cells of such a row are written -/
theorem own_sets {w : World} {base : Nat} {e : TypeId} {K n g cap : Nat} {A old C : List Value} (h : w.ownsRow base e K (.slice (some ⟨g, 0, none⟩) n cap) n (A ++ old ++ C)) (new : List Value) (hl : new.length = old.length) (hn : 0 < n) :
    (w.setCells g A.length new).ownsRow base e K (.slice (some ⟨g, 0, none⟩) n cap) n (A ++ new ++ C) := by
  obtain ⟨g', cap', R, e1, hb, _, hnc, hm, hg, hs⟩ := own_parts h hn
  injection e1 with e1 _ e3
  injection e1 with e1
  injection e1 with e1
  subst e1; subst e3
  have h1 := heap_setCells new old A (C ++ R) w (by simpa using hg) hl
  have hlen : (A ++ new ++ C).length = (A ++ old ++ C).length := by simp [hl]
  refine own_mk (R := R) ?_ hb hnc hm (by simpa using h1) ?_
  · rw [hlen]; exact h.1
  · rw [← hs]; simp [hl]
theorem own_grows {w w' : World} {base : Nat} {e : TypeId} {K n : Nat} {v : Value} {xs : List Value} (h : w.ownsRow base e K v n xs) (hb : Below w.heap.size w w') : w'.ownsRow base e K v n xs :=
  h.kept (row := none) ⟨hb.os, hb.tape, hb.output, hb.size, fun k hk _ => hb.block k hk⟩ (by
    cases hv : v.ownBlock
    · exact .inl rfl
    · exact .inr (by simp))
/-- its cells -/
theorem own_cell {w : World} {base : Nat} {e : TypeId} {K n g cap : Nat} {xs : List Value} (h : w.ownsRow base e K (.slice (some ⟨g, 0, none⟩) n cap) n xs) (j : Nat) (u : Value) (hu : xs[j]? = some u) : w.cell? ⟨g, j, none⟩ = some u ∧ w.frozen? ⟨g, j, none⟩ = false := by
  have hn : 0 < n := by
    rcases Nat.eq_zero_or_pos n with h0 | h0
    · have := h.1
      rw [h0, Nat.zero_mul] at this
      have := List.eq_nil_of_length_eq_zero this
      subst this
      simp at hu
    · exact h0
  obtain ⟨g', cap', R, e1, hb, _, hnc, hm, hg, hs⟩ := own_parts h hn
  injection e1 with e1 _ e3
  injection e1 with e1
  injection e1 with e1
  subst e1
  refine ⟨?_, by simp [World.frozen?, hg]⟩
  rw [cell_of_row w g j _ e (0, 0) hg]
  have : j < xs.length := (List.getElem?_eq_some_iff.1 hu).1
  simpa [List.getElem?_append_left this] using hu
theorem own_frozen {w : World} {base : Nat} {e : TypeId} {K n g cap : Nat} {xs : List Value} (h : w.ownsRow base e K (.slice (some ⟨g, 0, none⟩) n cap) n xs) (hn : 0 < n) (i : Nat) : w.frozen? ⟨g, i, none⟩ = false := by
  obtain ⟨g', cap', R, e1, _, _, _, _, hg, _⟩ := own_parts h hn
  injection e1 with e1 _ e3
  injection e1 with e1
  injection e1 with e1
  subst e1
  simp [World.frozen?, hg]
theorem cells_new (w : World) (xs : List Value) (t : TypeId) : ∀ j u, xs[j]? = some u → (w.alloc (.cells xs.toArray t)).cell? ((⟨w.heap.size, 0, none⟩ : Addr).add j) = some u := by
  intro j u hu
  rw [Go.WideShapes.add_plain, Nat.zero_add, cell_of_row _ _ _ _ _ _ (heap_alloc_new w _), ← hu]
  simp
/-- .. one element more: the row is a row of elements -/
theorem own_snoc {α : Type} {enc : α → List Value} {w : World} {base : Nat} {e : TypeId} {K : Nat} {v : Value} {L : List α} {x : α} (h : w.ownsRow base e K v (L.length + 1) (L.flatMap enc ++ enc x)) :
    ∃ g cap, v = .slice (some ⟨g, 0, none⟩) (L.length + 1) cap ∧ base ≤ g ∧ L.length + 1 ≤ cap ∧ cap ≤ maxLen ∧ w.ownsRow base e K (.slice (some ⟨g, 0, none⟩) (L.length + 1) cap) (L.length + 1) ((L ++ [x]).flatMap enc) := by
  obtain ⟨g, cap, R, rfl, hb, _, hn, hm, _, _⟩ := own_parts h (Nat.succ_pos _)
  exact ⟨g, cap, rfl, hb, hn, hm, by simpa using h⟩
theorem flatl {α : Type} (enc : α → List Value) (k : Nat) (hk : ∀ x, (enc x).length = k) : ∀ L : List α, (L.flatMap enc).length = L.length * k
  | [] => by simp
  | a :: L => by rw [List.flatMap_cons, List.length_append, flatl enc k hk L, hk, List.length_cons, Nat.add_mul]; omega
theorem flat_mid {α : Type} (enc : α → List Value) (k : Nat) (hk : ∀ x, (enc x).length = k) (P S : List α) (y : α) (r : Nat) (u : Value) (hu : (enc y)[r]? = some u) : ((P ++ y :: S).flatMap enc)[P.length * k + r]? = some u := by
  have hr : r < k := by rw [← hk y]; exact (List.getElem?_eq_some_iff.1 hu).1
  rw [List.flatMap_append, List.getElem?_append_right (by rw [flatl enc k hk]; omega), flatl enc k hk, List.flatMap_cons, Nat.add_sub_cancel_left, List.getElem?_append_left (by rw [hk]; exact hr)]
  exact hu
/-- two neighbours in a row change places -/
theorem own_swap {α : Type} {enc : α → List Value} {k : Nat} (hk : ∀ x, (enc x).length = k) {w : World} {base : Nat} {e : TypeId} {n g cap : Nat} {P S : List α} {y x : α}
    (h : w.ownsRow base e k (.slice (some ⟨g, 0, none⟩) n cap) n ((P ++ y :: x :: S).flatMap enc)) (hn : 0 < n) :
    ((w.setCells g (P.length * k + k) (enc y)).setCells g (P.length * k) (enc x)).ownsRow base e k (.slice (some ⟨g, 0, none⟩) n cap) n ((P ++ x :: y :: S).flatMap enc) := by
  have h1 : w.ownsRow base e k (.slice (some ⟨g, 0, none⟩) n cap) n ((P.flatMap enc ++ enc y) ++ enc x ++ S.flatMap enc) := by simpa using h
  have h2 := own_sets h1 (enc y) (by rw [hk, hk]) hn
  have h3 : (w.setCells g (P.flatMap enc ++ enc y).length (enc y)).ownsRow base e k (.slice (some ⟨g, 0, none⟩) n cap) n (P.flatMap enc ++ enc y ++ (enc y ++ S.flatMap enc)) := by simpa using h2
  have h4 := own_sets h3 (enc x) (by rw [hk, hk]) hn
  rw [List.length_append, flatl enc k hk, hk] at h4
  simpa using h4
end Go.Proofs.YtphapjbfaomblaaDoor
/- A map of slices, each a row of the call's own. -/
namespace Go.Proofs.YtphapjbfaomblaaDoor
open Go Go.RowKit Go.Maps Go.ChangeMaps
abbrev Hd := Option (Nat × Nat × Nat)
def hdV : Hd → Value
  | none => .slice none 0 0
  | some (g, n, c) => .slice (some ⟨g, 0, none⟩) n c
theorem hdV_inj {a b : Hd} (h : hdV a = hdV b) : a = b := by
  rcases a with _ | ⟨g, n, c⟩ <;> rcases b with _ | ⟨g', n', c'⟩ <;> simp [hdV] at h ⊢
  exact h
theorem hd_of {w : World} {base : Nat} {e : TypeId} {K n : Nat} {v : Value} {xs : List Value} (h : w.ownsRow base e K v n xs) : ∃ a, v = hdV a := by
  rcases h.2 with ⟨rfl, _⟩ | ⟨g, cap, _, rfl, _⟩
  · exact ⟨none, rfl⟩
  · exact ⟨some (g, n, cap), rfl⟩
def hdf (hd : Id → Hd) (x : Id) : Option Hd := (hd x).map some
structure MRows (w : World) (base bm m : Nat) (D : DataW Hd) (hd : Id → Hd) (B : Id → List El) : Prop where
  map : w.ownsMap Tryd.prog 26 (objElem hdV) bm m D
  fm : FMap idK (hdf hd) D
  rows : ∀ x, w.ownsRow base 84 4 (hdV (hd x)) (B x).length ((B x).flatMap elC)
  apart : ∀ x y, x ≠ y → ∀ g, (hdV (hd x)).ownBlock = some g → (hdV (hd y)).ownBlock ≠ some g
section
variable {w w' : World} {base bm m : Nat} {D : DataW Hd} {hd : Id → Hd} {B : Id → List El}
theorem MRows.cells (h : MRows w base bm m D hd B) {x : Id} {g : Nat} (hg : (hdV (hd x)).ownBlock = some g) : ∃ cur, w.heap[g]? = some (.cells cur 84 (0, 0)) := by
  rcases (h.rows x).2 with ⟨e, _⟩ | ⟨g', cap, cur, e, _, hh, _⟩
  · rw [e] at hg; cases hg
  · rw [e] at hg; cases hg; exact ⟨cur, hh⟩
theorem MRows.isMap (h : MRows w base bm m D hd B) : ∃ es clock, w.heap[bm]? = some (.map es clock) := by
  obtain ⟨es, clock, h1, _⟩ := h.map
  exact ⟨es, clock, h1⟩
theorem MRows.ne (h : MRows w base bm m D hd B) {x : Id} {g : Nat} (hg : (hdV (hd x)).ownBlock = some g) : g ≠ bm := by
  rintro rfl
  obtain ⟨cur, h1⟩ := h.cells hg
  obtain ⟨es, clock, h2⟩ := h.isMap
  rw [h1] at h2
  cases h2
theorem MRows.touch {F : Nat → Prop} (h : MRows w base bm m D hd B) (t : Touch F w w') (hb : ¬ F bm) (hr : ∀ x g, (hdV (hd x)).ownBlock = some g → ¬ F g) : MRows w' base bm m D hd B :=
  ⟨map_touch h.map t hb, h.fm, fun x => own_touch (h.rows x) t (hr x), h.apart⟩
theorem MRows.below (h : MRows w base bm m D hd B) (hb : Below w.heap.size w w') : MRows w' base bm m D hd B :=
  h.touch (Below.touch hb (fun _ => False)) (fun h => h) (fun _ _ _ h => h)
theorem zero75 (u : World) : (zeroValue 75).run Tryd.prog u = .ok (hdV none) u := Tryd.zeroValue75 u
theorem MRows.look (h : MRows w base bm m D hd B) (x : Id) : (Instr.lookup 115 (.map (some bm)) (idV x) false).run Tryd.prog w = .ok (hdV (hd x)) w := by
  obtain ⟨v, ps, h1, h2⟩ := h.map.lookup keyed26 Tryd.underlying115 (zero75 w) (objElem_mk hdV_inj none) (ok26.val x)
  obtain ⟨a, rfl, h3⟩ := objElem_inv h2
  have h4 : D.atKey (idK x) (.held none) = .held a := congrArg Prod.fst h3
  rw [h.fm x] at h4
  have ha : a = hd x := by
    unfold hdf at h4
    cases e : hd x with
    | none => rw [e] at h4; cases h4; rfl
    | some y => rw [e] at h4; cases h4; rfl
  rw [h1, ha]
theorem MRows.entry (h : MRows w base bm m D hd B) (hm : m < maxLen) (x : Id) :
    ∃ st w1 o1, (Instr.mapEntry 115 (.map (some bm)) (idV x)).run Tryd.prog w = .ok (.tuple #[hdV (hd x), goInt st]) w1 ∧ w.grownBy w1 (some bm) ∧ w1.heap[bm]? = some o1 ∧ (∃ es c, o1 = .map es c) ∧
      ∀ (u : World) (a : Hd), u.heap[bm]? = some o1 → ∃ u2, (Instr.entryStore 115 (.map (some bm)) (goInt st) (hdV a)).run Tryd.prog u = .ok () u2 ∧ u2.ownsMap Tryd.prog 26 (objElem hdV) bm (m + 1) (D.put (idK x) (.held a)) ∧ u.grownBy u2 (some bm) := by
  have hup := fun a => h.map.update (Keyed.of_law law26) Tryd.underlying115 hm (ok26.val x) (objElem_mk hdV_inj a)
  obtain ⟨v0', st', w1', w2', hl, hme, _⟩ := own_entry h.map law26 Tryd.underlying115 (z := hdV none) (fun u => zero75 u) hm (ok26.val x) (objElem_mk hdV_inj none)
  obtain ⟨es, clock, hb, F, hs, hD⟩ := h.map
  obtain ⟨v0, st, es1, clock1, h1, _, h2⟩ := WideElems.entry_then_store law26 Tryd.underlying115 (z := hdV none) (fun u => zero75 u) hb F (ok26.val x)
  have hv : v0 = hdV (hd x) := by
    have e1 := hme.symm.trans h1
    simp only [Result.ok.injEq, Value.tuple.injEq] at e1
    have h9 : #[v0', goInt st'].toList = #[v0, goInt st].toList := congrArg Array.toList e1.1
    have h8 : v0' = v0 := (List.cons.inj h9).1
    have e2 := hl.symm.trans (MRows.look h x)
    simp only [Result.ok.injEq] at e2
    rw [← h8]
    exact e2.1
  subst hv
  refine ⟨st, _, _, h1, ⟨rfl, rfl, rfl, by simp [setBlock], fun i _ hi => heap_setBlock_other hb _ (fun e => hi (by rw [e]))⟩, heap_setBlock_same hb _, ⟨_, _, rfl⟩, fun u a hu => ?_⟩
  obtain ⟨es', clock', h3, h4⟩ := h2 u (hdV a) hu
  obtain ⟨w', hu', ho, _⟩ := hup a
  have e1 : w' = setBlock w bm (.map es' clock') := by
    rw [hu'] at h4
    cases h4
    rfl
  refine ⟨_, h3, ?_, ⟨rfl, rfl, rfl, by simp [setBlock], fun i _ hi => heap_setBlock_other hu _ (fun e => hi (by rw [e]))⟩⟩
  obtain ⟨es2, cl2, g1, g2⟩ := ho
  rw [e1, heap_setBlock_same hb _] at g1
  exact ⟨es2, cl2, (heap_setBlock_same hu _).trans g1, g2⟩
/-- one row more, or another one in its place -/
theorem MRows.put {u2 : World} (h : MRows w base bm m D hd B) {x : Id} {a : Hd} {l : List El} (hmap : u2.ownsMap Tryd.prog 26 (objElem hdV) bm (m + 1) (D.put (idK x) (.held a))) (ha : a ≠ none)
    (hx : u2.ownsRow base 84 4 (hdV a) l.length (l.flatMap elC)) (ho : ∀ y, y ≠ x → u2.ownsRow base 84 4 (hdV (hd y)) (B y).length ((B y).flatMap elC)) (hap : ∀ y, y ≠ x → ∀ g, (hdV a).ownBlock = some g → (hdV (hd y)).ownBlock ≠ some g) :
    MRows u2 base bm (m + 1) (D.put (idK x) (.held a)) (fun y => if y = x then a else hd y) (fun y => if y = x then l else B y) where
  map := hmap
  fm := (h.fm.put ok26 h.map.isMap x a).congr (fun s => by
    unfold hdf
    by_cases e : s = x
    · simp only [if_pos e]
      cases a with
      | none => exact absurd rfl ha
      | some y => rfl
    · simp only [if_neg e])
  rows := fun y => by
    by_cases e : y = x
    · simp only [if_pos e]; exact hx
    · simp only [if_neg e]; exact ho y e
  apart := fun y z hyz g => by
    by_cases e : y = x
    · by_cases e' : z = x
      · exact absurd (e.trans e'.symm) hyz
      · simp only [if_pos e, if_neg e']; exact hap z e' g
    · by_cases e' : z = x
      · simp only [if_neg e, if_pos e']
        intro h1 h2
        exact hap y e g h2 h1
      · simp only [if_neg e, if_neg e']; exact h.apart y z hyz g
/-- a row turned in place -/
theorem MRows.turn {u : World} (h : MRows w base bm m D hd B) {x : Id} {l : List El} (hg : w.grownBy u (hdV (hd x)).ownBlock) (hx : u.ownsRow base 84 4 (hdV (hd x)) l.length (l.flatMap elC)) :
    MRows u base bm m D hd (fun y => if y = x then l else B y) where
  map := h.map.kept hg (by
    intro e
    exact h.ne e.symm rfl)
  fm := h.fm
  rows := fun y => by
    by_cases e : y = x
    · simp only [if_pos e]; rw [e]; exact hx
    · simp only [if_neg e]
      refine (h.rows y).kept hg ?_
      cases hv : (hdV (hd y)).ownBlock with
      | none => exact .inl rfl
      | some g => exact .inr (fun e' => h.apart y x e g hv e'.symm)
  apart := h.apart
end
end Go.Proofs.YtphapjbfaomblaaDoor
