/- Runs as elements; the first of each name; what stands behind each one. Plain. -/
import Derived.Test.YtphapjbfaomblaaDoorP
import Derived.Test.YtphapjbfaomblaaDoorM1
import Derived.Test.YtphapjbfaomblaaDoorV1
import Derived.Test.YtphapjbfaomblaaDoorWO
namespace Go.Proofs.YtphapjbfaomblaaDoor
open Go
/-! the first of each key -/
section
variable {α κ : Type} [DecidableEq κ]
def FirstK (key : α → κ) (l : List α) (h : α) : Prop := l.find? (fun g => decide (key g = key h)) = some h
variable {key : α → κ}
theorem firstK_mem {l : List α} {h : α} (f : FirstK key l h) : h ∈ l := List.mem_of_find?_eq_some f
theorem firstK_same {l : List α} {g h : α} (f : FirstK key l g) (k : FirstK key l h) (e : key g = key h) : g = h := by
  unfold FirstK at f k
  rw [e] at f
  exact Option.some.inj (f.symm.trans k)
theorem firstK_snoc (l : List α) (x h : α) : FirstK key (l ++ [x]) h ↔ FirstK key l h ∨ h = x ∧ ∀ g ∈ l, key g ≠ key x := by
  unfold FirstK
  rw [List.find?_append]
  cases e : l.find? (fun g => decide (key g = key h)) with
  | some y =>
    simp only [Option.some_or, Option.some.injEq]
    refine ⟨fun h1 => .inl h1, fun h1 => ?_⟩
    rcases h1 with h1 | ⟨rfl, h2⟩
    · exact h1
    · have hy := List.find?_some e
      exact absurd (by simpa using hy) (h2 y (List.mem_of_find?_eq_some e))
  | none =>
    rw [List.find?_eq_none] at e
    simp only [Option.none_or, reduceCtorEq, false_or]
    by_cases hx : key x = key h
    · simp only [List.find?_cons, hx, decide_true, Option.some.injEq]
      constructor
      · rintro rfl
        exact ⟨rfl, fun g hg => by simpa using e g hg⟩
      · rintro ⟨rfl, _⟩
        rfl
    · simp only [List.find?_cons, hx, decide_false, List.find?_nil, reduceCtorEq, false_iff]
      rintro ⟨rfl, _⟩
      exact hx rfl
theorem firstK_exists {l : List α} {g : α} (hg : g ∈ l) : ∃ h, FirstK key l h ∧ key h = key g := by
  cases e : l.find? (fun k => decide (key k = key g)) with
  | some y =>
    have hy : key y = key g := by have := List.find?_some e; simpa using this
    exact ⟨y, by unfold FirstK; rw [hy]; exact e, hy⟩
  | none =>
    rw [List.find?_eq_none] at e
    exact absurd (decide_eq_true rfl) (e g hg)
def UnlikeK (key : α → κ) (l : List α) : Prop := l.Pairwise (fun a b => key a ≠ key b)
omit [DecidableEq κ] in
theorem UnlikeK.eq {l : List α} (h : UnlikeK key l) {a b : α} (ha : a ∈ l) (hb : b ∈ l) (e : key a = key b) : a = b := by
  unfold UnlikeK at h
  induction l with
  | nil => cases ha
  | cons x l ih =>
    obtain ⟨h1, h2⟩ := List.pairwise_cons.1 h
    rcases List.mem_cons.1 ha with ha1 | ha1
    · rcases List.mem_cons.1 hb with hb1 | hb1
      · exact ha1.trans hb1.symm
      · exact absurd (ha1 ▸ e) (h1 b hb1)
    · rcases List.mem_cons.1 hb with hb1 | hb1
      · exact absurd (hb1 ▸ e.symm) (h1 a ha1)
      · exact ih h2 ha1 hb1
theorem UnlikeK.first {l : List α} (u : UnlikeK key l) (h : α) : FirstK key l h ↔ h ∈ l := by
  refine ⟨firstK_mem, fun hm => ?_⟩
  obtain ⟨g, hg, e⟩ := firstK_exists (key := key) hm
  rw [← u.eq (firstK_mem hg) hm e]
  exact hg
omit [DecidableEq κ] in
theorem UnlikeK.perm {l m : List α} (u : UnlikeK key l) (p : l.Perm m) : UnlikeK key m := (p.pairwise_iff (fun {_ _} h e => h e.symm)).1 u
end
/-! elements -/
structure El where
  id : Id
  af : Id
  pc : ByteArray
deriving DecidableEq
structure Rn where
  af : Id
  el : Id
  tx : ByteArray
def elC (e : El) : List Value := [.int .i64 e.id.s.T, .int .i64 e.id.s.R, .int .i64 e.id.I, .string e.pc]
def rnC (r : Rn) : List Value := [.int .i64 r.af.s.T, .int .i64 r.af.s.R, .int .i64 r.af.I, .int .i64 r.el.s.T, .int .i64 r.el.s.R, .int .i64 r.el.I, .string r.tx]
theorem elC_one (x : El) : ∀ u ∈ elC x, u.oneCell' = true := by
  intro u hu
  simp [elC] at hu
  rcases hu with rfl | rfl | rfl | rfl <;> rfl
theorem rnC_one (x : Rn) : ∀ u ∈ rnC x, u.oneCell' = true := by
  intro u hu
  simp [rnC] at hu
  rcases hu with rfl | rfl | rfl | rfl | rfl | rfl | rfl <;> rfl
def zeroI : Id := ⟨⟨0, 0, by decide, by decide⟩, 0, by decide⟩
/-- the pieces of a text; none, if it is no text -/
noncomputable def pcs (l : List UInt8) : List (List UInt8) := open Classical in if h : ∃ ps, AllP ps ∧ l = ps.flatten then h.choose else []
theorem pcs_of {ps : List (List UInt8)} (h : AllP ps) : pcs ps.flatten = ps := by
  have hx : ∃ qs, AllP qs ∧ ps.flatten = qs.flatten := ⟨ps, h, rfl⟩
  unfold pcs
  rw [dif_pos hx]
  exact pieces_unique _ _ hx.choose_spec.1 h hx.choose_spec.2.symm
theorem pcs_bad {l : List UInt8} (h : Lib.validD l = false) : pcs l = [] := by
  unfold pcs
  rw [dif_neg]
  rintro ⟨ps, h1, rfl⟩
  rw [valid_flatten ps h1] at h
  cases h
theorem pcs_le (l : List UInt8) : (pcs l).length ≤ l.length := by
  unfold pcs
  split
  · rename_i h
    have h1 := length_le_flatten _ h.choose_spec.1
    rw [← h.choose_spec.2] at h1
    exact h1
  · simp
/-- the next name: it turns over behind the last number -/
def nextI (x : Id) : Id := ⟨x.s, if x.I = 9223372036854775807 then -9223372036854775808 else x.I + 1, by have := x.hI; unfold I64 at *; split <;> omega⟩
def flatOf (af x : Id) : List (List UInt8) → List El
  | [] => []
  | p :: ps => ⟨x, af, ofL p⟩ :: flatOf x (nextI x) ps
theorem flatOf_len : ∀ (ps : List (List UInt8)) (af x : Id), (flatOf af x ps).length = ps.length
  | [], _, _ => rfl
  | _ :: ps, _, x => by rw [flatOf, List.length_cons, List.length_cons, flatOf_len ps]
def nthI (x : Id) : Nat → Id
  | 0 => x
  | k + 1 => nextI (nthI x k)
def nthA (af x : Id) : Nat → Id
  | 0 => af
  | k + 1 => nthI x k
theorem nthI_next (x : Id) : ∀ k, nthI (nextI x) k = nthI x (k + 1)
  | 0 => rfl
  | k + 1 => by rw [nthI, nthI_next x k]; rfl
theorem flatOf_snoc : ∀ (ps : List (List UInt8)) (p : List UInt8) (af x : Id), flatOf af x (ps ++ [p]) = flatOf af x ps ++ [⟨nthI x ps.length, nthA af x ps.length, ofL p⟩]
  | [], _, _, _ => rfl
  | q :: ps, p, af, x => by
    rw [List.cons_append, flatOf, flatOf, flatOf_snoc ps p x (nextI x), List.cons_append, List.length_cons, nthI_next]
    cases ps with
    | nil => rfl
    | cons q' ps => rw [List.length_cons, nthA, nthI_next]; rfl
noncomputable def flat (l : List Rn) : List El := l.flatMap (fun r => flatOf r.af r.el (pcs r.tx.data.toList))
theorem flat_snoc (l : List Rn) (r : Rn) : flat (l ++ [r]) = flat l ++ flatOf r.af r.el (pcs r.tx.data.toList) := by simp [flat]
/-- how often a name has come, the beginning's once ahead -/
def had (F : List El) (x : Id) : Nat := (F.filter (fun e => decide (e.id = x))).length + if x = zeroI then 1 else 0
theorem had_snoc (F : List El) (e : El) (x : Id) : had (F ++ [e]) x = had F x + if e.id = x then 1 else 0 := by
  unfold had
  rw [List.filter_append, List.length_append]
  by_cases h : e.id = x <;> simp [h] <;> omega
theorem had_le (F : List El) (x : Id) : had F x ≤ F.length + 1 := by
  unfold had
  have := List.length_filter_le (fun e : El => decide (e.id = x)) F
  split <;> omega
/-- those that count: the first of each name, none of the beginning's -/
def Counts (F : List El) (e : El) : Prop := FirstK El.id F e ∧ e.id ≠ zeroI
theorem counts_snoc (F : List El) (x e : El) : Counts (F ++ [x]) e ↔ Counts F e ∨ (e = x ∧ had F x.id = 0) := by
  unfold Counts
  rw [firstK_snoc]
  have key : had F x.id = 0 ↔ (∀ g ∈ F, g.id ≠ x.id) ∧ x.id ≠ zeroI := by
    unfold had
    constructor
    · intro h
      refine ⟨fun g hg e => ?_, fun e => ?_⟩
      · have h1 : (F.filter (fun e => decide (e.id = x.id))).length = 0 := by omega
        rw [List.length_eq_zero_iff, List.filter_eq_nil_iff] at h1
        exact h1 g hg (by simp [e])
      · rw [if_pos e] at h; omega
    · rintro ⟨h1, h2⟩
      rw [if_neg h2, Nat.add_zero, List.length_eq_zero_iff, List.filter_eq_nil_iff]
      intro g hg
      simpa using h1 g hg
  rw [key]
  constructor
  · rintro ⟨h1 | ⟨rfl, h1⟩, h2⟩
    · exact .inl ⟨h1, h2⟩
    · exact .inr ⟨rfl, h1, h2⟩
  · rintro (⟨h1, h2⟩ | ⟨rfl, h1, h2⟩)
    · exact ⟨.inl h1, h2⟩
    · exact ⟨.inr ⟨rfl, h1⟩, h2⟩
theorem counts_mem {F : List El} {e : El} (h : Counts F e) : e ∈ F := firstK_mem h.1
theorem counts_names (F : List El) : Names El.id zeroI (Counts F) := ⟨fun _ _ h k e => firstK_same h.1 k.1 e, fun _ h => h.2⟩
/-- what is gathered, in the order in which it came -/
def Gathered (F : List El) (B : Id → List El) : Prop := ∀ x, (B x).Nodup ∧ ∀ e, e ∈ B x ↔ Counts F e ∧ e.af = x
theorem gathered_start : Gathered [] (fun _ => []) := fun x => ⟨List.nodup_nil, fun e => ⟨fun h => absurd h (by simp), fun h => absurd (counts_mem h.1) (by simp)⟩⟩
theorem gathered_had {F : List El} {B : Id → List El} (h : Gathered F B) {x : El} (hx : had F x.id ≠ 0) : Gathered (F ++ [x]) B := fun y => ⟨(h y).1, fun e => by
  rw [(h y).2 e, counts_snoc]
  constructor
  · rintro ⟨h1, h2⟩; exact ⟨.inl h1, h2⟩
  · rintro ⟨h1 | ⟨_, h1⟩, h2⟩
    · exact ⟨h1, h2⟩
    · exact absurd h1 hx⟩
theorem gathered_new {F : List El} {B : Id → List El} (h : Gathered F B) {x : El} (hx : had F x.id = 0) : Gathered (F ++ [x]) (fun y => if y = x.af then B y ++ [x] else B y) := by
  have hno : ¬ Counts F x := by
    intro hc
    have hm := counts_mem hc
    unfold had at hx
    have h1 : (F.filter (fun e => decide (e.id = x.id))).length = 0 := by omega
    rw [List.length_eq_zero_iff, List.filter_eq_nil_iff] at h1
    exact h1 x hm (by simp)
  intro y
  by_cases e : y = x.af
  · subst e
    simp only [if_true]
    refine ⟨?_, fun e => ?_⟩
    · rw [List.nodup_append]
      refine ⟨(h x.af).1, by simp, fun a ha b hb => ?_⟩
      rw [List.mem_singleton] at hb
      subst hb
      rintro rfl
      exact hno (((h a.af).2 a).1 ha).1
    · rw [List.mem_append, (h x.af).2 e, counts_snoc, List.mem_singleton]
      constructor
      · rintro (⟨h1, h2⟩ | rfl)
        · exact ⟨.inl h1, h2⟩
        · exact ⟨.inr ⟨rfl, hx⟩, rfl⟩
      · rintro ⟨h1 | ⟨rfl, _⟩, h2⟩
        · exact .inl ⟨h1, h2⟩
        · exact .inr rfl
  · simp only [if_neg e]
    refine ⟨(h y).1, fun a => ?_⟩
    rw [(h y).2 a, counts_snoc]
    constructor
    · rintro ⟨h1, h2⟩; exact ⟨.inl h1, h2⟩
    · rintro ⟨h1 | ⟨rfl, _⟩, h2⟩
      · exact ⟨h1, h2⟩
      · exact absurd h2.symm e
theorem gathered_le {F : List El} {B : Id → List El} (h : Gathered F B) (x : Id) : (B x).length ≤ F.length :=
  pigeon' (h x).1 (fun e he => counts_mem (((h x).2 e).1 he).1)
/-- .. sorted -/
theorem gathered_sorted {F : List El} {B S : Id → List El} (h : Gathered F B) (hp : ∀ x, (S x).Perm (B x)) (hs : ∀ x, (S x).Pairwise (fun a b => ¬ b.id.cmp a.id < 0)) : BehindOf Id.Lt El.id El.af (Counts F) S := by
  intro x
  refine ⟨?_, fun e => ((hp x).mem_iff).trans ((h x).2 e)⟩
  have hn : (S x).Nodup := (hp x).nodup_iff.2 (h x).1
  have key : ∀ {l : List El}, (∀ a b, a ∈ l → b ∈ l → a.id = b.id → a = b) → l.Nodup → l.Pairwise (fun a b => ¬ b.id.cmp a.id < 0) → l.Pairwise (fun a b => a.id.Lt b.id) := by
    intro l
    induction l with
    | nil => intro _ _ _; exact List.Pairwise.nil
    | cons a l ih =>
      intro hu hn hs
      rw [List.nodup_cons] at hn
      rw [List.pairwise_cons] at hs
      refine List.pairwise_cons.2 ⟨fun b hb => ?_, ih (fun c d hc hd => hu c d (by simp [hc]) (by simp [hd])) hn.2 hs.2⟩
      rcases idSTO.total a.id b.id with t | t | t
      · exact t
      · exact absurd (hu a b (by simp) (by simp [hb]) t ▸ hb) hn.1
      · exact absurd ((icmp_id_neg _ _).2 t) (hs.1 b hb)
  exact key (fun a b ha hb e => firstK_same (((h x).2 a).1 ((hp x).mem_iff.1 ha)).1.1 (((h x).2 b).1 ((hp x).mem_iff.1 hb)).1.1 e) hn (hs x)
end Go.Proofs.YtphapjbfaomblaaDoor
