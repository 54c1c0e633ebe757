/- What is told by small numbers; in any order; what is told last. Plain. -/
import Derived.Test.YtejafcdlkpmemaaPC
import Derived.Test.YtejafcdlkpmemaaPP2
import Derived.Test.YtejafcdlkpmemaaO5
import Derived.Test.YtejafcdlkpmemaaT
namespace Go.Proofs.Ytejafcdlkpmemaa
open Go
def zeroStep : Step := ⟨0, 0, 0, by decide, by decide, by decide⟩
def sN : ByteArray := ⟨#[110]⟩
def tPa (x : Nat) : Id := if x % 9 = 0 then zeroI else nid ((x % 9 : Nat) : Int) (i64_small (by omega))
def tI (L : List Step) (i : Nat) : Id := ⟨⟨((10 + (L.getD i zeroStep).tm % 30 : Nat) : Int), 1, i64_small (by omega), by decide⟩, ((min i 900 : Nat) : Int), i64_small (by omega)⟩
def tP (L : List Step) (i : Nat) : Place := ⟨nid ((1 + (L.getD i zeroStep).nd % 8 : Nat) : Int) (i64_small (by omega)), tPa (L.getD i zeroStep).pa, sN, decide ((L.getD i zeroStep).tm % 2 = 0)⟩
def tIs (L : List Step) (n : Nat) : List Id := (List.range n).map (tI L)
def tPs (L : List Step) (n : Nat) : List Place := (List.range n).map (tP L)
theorem tI_C (L : List Step) {i : Nat} (h : i < 900) : idC (tI L i) = [.int .i64 ((10 + (L.getD i zeroStep).tm % 30 : Nat) : Int), .int .i64 1, .int .i64 (i : Int)] := by
  show [_, _, Value.int .i64 ((min i 900 : Nat) : Int)] = _
  rw [Nat.min_eq_left (by omega)]
  rfl
theorem tPa_C (x : Nat) : (tPa x).s.T = ((x % 9 : Nat) : Int) ∧ (tPa x).s.R = (if x % 9 = 0 then 0 else 1) ∧ (tPa x).I = 0 := by
  unfold tPa
  split
  · rename_i h; rw [h]; exact ⟨rfl, rfl, rfl⟩
  · exact ⟨rfl, rfl, rfl⟩
theorem tP_C (L : List Step) (i : Nat) : plC (tP L i) = [.int .i64 ((1 + (L.getD i zeroStep).nd % 8 : Nat) : Int), .int .i64 1, .int .i64 0, .int .i64 (((L.getD i zeroStep).pa % 9 : Nat) : Int), .int .i64 (if (L.getD i zeroStep).pa % 9 = 0 then 0 else 1), .int .i64 0, .string sN, .bool (decide ((L.getD i zeroStep).tm % 2 = 0))] := by
  show [_, _, _, Value.int .i64 (tPa (L.getD i zeroStep).pa).s.T, Value.int .i64 (tPa (L.getD i zeroStep).pa).s.R, Value.int .i64 (tPa (L.getD i zeroStep).pa).I, _, _] = _
  obtain ⟨h1, h2, h3⟩ := tPa_C (L.getD i zeroStep).pa
  rw [h1, h2, h3]
  rfl
theorem tIs_succ (L : List Step) (n : Nat) : tIs L (n + 1) = tIs L n ++ [tI L n] := by simp [tIs, List.range_succ]
theorem tPs_succ (L : List Step) (n : Nat) : tPs L (n + 1) = tPs L n ++ [tP L n] := by simp [tPs, List.range_succ]
theorem tIs_len (L : List Step) (n : Nat) : (tIs L n).length = n := by simp [tIs]
theorem tPs_len (L : List Step) (n : Nat) : (tPs L n).length = n := by simp [tPs]
theorem tIs_get (L : List Step) {n i : Nat} (h : i < (tIs L n).length) : (tIs L n)[i] = tI L i := by simp [tIs]
theorem tPs_get (L : List Step) {n i : Nat} (h : i < (tPs L n).length) : (tPs L n)[i] = tP L i := by simp [tPs]
theorem zip_range (f : Nat → Id) (g : Nat → Place) (n : Nat) : zipT ((List.range n).map f) ((List.range n).map g) = (List.range n).map (fun i => (⟨f i, g i⟩ : Told)) := by
  apply List.ext_getElem
  · simp [zipT]
  · intro i h1 h2
    simp [zipT]
/-- the place asked in a round: backwards, turned -/
def ix (n t i : Nat) : Nat := (n - 1 - i + t) % n
theorem ix_lt {n t i : Nat} (h : i < n) : ix n t i < n := Nat.mod_lt _ (by omega)
theorem ix_inj {n t i j : Nat} (hi : i < n) (hj : j < n) (e : ix n t i = ix n t j) : i = j := by
  unfold ix at e
  have h1 := Nat.div_add_mod (n - 1 - i + t) n
  have h2 := Nat.div_add_mod (n - 1 - j + t) n
  rw [e] at h1
  generalize (n - 1 - i + t) / n = p at h1
  generalize (n - 1 - j + t) / n = q at h2
  generalize (n - 1 - j + t) % n = r at h1 h2
  rcases Nat.lt_trichotomy p q with h | h | h
  · have := Nat.mul_le_mul_left n (show p + 1 ≤ q from h)
    rw [Nat.mul_add] at this
    omega
  · subst h; omega
  · have := Nat.mul_le_mul_left n (show q + 1 ≤ p from h)
    rw [Nat.mul_add] at this
    omega
theorem ix_onto {n t j : Nat} (hj : j < n) : ∃ i, i < n ∧ ix n t i = j := by
  refine ⟨(n - 1 + t - j) % n, Nat.mod_lt _ (by omega), ?_⟩
  unfold ix
  have h1 := Nat.div_add_mod (n - 1 + t - j) n
  have h2 : (n - 1 + t - j) % n < n := Nat.mod_lt _ (by omega)
  generalize (n - 1 + t - j) / n = q at h1
  generalize (n - 1 + t - j) % n = r at h1 h2 ⊢
  have e : n - 1 - r + t = j + n * q := by omega
  rw [e, Nat.add_mul_mod_self_left, Nat.mod_eq_of_lt hj]
/-- in whatever order, of unlike times, it is told the same -/
theorem told_turn {F : Nat → Told} {n t : Nat} {T S : List Told} (hF : ∀ i j, i < n → j < n → (F i).at_ = (F j).at_ → i = j)
    (h : ToldOf ((List.range n).map F) T) (k : ToldOf ((List.range n).map (fun i => F (ix n t i))) S) : T = S := by
  have u1 : UnlikeK Told.at_ ((List.range n).map F) := by
    unfold UnlikeK
    rw [List.pairwise_map]
    refine List.pairwise_lt_range.imp_of_mem ?_
    intro a b ha hb hab e
    have := hF a b (List.mem_range.1 ha) (List.mem_range.1 hb) e
    omega
  have u2 : UnlikeK Told.at_ ((List.range n).map (fun i => F (ix n t i))) := by
    unfold UnlikeK
    rw [List.pairwise_map]
    refine List.pairwise_lt_range.imp_of_mem ?_
    intro a b ha hb hab e
    have ha := List.mem_range.1 ha
    have hb := List.mem_range.1 hb
    have := ix_inj ha hb (hF _ _ (ix_lt ha) (ix_lt hb) e)
    omega
  refine toldOf_same h ⟨k.1, fun x => ?_⟩
  rw [k.2 x, u2.first x, u1.first x]
  constructor
  · intro hm
    obtain ⟨i, hi, rfl⟩ := List.mem_map.1 hm
    exact List.mem_map.2 ⟨ix n t i, List.mem_range.2 (ix_lt (List.mem_range.1 hi)), rfl⟩
  · intro hm
    obtain ⟨j, hj, rfl⟩ := List.mem_map.1 hm
    obtain ⟨i, hi, rfl⟩ := ix_onto (t := t) (List.mem_range.1 hj)
    exact List.mem_map.2 ⟨i, List.mem_range.2 hi, rfl⟩
theorem tI_inj {L : List Step} {i j : Nat} (hi : i < 40) (hj : j < 40) (e : tI L i = tI L j) : i = j := by
  have h := congrArg Id.I e
  have h : ((min i 900 : Nat) : Int) = ((min j 900 : Nat) : Int) := h
  omega
theorem told_same {L : List Step} {n t : Nat} {T S : List Told} (hn : n ≤ 40)
    (h : ToldOf (zipT (tIs L n) (tPs L n)) T) (k : ToldOf (zipT ((List.range n).map (fun i => tI L (ix n t i))) ((List.range n).map (fun i => tP L (ix n t i)))) S) : T = S := by
  unfold tIs tPs at h
  rw [zip_range] at h k
  exact told_turn (F := fun i => ⟨tI L i, tP L i⟩) (fun i j hi hj e => tI_inj (by omega) (by omega) e) h k
/-! what is told last -/
theorem toldOf_last {l T : List Told} {x : Told} (h : ToldOf l T) (hx : ∀ g ∈ l, g.at_.Lt x.at_) : ToldOf (l ++ [x]) (T ++ [x]) := by
  have hm : ∀ g ∈ T, g.at_.Lt x.at_ := fun g hg => hx g (firstK_mem ((h.2 g).1 hg))
  refine ⟨?_, fun y => ?_⟩
  · rw [List.pairwise_append]
    refine ⟨h.1, List.pairwise_singleton _ _, fun a ha b hb => ?_⟩
    rw [List.mem_singleton] at hb
    exact hb ▸ hm a ha
  · rw [firstK_snoc, List.mem_append, h.2 y, List.mem_singleton]
    constructor
    · rintro (h1 | h1)
      · exact .inl h1
      · exact .inr ⟨h1, fun g hg e => by have := hx g hg; rw [e] at this; exact idSTO.irrefl _ this⟩
    · rintro (h1 | h1)
      · exact .inl h1
      · exact .inr h1.1
def lastI : Id := ⟨⟨4611686018427387905, 1, by unfold I64; omega, by decide⟩, 0, by decide⟩
theorem lt_last {x : Id} (h : x.s.T ≤ 4611686018427387904) : x.Lt lastI := by
  refine .inl (.inl ?_)
  show x.s.T < 4611686018427387905
  omega
theorem zip_last (a : List Id) (b : List Place) (p : Place) : zipT (a.take (min a.length b.length) ++ [lastI]) (b.take (min a.length b.length) ++ [p]) = zipT a b ++ [⟨lastI, p⟩] := by
  unfold zipT
  rw [List.zipWith_append (by simp)]
  congr 1
  apply List.ext_getElem
  · simp
  · intro i h1 h2
    simp
theorem last_of {a : List Id} {b : List Place} {p : Place} {T S : List Told} (h : ToldOf (zipT a b) T) (hx : ∀ x ∈ a.take (min a.length b.length), x.s.T ≤ 4611686018427387904)
    (k : ToldOf (zipT (a.take (min a.length b.length) ++ [lastI]) (b.take (min a.length b.length) ++ [p])) S) : replayL S = pstep (replayL T) p := by
  rw [zip_last] at k
  have := toldOf_same k (toldOf_last h (fun g hg => by
    refine lt_last (hx _ ?_)
    have e := zipT_at (a := a) (b := b) (k := min a.length b.length) (Nat.le_refl _)
    rw [← e, List.take_of_length_le (by rw [zipT_len]; exact Nat.le_refl _)]
    exact List.mem_map.2 ⟨g, hg, rfl⟩))
  rw [this, replayL_snoc]
end Go.Proofs.Ytejafcdlkpmemaa
