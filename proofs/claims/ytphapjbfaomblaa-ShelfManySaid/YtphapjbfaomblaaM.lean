/- Maps keyed by stamps, ids and dots. -/
import Derived.Test.YtphapjbfaomblaaA
import Derived.DeepKeys4
import Derived.Maps.OwnSet
import Derived.Maps.RangeWalk
import Derived.Maps.Views
namespace Go.Proofs.Ytphapjbfaomblaa
open Go Go.RowKit Go.Maps
theorem laidOut : laidOutB Try.prog = true := by kernel_rfl
theorem krow24 : (31 : TypeId) < Try.prog.types.size := of_decide_eq_true (by kernel_rfl)
theorem krow26 : (33 : TypeId) < Try.prog.types.size := of_decide_eq_true (by kernel_rfl)
theorem ka24 : Try.prog.keyTypeAt 4 31 = true := by kernel_rfl
theorem ka26 : Try.prog.keyTypeAt 4 33 = true := by kernel_rfl
theorem keyed24 : Keyed Try.prog 31 := Keyed.of_law (deep_law_laid laidOut (m := 4) (by omega) krow24 ka24 (by rw [Try.underlying31]))
theorem keyed26 : Keyed Try.prog 33 := Keyed.of_law (deep_law_laid laidOut (m := 4) (by omega) krow26 ka26 (by rw [Try.underlying33]))
theorem kt24 : Try.prog.keyType 31 = true := by kernel_rfl
theorem kt26 : Try.prog.keyType 33 = true := by kernel_rfl
theorem co24 : Try.prog.cellsOf 31 = 2 := by kernel_rfl
theorem co26 : Try.prog.cellsOf 33 = 3 := by kernel_rfl
theorem co3 : Try.prog.cellsOf 3 = 1 := by kernel_rfl
theorem tysz : ∃ m, Try.prog.types.size = m + 6 := ⟨_, rfl⟩
theorem wf64 (a : Int) : ((Lit.int .i64 a).wf = true) ↔ I64 a := by
  have h1 : IntKind.i64.min = -9223372036854775808 := rfl
  unfold I64 Lit.wf
  simp [h1]
theorem lits3 (m : Nat) {a : Int} (ha : I64 a) : Try.prog.keyLits (m + 1) 3 [.int .i64 a] = some [.int .i64 a] := by
  unfold Program.keyLits
  simp [Try.underlying3, (wf64 a).2 ha]
theorem lits24 (m : Nat) {a b : Int} (ha : I64 a) (hb : I64 b) : Try.prog.keyLits (m + 2) 31 [.int .i64 a, .int .i64 b] = some [.int .i64 a, .int .i64 b] := by
  unfold Program.keyLits
  simp only [Try.underlying31]
  simp [co24, co3, Program.keyLits, Try.underlying3, (wf64 a).2 ha, (wf64 b).2 hb]
theorem lits26 (m : Nat) {a b c : Int} (ha : I64 a) (hb : I64 b) (hc : I64 c) : Try.prog.keyLits (m + 3) 33 [.int .i64 a, .int .i64 b, .int .i64 c] = some [.int .i64 a, .int .i64 b, .int .i64 c] := by
  have h := lits24 m ha hb
  have h3 := lits3 (m + 1) hc
  unfold Program.keyLits
  simp only [Try.underlying33]
  simp [co26, co24, co3, h, h3]
def stK (s : Stamp) : Lit := .string (keyBytes [.int .i64 s.T, .int .i64 s.R])
def idK (x : Id) : Lit := .string (keyBytes [.int .i64 x.s.T, .int .i64 x.s.R, .int .i64 x.I])
theorem key24 (s : Stamp) : keyOf Try.prog 31 (stV s) = some (stK s) := by
  obtain ⟨m, hm⟩ := tysz
  unfold keyOf stV
  simp only [Try.underlying31]
  rw [if_pos (by simp [kt24, Value.formed, Try.underlying31, co24]), hm, show m + 6 + 1 = m + 5 + 2 from rfl]
  simp only [Value.cells]
  rw [lits24 _ s.hT s.hR]
  rfl
theorem key26 (x : Id) : keyOf Try.prog 33 (idV x) = some (idK x) := by
  obtain ⟨m, hm⟩ := tysz
  unfold keyOf idV
  simp only [Try.underlying33]
  rw [if_pos (by simp [kt26, Value.formed, Try.underlying33, co26]), hm, show m + 6 + 1 = m + 4 + 3 from rfl]
  simp only [Value.cells]
  rw [lits26 _ x.s.hT x.s.hR x.hI]
  rfl
theorem lits3_inv {m : Nat} {c : Value} {ls : List Lit} (h : Try.prog.keyLits (m + 1) 3 [c] = some ls) : ∃ n, c = .int .i64 n ∧ I64 n ∧ ls = [.int .i64 n] := by
  unfold Program.keyLits at h
  cases c <;> simp [Try.underlying3] at h
  rename_i q n
  obtain ⟨⟨rfl, hw⟩, rfl⟩ := h
  exact ⟨n, rfl, (wf64 n).1 hw, rfl⟩
theorem lits24_inv {m : Nat} {c0 c1 : Value} {ls : List Lit} (h : Try.prog.keyLits (m + 2) 31 [c0, c1] = some ls) : ∃ a b, c0 = .int .i64 a ∧ c1 = .int .i64 b ∧ I64 a ∧ I64 b := by
  unfold Program.keyLits at h
  simp only [Try.underlying31] at h
  simp [co24, co3, Option.bind_eq_some_iff] at h
  obtain ⟨l0, h0, _, ⟨l1, h1, _⟩, _⟩ := h
  obtain ⟨a, rfl, ha, _⟩ := lits3_inv h0
  obtain ⟨b, rfl, hb, _⟩ := lits3_inv h1
  exact ⟨a, b, rfl, rfl, ha, hb⟩
theorem lits26_inv {m : Nat} {c0 c1 c2 : Value} {ls : List Lit} (h : Try.prog.keyLits (m + 3) 33 [c0, c1, c2] = some ls) : ∃ a b c, c0 = .int .i64 a ∧ c1 = .int .i64 b ∧ c2 = .int .i64 c ∧ I64 a ∧ I64 b ∧ I64 c := by
  unfold Program.keyLits at h
  simp only [Try.underlying33] at h
  simp [co26, co24, co3, Option.bind_eq_some_iff] at h
  obtain ⟨l0, h0, _, ⟨l1, h1, _⟩, _⟩ := h
  obtain ⟨a, b, rfl, rfl, ha, hb⟩ := lits24_inv h0
  obtain ⟨c, rfl, hc, _⟩ := lits3_inv h1
  exact ⟨a, b, c, rfl, rfl, rfl, ha, hb, hc⟩
theorem formed_agg {k : TypeId} {fs : Array Field} (hu : Try.prog.underlying k = some (.struct fs)) {v : Value} (h : v.formed Try.prog k = true) : ∃ cs : Array Value, v = .agg cs ∧ cs.size = Try.prog.cellsOf k := by
  cases v <;> simp [Value.formed, hu] at h
  exact ⟨_, rfl, h⟩
theorem key_parts {k : TypeId} {fs : Array Field} (hu : Try.prog.underlying k = some (.struct fs)) {v : Value} {l : Lit} (h : keyOf Try.prog k v = some l) :
    ∃ cs : Array Value, v = .agg cs ∧ cs.size = Try.prog.cellsOf k ∧ ∃ ls, Try.prog.keyLits (Try.prog.types.size + 1) k cs.toList = some ls := by
  unfold keyOf at h
  simp only [hu] at h
  split at h
  · rename_i hc
    simp only [Bool.and_eq_true] at hc
    obtain ⟨cs, rfl, hs⟩ := formed_agg hu hc.2
    simp only [Option.map_eq_some_iff] at h
    obtain ⟨ls, h1, _⟩ := h
    exact ⟨cs, rfl, hs, ls, h1⟩
  · cases h
theorem len2 {α : Type} {l : List α} (h : l.length = 2) : ∃ a b, l = [a, b] := by
  match l, h with
  | [a, b], _ => exact ⟨a, b, rfl⟩
theorem len3 {α : Type} {l : List α} (h : l.length = 3) : ∃ a b c, l = [a, b, c] := by
  match l, h with
  | [a, b, c], _ => exact ⟨a, b, c, rfl⟩
theorem key24_inv {v : Value} {l : Lit} (h : keyOf Try.prog 31 v = some l) : ∃ s : Stamp, v = stV s ∧ l = stK s := by
  obtain ⟨cs, rfl, hs, ls, hl⟩ := key_parts Try.underlying31 h
  obtain ⟨m, hm⟩ := tysz
  rw [co24] at hs
  obtain ⟨cs⟩ := cs
  obtain ⟨c0, c1, rfl⟩ := len2 (show cs.length = 2 from hs)
  · skip
    rw [hm, show m + 6 + 1 = m + 5 + 2 from rfl] at hl
    obtain ⟨a, b, rfl, rfl, ha, hb⟩ := lits24_inv hl
    refine ⟨⟨a, b, ha, hb⟩, rfl, ?_⟩
    have := key24 ⟨a, b, ha, hb⟩
    exact Option.some.inj (h.symm.trans this)
theorem key26_inv {v : Value} {l : Lit} (h : keyOf Try.prog 33 v = some l) : ∃ x : Id, v = idV x ∧ l = idK x := by
  obtain ⟨cs, rfl, hs, ls, hl⟩ := key_parts Try.underlying33 h
  obtain ⟨m, hm⟩ := tysz
  rw [co26] at hs
  obtain ⟨cs⟩ := cs
  obtain ⟨c0, c1, c2, rfl⟩ := len3 (show cs.length = 3 from hs)
  · skip
    rw [hm, show m + 6 + 1 = m + 4 + 3 from rfl] at hl
    obtain ⟨a, b, c, rfl, rfl, rfl, ha, hb, hc⟩ := lits26_inv hl
    refine ⟨⟨⟨a, b, ha, hb⟩, c, hc⟩, rfl, ?_⟩
    have := key26 ⟨⟨a, b, ha, hb⟩, c, hc⟩
    exact Option.some.inj (h.symm.trans this)
theorem stV_inj {a b : Stamp} (h : stV a = stV b) : a = b := by
  obtain ⟨a1, a2, _, _⟩ := a
  obtain ⟨b1, b2, _, _⟩ := b
  simpa [stV] using h
theorem idV_inj {a b : Id} (h : idV a = idV b) : a = b := by
  obtain ⟨⟨a1, a2, _, _⟩, a3, _⟩ := a
  obtain ⟨⟨b1, b2, _, _⟩, b3, _⟩ := b
  simpa [idV, and_assoc] using h
theorem stK_inj {a b : Stamp} (h : stK a = stK b) : a = b := stV_inj (keyed24.inj (key24 a) (h ▸ key24 b))
theorem idK_inj {a b : Id} (h : idK a = idK b) : a = b := idV_inj (keyed26.inj (key26 a) (h ▸ key26 b))
/-- a type of keys: its values, what they read as -/
structure KeyOk {α : Type} (k : TypeId) (V : α → Value) (L : α → Lit) : Prop where
  keyed : Keyed Try.prog k
  val : ∀ a, keyOf Try.prog k (V a) = some (L a)
  inv : ∀ {v l}, keyOf Try.prog k v = some l → ∃ a, v = V a ∧ l = L a
  inj : ∀ {a b}, L a = L b → a = b
  vinj : ∀ {a b}, V a = V b → a = b
theorem ok24 : KeyOk 31 stV stK := ⟨keyed24, key24, key24_inv, stK_inj, stV_inj⟩
theorem ok26 : KeyOk 33 idV idK := ⟨keyed26, key26, key26_inv, idK_inj, idV_inj⟩
section
variable {α : Type} {k : TypeId} {V : α → Value} {L : α → Lit} {H : Type}
theorem KeyOk.same_self (K : KeyOk k V L) (a : α) : (L a).sameKey (L a) = true := WideAt.sameKey_self (K.keyed.key (K.val a))
theorem KeyOk.same_ne (K : KeyOk k V L) {a b : α} (h : a ≠ b) : (L a).sameKey (L b) = false := by
  rcases e : (L a).sameKey (L b) with _ | _
  · rfl
  · exact absurd (K.inj (WideAt.sameKey_eq e)) h
theorem KeyOk.has_put [DecidableEq α] (K : KeyOk k V L) {D : DataW H} (hD : IsMap D) (a b : α) (d : DataW H) : has (D.put (L a) d) (L b) = (decide (b = a) || has D (L b)) := by
  by_cases h : b = a
  · subst h
    rw [has_put_same hD (K.keyed.key (K.val b))]
    simp
  · rw [has_put_other (fun e => h (K.inj e))]
    simp [h]
theorem KeyOk.has_del [DecidableEq α] (K : KeyOk k V L) {D : DataW H} (a b : α) : has (D.del (L a)) (L b) = (!decide (b = a) && has D (L b)) := by
  by_cases h : b = a
  · subst h
    rw [has_del_same]
    simp
  · rw [has_del_other (fun e => h (K.inj e))]
    simp [h]
/-- what has come of a map's keys -/
def Come (L : α → Lit) (D0 : DataW H) (left : Lit → Bool) (ss : List α) : Prop := ss.Nodup ∧ ∀ x, x ∈ ss ↔ (has D0 (L x) = true ∧ left (L x) = false)
theorem Come.start (L : α → Lit) (D0 : DataW H) : Come L D0 (has D0) [] := ⟨List.nodup_nil, fun x => by cases has D0 (L x) <;> simp⟩
theorem Come.step (K : KeyOk k V L) {D0 : DataW H} {left : Lit → Bool} {ss : List α} (h : Come L D0 left ss) {x : α} {y : DataW H} (hlk : left (L x) = true) (hat : ∀ zd, D0.atKey (L x) zd = y) :
    Come L D0 (fun z => left z && !z.sameKey (L x)) (ss ++ [x]) := by
  have hhas : has D0 (L x) = true := has_true_of_atKey hat
  have hnew : x ∉ ss := fun hx => by have := ((h.2 x).1 hx).2; rw [hlk] at this; cases this
  refine ⟨List.nodup_append.2 ⟨h.1, by simp, fun a ha b hb => by simp at hb; subst hb; exact fun e => hnew (e ▸ ha)⟩, fun y => ?_⟩
  by_cases hy : y = x
  · subst hy
    simp [hhas, K.same_self]
  · simp [h.2 y, hy, K.same_ne hy]
end
end Go.Proofs.Ytphapjbfaomblaa
