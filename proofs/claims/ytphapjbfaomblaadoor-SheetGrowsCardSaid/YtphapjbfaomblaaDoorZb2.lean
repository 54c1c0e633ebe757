/- Texts of this seat, one behind the other: EM, P, M1, WO. -/
import Derived.WideKeyEntry
import Derived.Maps.OwnSet
import Derived.Test.YtphapjbfaomblaaDoorZb1
import Derived.Lib.MapLaws
import Derived.Lib.ValidLaws
/- 'm[k] op= v' in a map of one's own: the entry, then the store. Plain, over any program. -/
namespace Go.Proofs.YtphapjbfaomblaaDoor
open Go Go.RowKit Go.Maps Go.ChangeMaps
theorem law24 : WideMaps.KeyLaw Tryd.prog 24 := deep_law_laid laidOut (m := 4) (by omega) krow24 ka24 (by rw [Tryd.underlying24])
theorem law26 : WideMaps.KeyLaw Tryd.prog 26 := deep_law_laid laidOut (m := 4) (by omega) krow26 ka26 (by rw [Tryd.underlying26])
theorem own_entry {H : Type} {P : Program} {w : World} {t k e : TypeId} {R : Value → Option (DataW H × List MemPlace)} {b n : Nat} {D : DataW H} (h : w.ownsMap P k R b n D) (K : WideMaps.KeyLaw P k) (ht : P.underlying t = some (.map k e))
    {z : Value} (hz : ∀ u : World, (zeroValue e).run P u = .ok z u) (hn : n < maxLen) {key val : Value} {kl : Lit} {d : DataW H} {ps : List MemPlace} (hkey : keyOf P k key = some kl) (hv : R val = some (d, ps)) :
    ∃ v0 st w1 w2, (Instr.lookup t (.map (some b)) key false).run P w = .ok v0 w ∧ (Instr.mapEntry t (.map (some b)) key).run P w = .ok (.tuple #[v0, goInt st]) w1 ∧ (Instr.lookup t (.map (some b)) key false).run P w1 = .ok v0 w1 ∧
      (Instr.entryStore t (.map (some b)) (goInt st) val).run P w1 = .ok () w2 ∧ w2.ownsMap P k R b (n + 1) (D.put kl d) ∧ w.grownBy w2 (some b) := by
  obtain ⟨w', hu, ho, hg⟩ := h.update (Keyed.of_law K) ht hn hkey hv
  obtain ⟨es, clock, hb, F, hs, hD⟩ := h
  obtain ⟨v0, st, es1, clock1, h1, _, h2⟩ := WideElems.entry_then_store K ht hz hb F hkey
  have hb1 : (setBlock w b (.map es1 clock1)).heap[b]? = some (.map es1 clock1) := heap_setBlock_same hb _
  obtain ⟨es', clock', h3, h4⟩ := h2 (setBlock w b (.map es1 clock1)) val hb1
  have e1 : w' = setBlock w b (.map es' clock') := by
    rw [hu] at h4
    cases h4
    rfl
  have e2 : setBlock (setBlock w b (.map es1 clock1)) b (.map es' clock') = w' := by
    rw [e1]
    simp [setBlock]
  rw [e2] at h3
  have both : (Instr.lookup t (.map (some b)) key false).run P w = .ok v0 w ∧ (Instr.lookup t (.map (some b)) key false).run P (setBlock w b (.map es1 clock1)) = .ok v0 (setBlock w b (.map es1 clock1)) := by
    rcases K.find w hkey es.toList F.keys with ⟨f1, f2⟩ | ⟨j, e0, f1, f2, f3⟩
    · have hm : (Instr.mapEntry t (.map (some b)) key).run P w = .ok (.tuple #[z, goInt clock]) (setBlock w b (.map (es.push ⟨key, z, clock⟩) (clock + 1))) := by
        simp [Instr.mapEntry, run_underlying ht, MapKept.run_getObj_map hb, K.check w false hkey, f1, hz, MapKept.run_setObj_map _ hb, Result.andThen, setBlock]
      rw [hm] at h1
      simp only [Result.ok.injEq, Value.tuple.injEq] at h1
      obtain ⟨hv0, hw⟩ := h1
      have hz0 : z = v0 := by
        have h9 : #[z, goInt clock].toList = #[v0, goInt st].toList := congrArg Array.toList hv0
        exact (List.cons.inj h9).1
      have hb2 : (setBlock w b (.map es1 clock1)).heap[b]? = some (.map (es.push ⟨key, z, clock⟩) (clock + 1)) := by rw [← hw]; exact heap_setBlock_same hb _
      subst hz0
      refine ⟨by simp [Instr.lookup, run_underlying ht, MapKept.run_getObj_map hb, K.check w _ hkey, f1, hz, Result.andThen], ?_⟩
      rcases K.find (setBlock w b (.map es1 clock1)) hkey (es.push ⟨key, z, clock⟩).toList (fun x hx => by
        rw [Array.toList_push, List.mem_append, List.mem_singleton] at hx
        rcases hx with hx | rfl
        · exact F.keys x hx
        · exact ⟨_, hkey⟩) with ⟨_, g2⟩ | ⟨j, e0, g1, g2, g3⟩
      · exact absurd rfl (g2 ⟨key, z, clock⟩ (by simp))
      · have hm0 : e0 ∈ (es.push ⟨key, z, clock⟩).toList := List.mem_of_getElem? g2
        rw [Array.toList_push, List.mem_append, List.mem_singleton] at hm0
        rcases hm0 with hm0 | rfl
        · exact absurd g3 (f2 e0 hm0)
        · simp only [Array.toList_push] at g1
          simp [Instr.lookup, run_underlying ht, MapKept.run_getObj_map hb2, K.check (setBlock w b (.map es1 clock1)) _ hkey, g1, Result.andThen]
    · have hj : es[j]? = some e0 := by simpa using f2
      have hsame : es.modify j (fun e => { e with key := key }) = es := by
        apply Array.ext'
        rw [Array.toList_modify, modify_eq_set _ _ _ _ f2]
        have : ({ e0 with key := key } : MapEntry) = e0 := by rw [← f3]
        rw [this]
        exact WideElems.set_self _ _ _ f2
      have hm : (Instr.mapEntry t (.map (some b)) key).run P w = .ok (.tuple #[e0.val, goInt e0.born]) (setBlock w b (.map es clock)) := by
        simp [Instr.mapEntry, run_underlying ht, MapKept.run_getObj_map hb, K.check w false hkey, f1, hj, f3, K.stays w hkey, hsame, MapKept.run_setObj_map _ hb, Result.andThen, setBlock]
      rw [hm] at h1
      simp only [Result.ok.injEq, Value.tuple.injEq] at h1
      obtain ⟨hv0, hw⟩ := h1
      have hz0 : e0.val = v0 := by
        have h9 : #[e0.val, goInt e0.born].toList = #[v0, goInt st].toList := congrArg Array.toList hv0
        exact (List.cons.inj h9).1
      have hb2 : (setBlock w b (.map es1 clock1)).heap[b]? = some (.map es clock) := by rw [← hw]; exact heap_setBlock_same hb _
      refine ⟨by simp [Instr.lookup, run_underlying ht, MapKept.run_getObj_map hb, K.check w _ hkey, f1, Result.andThen, hz0], ?_⟩
      rcases K.find (setBlock w b (.map es1 clock1)) hkey es.toList F.keys with ⟨_, g2⟩ | ⟨j', e', g1, g2, g3⟩
      · exact absurd f3 (g2 e0 (List.mem_of_getElem? f2))
      · have he : e' = e0 := Go.entry_eq_of_key ((Go.MapKept.stamped_iff es clock).1 F.stamped).2.2 (List.mem_of_getElem? g2) (List.mem_of_getElem? f2) (g3.trans f3.symm)
        subst he
        simp [Instr.lookup, run_underlying ht, MapKept.run_getObj_map hb2, K.check (setBlock w b (.map es1 clock1)) _ hkey, g1, Result.andThen, hz0]
  exact ⟨v0, st, _, w', both.1, h1, both.2, h3, ho, hg⟩
end Go.Proofs.YtphapjbfaomblaaDoor
/- Lists that rise strictly, one more put where it belongs; the order of stamps and of ids. Plain Lean over the data's types. -/
namespace Go.Proofs.YtphapjbfaomblaaDoor
structure STO {α : Type} (lt : α → α → Prop) : Prop where
  irrefl : ∀ a, ¬ lt a a
  trans : ∀ a b c, lt a b → lt b c → lt a c
  total : ∀ a b, lt a b ∨ a = b ∨ lt b a
section
variable {α : Type} {lt : α → α → Prop}
theorem STO.asymm (O : STO lt) {a b : α} (h : lt a b) : ¬ lt b a := fun k => O.irrefl a (O.trans a b a h k)
theorem sorted_unique (O : STO lt) : ∀ {L M : List α}, L.Pairwise lt → M.Pairwise lt → (∀ x, x ∈ L ↔ x ∈ M) → L = M
  | [], [], _, _, _ => rfl
  | [], b :: M, _, _, h => by have := (h b).2 (by simp); simp at this
  | a :: L, [], _, _, h => by have := (h a).1 (by simp); simp at this
  | a :: L, b :: M, h1, h2, h => by
    obtain ⟨a1, a2⟩ := List.pairwise_cons.1 h1
    obtain ⟨b1, b2⟩ := List.pairwise_cons.1 h2
    have e : a = b := by
      have ha := (h a).1 (by simp)
      have hb := (h b).2 (by simp)
      rcases List.mem_cons.1 ha with e | ha
      · exact e
      · rcases List.mem_cons.1 hb with e | hb
        · exact e.symm
        · exact absurd (a1 b hb) (O.asymm (b1 a ha))
    subst e
    congr 1
    refine sorted_unique O a2 b2 fun x => ?_
    constructor
    · intro hx
      rcases List.mem_cons.1 ((h x).1 (by simp [hx])) with e | h'
      · subst e; exact absurd (a1 x hx) (O.irrefl x)
      · exact h'
    · intro hx
      rcases List.mem_cons.1 ((h x).2 (by simp [hx])) with e | h'
      · subst e; exact absurd (b1 x hx) (O.irrefl x)
      · exact h'
theorem sorted_put (O : STO lt) {P S : List α} {x : α} (h : (P ++ S).Pairwise lt) (hx : x ∉ P ++ S) (hS : ∀ y ∈ S, lt x y) (hP : ∀ z, P.getLast? = some z → ¬ lt x z) : (P ++ x :: S).Pairwise lt := by
  obtain ⟨h1, h2, h3⟩ := List.pairwise_append.1 h
  refine List.pairwise_append.2 ⟨h1, List.pairwise_cons.2 ⟨hS, h2⟩, fun a ha b hb => ?_⟩
  rcases List.mem_cons.1 hb with rfl | hb
  · have hne : P ≠ [] := by rintro rfl; simp at ha
    obtain ⟨P', z, rfl⟩ : ∃ P' z, P = P' ++ [z] := ⟨_, _, (List.dropLast_concat_getLast hne).symm⟩
    have hz : lt z b := by
      rcases O.total b z with h' | h' | h'
      · exact absurd h' (hP z (by simp))
      · subst h'; exact absurd (by simp) hx
      · exact h'
    rcases List.mem_append.1 ha with ha | ha
    · exact O.trans a z b ((List.pairwise_append.1 h1).2.2 a ha z (by simp)) hz
    · rw [List.mem_singleton.1 ha]; exact hz
  · exact h3 a ha b hb
theorem mem_put {P S : List α} {x y : α} : y ∈ P ++ x :: S ↔ y = x ∨ y ∈ P ++ S := by
  simp only [List.mem_append, List.mem_cons]
  constructor
  · rintro (h | h | h)
    · exact .inr (.inl h)
    · exact .inl h
    · exact .inr (.inr h)
  · rintro (h | h | h)
    · exact .inr (.inl h)
    · exact .inl h
    · exact .inr (.inr h)
end
def Stamp.Lt (a b : Stamp) : Prop := a.T < b.T ∨ a.T = b.T ∧ a.R < b.R
def Id.Lt (a b : Id) : Prop := a.s.Lt b.s ∨ a.s = b.s ∧ a.I < b.I
theorem Stamp.ext' {a b : Stamp} (h1 : a.T = b.T) (h2 : a.R = b.R) : a = b := by
  obtain ⟨_, _, _, _⟩ := a
  obtain ⟨_, _, _, _⟩ := b
  simp only at h1 h2
  subst h1; subst h2; rfl
theorem Id.ext' {a b : Id} (h1 : a.s = b.s) (h2 : a.I = b.I) : a = b := by
  obtain ⟨_, _, _⟩ := a
  obtain ⟨_, _, _⟩ := b
  simp only at h1 h2
  subst h1; subst h2; rfl
theorem stampSTO : STO Stamp.Lt where
  irrefl a := by unfold Stamp.Lt; omega
  trans a b c h k := by unfold Stamp.Lt at *; omega
  total a b := by
    unfold Stamp.Lt
    by_cases h1 : a.T = b.T
    · by_cases h2 : a.R = b.R
      · exact .inr (.inl (Stamp.ext' h1 h2))
      · omega
    · omega
theorem idSTO : STO Id.Lt where
  irrefl a := by
    rintro (h | ⟨_, h⟩)
    · exact stampSTO.irrefl _ h
    · omega
  trans a b c h k := by
    rcases h with h | ⟨h, h'⟩ <;> rcases k with k | ⟨k, k'⟩
    · exact .inl (stampSTO.trans _ _ _ h k)
    · exact .inl (k ▸ h)
    · exact .inl (h ▸ k)
    · exact .inr ⟨h.trans k, by omega⟩
  total a b := by
    rcases stampSTO.total a.s b.s with h | h | h
    · exact .inl (.inl h)
    · rcases Int.lt_trichotomy a.I b.I with h' | h' | h'
      · exact .inl (.inr ⟨h, h'⟩)
      · exact .inr (.inl (Id.ext' h h'))
      · exact .inr (.inr (.inr ⟨h.symm, h'⟩))
    · exact .inr (.inr (.inl h))
theorem slt_iff (a b : Stamp) : a.lt b = true ↔ a.Lt b := by
  unfold Stamp.lt Stamp.Lt
  simp
theorem scmp_neg (a b : Stamp) : a.cmp b < 0 ↔ a.Lt b := by
  unfold Stamp.cmp
  rw [← slt_iff]
  constructor
  · intro h
    by_cases h1 : a.lt b = true
    · exact h1
    · rw [if_neg h1] at h; split at h <;> omega
  · intro h; rw [if_pos h]; omega
theorem scmp_zero (a b : Stamp) : a.cmp b = 0 ↔ a = b := by
  unfold Stamp.cmp
  constructor
  · intro h
    by_cases h1 : a.lt b = true
    · rw [if_pos h1] at h; omega
    · rw [if_neg h1] at h
      by_cases h2 : b.lt a = true
      · rw [if_pos h2] at h; omega
      · rw [slt_iff] at h1 h2
        rcases stampSTO.total a b with h' | h' | h'
        · exact absurd h' h1
        · exact h'
        · exact absurd h' h2
  · rintro rfl
    have : ¬ a.lt a = true := by rw [slt_iff]; exact stampSTO.irrefl a
    rw [if_neg this, if_neg this]
theorem icmp_neg (a b : Int) : icmp a b < 0 ↔ a < b := by unfold icmp; repeat' split
                                                          all_goals omega
theorem icmp_zero (a b : Int) : icmp a b = 0 ↔ a = b := by unfold icmp; repeat' split
                                                           all_goals omega
theorem icmp_id_neg (a b : Id) : a.cmp b < 0 ↔ a.Lt b := by
  unfold Id.cmp orI Id.Lt
  by_cases h : a.s.cmp b.s = 0
  · rw [if_pos h, icmp_neg]
    have e := (scmp_zero _ _).1 h
    constructor
    · intro h'; exact .inr ⟨e, h'⟩
    · rintro (h' | ⟨_, h'⟩)
      · exact absurd (e ▸ h' : b.s.Lt b.s) (stampSTO.irrefl _)
      · exact h'
  · rw [if_neg h, scmp_neg]
    constructor
    · exact .inl
    · rintro (h' | ⟨h', _⟩)
      · exact h'
      · exact absurd ((scmp_zero _ _).2 h') h
theorem icmp_id_zero (a b : Id) : a.cmp b = 0 ↔ a = b := by
  unfold Id.cmp orI
  by_cases h : a.s.cmp b.s = 0
  · rw [if_pos h, icmp_zero]
    have e := (scmp_zero _ _).1 h
    constructor
    · intro h'; exact Id.ext' e h'
    · rintro rfl; rfl
  · rw [if_neg h]
    constructor
    · intro h'; exact absurd h' h
    · rintro rfl; exact absurd ((scmp_zero _ _).2 rfl) h
end Go.Proofs.YtphapjbfaomblaaDoor
/- Texts as pieces: a valid text is one row of pieces, each the bytes of one code point, and each stands by itself. Plain Lean. -/
namespace Go.Proofs.YtphapjbfaomblaaDoor
open Go Go.Lib

abbrev Bs := List UInt8
def bad (l : Bs) : Prop := (decodeL l).1 = 65533 ∧ (decodeL l).2 = 1
instance (l : Bs) : Decidable (bad l) := by unfold bad; infer_instance
/-- the bytes of one code point -/
def isP (p : Bs) : Prop := p ≠ [] ∧ ¬ bad p ∧ (decodeL p).2 = p.length
def AllP (ps : List Bs) : Prop := ∀ p ∈ ps, isP p
theorem AllP.nil : AllP [] := fun _ h => by cases h
theorem AllP.cons {p : Bs} {ps : List Bs} (h : isP p) (hs : AllP ps) : AllP (p :: ps) := fun q hq => by
  rcases List.mem_cons.1 hq with rfl | hq
  · exact h
  · exact hs q hq
theorem AllP.head {p : Bs} {ps : List Bs} (h : AllP (p :: ps)) : isP p := h p List.mem_cons_self
theorem AllP.tail {p : Bs} {ps : List Bs} (h : AllP (p :: ps)) : AllP ps := fun q hq => h q (List.mem_cons_of_mem _ hq)
theorem AllP.append {ps qs : List Bs} (h : AllP ps) (k : AllP qs) : AllP (ps ++ qs) := fun q hq => by
  rcases List.mem_append.1 hq with hq | hq
  · exact h q hq
  · exact k q hq
theorem AllP.left {ps qs : List Bs} (h : AllP (ps ++ qs)) : AllP ps := fun q hq => h q (List.mem_append_left _ hq)
theorem AllP.right {ps qs : List Bs} (h : AllP (ps ++ qs)) : AllP qs := fun q hq => h q (List.mem_append_right _ hq)
theorem AllP.take {ps : List Bs} (h : AllP ps) (k : Nat) : AllP (ps.take k) := fun q hq => h q (List.mem_of_mem_take hq)
theorem AllP.drop {ps : List Bs} (h : AllP ps) (k : Nat) : AllP (ps.drop k) := fun q hq => h q (List.mem_of_mem_drop hq)

/-- WHAT THE DECODER SAYS GOES BY THE BYTES THAT IT TAKES. -/
theorem decode_head {l : Bs} (hne : l ≠ []) (hb : ¬ bad l) (y : Bs) : decodeL (l.take (decodeL l).2 ++ y) = decodeL l := by
  have hl : 0 < l.length := List.length_pos_iff.2 hne
  have key : ∀ (n m : Nat) (b0 b1 b2 b3 c1 c2 c3 : Nat), ¬ ((decodeN n b0 b1 b2 b3).1 = 65533 ∧ (decodeN n b0 b1 b2 b3).2 = 1) → (decodeN n b0 b1 b2 b3).2 ≤ m →
      (2 ≤ (decodeN n b0 b1 b2 b3).2 → c1 = b1) → (3 ≤ (decodeN n b0 b1 b2 b3).2 → c2 = b2) → (4 ≤ (decodeN n b0 b1 b2 b3).2 → c3 = b3) → decodeN m b0 c1 c2 c3 = decodeN n b0 b1 b2 b3 := by
    intro n m b0 b1 b2 b3 c1 c2 c3 hv hm h1 h2 h3
    rcases decodeN_shape n b0 b1 b2 b3 with ⟨c, e⟩ | ⟨e1, e2, e3, ev, e⟩ | ⟨e1, e2, e3, e4, ev, es, e⟩ | ⟨e1, e2, e3, e4, e5, ev, ew, e⟩ | e
    · rw [e]; unfold decodeN; rw [if_pos c]
    · rw [e] at hm h1 h2 h3 ⊢
      obtain rfl : c1 = b1 := h1 (by simp)
      dsimp only at hm
      unfold decodeN
      rw [if_neg (by omega), if_pos (by omega), if_pos (by omega)]
    · rw [e] at hm h1 h2 h3 ⊢
      obtain rfl : c1 = b1 := h1 (by simp)
      obtain rfl : c2 = b2 := h2 (by simp)
      dsimp only at hm
      unfold decodeN
      rw [if_neg (by omega), if_neg (by omega), if_pos (by omega), if_pos (by omega)]
    · rw [e] at hm h1 h2 h3 ⊢
      obtain rfl : c1 = b1 := h1 (by simp)
      obtain rfl : c2 = b2 := h2 (by simp)
      obtain rfl : c3 = b3 := h3 (by simp)
      dsimp only at hm
      unfold decodeN
      rw [if_neg (by omega), if_neg (by omega), if_neg (by omega), if_pos (by omega), if_pos (by omega)]
    · rw [e] at hv; exact absurd ⟨rfl, rfl⟩ hv
  have hle := decodeL_le l hne
  have hw := decodeL_width l
  unfold bad at hb
  obtain ⟨k, hk⟩ : ∃ k, (decodeL l).2 = k := ⟨_, rfl⟩
  have g : ∀ j, j < k → (l.take k ++ y).getD j 0 = l.getD j 0 := by
    intro j hj
    simp only [List.getD_eq_getElem?_getD]
    rw [List.getElem?_append_left (by rw [List.length_take]; omega), List.getElem?_take, if_pos hj]
  have hlen : k ≤ (l.take k ++ y).length := by rw [List.length_append, List.length_take]; omega
  rw [hk] at hle hw ⊢
  rw [decodeL_N (l.take k ++ y), g 0 (by omega)]
  rw [decodeL_N l] at hk hb ⊢
  refine key _ _ _ _ _ _ _ _ _ hb ?_ ?_ ?_ ?_
  · rw [hk]; exact hlen
  · intro h; rw [g 1 (by omega)]
  · intro h; rw [g 2 (by omega)]
  · intro h; rw [g 3 (by omega)]

theorem isP_head {l : Bs} (hne : l ≠ []) (hb : ¬ bad l) : isP (l.take (decodeL l).2) := by
  have h := decode_head hne hb []
  rw [List.append_nil] at h
  have hl : 0 < l.length := List.length_pos_iff.2 hne
  have hw := decodeL_width l
  have hle := decodeL_le l hne
  refine ⟨?_, ?_, ?_⟩
  · intro e
    have := congrArg List.length e
    rw [List.length_take, List.length_nil] at this
    omega
  · unfold bad at hb ⊢; rw [h]; exact hb
  · rw [h, List.length_take]; omega
theorem isP.app {p : Bs} (h : isP p) (y : Bs) : decodeL (p ++ y) = decodeL p := by
  have := decode_head h.1 h.2.1 y
  rwa [h.2.2, List.take_length] at this
theorem isP.pos {p : Bs} (h : isP p) : 0 < p.length := List.length_pos_iff.2 h.1
theorem isP.four {p : Bs} (h : isP p) : p.length ≤ 4 := by
  rw [← h.2.2, decodeL_N]
  rcases decodeN_shape p.length (p.getD 0 0).toNat (p.getD 1 0).toNat (p.getD 2 0).toNat (p.getD 3 0).toNat with ⟨c, e⟩ | ⟨e1, e2, e3, ev, e⟩ | ⟨e1, e2, e3, e4, ev, es, e⟩ | ⟨e1, e2, e3, e4, e5, ev, ew, e⟩ | e
  all_goals (rw [e]; dsimp only; omega)
theorem isP_ascii {b : UInt8} (h : b.toNat < 128) : isP [b] := by
  have e := decodeL_ascii b [] h
  refine ⟨by simp, ?_, by rw [e]; rfl⟩
  unfold bad
  rw [e]
  dsimp only
  omega

theorem length_le_flatten : ∀ ps : List Bs, AllP ps → ps.length ≤ ps.flatten.length
  | [], _ => by simp
  | p :: ps, h => by
    have := length_le_flatten ps h.tail
    have := h.head.pos
    simp only [List.length_cons, List.flatten_cons, List.length_append]
    omega

/-- a text is valid just if it is pieces -/
theorem valid_flatten : ∀ ps : List Bs, AllP ps → validD ps.flatten = true
  | [], _ => rfl
  | p :: ps, h => by
    have hp := h.head
    rw [List.flatten_cons, validD_step _ (by simp [hp.1]), hp.app, if_neg (show ¬ ((decodeL p).1 = 65533 ∧ (decodeL p).2 = 1) from hp.2.1), hp.2.2, List.drop_left]
    exact valid_flatten ps h.tail
theorem valid_pieces : ∀ (n : Nat) (l : Bs), l.length ≤ n → validD l = true → ∃ ps, AllP ps ∧ l = ps.flatten
  | 0, l, h, _ => ⟨[], AllP.nil, by simpa using h⟩
  | n + 1, l, h, hv => by
    by_cases hne : l = []
    · exact ⟨[], AllP.nil, by simp [hne]⟩
    · have hl : 0 < l.length := List.length_pos_iff.2 hne
      rw [validD_step _ hne] at hv
      by_cases hb : (decodeL l).1 = 65533 ∧ (decodeL l).2 = 1
      · rw [if_pos hb] at hv; cases hv
      · rw [if_neg hb] at hv
        have hw := decodeL_width l
        obtain ⟨ps, h1, h2⟩ := valid_pieces n (l.drop (decodeL l).2) (by rw [List.length_drop]; omega) hv
        exact ⟨l.take (decodeL l).2 :: ps, AllP.cons (isP_head hne hb) h1, by rw [List.flatten_cons, ← h2, List.take_append_drop]⟩
theorem pieces_of_valid {l : Bs} (h : validD l = true) : ∃ ps, AllP ps ∧ l = ps.flatten := valid_pieces l.length l (Nat.le_refl _) h
/-- the pieces are one row alone -/
theorem pieces_unique : ∀ ps qs : List Bs, AllP ps → AllP qs → ps.flatten = qs.flatten → ps = qs
  | [], [], _, _, _ => rfl
  | [], q :: qs, _, k, e => by
    have := k.head.pos
    have h := congrArg List.length e
    rw [List.flatten_cons, List.length_append, List.flatten_nil, List.length_nil] at h
    omega
  | p :: ps, [], h, _, e => by
    have := h.head.pos
    have h := congrArg List.length e
    rw [List.flatten_cons, List.length_append, List.flatten_nil, List.length_nil] at h
    omega
  | p :: ps, q :: qs, h, k, e => by
    rw [List.flatten_cons, List.flatten_cons] at e
    have e1 := h.head.app ps.flatten
    rw [e, k.head.app qs.flatten] at e1
    have hl : p.length = q.length := by rw [← h.head.2.2, ← k.head.2.2, e1]
    obtain ⟨e2, e3⟩ := List.append_inj e hl
    rw [e2, pieces_unique ps qs h.tail k.tail e3]
end Go.Proofs.YtphapjbfaomblaaDoor
/- The order of paths: all that stands behind one comes at once behind it, the newest first. Plain. -/
namespace Go.Proofs.YtphapjbfaomblaaDoor
/-! the order of paths -/
section
variable {α : Type} (lt : α → α → Prop)
/-- ahead of: a path that goes on is behind; of two that part the newer one is ahead -/
def PLt : List α → List α → Prop
  | [], [] => False
  | [], _ :: _ => True
  | _ :: _, [] => False
  | a :: p, b :: q => lt b a ∨ a = b ∧ PLt p q
/-- ahead of, with all that goes on from it -/
def SLt : List α → List α → Prop
  | a :: p, b :: q => lt b a ∨ a = b ∧ SLt p q
  | _, _ => False
variable {lt}
theorem plt_irrefl (O : STO lt) : ∀ p, ¬ PLt lt p p
  | [] => fun h => h
  | a :: p => fun h => h.elim (O.irrefl a) (fun h => plt_irrefl O p h.2)
theorem plt_trans (O : STO lt) : ∀ p q r, PLt lt p q → PLt lt q r → PLt lt p r
  | [], [], _, h, _ => h.elim
  | [], _ :: _, [], _, k => k.elim
  | [], _ :: _, _ :: _, _, _ => trivial
  | _ :: _, [], _, h, _ => h.elim
  | _ :: _, _ :: _, [], _, k => k.elim
  | a :: p, b :: q, c :: r, h, k => by
    rcases h with h | ⟨rfl, h⟩ <;> rcases k with k | ⟨rfl, k⟩
    · exact .inl (O.trans _ _ _ k h)
    · exact .inl h
    · exact .inl k
    · exact .inr ⟨rfl, plt_trans O p q r h k⟩
theorem plt_total (O : STO lt) : ∀ p q, PLt lt p q ∨ p = q ∨ PLt lt q p
  | [], [] => .inr (.inl rfl)
  | [], _ :: _ => .inl trivial
  | _ :: _, [] => .inr (.inr trivial)
  | a :: p, b :: q => by
    rcases O.total a b with h | rfl | h
    · exact .inr (.inr (.inl h))
    · rcases plt_total O p q with h | rfl | h
      · exact .inl (.inr ⟨rfl, h⟩)
      · exact .inr (.inl rfl)
      · exact .inr (.inr (.inr ⟨rfl, h⟩))
    · exact .inl (.inl h)
theorem pathSTO (O : STO lt) : STO (PLt lt) := ⟨plt_irrefl O, plt_trans O, plt_total O⟩
theorem plt_more : ∀ (p : List α) (c : α) (r : List α), PLt lt p (p ++ c :: r)
  | [], _, _ => trivial
  | _ :: p, c, r => .inr ⟨rfl, plt_more p c r⟩
theorem slt_plt : ∀ {p q : List α}, SLt lt p q → PLt lt p q
  | [], _, h => h.elim
  | _ :: _, [], h => h.elim
  | _ :: _, _ :: _, h => h.imp id (fun h => ⟨h.1, slt_plt h.2⟩)
theorem slt_more : ∀ {p q : List α} (r s : List α), SLt lt p q → SLt lt (p ++ r) (q ++ s)
  | [], _, _, _, h => h.elim
  | _ :: _, [], _, _, h => h.elim
  | _ :: _, _ :: _, r, s, h => h.imp id (fun h => ⟨h.1, slt_more r s h.2⟩)
theorem slt_kids {a b : α} (h : lt b a) : ∀ p : List α, SLt lt (p ++ [a]) (p ++ [b])
  | [] => .inl h
  | _ :: p => .inr ⟨rfl, slt_kids h p⟩
theorem plt_right : ∀ {p q : List α} (r : List α), PLt lt p q → PLt lt p (q ++ r)
  | [], [], _, h => h.elim
  | [], _ :: _, _, _ => trivial
  | _ :: _, [], _, h => h.elim
  | _ :: _, _ :: _, r, h => h.imp id (fun h => ⟨h.1, plt_right r h.2⟩)
/-- what stands between one and what stands behind it: goes on from it, by a newer one -/
theorem plt_between (O : STO lt) : ∀ {q s : List α} {e : α}, PLt lt q s → PLt lt s (q ++ [e]) → ∃ c r, s = q ++ c :: r ∧ lt e c
  | [], [], _, h, _ => h.elim
  | [], c :: r, e, _, k => by
    rcases k with k | ⟨rfl, k⟩
    · exact ⟨c, r, rfl, k⟩
    · cases r <;> exact k.elim
  | _ :: _, [], _, h, _ => h.elim
  | a :: q, b :: s, e, h, k => by
    rcases h with h | ⟨rfl, h⟩
    · rcases k with k | ⟨rfl, k⟩
      · exact absurd k (O.asymm h)
      · exact absurd h (O.irrefl _)
    · rcases k with k | ⟨_, k⟩
      · exact absurd k (O.irrefl _)
      · obtain ⟨c, r, rfl, hc⟩ := plt_between O h k
        exact ⟨c, r, rfl, hc⟩
end
/-! elements, each behind another one or behind the beginning -/
section
variable {α ε : Type} (idf af : ε → α) (z : α) (E : ε → Prop)
inductive IsPath : List α → α → Prop
  | root : IsPath [] z
  | step (p : List α) (e : ε) (x y : α) : IsPath p y → E e → af e = y → idf e = x → IsPath (p ++ [x]) x
def IsNode (n : List α × ε) : Prop := E n.2 ∧ ∃ q, IsPath idf af z E q (af n.2) ∧ n.1 = q ++ [idf n.2]
structure Names : Prop where
  uniq : ∀ e f, E e → E f → idf e = idf f → e = f
  nz : ∀ e, E e → idf e ≠ z
variable {idf af z E}
theorem path_snoc {p : List α} {x : α} (h : IsPath idf af z E p x) : (p = [] ∧ x = z) ∨ ∃ q e, p = q ++ [x] ∧ IsPath idf af z E q (af e) ∧ E e ∧ idf e = x := by
  cases h with
  | root => exact .inl ⟨rfl, rfl⟩
  | step p e x y h1 h2 h3 h4 => exact .inr ⟨p, e, rfl, h3 ▸ h1, h2, h4⟩
theorem path_unique (N : Names idf z E) {p : List α} {x : α} (h : IsPath idf af z E p x) : ∀ {q}, IsPath idf af z E q x → p = q := by
  induction h with
  | root =>
    intro q k
    rcases path_snoc k with ⟨h1, _⟩ | ⟨_, f, _, _, h2, h3⟩
    · exact h1.symm
    · exact absurd h3 (N.nz f h2)
  | step p e x y h1 h2 h3 h4 ih =>
    intro q k
    rcases path_snoc k with ⟨_, h5⟩ | ⟨q', f, rfl, h6, h7, h8⟩
    · exact absurd (h4.trans h5) (N.nz e h2)
    · obtain rfl := N.uniq e f h2 h7 (h4.trans h8.symm)
      rw [ih (h3 ▸ h6)]
theorem node_path {n : List α × ε} (h : IsNode idf af z E n) : IsPath idf af z E n.1 (idf n.2) := by
  obtain ⟨h1, q, h2, h3⟩ := h
  rw [h3]
  exact .step q n.2 _ _ h2 h1 rfl rfl
theorem node_unique (N : Names idf z E) {n m : List α × ε} (h : IsNode idf af z E n) (k : IsNode idf af z E m) (e : idf n.2 = idf m.2) : n = m := by
  have h1 := N.uniq _ _ h.1 k.1 e
  have h2 := path_unique N (node_path h) (e ▸ node_path k)
  exact Prod.ext h2 h1
/-- what is ahead on a path is a node, too -/
theorem path_cut {p : List α} {x : α} (h : IsPath idf af z E p x) : ∀ {q r : List α} {c : α}, p = q ++ c :: r → ∃ e y, E e ∧ idf e = c ∧ af e = y ∧ IsPath idf af z E q y := by
  induction h with
  | root => intro q r c h; cases q <;> cases h
  | step p e x y h1 h2 h3 h4 ih =>
    intro q r c h
    rcases List.eq_nil_or_concat r with rfl | ⟨r', b, rfl⟩
    · have h : p ++ [x] = q ++ [c] := h
      obtain ⟨rfl, h⟩ := List.append_inj' h rfl
      obtain rfl : x = c := by simpa using h
      exact ⟨e, y, h2, h4, h3, h1⟩
    · have h : p ++ [x] = (q ++ c :: r') ++ [b] := by rw [h]; simp
      obtain ⟨h, _⟩ := List.append_inj' h rfl
      exact ih h
/-- the walk's state: what is out, and what waits, the next one first -/
structure Weaving (lt : α → α → Prop) (idf af : ε → α) (z : α) (E : ε → Prop) (out wait : List (List α × ε)) : Prop where
  so : (out ++ wait).Pairwise (fun u v => PLt lt u.1 v.1)
  sw : wait.Pairwise (fun u v => SLt lt u.1 v.1)
  nodes : ∀ n ∈ out ++ wait, IsNode idf af z E n
  all : ∀ n, IsNode idf af z E n → n ∈ out ∨ ∃ v ∈ wait, v.1 <+: n.1
def kids (idf : ε → α) (B : α → List ε) (p : List α) (x : α) : List (List α × ε) := (B x).reverse.map (fun e => (p ++ [idf e], e))
def BehindOf (lt : α → α → Prop) (idf af : ε → α) (E : ε → Prop) (B : α → List ε) : Prop := ∀ x, (B x).Pairwise (fun e f => lt (idf e) (idf f)) ∧ ∀ e, e ∈ B x ↔ E e ∧ af e = x
variable {lt : α → α → Prop} {B : α → List ε}
theorem mem_kids (hB : BehindOf lt idf af E B) {p : List α} {x : α} {n : List α × ε} : n ∈ kids idf B p x ↔ E n.2 ∧ af n.2 = x ∧ n.1 = p ++ [idf n.2] := by
  unfold kids
  rw [List.mem_map]
  constructor
  · rintro ⟨e, he, rfl⟩
    have := (hB x).2 e
    rw [List.mem_reverse] at he
    exact ⟨(this.1 he).1, (this.1 he).2, rfl⟩
  · rintro ⟨h1, h2, h3⟩
    exact ⟨n.2, List.mem_reverse.2 (((hB x).2 _).2 ⟨h1, h2⟩), Prod.ext h3.symm rfl⟩
theorem kids_sorted (hB : BehindOf lt idf af E B) (p : List α) (x : α) : (kids idf B p x).Pairwise (fun u v => SLt lt u.1 v.1) := by
  unfold kids
  rw [List.pairwise_map, List.pairwise_reverse]
  refine (hB x).1.imp ?_
  intro e f h
  exact slt_kids h p
theorem kids_all (hB : BehindOf lt idf af E B) {p : List α} {x : α} (hp : IsPath idf af z E p x) (N : Names idf z E) {n : List α × ε} (hn : IsNode idf af z E n) (hpn : p <+: n.1) : p = n.1 ∨ ∃ v ∈ kids idf B p x, v.1 <+: n.1 := by
  obtain ⟨r, hr⟩ := hpn
  cases r with
  | nil => exact .inl (by rw [← hr, List.append_nil])
  | cons c r =>
    right
    obtain ⟨e, y, h1, h2, h3, h4⟩ := path_cut (node_path hn) hr.symm
    have : y = x := by
      rcases path_snoc hp with ⟨rfl, rfl⟩ | ⟨q, f, rfl, _, h6, h7⟩
      · rcases path_snoc h4 with ⟨_, h⟩ | ⟨q, _, h, _⟩
        · exact h
        · exact absurd h (by simp)
      · rcases path_snoc h4 with ⟨h, _⟩ | ⟨q', _, h, _⟩
        · exact absurd h (by simp)
        · obtain ⟨_, h⟩ := List.append_inj' h rfl
          simpa using h.symm
    subst this
    refine ⟨(p ++ [c], e), (mem_kids hB).2 ⟨h1, h3, by rw [h2]⟩, r, ?_⟩
    rw [← hr]
    simp
theorem weave_start (hB : BehindOf lt idf af E B) (N : Names idf z E) : Weaving lt idf af z E [] (kids idf B [] z) where
  so := (kids_sorted hB [] z).imp slt_plt
  sw := kids_sorted hB [] z
  nodes := fun n hn => by
    obtain ⟨h1, h2, h3⟩ := (mem_kids hB).1 (by simpa using hn)
    exact ⟨h1, [], h2 ▸ .root, h3⟩
  all := fun n hn => .inr (by
    rcases kids_all hB .root N hn (List.nil_prefix) with h | h
    · obtain ⟨_, q, _, h3⟩ := hn
      rw [← h] at h3
      exact absurd h3 (by simp)
    · exact h)
theorem weave_step (hB : BehindOf lt idf af E B) (N : Names idf z E) {out rest : List (List α × ε)} {x : List α × ε} (h : Weaving lt idf af z E out (x :: rest)) :
    Weaving lt idf af z E (out ++ [x]) (kids idf B x.1 (idf x.2) ++ rest) := by
  have hx : IsNode idf af z E x := h.nodes x (by simp)
  have hxp := node_path hx
  obtain ⟨w1, w2⟩ := List.pairwise_cons.1 h.sw
  obtain ⟨o1, o2, o3⟩ := List.pairwise_append.1 h.so
  have hk : ∀ v ∈ kids idf B x.1 (idf x.2), v.1 = x.1 ++ [idf v.2] := fun v hv => ((mem_kids hB).1 hv).2.2
  have sw : (kids idf B x.1 (idf x.2) ++ rest).Pairwise (fun u v => SLt lt u.1 v.1) := by
    refine List.pairwise_append.2 ⟨kids_sorted hB _ _, w2, fun u hu v hv => ?_⟩
    rw [hk u hu]
    have := slt_more [idf u.2] [] (w1 v hv)
    rwa [List.append_nil] at this
  refine ⟨?_, sw, ?_, ?_⟩
  · rw [List.append_assoc, List.singleton_append]
    refine List.pairwise_append.2 ⟨o1, List.pairwise_cons.2 ⟨fun v hv => ?_, sw.imp slt_plt⟩, fun u hu v hv => ?_⟩
    · rcases List.mem_append.1 hv with hv | hv
      · rw [hk v hv]; exact plt_more _ _ _
      · exact slt_plt (w1 v hv)
    · rcases List.mem_cons.1 hv with rfl | hv
      · exact o3 u hu v (by simp)
      · rcases List.mem_append.1 hv with hv | hv
        · rw [hk v hv]; exact plt_right _ (o3 u hu x (by simp))
        · exact o3 u hu v (List.mem_cons_of_mem _ hv)
  · intro n hn
    simp only [List.mem_append, List.mem_singleton] at hn
    rcases hn with (hn | rfl) | hn | hn
    · exact h.nodes n (by simp [hn])
    · exact hx
    · obtain ⟨h1, h2, h3⟩ := (mem_kids hB).1 hn
      exact ⟨h1, x.1, h2 ▸ hxp, h3⟩
    · exact h.nodes n (by simp [hn])
  · intro n hn
    rcases h.all n hn with h1 | ⟨v, hv, hp⟩
    · exact .inl (by simp [h1])
    · rcases List.mem_cons.1 hv with rfl | hv
      · rcases kids_all hB hxp N hn hp with h1 | ⟨u, hu, hq⟩
        · left
          have : v = n := by
            refine node_unique N hx hn ?_
            have e := node_path hn
            rw [← h1] at e
            rcases path_snoc hxp with ⟨h2, _⟩ | ⟨q, _, h2, _⟩
            · obtain ⟨_, q, _, h3⟩ := hx
              exact absurd (h2.symm.trans h3) (by simp)
            · rcases path_snoc e with ⟨h3, _⟩ | ⟨q', _, h3, _⟩
              · rw [h2] at h3; exact absurd h3 (by simp)
              · rw [h2] at h3
                obtain ⟨_, h4⟩ := List.append_inj' h3 rfl
                simpa using h4
          simp [this]
        · exact .inr ⟨u, by simp [hu], hq⟩
      · exact .inr ⟨v, by simp [hv], hp⟩
/-- the order: all nodes, as the paths stand -/
def OrderOf (lt : α → α → Prop) (idf af : ε → α) (z : α) (E : ε → Prop) (O : List (List α × ε)) : Prop := O.Pairwise (fun u v => PLt lt u.1 v.1) ∧ ∀ n, n ∈ O ↔ IsNode idf af z E n
theorem weave_end {out : List (List α × ε)} (h : Weaving lt idf af z E out []) : OrderOf lt idf af z E out :=
  ⟨by simpa using h.so, fun n => ⟨fun hn => h.nodes n (by simpa using hn), fun hn => (h.all n hn).elim id (fun ⟨_, h, _⟩ => by cases h)⟩⟩
theorem pigeon' {β : Type} : ∀ {l M : List β}, l.Nodup → (∀ x ∈ l, x ∈ M) → l.length ≤ M.length
  | [], _, _, _ => Nat.zero_le _
  | a :: l, M, h, hs => by
    obtain ⟨h1, h2⟩ := List.nodup_cons.1 h
    obtain ⟨s, t, rfl⟩ := List.append_of_mem (hs a (by simp))
    have := pigeon' (M := s ++ t) h2 (fun x hx => by
      have hm := hs x (List.mem_cons_of_mem _ hx)
      simp only [List.mem_append, List.mem_cons] at hm ⊢
      rcases hm with hm | rfl | hm
      · exact .inl hm
      · exact absurd hx h1
      · exact .inr hm)
    simp only [List.length_cons, List.length_append] at this ⊢
    omega
theorem ids_nodup (O : STO lt) (N : Names idf z E) {l : List (List α × ε)} (h : l.Pairwise (fun u v => PLt lt u.1 v.1)) (hn : ∀ n ∈ l, IsNode idf af z E n) : (l.map (fun n => idf n.2)).Nodup := by
  unfold List.Nodup
  rw [List.pairwise_map]
  refine h.imp_of_mem ?_
  intro u v hu hv hlt e
  rw [node_unique N (hn u hu) (hn v hv) e] at hlt
  exact plt_irrefl O _ hlt
theorem nodes_le (O : STO lt) (N : Names idf z E) {l : List (List α × ε)} (h : l.Pairwise (fun u v => PLt lt u.1 v.1)) (hn : ∀ n ∈ l, IsNode idf af z E n) {L : List ε} (hL : ∀ e, E e → e ∈ L) : l.length ≤ L.length := by
  have h1 := ids_nodup O N h hn
  have h2 : (l.map (fun n => n.2)).Nodup := by
    unfold List.Nodup at h1 ⊢
    rw [List.pairwise_map] at h1 ⊢
    exact h1.imp (fun h e => h (by rw [e]))
  have := pigeon' h2 (M := L) (fun e he => by
    obtain ⟨n, hn', rfl⟩ := List.mem_map.1 he
    exact hL _ (hn n hn').1)
  simpa using this
theorem order_unique (O : STO lt) {L M : List (List α × ε)} (h : OrderOf lt idf af z E L) (k : OrderOf lt idf af z E M) : L = M := by
  have key : ∀ {L M : List (List α × ε)}, L.Pairwise (fun u v => PLt lt u.1 v.1) → M.Pairwise (fun u v => PLt lt u.1 v.1) → (∀ x, x ∈ L ↔ x ∈ M) → L = M := by
    intro L
    induction L with
    | nil =>
      intro M _ _ h
      cases M with
      | nil => rfl
      | cons b M => have := (h b).2 (by simp); simp at this
    | cons a L ih =>
      intro M h1 h2 h
      cases M with
      | nil => have := (h a).1 (by simp); simp at this
      | cons b M =>
        obtain ⟨a1, a2⟩ := List.pairwise_cons.1 h1
        obtain ⟨b1, b2⟩ := List.pairwise_cons.1 h2
        have e : a = b := by
          rcases List.mem_cons.1 ((h a).1 (by simp)) with e | ha
          · exact e
          · rcases List.mem_cons.1 ((h b).2 (by simp)) with e | hb
            · exact e.symm
            · exact absurd (plt_trans O _ _ _ (a1 b hb) (b1 a ha)) (plt_irrefl O _)
        subst e
        rw [ih a2 b2 fun x => ?_]
        constructor
        · intro hx
          rcases List.mem_cons.1 ((h x).1 (by simp [hx])) with e | h'
          · subst e; exact absurd (a1 x hx) (plt_irrefl O _)
          · exact h'
        · intro hx
          rcases List.mem_cons.1 ((h x).2 (by simp [hx])) with e | h'
          · subst e; exact absurd (b1 x hx) (plt_irrefl O _)
          · exact h'
  exact key h.1 k.1 (fun x => (h.2 x).trans (k.2 x).symm)
/-- places stand as the paths stand -/
theorem order_idx (O : STO lt) {L : List (List α × ε)} (h : L.Pairwise (fun u v => PLt lt u.1 v.1)) {i j : Nat} (hi : i < L.length) (hj : j < L.length) (hr : PLt lt L[i].1 L[j].1) : i < j := by
  rcases Nat.lt_trichotomy i j with h1 | h1 | h1
  · exact h1
  · subst h1; exact absurd hr (plt_irrefl O _)
  · have := List.pairwise_iff_getElem.1 h j i hj hi h1
    exact absurd (plt_trans O _ _ _ hr this) (plt_irrefl O _)
/-- what is there with less is there with more -/
theorem node_mono {E' : ε → Prop} (h : ∀ e, E e → E' e) {n : List α × ε} (hn : IsNode idf af z E n) : IsNode idf af z E' n := by
  have : ∀ {p x}, IsPath idf af z E p x → IsPath idf af z E' p x := by
    intro p x hp
    induction hp with
    | root => exact .root
    | step p e x y _ h2 h3 h4 ih => exact .step p e x y ih (h e h2) h3 h4
  obtain ⟨h1, q, h2, h3⟩ := hn
  exact ⟨h _ h1, q, this h2, h3⟩
theorem path_rise (O : STO lt) (N : Names idf z E) (inc : ∀ e, E e → af e ≠ z → lt (af e) (idf e)) {p : List α} {x : α} (h : IsPath idf af z E p x) : ∀ {q r : List α} {c : α}, p = q ++ c :: r → c = x ∨ lt c x := by
  induction h with
  | root => intro q r c h; cases q <;> cases h
  | step p e x y h1 h2 h3 h4 ih =>
    intro q r c h
    rcases List.eq_nil_or_concat r with rfl | ⟨r', b, rfl⟩
    · have h : p ++ [x] = q ++ [c] := h
      obtain ⟨_, h⟩ := List.append_inj' h rfl
      exact .inl (by simpa using h.symm)
    · have h : p ++ [x] = (q ++ c :: r') ++ [b] := by rw [h]; simp
      obtain ⟨h, _⟩ := List.append_inj' h rfl
      have hy : y ≠ z := by
        rcases path_snoc h1 with ⟨h5, _⟩ | ⟨_, f, _, _, h6, h7⟩
        · rw [h5] at h; exact absurd h (by simp)
        · exact h7 ▸ N.nz f h6
      have hl : lt y x := by rw [← h3, ← h4]; exact inc e h2 (h3 ▸ hy)
      rcases ih h with rfl | h5
      · exact .inr hl
      · exact .inr (O.trans _ _ _ h5 hl)
/-- between one and what it stands behind are only newer ones -/
theorem between_newer (O : STO lt) (N : Names idf z E) (inc : ∀ e, E e → af e ≠ z → lt (af e) (idf e)) {m : List α × ε} (hm : IsNode idf af z E m) {q : List α} {x : α} (h1 : PLt lt q m.1) (h2 : PLt lt m.1 (q ++ [x])) : lt x (idf m.2) := by
  obtain ⟨c, r, hc, hl⟩ := plt_between O h1 h2
  rcases path_rise O N inc (node_path hm) hc with rfl | h
  · exact hl
  · exact O.trans _ _ _ hl h
/-- what stands behind the beginning, or behind one ahead, is in the order -/
theorem all_paths {l : List ε} (hE : ∀ e ∈ l, E e) (hl : ∀ i (h : i < l.length), af l[i] = z ∨ ∃ j, ∃ (h' : j < i), idf (l[j]'(by omega)) = af l[i]) : ∀ i (h : i < l.length), ∃ q, IsPath idf af z E q (af l[i]) := by
  intro i
  induction i using Nat.strongRecOn with
  | ind i ih =>
    intro h
    rcases hl i h with h1 | ⟨j, hj, h1⟩
    · exact ⟨[], h1 ▸ .root⟩
    · obtain ⟨q, hq⟩ := ih j hj (by omega)
      exact ⟨q ++ [af l[i]], .step q _ _ _ hq (hE _ (List.getElem_mem _)) rfl h1⟩
theorem order_whole (O : STO lt) (N : Names idf z E) {L : List (List α × ε)} (h : OrderOf lt idf af z E L) {l : List ε} (hn : l.Nodup) (hE : ∀ e, E e ↔ e ∈ l) (hl : ∀ i (h : i < l.length), af l[i] = z ∨ ∃ j, ∃ (h' : j < i), idf (l[j]'(by omega)) = af l[i]) : L.length = l.length := by
  have h1 := nodes_le O N h.1 (fun n hn => (h.2 n).1 hn) (L := l) (fun e he => (hE e).1 he)
  have h2 := pigeon' hn (M := L.map (fun n => n.2)) (fun e he => by
    obtain ⟨i, hi, rfl⟩ := List.getElem_of_mem he
    obtain ⟨q, hq⟩ := all_paths (fun e he => (hE e).2 he) hl i hi
    exact List.mem_map.2 ⟨(q ++ [idf l[i]], l[i]), (h.2 _).2 ⟨(hE _).2 he, q, hq, rfl⟩, rfl⟩)
  rw [List.length_map] at h2
  omega
end
end Go.Proofs.YtphapjbfaomblaaDoor
