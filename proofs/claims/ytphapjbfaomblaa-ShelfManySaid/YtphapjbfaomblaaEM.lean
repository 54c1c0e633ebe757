/- 'm[k] op= v' in a map of one's own: the entry, then the store. Plain, over any program. -/
import Derived.WideKeyEntry
import Derived.Maps.OwnSet
import Derived.Test.YtphapjbfaomblaaM
namespace Go.Proofs.Ytphapjbfaomblaa
open Go Go.RowKit Go.Maps Go.ChangeMaps
theorem law24 : WideMaps.KeyLaw Try.prog 31 := deep_law_laid laidOut (m := 4) (by omega) krow24 ka24 (by rw [Try.underlying31])
theorem law26 : WideMaps.KeyLaw Try.prog 33 := deep_law_laid laidOut (m := 4) (by omega) krow26 ka26 (by rw [Try.underlying33])
theorem own_entry {H : Type} {P : Program} {w : World} {t k e : TypeId} {R : Value → Option (DataW H × List MemPlace)} {b n : Nat} {D : DataW H} (h : w.ownsMap P k R b n D) (K : WideMaps.KeyLaw P k) (ht : P.underlying t = some (.map k e))
    {z : Value} (hz : ∀ u : World, (zeroValue e).run P u = .ok z u) (hn : n < maxLen) {key val : Value} {kl : Lit} {d : DataW H} {ps : List MemPlace} (hkey : keyOf P k key = some kl) (hv : R val = some (d, ps)) :
    ∃ v0 st w1 w2, (Instr.lookup t (.map (some b)) key false).run P w = .ok v0 w ∧ (Instr.mapEntry t (.map (some b)) key).run P w = .ok (.tuple #[v0, goInt st]) w1 ∧ (Instr.lookup t (.map (some b)) key false).run P w1 = .ok v0 w1 ∧
      (Instr.entryStore t (.map (some b)) (goInt st) val).run P w1 = .ok () w2 ∧ w2.ownsMap P k R b (n + 1) (D.put kl d) ∧ w.grownBy w2 (some b) := by
  obtain ⟨w', hu, ho, hg⟩ := h.update (Keyed.of_law K) ht hn hkey hv
  obtain ⟨es, clock, hb, F, hs, hD⟩ := h
  obtain ⟨v0, st, es1, clock1, h1, _, h2⟩ := WideElems.entry_then_store K ht hz hb F hkey
  have hb1 : (setBlock w b (.map es1 clock1)).heap[b]? = some (.map es1 clock1) := heap_setBlock_same hb _
  obtain ⟨es', clock', h3, h4⟩ := h2 (setBlock w b (.map es1 clock1)) val hb1
  have e1 : w' = setBlock w b (.map es' clock') := by
    rw [hu] at h4
    cases h4
    rfl
  have e2 : setBlock (setBlock w b (.map es1 clock1)) b (.map es' clock') = w' := by
    rw [e1]
    simp [setBlock]
  rw [e2] at h3
  have both : (Instr.lookup t (.map (some b)) key false).run P w = .ok v0 w ∧ (Instr.lookup t (.map (some b)) key false).run P (setBlock w b (.map es1 clock1)) = .ok v0 (setBlock w b (.map es1 clock1)) := by
    rcases K.find w hkey es.toList F.keys with ⟨f1, f2⟩ | ⟨j, e0, f1, f2, f3⟩
    · have hm : (Instr.mapEntry t (.map (some b)) key).run P w = .ok (.tuple #[z, goInt clock]) (setBlock w b (.map (es.push ⟨key, z, clock⟩) (clock + 1))) := by
        simp [Instr.mapEntry, run_underlying ht, MapKept.run_getObj_map hb, K.check w false hkey, f1, hz, MapKept.run_setObj_map _ hb, Result.andThen, setBlock]
      rw [hm] at h1
      simp only [Result.ok.injEq, Value.tuple.injEq] at h1
      obtain ⟨hv0, hw⟩ := h1
      have hz0 : z = v0 := by
        have h9 : #[z, goInt clock].toList = #[v0, goInt st].toList := congrArg Array.toList hv0
        exact (List.cons.inj h9).1
      have hb2 : (setBlock w b (.map es1 clock1)).heap[b]? = some (.map (es.push ⟨key, z, clock⟩) (clock + 1)) := by rw [← hw]; exact heap_setBlock_same hb _
      subst hz0
      refine ⟨by simp [Instr.lookup, run_underlying ht, MapKept.run_getObj_map hb, K.check w _ hkey, f1, hz, Result.andThen], ?_⟩
      rcases K.find (setBlock w b (.map es1 clock1)) hkey (es.push ⟨key, z, clock⟩).toList (fun x hx => by
        rw [Array.toList_push, List.mem_append, List.mem_singleton] at hx
        rcases hx with hx | rfl
        · exact F.keys x hx
        · exact ⟨_, hkey⟩) with ⟨_, g2⟩ | ⟨j, e0, g1, g2, g3⟩
      · exact absurd rfl (g2 ⟨key, z, clock⟩ (by simp))
      · have hm0 : e0 ∈ (es.push ⟨key, z, clock⟩).toList := List.mem_of_getElem? g2
        rw [Array.toList_push, List.mem_append, List.mem_singleton] at hm0
        rcases hm0 with hm0 | rfl
        · exact absurd g3 (f2 e0 hm0)
        · simp only [Array.toList_push] at g1
          simp [Instr.lookup, run_underlying ht, MapKept.run_getObj_map hb2, K.check (setBlock w b (.map es1 clock1)) _ hkey, g1, Result.andThen]
    · have hj : es[j]? = some e0 := by simpa using f2
      have hsame : es.modify j (fun e => { e with key := key }) = es := by
        apply Array.ext'
        rw [Array.toList_modify, modify_eq_set _ _ _ _ f2]
        have : ({ e0 with key := key } : MapEntry) = e0 := by rw [← f3]
        rw [this]
        exact WideElems.set_self _ _ _ f2
      have hm : (Instr.mapEntry t (.map (some b)) key).run P w = .ok (.tuple #[e0.val, goInt e0.born]) (setBlock w b (.map es clock)) := by
        simp [Instr.mapEntry, run_underlying ht, MapKept.run_getObj_map hb, K.check w false hkey, f1, hj, f3, K.stays w hkey, hsame, MapKept.run_setObj_map _ hb, Result.andThen, setBlock]
      rw [hm] at h1
      simp only [Result.ok.injEq, Value.tuple.injEq] at h1
      obtain ⟨hv0, hw⟩ := h1
      have hz0 : e0.val = v0 := by
        have h9 : #[e0.val, goInt e0.born].toList = #[v0, goInt st].toList := congrArg Array.toList hv0
        exact (List.cons.inj h9).1
      have hb2 : (setBlock w b (.map es1 clock1)).heap[b]? = some (.map es clock) := by rw [← hw]; exact heap_setBlock_same hb _
      refine ⟨by simp [Instr.lookup, run_underlying ht, MapKept.run_getObj_map hb, K.check w _ hkey, f1, Result.andThen, hz0], ?_⟩
      rcases K.find (setBlock w b (.map es1 clock1)) hkey es.toList F.keys with ⟨_, g2⟩ | ⟨j', e', g1, g2, g3⟩
      · exact absurd f3 (g2 e0 (List.mem_of_getElem? f2))
      · have he : e' = e0 := Go.entry_eq_of_key ((Go.MapKept.stamped_iff es clock).1 F.stamped).2.2 (List.mem_of_getElem? g2) (List.mem_of_getElem? f2) (g3.trans f3.symm)
        subst he
        simp [Instr.lookup, run_underlying ht, MapKept.run_getObj_map hb2, K.check (setBlock w b (.map es1 clock1)) _ hkey, g1, Result.andThen, hz0]
  exact ⟨v0, st, _, w', both.1, h1, both.2, h3, ho, hg⟩
end Go.Proofs.Ytphapjbfaomblaa
