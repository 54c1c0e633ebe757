/- A sheet and the document's beside each other: what SheetGrows needs. -/
import Derived.Test.YtphapjbfaomblaaDoorZcLC
import Derived.Test.YtphapjbfaomblaaDoorZcKI
import Derived.Test.YtphapjbfaomblaaDoorZcKJ
namespace Go.Proofs.YtphapjbfaomblaaDoor
open Go Go.RowKit Go.Maps Go.ChangeMaps
def Pr (w0 : World) (Q : Nat → Prop) (s : St) (rb : Nat) (r : Rs) (w : World) : Prop :=
  ∃ v, RsIs w rb v r ∧ ShS w0 (fun k => rfoot rb v k ∨ Q k) s w ∧ (∀ k, rfoot rb v k → w0.heap.size ≤ k ∧ ¬ Q k) ∧ ∀ k, Q k → k < w.heap.size
section
variable {w0 w w' : World} {Q Q' : Nat → Prop} {s : St} {rb : Nat} {r r' : Rs}
theorem Pr.out (h : Pr w0 Q s rb r w) : Below w0.heap.size w0 w := by
  obtain ⟨v, _, hs, _⟩ := h
  exact Sht.out hs
theorem Pr.go (h : Pr w0 Q s rb r w) (t : Touch (fun k => Q k ∧ w0.heap.size ≤ k) w w') (hQ : ∀ k, Q' k → Q k ∨ (w.heap.size ≤ k ∧ k < w'.heap.size)) : Pr w0 Q' s rb r w' := by
  obtain ⟨v, h1, h2, h3, h4⟩ := h
  have hs := t.size
  refine ⟨v, h1.touch t (fun k hk hq => (h3 k hk).2 hq.1), Sht.go h2 (t.mono fun _ _ hk => ⟨.inr hk.1, hk.2⟩) (fun k hk => ?_), fun k hk => ⟨(h3 k hk).1, fun hq => ?_⟩, fun k hk => ?_⟩
  · rcases hk with hk | hk
    · exact .inl (.inl hk)
    · exact (hQ k hk).imp .inr id
  · rcases hQ k hq with h5 | h5
    · exact (h3 k hk).2 h5
    · have := h1.lt hk; omega
  · rcases hQ k hk with h5 | h5
    · exact Nat.lt_of_lt_of_le (h4 k h5) hs
    · exact h5.2
theorem Pr.below (h : Pr w0 Q s rb r w) (hb : Below w.heap.size w w') : Pr w0 Q s rb r w' := h.go (Below.touch hb _) (fun _ h => .inl h)
theorem Pr.actA {f : FuncId} {args : Array Value} {R : Ending → St → Prop} (h : Pr w0 Q s rb r w) (hact : ∀ P, ShS w0 P s w → Calls Tryd.prog f args w fun e w' => ∃ s', R e s' ∧ ShS w0 P s' w' ∧ Tch w0 P w w') :
    Calls Tryd.prog f args w fun e w' => ∃ s', R e s' ∧ Pr w0 Q s' rb r w' ∧ Tch w0 Q w w' := by
  obtain ⟨v, h1, h2, h3, h4⟩ := h
  refine (hact _ h2).mono ?_
  rintro e w' ⟨s', hr, hs', ht⟩
  exact ⟨s', hr, ⟨v, h1.touch ht (fun k hk hq => hq.2 (.inl hk)), hs', h3, fun k hk => Nat.lt_of_lt_of_le (h4 k hk) ht.size⟩, ht.mono fun k _ hk => ⟨hk.1, fun hq => hk.2 (.inr hq)⟩⟩
theorem Pr.actR {f : FuncId} {args : Array Value} {E : Ending → Prop} (h : Pr w0 Q s rb r w) (hact : ∀ v, RsIs w rb v r → Calls Tryd.prog f args w fun e w' => E e ∧ RsPost w rb v r' w') :
    Calls Tryd.prog f args w fun e w' => E e ∧ Pr w0 Q s rb r' w' ∧ Tch w0 Q w w' := by
  have hw0 := h.out.size
  obtain ⟨v, h1, h2, h3, h4⟩ := h
  refine (hact v h1).mono ?_
  rintro e w' ⟨he, v', g1, g2, g3⟩
  refine ⟨he, ⟨v', g1, Sht.go h2 (g2.mono fun k _ hk => ⟨.inl hk, (h3 k hk).1⟩) (fun k hk => ?_), fun k hk => ?_, fun k hk => Nat.lt_of_lt_of_le (h4 k hk) g2.size⟩, g2.mono fun k _ hk => h3 k hk⟩
  · rcases hk with hk | hk
    · rcases g3 k hk with h5 | h5
      · exact .inl (.inl h5)
      · exact .inr ⟨h5, g1.lt hk⟩
    · exact .inl (.inr hk)
  · rcases g3 k hk with h5 | h5
    · exact h3 k h5
    · exact ⟨by omega, fun hq => by have := h4 k hq; omega⟩
end
theorem onR_set (r : Rs) (x : Stamp) : onT (onR r) x 1 = onR { r with on := r.on ++ [x] } := by
  funext y
  unfold onT onR
  dsimp only
  rw [List.count_append, List.count_singleton]
  by_cases h : y = x
  · subst h; simp; omega
  · have h2 : ¬ x = y := fun e => h e.symm
    simp [h, h2]
theorem gnR_go (r : Rs) (x : Id) : gnT (gnR r) x 1 = gnR { r with go := r.go ++ [x] } := by
  funext y
  unfold gnT gnR
  dsimp only
  rw [List.count_append, List.count_singleton]
  by_cases h : y = x
  · subst h; simp; omega
  · have h2 : ¬ x = y := fun e => h e.symm
    simp [h, h2]
theorem gnR_re (r : Rs) (x : Id) : gnT (gnR r) x (-1) = gnR { r with re := r.re ++ [x] } := by
  funext y
  unfold gnT gnR
  dsimp only
  rw [List.count_append, List.count_singleton]
  by_cases h : y = x
  · subst h; simp; omega
  · have h2 : ¬ x = y := fun e => h e.symm
    simp [h, h2]
/-- both hold the same -/
structure GOk (p : Loc) (cn : Nat) (L : List Pick) (k : Nat) (r : Rs) (s : St) : Prop where
  p : s.p = p
  c : s.c = cn
  F : s.F = flatAt L k
  on : s.on = onR r
  gn : s.gn = gnR r
  R : r.R = runsAt L k
  le : r.on.length ≤ cn ∧ r.off.length ≤ cn ∧ r.go.length ≤ cn ∧ r.re.length ≤ cn
theorem flatAt_le4 (L : List Pick) : ∀ k, (flatAt L k).length ≤ 4 * k
  | 0 => by simp [flatAt, runsAt, flat]
  | k + 1 => by
    have h1 := flatAt_le4 L k
    have h2 : gN (L.getD k zeroP) ≤ 4 := gN_le _
    rw [flatAt_succ, List.length_append, gE_len]
    omega
theorem rsOk_of {L : List Pick} {k : Nat} (hk : k ≤ 15) {r : Rs} (h : r.R = runsAt L k) : RsOk r where
  fl := by
    rw [h]
    have : (flatAt L k).length ≤ 4 * k := flatAt_le4 L k
    unfold flatAt at this
    omega
  tx := fun x hx => by
    rw [h] at hx
    exact Nat.le_trans (runsAt_tx L k x hx) (by omega)
  I := fun x hx => by
    rw [h, runsAt_map] at hx
    obtain ⟨i, _, rfl⟩ := List.mem_map.1 hx
    exact ⟨Int.le_refl _, show ((0 % 8 : Nat) : Int) ≤ 1000000 by decide⟩
theorem hadR_of {L : List Pick} {k : Nat} (hk : k ≤ 15) {r : Rs} (h : r.R = runsAt L k) (x : Id) : hadR r x = decide (x ∈ (flatAt L k).map El.id) := by
  unfold hadR
  rw [h]
  rw [Bool.eq_iff_iff, hadE_iff, decide_eq_true_iff, List.mem_map, List.mem_map]
  have hc := counts_grown L hk (List.Perm.refl _)
  have hm := (cntL_mem (flat (runsAt L k))).1
  constructor
  · rintro ⟨e, he, h1⟩
    have := (hm e).1 he
    exact ⟨e, counts_mem this, h1⟩
  · rintro ⟨e, he, h1⟩
    refine ⟨e, (hm e).2 ?_, h1⟩
    have h2 : Counts (flatAt L k) e := by rw [hc]; exact he
    exact h2
section
variable {w0 w : World} {p : Loc} {c : Nat} {L : List Pick} {k : Nat} {r : Rs} {s : St}
theorem gact_add (hs : GOk p c L k r s) (hk : k < 15) (hT : Tabs w) (hc : c ≤ 3000) (P : Nat → Prop) (h : ShS w0 P s w) :
    Calls Tryd.prog 23 #[.pointer (some ⟨p.sh, 0, none⟩), rnU (runAt L k)] w fun e w' => ∃ s', (e = .returned (.int .i64 0) ∧ s'.p = p ∧ s'.c = c + 4 ∧ s'.F = flatAt L (k + 1) ∧ s'.on = onR r ∧ s'.gn = gnR r) ∧ ShS w0 P s' w' ∧ Tch w0 P w w' := by
  obtain ⟨p', c', F', O', on', gn'⟩ := s
  obtain ⟨h1, h2, h3, h4, h5, _, _⟩ := hs
  dsimp only at h1 h2 h3 h4 h5
  subst h1; subst h2; subst h3; subst h4; subst h5
  refine (Sht.addG h hk hT hc).mono ?_
  rintro e w' ⟨rfl, ⟨O', hS⟩, ht⟩
  exact ⟨⟨_, _, _, O', _, _⟩, ⟨rfl, rfl, rfl, rfl, rfl, rfl⟩, hS, ht⟩
theorem gact_set (hs : GOk p c L k r s) (hc : c ≤ 3000) (x : Stamp) (P : Nat → Prop) (h : ShS w0 P s w) :
    Calls Tryd.prog 25 #[.pointer (some ⟨p.sh, 0, none⟩), stV x, .bool true] w fun e w' => ∃ s', ((∃ v, e = .returned v) ∧ GOk p (c + 1) L k { r with on := r.on ++ [x] } s') ∧ ShS w0 P s' w' ∧ Tch w0 P w w' := by
  obtain ⟨p', c', F', O', on', gn'⟩ := s
  obtain ⟨h1, h2, h3, h4, h5, h6, h7⟩ := hs
  dsimp only at h1 h2 h3 h4 h5
  subst h1; subst h2; subst h3; subst h4; subst h5
  refine (Sht.set h x true (by dsimp only; omega)).mono ?_
  rintro e w' ⟨hv, hS, ht⟩
  rw [if_pos rfl] at hS
  dsimp only at hS
  rw [onR_set] at hS
  exact ⟨⟨_, _, _, O', _, _⟩, ⟨hv, rfl, rfl, rfl, rfl, rfl, h6, by dsimp only; rw [List.length_append]; simp; omega⟩, hS, ht⟩
theorem gact_take (hs : GOk p c L k r s) (hk : k ≤ 15) (hc : c ≤ 3000) (x : Id) (q : Bool) (P : Nat → Prop) (h : ShS w0 P s w) :
    Calls Tryd.prog 27 #[.pointer (some ⟨p.sh, 0, none⟩), idV x, .bool q] w fun e w' => ∃ s', (e = .returned (.int .i64 (takeE r x)) ∧ GOk p (c + 1) L k (takeR r x q) s') ∧ ShS w0 P s' w' ∧ Tch w0 P w w' := by
  obtain ⟨p', c', F', O', on', gn'⟩ := s
  obtain ⟨h1, h2, h3, h4, h5, h6, h7⟩ := hs
  dsimp only at h1 h2 h3 h4 h5
  subst h1; subst h2; subst h3; subst h4; subst h5
  have hh := hadR_of hk h6 x
  refine (Sht.take h x q (by dsimp only; omega)).mono ?_
  dsimp only
  unfold takeE takeR
  by_cases hx : x ∈ (flatAt L k).map El.id
  · rw [decide_eq_true hx] at hh
    rw [if_pos hx, if_pos hx, if_pos hh, if_pos hh]
    rintro e w' ⟨rfl, hS, ht⟩
    cases q
    · rw [if_neg (by decide), gnR_re] at hS
      exact ⟨⟨_, _, _, O', _, _⟩, ⟨rfl, rfl, rfl, rfl, rfl, rfl, h6, by simp; omega⟩, hS, ht⟩
    · rw [if_pos rfl, gnR_go] at hS
      exact ⟨⟨_, _, _, O', _, _⟩, ⟨rfl, rfl, rfl, rfl, rfl, rfl, h6, by simp; omega⟩, hS, ht⟩
  · rw [decide_eq_false hx] at hh
    have hh2 : ¬ hadR r x = true := by rw [hh]; decide
    rw [if_neg hx, if_neg hx, if_neg hh2, if_neg hh2]
    rintro e w' ⟨rfl, hS, ht⟩
    exact ⟨⟨_, _, _, O', _, _⟩, ⟨rfl, rfl, rfl, rfl, rfl, rfl, h6, by omega⟩, hS, ht⟩
theorem gref_add (hr : r.R = runsAt L k) (hk : k < 15) {rb : Nat} (v : RsV) (h : RsIs w rb v r) :
    Calls Tryd.prog 24 #[.pointer (some ⟨rb, 0, none⟩), rnU (runAt L k)] w fun e w' => e = .returned (.int .i64 0) ∧ RsPost w rb v { r with R := r.R ++ [runAt L k] } w' := by
  have hm : 1 ≤ gN (L.getD k zeroP) ∧ gN (L.getD k zeroP) ≤ 4 := by unfold gN; omega
  have hl := gPs_len k (gN (L.getD k zeroP))
  have hfl := gPs_flat k (gN (L.getD k zeroP))
  refine radd_any h (rsOk_of (by omega) hr) (by rw [hr, runsAt_len]; omega) (runAt L k) (gPs k (gN (L.getD k zeroP))) (gPs_all _ _) (by rw [hfl]; rfl) (by rw [hl]; omega) (by have := runAt_tx L k; omega) ?_ ⟨Int.le_refl _, show ((0 % 8 : Nat) : Int) ≤ 1000 by decide⟩ (fun j hj => ?_)
  · have h1 : (runAt L k).af ∈ idsAt L k := by
      have hp := idsAt_pos L k
      show (idsAt L k).getD _ zeroI ∈ _
      rw [List.getD_eq_getElem?_getD, List.getElem?_eq_getElem (Nat.mod_lt _ hp)]
      exact List.getElem_mem _
    rw [idsAt_flat] at h1
    rcases List.mem_cons.1 h1 with h2 | h2
    · exact .inl h2
    · exact .inr (by rw [hadR_of (by omega) hr]; exact decide_eq_true h2)
  · rw [hl] at hj
    show nthI (gId k (L.getD k zeroP) 0) j ≠ zeroI ∧ hadR r (nthI (gId k (L.getD k zeroP) 0) j) = false
    rw [nthI_g _ _ j (by omega)]
    obtain ⟨g1, g2⟩ := g_fresh L hk j
    exact ⟨g1, by rw [hadR_of (by omega) hr]; exact decide_eq_false g2⟩
end
end Go.Proofs.YtphapjbfaomblaaDoor
