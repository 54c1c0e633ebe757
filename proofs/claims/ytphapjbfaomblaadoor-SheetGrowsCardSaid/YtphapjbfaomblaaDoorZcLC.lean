/- Two sheets side by side; SheetTurns, plain. -/
import Derived.Test.YtphapjbfaomblaaDoorZb25
import Derived.Test.YtphapjbfaomblaaDoorZcHC
namespace Go.Proofs.YtphapjbfaomblaaDoor
open Go Go.RowKit Go.Maps Go.ChangeMaps
/-! two sheets -/
structure St where
  p : Loc
  c : Nat
  F : List El
  O : List Nd
  on : Stamp → Int
  gn : Id → Int
def ShS (w0 : World) (P : Nat → Prop) (s : St) (w : World) : Prop := Sht w0 P s.p s.c s.F s.O s.on s.gn w
/-- what is a sheet's own -/
theorem ShS.split {w0 w : World} {P : Nat → Prop} {s : St} (h : ShS w0 P s w) : ∃ S : Nat → Prop, (∀ k, S k → w0.heap.size ≤ k ∧ k < w.heap.size ∧ ¬ P k) ∧ ShS w0 (fun k => k < w.heap.size ∧ ¬ S k) s w := by
  obtain ⟨Fs, Es, n, m, n2, D, Dr, hd, Dn, h1, h2, h3, h4, h5, h6, h7⟩ := h
  exact ⟨sfoot s.p Fs Es hd, fun k hk => ⟨h5 k hk, h1.lt hk, fun hp => (h6 k hp).2 hk⟩, Fs, Es, n, m, n2, D, Dr, hd, Dn, h1, h2, h3, h4, h5, fun k hk => hk, h7⟩
/-- two sheets, and blocks of the caller's that are in neither -/
def Two (w0 : World) (Q : Nat → Prop) (a b : St) (w : World) : Prop :=
  ∃ S : Nat → Prop, ShS w0 (fun k => k < w.heap.size ∧ ¬ S k) a w ∧ ShS w0 (fun k => S k ∨ Q k) b w ∧ (∀ k, S k → w0.heap.size ≤ k ∧ k < w.heap.size ∧ ¬ Q k) ∧ ∀ k, Q k → k < w.heap.size
section
variable {w0 w w' : World} {Q Q' : Nat → Prop} {a b : St}
theorem Two.out (h : Two w0 Q a b w) : Below w0.heap.size w0 w := by
  obtain ⟨S, ha, _⟩ := h
  exact Sht.out ha
theorem Two.go (h : Two w0 Q a b w) (t : Touch (fun k => Q k ∧ w0.heap.size ≤ k) w w') (hQ : ∀ k, Q' k → Q k ∨ (w.heap.size ≤ k ∧ k < w'.heap.size)) : Two w0 Q' a b w' := by
  obtain ⟨S, ha, hb, hS, hq⟩ := h
  have hs := t.size
  refine ⟨S, Sht.go ha (t.mono fun x hx hq' => ⟨⟨hx, fun hs => (hS x hs).2.2 hq'.1⟩, hq'.2⟩) (fun k hk => ?_), Sht.go hb (t.mono fun x _ hq' => ⟨.inr hq'.1, hq'.2⟩) (fun k hk => ?_), fun k hk => ⟨(hS k hk).1, Nat.lt_of_lt_of_le (hS k hk).2.1 hs, fun h => ?_⟩, fun k hk => ?_⟩
  · by_cases hkw : k < w.heap.size
    · exact .inl ⟨hkw, hk.2⟩
    · exact .inr ⟨by omega, hk.1⟩
  · rcases hk with hk | hk
    · exact .inl (.inl hk)
    · exact (hQ k hk).imp .inr id
  · rcases hQ k h with h1 | h1
    · exact (hS k hk).2.2 h1
    · have := (hS k hk).2.1; omega
  · rcases hQ k hk with h1 | h1
    · exact Nat.lt_of_lt_of_le (hq k h1) hs
    · exact h1.2
theorem Two.below (h : Two w0 Q a b w) (hb : Below w.heap.size w w') : Two w0 Q a b w' := h.go (Below.touch hb _) (fun _ h => .inl h)
theorem Two.actA {f : FuncId} {args : Array Value} {R : Ending → St → Prop} (h : Two w0 Q a b w) (hact : ∀ P, ShS w0 P a w → Calls Tryd.prog f args w fun e w' => ∃ a', R e a' ∧ ShS w0 P a' w' ∧ Tch w0 P w w') :
    Calls Tryd.prog f args w fun e w' => ∃ a', R e a' ∧ Two w0 Q a' b w' ∧ Tch w0 Q w w' := by
  obtain ⟨S, ha, hb, hS, hq⟩ := h
  refine (hact _ ha).mono ?_
  rintro e w' ⟨a', hr, ha', ht⟩
  have ht2 : Touch S w w' := ht.mono fun x hx h => Classical.byContradiction fun hs => h.2 ⟨hx, hs⟩
  obtain ⟨S', hS', ha2⟩ := ShS.split ha'
  have key : ∀ k, S' k → S k ∨ (w.heap.size ≤ k ∧ k < w'.heap.size) := fun k hk => by
    obtain ⟨h1, h2, h3⟩ := hS' k hk
    by_cases hkw : k < w.heap.size
    · exact .inl (Classical.byContradiction fun hs => h3 ⟨hkw, hs⟩)
    · exact .inr ⟨by omega, h2⟩
  refine ⟨a', hr, ⟨S', ha2, Sht.go hb (ht2.mono fun x _ hs => ⟨.inl hs, (hS x hs).1⟩) (fun k hk => ?_), fun k hk => ⟨(hS' k hk).1, (hS' k hk).2.1, fun h => ?_⟩, fun k hk => Nat.lt_of_lt_of_le (hq k hk) ht.size⟩, ht2.mono fun x _ hs => ⟨(hS x hs).1, (hS x hs).2.2⟩⟩
  · rcases hk with hk | hk
    · exact (key k hk).imp .inl id
    · exact .inl (.inr hk)
  · rcases key k hk with h1 | h1
    · exact (hS k h1).2.2 h
    · have := hq k h; omega
theorem Two.actB {f : FuncId} {args : Array Value} {R : Ending → St → Prop} (h : Two w0 Q a b w) (hact : ∀ P, ShS w0 P b w → Calls Tryd.prog f args w fun e w' => ∃ b', R e b' ∧ ShS w0 P b' w' ∧ Tch w0 P w w') :
    Calls Tryd.prog f args w fun e w' => ∃ b', R e b' ∧ Two w0 Q a b' w' ∧ Tch w0 Q w w' := by
  obtain ⟨S, ha, hb, hS, hq⟩ := h
  refine (hact _ hb).mono ?_
  rintro e w' ⟨b', hr, hb', ht⟩
  have hs := ht.size
  refine ⟨b', hr, ⟨S, Sht.go ha (ht.mono fun x hx h => ⟨⟨hx, fun hs => h.2 (.inl hs)⟩, h.1⟩) (fun k hk => ?_), hb', fun k hk => ⟨(hS k hk).1, Nat.lt_of_lt_of_le (hS k hk).2.1 hs, (hS k hk).2.2⟩, fun k hk => Nat.lt_of_lt_of_le (hq k hk) hs⟩, ht.mono fun x _ h => ⟨h.1, fun hq => h.2 (.inr hq)⟩⟩
  by_cases hkw : k < w.heap.size
  · exact .inl ⟨hkw, hk.2⟩
  · exact .inr ⟨by omega, hk.1⟩
/-- both begin -/
theorem Two.join {S : Nat → Prop} (ha : ShS w0 (fun k => k < w.heap.size ∧ ¬ S k) a w) (hS : ∀ k, S k → w0.heap.size ≤ k ∧ k < w.heap.size ∧ ¬ Q k) (hq : ∀ k, Q k → k < w.heap.size) (hb2 : Below w.heap.size w w') (hb : ShS w0 (fun k => S k ∨ Q k) b w') : Two w0 Q a b w' := by
  have hs := hb2.size
  refine ⟨S, Sht.go ha (Below.touch hb2 _) (fun k hk => ?_), hb, fun k hk => ⟨(hS k hk).1, Nat.lt_of_lt_of_le (hS k hk).2.1 hs, (hS k hk).2.2⟩, fun k hk => Nat.lt_of_lt_of_le (hq k hk) hs⟩
  by_cases hkw : k < w.heap.size
  · exact .inl ⟨hkw, hk.2⟩
  · exact .inr ⟨by omega, hk.1⟩
end
/-! the runs that stand behind the beginning -/
def zRun (L : List Pick) (k : Nat) : Rn := ⟨zeroI, gId k (L.getD k zeroP) 0, ofL (gT k (gN (L.getD k zeroP)))⟩
def zE (L : List Pick) (k : Nat) : List El := flatOf zeroI (gId k (L.getD k zeroP) 0) (gPs k (gN (L.getD k zeroP)))
def zF (L : List Pick) (I : List Nat) : List El := I.flatMap (zE L)
theorem zF_snoc (L : List Pick) (I : List Nat) (k : Nat) : zF L (I ++ [k]) = zF L I ++ zE L k := by
  unfold zF
  rw [List.flatMap_append, List.flatMap_singleton]
theorem zF_flat (L : List Pick) (I : List Nat) : flat (I.map (zRun L)) = zF L I := by
  unfold flat zF
  rw [List.flatMap_map]
  refine congrArg (fun f => List.flatMap f I) (funext fun k => ?_)
  show flatOf zeroI _ (pcs (gT k _)) = _
  rw [gT_pcs]
  rfl
theorem zE_id {L : List Pick} {k : Nat} {e : El} (h : e ∈ zE L k) : ∃ j, j < 4 ∧ e.id = gId k (L.getD k zeroP) j := by
  have hm : gN (L.getD k zeroP) ≤ 4 := gN_le _
  have key : ∀ (ps : List (List UInt8)) (a x : Id), e ∈ flatOf a x ps → ∃ j, j < ps.length ∧ e.id = nthI x j := by
    intro ps
    induction ps with
    | nil => intro a x h; simp [flatOf] at h
    | cons q ps ih =>
      intro a x h
      rw [flatOf] at h
      rcases List.mem_cons.1 h with rfl | h
      · exact ⟨0, by simp, rfl⟩
      · obtain ⟨j, hj, h1⟩ := ih _ _ h
        exact ⟨j + 1, by simp; omega, by rw [h1, nthI_next]⟩
  obtain ⟨j, hj, h1⟩ := key _ _ _ h
  rw [gPs_len] at hj
  exact ⟨j, by omega, by rw [h1, nthI_g _ _ j (by omega)]⟩
theorem zE_pc {L : List Pick} {k : Nat} : ∀ e ∈ zE L k, e.pc.size = 1 := by
  have key : ∀ (ps : List (List UInt8)), (∀ q ∈ ps, q.length = 1) → ∀ (a x : Id), ∀ e ∈ flatOf a x ps, e.pc.size = 1 := by
    intro ps
    induction ps with
    | nil => intro _ a x e h; simp [flatOf] at h
    | cons q ps ih =>
      intro hq a x e h
      rw [flatOf] at h
      rcases List.mem_cons.1 h with rfl | h
      · rw [ofL_size]; exact hq q (List.mem_cons_self ..)
      · exact ih (fun y hy => hq y (List.mem_cons_of_mem _ hy)) _ _ e h
  refine key _ (fun q hq => ?_) _ _
  obtain ⟨t, _, rfl⟩ := List.mem_map.1 hq
  rfl
theorem zF_pc {L : List Pick} {I : List Nat} : ∀ e ∈ zF L I, e.pc.size = 1 := fun e he => by
  obtain ⟨k, _, h⟩ := List.mem_flatMap.1 he
  exact zE_pc e h
theorem Sht.addZ {w0 w : World} {P : Nat → Prop} {p : Loc} {c : Nat} {O : List Nd} {on : Stamp → Int} {gn : Id → Int} {L : List Pick} {I : List Nat} {k : Nat} (h : Sht w0 P p c (zF L I) O on gn w) (hI : ∀ i ∈ I, i < 15) (hk : k < 15) (hn : k ∉ I) (hT : Tabs w) (hc : c ≤ 3000) :
    Calls Tryd.prog 23 #[.pointer (some ⟨p.sh, 0, none⟩), rnU (zRun L k)] w fun e w' => e = .returned (.int .i64 0) ∧ (∃ O', Sht w0 P p (c + 4) (zF L (I ++ [k])) O' on gn w') ∧ Tch w0 P w w' := by
  have hm : 1 ≤ gN (L.getD k zeroP) ∧ gN (L.getD k zeroP) ≤ 4 := by unfold gN; omega
  have hl := gPs_len k (gN (L.getD k zeroP))
  have hfl := gPs_flat k (gN (L.getD k zeroP))
  have hgl := gT_len k (gN (L.getD k zeroP))
  refine (h.add (zRun L k) (gPs k (gN (L.getD k zeroP))) (gPs_all _ _) (by rw [hfl]; rfl) (by rw [hl]; omega) (by rw [hfl, hgl]; omega) hT (by rw [hl]; omega) (.inl rfl) (fun j hj => ?_) (fun i j hij hj => ?_)).mono ?_
  · rw [hl] at hj
    show nthI (gId k (L.getD k zeroP) 0) j ≠ zeroI ∧ nthI (gId k (L.getD k zeroP) 0) j ∉ _
    rw [nthI_g _ _ j (by omega)]
    refine ⟨fun e => ?_, fun hm => ?_⟩
    · have := zero_lt_g k (L.getD k zeroP) j
      rw [e] at this
      exact idSTO.irrefl _ this
    · obtain ⟨e, he, h1⟩ := List.mem_map.1 hm
      obtain ⟨i, hi, h2⟩ := List.mem_flatMap.1 he
      obtain ⟨s, hs, h3⟩ := zE_id h2
      have hi15 := hI i hi
      rw [h3] at h1
      rcases Nat.lt_trichotomy i k with hl | hl | hl
      · have := gId_lt_run i k (L.getD i zeroP) (L.getD k zeroP) s j hl (by omega)
        rw [h1] at this
        exact idSTO.irrefl _ this
      · exact hn (hl ▸ hi)
      · have := gId_lt_run k i (L.getD k zeroP) (L.getD i zeroP) j s hl (by omega)
        rw [h1] at this
        exact idSTO.irrefl _ this
  · rw [hl] at hj
    show nthI (gId k (L.getD k zeroP) 0) i ≠ nthI (gId k (L.getD k zeroP) 0) j
    rw [nthI_g _ _ j (by omega), nthI_g _ _ i (by omega)]
    intro e
    have := gId_lt k (L.getD k zeroP) i j hij (by omega)
    rw [e] at this
    exact idSTO.irrefl _ this
  · rintro e w' ⟨rfl, ⟨O', hS⟩, ht⟩
    have hf : zF L I ++ flatOf (zRun L k).af (zRun L k).el (gPs k (gN (L.getD k zeroP))) = zF L (I ++ [k]) := by
      rw [zF_snoc]
      rfl
    rw [hf] at hS
    exact ⟨rfl, ⟨O', hS.more (by omega)⟩, ht⟩
/-- all stamps are on -/
def AllOn (L : List Pick) (I : List Nat) (on : Stamp → Int) : Prop := (∀ s, 0 ≤ on s) ∧ ∀ i ∈ I, 0 < on (gS i (L.getD i zeroP))
theorem allOn_nil (L : List Pick) : AllOn L [] (fun _ => 0) := ⟨fun _ => Int.le_refl _, fun i hi => by cases hi⟩
theorem allOn_next {L : List Pick} {I : List Nat} {on : Stamp → Int} (h : AllOn L I on) (k : Nat) : AllOn L (I ++ [k]) (onT on (gS k (L.getD k zeroP)) 1) := by
  have h0 := h.1 (gS k (L.getD k zeroP))
  refine ⟨fun s => ?_, fun i hi => ?_⟩
  · have := h.1 s
    unfold onT
    split <;> omega
  · unfold onT
    split
    · omega
    · rename_i hne
      rcases List.mem_append.1 hi with h1 | h1
      · exact h.2 i h1
      · rw [List.mem_singleton.1 h1] at hne
        exact absurd rfl hne
theorem allOn_seen {w0 w : World} {P : Nat → Prop} {p : Loc} {c : Nat} {O : List Nd} {on : Stamp → Int} {L : List Pick} {I : List Nat} (h : Sht w0 P p c (zF L I) O on (fun _ => 0) w) (hon : AllOn L I on) : seenO O on (fun _ => 0) = O.map (·.2) := by
  unfold seenO
  refine List.filter_eq_self.2 fun e he => ?_
  obtain ⟨nd, hnd, rfl⟩ := List.mem_map.1 he
  obtain ⟨i, hi, h1⟩ := List.mem_flatMap.1 ((h.order.2 nd).1 hnd).1
  obtain ⟨j, _, h2⟩ := zE_id h1
  have h3 : 0 < on nd.2.id.s := by rw [h2]; exact hon.2 i hi
  unfold seenI
  simp [h3]
theorem counts_of_names {F : List El} (hN : Names El.id zeroI (fun e => e ∈ F)) : Counts F = fun e => e ∈ F := by
  funext e
  refine propext ⟨fun h => counts_mem h, fun h => ⟨?_, hN.nz e h⟩⟩
  obtain ⟨g, hg, h1⟩ := firstK_exists (key := El.id) h
  rw [← hN.uniq g e (firstK_mem hg) h h1]
  exact hg
end Go.Proofs.YtphapjbfaomblaaDoor
