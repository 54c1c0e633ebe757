/- A shelf and the document's shelf, side by side. -/
import Derived.Test.YtphapjbfaomblaaSO
import Derived.Test.YtphapjbfaomblaaSI
import Derived.Test.YtphapjbfaomblaaRC
import Derived.Test.YtphapjbfaomblaaRD
import Derived.Test.YtphapjbfaomblaaRE
import Derived.Test.YtphapjbfaomblaaRF
namespace Go.Proofs.Ytphapjbfaomblaa
open Go Go.RowKit Go.Maps
theorem RfIs.lt {w : World} {rb : Nat} {vi vs : Value} {S : Row Id} (h : RfIs w rb vi vs S) {k : Nat} (hk : k = rb ∨ vi.ownBlock = some k ∨ vs.ownBlock = some k) : k < w.heap.size := by
  rcases hk with rfl | hk | hk
  · exact kind_lt (kind_cell h.cell)
  · exact own_lt h.ids k hk
  · exact own_lt h.sn k hk
theorem RfIs.touch {w w' : World} {F : Nat → Prop} {rb : Nat} {vi vs : Value} {S : Row Id} (h : RfIs w rb vi vs S) (tt : Touch F w w') (hF : ∀ k, (k = rb ∨ vi.ownBlock = some k ∨ vs.ownBlock = some k) → ¬ F k) : RfIs w' rb vi vs S :=
  ⟨block_touch h.cell tt (hF _ (.inl rfl)), own_touch h.ids tt (fun g hg => hF g (.inr (.inl hg))), own_touch h.sn tt (fun g hg => hF g (.inr (.inr hg)))⟩
/-- both, laid since w0; what is in P lies in none of them -/
def Both (w0 : World) (P : Nat → Prop) (sb rb : Nat) (R S : Row Id) (w : World) : Prop :=
  ∃ F vi vs, ShelfAt w F sb R ∧ RfIs w rb vi vs S ∧ (∀ k, (k = rb ∨ vi.ownBlock = some k ∨ vs.ownBlock = some k) → ¬ F k ∧ w0.heap.size ≤ k ∧ ¬ P k) ∧ (∀ k, F k → w0.heap.size ≤ k ∧ ¬ P k) ∧ Below w0.heap.size w0 w ∧ ∀ k, P k → k < w.heap.size
section
variable {w0 w w' : World} {P : Nat → Prop} {sb rb : Nat} {R S : Row Id}
theorem ShelfAt.flt {F : Nat → Prop} (h : ShelfAt w F sb R) : ∀ k, F k → k < w.heap.size := by
  obtain ⟨mp, vb, Bs, D, t, h1, h2, h3, h4, h5⟩ := h
  exact h4
theorem Both.out (h : Both w0 P sb rb R S w) : Below w0.heap.size w0 w := h.choose_spec.choose_spec.choose_spec.2.2.2.2.1
theorem Both.below (h : Both w0 P sb rb R S w) (hb : Below w.heap.size w w') : Both w0 P sb rb R S w' := by
  obtain ⟨F, vi, vs, h1, h2, h3, h4, h5, h6⟩ := h
  exact ⟨F, vi, vs, h1.below hb, h2.below hb, h3, h4, h5.trans (hb.mono h5.size), fun k hk => Nat.lt_of_lt_of_le (h6 k hk) hb.size⟩
theorem Both.drew (h : Both w0 P sb rb R S w) : Both w0 P sb rb R S w.drew := h.below (Below.refl _ w).drew
theorem Both.drewN (h : Both w0 P sb rb R S w) (n : Nat) : Both w0 P sb rb R S (w.drewN n) := h.below (((Grows.refl w).drewN n).below)
theorem Both.alloc (h : Both w0 P sb rb R S w) (o : Obj) : Both w0 P sb rb R S (w.alloc o) := h.below ((Below.refl _ w).alloc (Nat.le_refl _) o)
/-- a new block is in P -/
theorem Both.box (h : Both w0 (fun _ => False) sb rb R S w) (o : Obj) : Both w0 (fun k => k = w.heap.size) sb rb R S (w.alloc o) := by
  obtain ⟨F, vi, vs, h1, h2, h3, h4, h5, h6⟩ := h
  have hb : Below w.heap.size w (w.alloc o) := (Below.refl _ w).alloc (Nat.le_refl _) o
  refine ⟨F, vi, vs, h1.below hb, h2.below hb, fun k hk => ⟨(h3 k hk).1, (h3 k hk).2.1, fun e => ?_⟩, fun k hk => ⟨(h4 k hk).1, fun e => ?_⟩, h5.trans (hb.mono h5.size), fun k hk => by rw [hk]; simp⟩
  · have := h2.lt hk; omega
  · have := h1.flt k hk; omega
theorem Both.open (h : Both w0 P sb rb R S w) : Both w0 (fun _ => False) sb rb R S w := by
  obtain ⟨F, vi, vs, h1, h2, h3, h4, h5, h6⟩ := h
  exact ⟨F, vi, vs, h1, h2, fun k hk => ⟨(h3 k hk).1, (h3 k hk).2.1, id⟩, fun k hk => ⟨(h4 k hk).1, id⟩, h5, fun k hk => hk.elim⟩
theorem Both.sop (h : Both w0 P sb rb R S w) : ∃ F, ShelfAt w F sb R ∧ ∀ w' F' R', Touch F w w' → ShelfAt w' F' sb R' → (∀ k, F' k → F k ∨ w.heap.size ≤ k) → Both w0 P sb rb R' S w' ∧ Touch (fun k => ¬ P k ∧ k ≠ rb) w w' := by
  obtain ⟨F, vi, vs, h1, h2, h3, h4, h5, h6⟩ := h
  refine ⟨F, h1, fun w' F' R' ht hs hF => ⟨⟨F', vi, vs, hs, h2.touch ht (fun k hk => (h3 k hk).1), fun k hk => ⟨fun hk' => ?_, (h3 k hk).2⟩, fun k hk => (hF k hk).elim (h4 k) (fun hk => ⟨Nat.le_trans h5.size hk, fun hp => absurd (h6 k hp) (by omega)⟩), h5.trans (ht.below h5.size (fun x hx hx' => absurd (h4 x hx').1 (by omega))), fun k hk => Nat.lt_of_lt_of_le (h6 k hk) ht.size⟩, ht.mono (fun k _ hk => ⟨(h4 k hk).2, fun e => (h3 k (.inl e)).1 hk⟩)⟩⟩
  rcases hF k hk' with h | h
  · exact (h3 k hk).1 h
  · have := h2.lt hk; omega
theorem Both.rop (h : Both w0 P sb rb R S w) : ∃ vi vs, RfIs w rb vi vs S ∧ ∀ w' vi' vs' S', Touch (fun k => k = rb ∨ vi.ownBlock = some k ∨ vs.ownBlock = some k) w w' → RfIs w' rb vi' vs' S' → SameOrNew w vi vi' → SameOrNew w vs vs' → Both w0 P sb rb R S' w' ∧ Touch (fun k => ¬ P k) w w' := by
  obtain ⟨F, vi, vs, h1, h2, h3, h4, h5, h6⟩ := h
  refine ⟨vi, vs, h2, fun w' vi' vs' S' ht hs e1 e2 => ⟨⟨F, vi', vs', h1.touch ht (fun k hk hk' => (h3 k hk').1 hk), hs, fun k hk => ?_, h4, h5.trans (ht.below h5.size (fun x hx hx' => absurd (h3 x hx').2.1 (by omega))), fun k hk => Nat.lt_of_lt_of_le (h6 k hk) ht.size⟩, ht.mono (fun k _ hk => (h3 k hk).2.2)⟩⟩
  have hnew : w.heap.size ≤ k → ¬ F k ∧ w0.heap.size ≤ k ∧ ¬ P k := fun hk => ⟨fun hk' => by have := h1.flt k hk'; omega, Nat.le_trans h5.size hk, fun hp => absurd (h6 k hp) (by omega)⟩
  rcases hk with rfl | hk | hk
  · exact h3 _ (.inl rfl)
  · rcases e1 with e | e
    · exact h3 k (.inr (.inl (e ▸ hk)))
    · exact hnew (e k hk)
  · rcases e2 with e | e
    · exact h3 k (.inr (.inr (e ▸ hk)))
    · exact hnew (e k hk)
theorem Both.sput (h : Both w0 P sb rb R S w) (hl : R.length ≤ 10000) (at_ : Int) (x : Id) (q : Bool) : Calls Try.prog 9 #[.pointer (some ⟨sb, 0, none⟩), .int .i64 at_, idV x, .bool q] w fun e w' => e = .returned (.int .i64 (errP R at_ x)) ∧ Both w0 P sb rb (putV R at_ x q) S w' ∧ Touch (fun k => ¬ P k ∧ k ≠ rb) w w' := by
  obtain ⟨F, h1, h2⟩ := h.sop
  refine (put_any h1 hl at_ x q).mono ?_
  rintro e w' ⟨rfl, F', h4, h5, h6⟩
  exact ⟨rfl, h2 w' F' _ h5 h4 h6⟩
/-- what Show leaves -/
def shV (R : Row Id) (x : Id) (q : Bool) : Row Id := if x ∈ namesR R then showR R x q else R
theorem Both.sshow (h : Both w0 P sb rb R S w) (hl : R.length ≤ 100000) (x : Id) (q : Bool) : Calls Try.prog 21 #[.pointer (some ⟨sb, 0, none⟩), idV x, .bool q] w fun e w' => e = .returned (.int .i64 (if x ∈ namesR R then 0 else 111)) ∧ Both w0 P sb rb (shV R x q) S w' ∧ Touch (fun k => ¬ P k ∧ k ≠ rb) w w' := by
  obtain ⟨F, h1, h2⟩ := h.sop
  refine (show_any h1 hl x q).mono ?_
  rintro e w' ⟨rfl, h4, h5⟩
  exact ⟨rfl, h2 w' F _ h5 h4 (fun k hk => .inl hk)⟩
theorem Both.sall (h : Both w0 P sb rb R S w) : Calls Try.prog 8 #[.pointer (some ⟨sb, 0, none⟩)] w fun e w' => e = .returned (.int .i64 R.length) ∧ w' = w := by
  obtain ⟨F, h1, _⟩ := h.sop
  exact all_at h1
theorem Both.scount (h : Both w0 P sb rb R S w) : Calls Try.prog 12 #[.pointer (some ⟨sb, 0, none⟩)] w fun e w' => e = .returned (.int .i64 (cntR R)) ∧ w' = w := by
  obtain ⟨F, h1, _⟩ := h.sop
  exact count_at h1
theorem Both.slist (h : Both w0 P sb rb R S w) (hl : R.length ≤ 100000) (s : Bool) : Calls Try.prog 11 #[.pointer (some ⟨sb, 0, none⟩), .bool s] w fun e w' => ∃ A c, e = .returned (.slice A (listR R s).length c) ∧ Rd w' w'.heap.size 3 (.slice A (listR R s).length c) (listR R s).length ((listR R s).flatMap idC) ∧ Both w0 P sb rb R S w' ∧ Below w.heap.size w w' := by
  obtain ⟨F, h1, _⟩ := h.sop
  refine (list_at h1 hl s).mono ?_
  rintro e w' ⟨v, rfl, h4, h5⟩
  obtain ⟨A, c, rfl, _, _⟩ := (Rd.of_own h4).form
  exact ⟨A, c, rfl, Rd.of_own h4, h.below h5, h5⟩
theorem Both.sfind (h : Both w0 P sb rb R S w) (hl : R.length ≤ 100000) (k : Int) : Calls Try.prog 14 #[.pointer (some ⟨sb, 0, none⟩), .int .i64 k] w fun e w' => e = .returned (.tuple #[idV (findV R k).1, .int .i64 (findV R k).2]) ∧ Both w0 P sb rb R S w' ∧ Below w.heap.size w w' := by
  obtain ⟨F, h1, _⟩ := h.sop
  refine (find_at h1 hl k).mono ?_
  rintro e w' ⟨rfl, h2⟩
  exact ⟨rfl, h.below h2, h2⟩
theorem Both.splace (h : Both w0 P sb rb R S w) (hl : R.length ≤ 100000) (x : Id) : Calls Try.prog 13 #[.pointer (some ⟨sb, 0, none⟩), idV x] w fun e w' => e = .returned (.tuple #[.int .i64 (placeV R x).1, .int .i64 (placeV R x).2.1, .int .i64 (placeV R x).2.2]) ∧ Both w0 P sb rb R S w' ∧ Below w.heap.size w w' := by
  obtain ⟨F, h1, _⟩ := h.sop
  refine (place_at h1 hl x).mono ?_
  rintro e w' ⟨rfl, h2⟩
  exact ⟨rfl, h.below h2, h2⟩
theorem Both.rput (h : Both w0 P sb rb R S w) (hl : S.length ≤ 10000) (at_ : Int) (x : Id) (q : Bool) : Calls Try.prog 18 #[.pointer (some ⟨rb, 0, none⟩), .int .i64 at_, idV x, .bool q] w fun e w' => e = .returned (.int .i64 (errP S at_ x)) ∧ Both w0 P sb rb R (putV S at_ x q) w' ∧ Touch (fun k => ¬ P k) w w' := by
  obtain ⟨vi, vs, h1, h2⟩ := h.rop
  refine (rput_any h1 hl at_ x q).mono ?_
  rintro e w' ⟨rfl, vi', vs', h4, h5, h6, h7⟩
  exact ⟨rfl, h2 w' vi' vs' _ (h5.mono (fun _ _ e => .inl e)) h4 h6 h7⟩
theorem Both.rshow (h : Both w0 P sb rb R S w) (x : Id) (q : Bool) : Calls Try.prog 22 #[.pointer (some ⟨rb, 0, none⟩), idV x, .bool q] w fun e w' => e = .returned (.int .i64 (if x ∈ namesR S then 0 else 111)) ∧ Both w0 P sb rb R (shV S x q) w' ∧ Touch (fun k => ¬ P k) w w' := by
  obtain ⟨vi, vs, h1, h2⟩ := h.rop
  refine (rshow_any h1 x q).mono ?_
  rintro e w' ⟨rfl, h4, h5⟩
  exact ⟨rfl, h2 w' vi vs _ (h5.mono (fun _ _ e => .inr (.inr e))) h4 (.inl rfl) (.inl rfl)⟩
theorem Both.rcount (h : Both w0 P sb rb R S w) : Calls Try.prog 23 #[.pointer (some ⟨rb, 0, none⟩)] w fun e w' => e = .returned (.int .i64 (cntR S : Nat)) ∧ w' = w := by
  obtain ⟨vi, vs, h1, h2⟩ := h.rop
  exact rcountAll_any h1
theorem Both.rlist (h : Both w0 P sb rb R S w) (hl : S.length ≤ 100000) (s : Bool) : Calls Try.prog 17 #[.pointer (some ⟨rb, 0, none⟩), .bool s] w fun e w' => ∃ A c, e = .returned (.slice A (listR S s).length c) ∧ Rd w' w'.heap.size 3 (.slice A (listR S s).length c) (listR S s).length ((listR S s).flatMap idC) ∧ Both w0 P sb rb R S w' ∧ Below w.heap.size w w' := by
  obtain ⟨vi, vs, h1, h2⟩ := h.rop
  refine (rlist_any h1 hl s).mono ?_
  rintro e w' ⟨v, rfl, h4, h5⟩
  obtain ⟨A, c, rfl, _, _⟩ := (Rd.of_own h4).form
  exact ⟨A, c, rfl, Rd.of_own h4, h.below h5, h5⟩
theorem Both.rfind (h : Both w0 P sb rb R S w) (k : Int) : Calls Try.prog 20 #[.pointer (some ⟨rb, 0, none⟩), .int .i64 k] w fun e w' => e = .returned (.tuple #[idV (findV S k).1, .int .i64 (findV S k).2]) ∧ Both w0 P sb rb R S w' ∧ Below w.heap.size w w' := by
  obtain ⟨vi, vs, h1, h2⟩ := h.rop
  refine (rfind_any h1 k).mono ?_
  rintro e w' ⟨rfl, h2⟩
  exact ⟨rfl, h.below h2, h2⟩
theorem Both.rplace (h : Both w0 P sb rb R S w) (x : Id) : Calls Try.prog 19 #[.pointer (some ⟨rb, 0, none⟩), idV x] w fun e w' => e = .returned (.tuple #[.int .i64 (placeV S x).1, .int .i64 (placeV S x).2.1, .int .i64 (placeV S x).2.2]) ∧ Both w0 P sb rb R S w' ∧ Below w.heap.size w w' := by
  obtain ⟨vi, vs, h1, h2⟩ := h.rop
  refine (rplace_any h1 x).mono ?_
  rintro e w' ⟨rfl, h2⟩
  exact ⟨rfl, h.below h2.below, h2.below⟩
theorem Both.rlen (h : Both w0 P sb rb R S w) : ∃ A c vs, w.heap[rb]? = some (.cells #[.slice A S.length c, vs] 46 (0, 0)) ∧ w0.heap.size ≤ rb := by
  obtain ⟨F, vi, vs, h1, h2, h3, h4, h5, h6⟩ := h
  obtain ⟨A, c, rfl, _, _⟩ := (Rd.of_own h2.ids).form
  exact ⟨A, c, vs, h2.cell, (h3 _ (.inl rfl)).2.1⟩
theorem putV_len (R : Row Id) (at_ : Int) (x : Id) (q : Bool) : (putV R at_ x q).length ≤ R.length + 1 := by
  unfold putV
  split
  · rename_i h
    unfold errP at h
    rw [putR_len]
    · exact Nat.le_refl _
    · split at h
      · cases h
      · omega
  · omega
theorem shV_len (R : Row Id) (x : Id) (q : Bool) : (shV R x q).length = R.length := by
  unfold shV
  split
  · exact showR_len R x q
  · rfl
/-- both, laid anew -/
theorem Both.start {w0 w : World} {sb : Nat} (h : Aw w0 sb [] w) : Both w0 (fun _ => False) sb w.heap.size [] [] (w.alloc (.cells #[.slice none 0 0, .slice none 0 0] 46)) := by
  obtain ⟨F, h1, h2, h3⟩ := h
  have hb : Below w.heap.size w (w.alloc (.cells #[.slice none 0 0, .slice none 0 0] 46)) := (Below.refl _ w).alloc (Nat.le_refl _) _
  refine ⟨F, .slice none 0 0, .slice none 0 0, h1.below hb, ⟨heap_alloc_new w _, own_none _ _ _ _, own_none _ _ _ _⟩, fun k hk => ?_, fun k hk => ⟨h2 k hk, id⟩, h3.trans (hb.mono h3.size), fun k hk => hk.elim⟩
  rcases hk with rfl | hk | hk
  · exact ⟨fun hF => absurd (h1.flt _ hF) (by omega), h3.size, id⟩
  · cases hk
  · cases hk
end
end Go.Proofs.Ytphapjbfaomblaa
