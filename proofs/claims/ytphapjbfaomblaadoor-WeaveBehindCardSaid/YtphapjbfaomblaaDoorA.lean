/- Stamps, ids, dots: their cells; the order of them, as the document's functions compute it. -/
import Derived.WalkLawsBesides
import Derived.WalkKit
import Derived.WalkSpells
import Derived.ProofKit
import Derived.Deep.QuietTactic
import Derived.BigQuiet
import Derived.RegionTactic
import Derived.Lib.Hide
import Derived.Outline
import Derived.Test.YtphapjbfaomblaaDoorProg
import Derived.Test.YtphapjbfaomblaaDoorV1
import Derived.Sort.Grow
import Derived.Laws.Rows
import Derived.StillTailTactics
import Derived.Test.YtphapjbfaomblaaDoorQ
import Derived.Deep.RegionWith
namespace Go.Proofs.YtphapjbfaomblaaDoor
open Go Go.RowKit
def I64 (x : Int) : Prop := -9223372036854775808 ≤ x ∧ x ≤ 9223372036854775807
instance (x : Int) : Decidable (I64 x) := inferInstanceAs (Decidable (_ ∧ _))
structure Stamp where
  T : Int
  R : Int
  hT : I64 T
  hR : I64 R
deriving DecidableEq
structure Id where
  s : Stamp
  I : Int
  hI : I64 I
deriving DecidableEq
structure Dot where
  n : Id
  b : Stamp
deriving DecidableEq
def stC (x : Stamp) : List Value := [.int .i64 x.T, .int .i64 x.R]
def idC (x : Id) : List Value := [.int .i64 x.s.T, .int .i64 x.s.R, .int .i64 x.I]
def dotC (x : Dot) : List Value := [.int .i64 x.n.s.T, .int .i64 x.n.s.R, .int .i64 x.n.I, .int .i64 x.b.T, .int .i64 x.b.R]
def stV (x : Stamp) : Value := .agg #[.int .i64 x.T, .int .i64 x.R]
def idV (x : Id) : Value := .agg #[.int .i64 x.s.T, .int .i64 x.s.R, .int .i64 x.I]
def dotV (x : Dot) : Value := .agg #[.int .i64 x.n.s.T, .int .i64 x.n.s.R, .int .i64 x.n.I, .int .i64 x.b.T, .int .i64 x.b.R]
def Stamp.lt (a b : Stamp) : Bool := decide (a.T < b.T) || decide (a.T = b.T) && decide (a.R < b.R)
theorem ret_b {a b : Bool} (h : a = b) : Ending.returned (.bool a) = Ending.returned (.bool b) := by rw [h]
theorem ret_i {k : IntKind} {a b : Int} (h : a = b) : Ending.returned (.int k a) = Ending.returned (.int k b) := by rw [h]
/-- the world has grown: draws, new blocks, nothing else -/
def Grows (w w' : World) : Prop := ∃ q os, w' = Sort.grow (w.drewN q) os
theorem Grows.refl (w : World) : Grows w w := ⟨0, #[], by rw [Sort.grow_empty]; rfl⟩
theorem Grows.alloc {w w' : World} (h : Grows w w') (o : Obj) : Grows w (w'.alloc o) := by
  obtain ⟨q, os, rfl⟩ := h
  exact ⟨q, os ++ #[o], by rw [Sort.alloc_eq_grow, Sort.grow_grow]⟩
theorem Grows.drewN {w w' : World} (h : Grows w w') (n : Nat) : Grows w (w'.drewN n) := by
  obtain ⟨q, os, rfl⟩ := h
  exact ⟨q + n, os, by rw [← World.drewN_drewN]; rfl⟩
theorem Grows.trans {a b c : World} (h : Grows a b) (k : Grows b c) : Grows a c := by
  obtain ⟨q, os, rfl⟩ := h
  obtain ⟨q', os', rfl⟩ := k
  refine ⟨q + q', os ++ os', ?_⟩
  rw [← World.drewN_drewN, ← Sort.grow_grow]
  rfl
theorem Grows.below {a b : World} (h : Grows a b) : Below a.heap.size a b := by
  obtain ⟨q, os, rfl⟩ := h
  exact ⟨rfl, rfl, rfl, by rw [Sort.size_grow]; exact Nat.le_add_right _ _, fun i hi => Sort.heap_grow_old (a.drewN q) os hi⟩
theorem bcell {W w1 : World} (hb : Below W.heap.size W w1) : (∀ b o, b < W.heap.size → w1.cell? ⟨b, o, none⟩ = W.cell? ⟨b, o, none⟩) ∧ (∀ b o, b < W.heap.size → w1.frozen? ⟨b, o, none⟩ = W.frozen? ⟨b, o, none⟩) :=
  ⟨fun b o h => hb.cell (p := ⟨b, o, none⟩) h, fun b o h => hb.frozen (p := ⟨b, o, none⟩) h⟩
set_option maxHeartbeats 400000 in
theorem before_any (a b : Stamp) (w : World) : Calls Tryd.prog 63 #[stV a, stV b] w fun e w' => e = .returned (.bool (a.lt b)) ∧ Grows w w' := by
  obtain ⟨t1, r1, _, _⟩ := a
  obtain ⟨t2, r2, _, _⟩ := b
  unfold stV Stamp.lt
  dsimp only
  go_enter Tryd.func63, Tryd.ntmps63
  go_wp2
  all_goals
    go_ret
    refine ⟨ret_b ?_, ((Grows.refl w).alloc _).alloc _⟩
  all_goals first | rfl | (simp [*]; done) | (simp; omega)
def Stamp.cmp (a b : Stamp) : Int := if a.lt b then -1 else if b.lt a then 1 else 0
set_option maxHeartbeats 400000 in
theorem rcmp_any (a b : Stamp) (w : World) : Calls Tryd.prog 42 #[stV a, stV b] w fun e w' => e = .returned (.int .i64 (a.cmp b)) ∧ Grows w w' := by
  have H1 := Lib.hid (fun w => before_any a b w)
  have H2 := Lib.hid (fun w => before_any b a w)
  have HC := Lib.hid (show a.cmp b = if a.lt b then -1 else if b.lt a then 1 else 0 from rfl)
  generalize a.cmp b = c at *
  generalize a.lt b = x at *
  generalize b.lt a = y at *
  obtain ⟨t1, r1, _, _⟩ := a
  obtain ⟨t2, r2, _, _⟩ := b
  unfold stV at *
  dsimp only at *
  cases x
  · cases y
    all_goals
      go_enter Tryd.func42, Tryd.ntmps42
      go_wp2_with fail
      refine (H1.out _).mono ?_
      rintro e w1 ⟨rfl, hg⟩
      obtain ⟨hc, hf⟩ := bcell hg.below
      go_wp2_with fail
      refine (H2.out _).mono ?_
      rintro e w2 ⟨rfl, hg2⟩
      go_wp2
      go_ret
      exact ⟨ret_i (by rw [HC.out]; simp), ((((Grows.refl w).alloc _).alloc _).trans hg).trans hg2⟩
  · go_enter Tryd.func42, Tryd.ntmps42
    go_wp2_with fail
    refine (H1.out _).mono ?_
    rintro e w1 ⟨rfl, hg⟩
    go_wp2
    go_ret
    exact ⟨ret_i (by rw [HC.out]; simp), (((Grows.refl w).alloc _).alloc _).trans hg⟩
theorem row_grown {w : World} {g : Nat} {cs : Array Value} {t : TypeId} (h : w.heap[g]? = some (.cells cs t (0, 0))) (n : Nat) (os : Array Obj) (i : Nat) : (Sort.grow (w.drewN n) os).cell? ⟨g, i, none⟩ = cs[i]? := by
  rw [Sort.cell?_grow _ _ _ (show g < w.heap.size from (Array.getElem?_eq_some_iff.1 h).1)]
  exact cell_of_row w g i cs t (0, 0) h
theorem grown_of_grows {P : Program} {f : FuncId} {args : Array Value} {w : World} {n : Nat} {os : Array Obj} {v : Value}
    (h : Calls P f args (Sort.grow (w.drewN n) os) fun e w' => e = .returned v ∧ Grows (Sort.grow (w.drewN n) os) w') : Calls P f args (Sort.grow (w.drewN n) os) fun e w'' => e = .returned v ∧ ∃ p : Go.GrownBy, w'' = Sort.grow (w.drewN p.n) p.os :=
  Calls.grown_of (h.mono fun _ _ ⟨h1, q, os', h2⟩ => ⟨h1, q, os', h2⟩)
theorem grown_of_same {P : Program} {f : FuncId} {args : Array Value} {w : World} {n : Nat} {os : Array Obj} {v : Value}
    (h : Calls P f args (Sort.grow (w.drewN n) os) fun e w' => e = .returned v ∧ Sort.grow (w.drewN n) os = w') : Calls P f args (Sort.grow (w.drewN n) os) fun e w'' => e = .returned v ∧ ∃ p : Go.GrownBy, w'' = Sort.grow (w.drewN p.n) p.os :=
  h.mono fun _ _ ⟨h1, h2⟩ => ⟨h1, ⟨n, os⟩, h2.symm⟩
def icmp (a b : Int) : Int := if a < b then -1 else if b < a then 1 else 0
set_option maxHeartbeats 400000 in
theorem isNaN_any (a : Int) (w : World) : Calls Tryd.prog 91 #[.int .i64 a] w fun e w' => e = .returned (.bool false) ∧ w = w' := by
  go_enter Tryd.func91, Tryd.ntmps91
  go_wp2
  go_ret
  exact ⟨rfl, rfl⟩
set_option maxHeartbeats 400000 in
theorem compare_any (a b : Int) (w : World) : Calls Tryd.prog 80 #[.int .i64 a, .int .i64 b] w fun e w' => e = .returned (.int .i64 (icmp a b)) ∧ w = w' := by
  have H1 := Lib.hid (fun a w => isNaN_any a w)
  have HC := Lib.hid (show icmp a b = if a < b then -1 else if b < a then 1 else 0 from rfl)
  generalize icmp a b = c at *
  rcases Int.lt_trichotomy a b with h | h | h
  · have h1 : decide (a < b) = true := by simpa using h
    rw [if_pos h] at HC
    go_enter Tryd.func80, Tryd.ntmps80
    go_wp2_with (go_at_call 91; refine (H1.out _ _).mono ?_; rintro e w' ⟨rfl, rfl⟩)
    go_ret
    exact ⟨ret_i HC.out.symm, rfl⟩
  · subst h
    rw [if_neg (by omega), if_neg (by omega)] at HC
    go_enter Tryd.func80, Tryd.ntmps80
    go_wp2_with (go_at_call 91; refine (H1.out _ _).mono ?_; rintro e w' ⟨rfl, rfl⟩)
    go_ret
    exact ⟨ret_i HC.out.symm, rfl⟩
  · have h1 : decide (a < b) = false := by simp; omega
    rw [if_neg (by omega), if_pos h] at HC
    go_enter Tryd.func80, Tryd.ntmps80
    go_wp2_with (go_at_call 91; refine (H1.out _ _).mono ?_; rintro e w' ⟨rfl, rfl⟩)
    go_ret
    exact ⟨ret_i HC.out.symm, rfl⟩
def orI (a b : Int) : Int := if a = 0 then b else a
set_option maxHeartbeats 400000 in
theorem or2_any (a b : Int) (g : Nat) (w : World) (hg : w.heap[g]? = some (.cells #[.int .i64 a, .int .i64 b] 3 (0, 0))) : Calls Tryd.prog 78 #[.slice (some ⟨g, 0, none⟩) 2 2] w fun e w' => e = .returned (.int .i64 (orI a b)) ∧ w = w' := by
  unfold orI
  have c0 : w.cell? ⟨g, 0, none⟩ = some (.int .i64 a) := cell_of_row w g 0 _ _ _ hg
  have c1 : w.cell? ⟨g, 1, none⟩ = some (.int .i64 b) := cell_of_row w g 1 _ _ _ hg
  clear hg
  by_cases h : a = 0
  · rw [if_pos h]
    subst h
    by_cases h' : b = 0
    · subst h'
      go_enter Tryd.func78, Tryd.ntmps78
      go_wp2
      refine wp_loop_rounds 3 ?_
      rw [rounds_succ]
      go_wp2
      rw [rounds_succ]
      go_wp2
      rw [rounds_succ]
      go_wp2
      go_ret
      exact ⟨rfl, rfl⟩
    · have hb : (b != 0) = true := by simpa using h'
      go_enter Tryd.func78, Tryd.ntmps78
      go_wp2
      refine wp_loop_rounds 3 ?_
      rw [rounds_succ]
      go_wp2
      rw [rounds_succ]
      go_wp2
      go_ret
      exact ⟨rfl, rfl⟩
  · rw [if_neg h]
    have ha : (a != 0) = true := by simpa using h
    go_enter Tryd.func78, Tryd.ntmps78
    go_wp2
    refine wp_loop_rounds 3 ?_
    rw [rounds_succ]
    go_wp2
    go_ret
    exact ⟨rfl, rfl⟩
theorem same_drew {w W : World} {n : Nat} (h : W = w.drewN n) : (∀ b o, W.cell? ⟨b, o, none⟩ = w.cell? ⟨b, o, none⟩) ∧ (∀ b o, W.frozen? ⟨b, o, none⟩ = w.frozen? ⟨b, o, none⟩) := by
  subst h
  exact ⟨fun _ _ => rfl, fun _ _ => rfl⟩
theorem cmp_or (a b : Stamp) : orI (icmp a.T b.T) (icmp a.R b.R) = a.cmp b := by
  unfold orI icmp Stamp.cmp Stamp.lt
  simp only [Bool.or_eq_true, Bool.and_eq_true, decide_eq_true_eq]
  repeat' split
  all_goals omega
set_option maxRecDepth 100000 in
set_option maxHeartbeats 400000 in
theorem scmp_any (a b : Stamp) (w : World) : Calls Tryd.prog 79 #[stV a, stV b] w fun e w' => e = .returned (.int .i64 (a.cmp b)) ∧ Grows w w' := by
  have HF := Lib.hid (cmp_or a b)
  generalize a.cmp b = r at *
  obtain ⟨t1, r1, _, _⟩ := a
  obtain ⟨t2, r2, _, _⟩ := b
  have HC := Lib.hid (fun a b w => compare_any a b w)
  unfold stV
  dsimp only at HF ⊢
  go_enter Tryd.func79, Tryd.ntmps79
  go_wp2
  refine region_tail 10 (by kernel_rfl) (by kernel_rfl) ?_
  intro W hW
  obtain ⟨hc, hf⟩ := same_drew hW
  have hg : Grows w W := by rw [hW]; exact (((Grows.refl w).alloc _).alloc _).drewN 1
  clear hW
  simp only [List.take_succ_cons, List.take_zero, List.drop_succ_cons, List.drop_zero]
  repeat still_step
  still_call ((HC.out _ _ _).mono fun _ _ h => ⟨h.1, h.2.symm⟩)
  repeat still_step
  still_call ((HC.out _ _ _).mono fun _ _ h => ⟨h.1, h.2.symm⟩)
  refine wpStill_nil ?_
  go_wp2_with fail
  refine (or2_any _ _ _ _ (heap_alloc_new W _)).mono ?_
  rintro e w' ⟨rfl, rfl⟩
  go_wp2
  go_ret
  exact ⟨ret_i HF.out, hg.alloc _⟩
def Id.cmp (a b : Id) : Int := orI (a.s.cmp b.s) (icmp a.I b.I)
set_option maxRecDepth 100000 in
set_option maxHeartbeats 400000 in
theorem scmpId_any (a b : Id) (w : World) : Calls Tryd.prog 68 #[idV a, idV b] w fun e w' => e = .returned (.int .i64 (a.cmp b)) ∧ Grows w w' := by
  have HS := Lib.hid (fun w => scmp_any a.s b.s w)
  have HC := Lib.hid (fun a b w => compare_any a b w)
  have HF := Lib.hid (show a.cmp b = orI (a.s.cmp b.s) (icmp a.I b.I) from rfl)
  generalize a.cmp b = r at *
  generalize a.s.cmp b.s = x at *
  obtain ⟨⟨t1, r1, _, _⟩, i1, _⟩ := a
  obtain ⟨⟨t2, r2, _, _⟩, i2, _⟩ := b
  unfold idV
  unfold stV at HS
  dsimp only at HF HS ⊢
  go_enter Tryd.func68, Tryd.ntmps68
  go_wp2
  obtain ⟨W0, hW0⟩ : ∃ W, ((w.alloc (.cells #[.int .i64 t1, .int .i64 r1, .int .i64 i1] 26)).alloc (.cells #[.int .i64 t2, .int .i64 r2, .int .i64 i2] 26)) = W := ⟨_, rfl⟩
  have hg : Grows w W0 := by rw [← hW0]; exact ((Grows.refl w).alloc _).alloc _
  have hb1 : W0.heap[w.heap.size]? = some (.cells #[.int .i64 t1, .int .i64 r1, .int .i64 i1] 26 (0, 0)) := by rw [← hW0]; exact (Below.heap_alloc _ _ _ (by simp)).trans (heap_alloc_new w _)
  have hb2 : W0.heap[w.heap.size + 1]? = some (.cells #[.int .i64 t2, .int .i64 r2, .int .i64 i2] 26 (0, 0)) := by
    rw [← hW0]
    have := heap_alloc_new (w.alloc (.cells #[.int .i64 t1, .int .i64 r1, .int .i64 i1] 26)) (.cells #[.int .i64 t2, .int .i64 r2, .int .i64 i2] 26)
    simpa using this
  rw [hW0]
  have f1 := fun n os => row_grown hb1 n os 0
  have f2 := fun n os => row_grown hb1 n os 1
  have f3 := fun n os => row_grown hb1 n os 2
  have g1 := fun n os => row_grown hb2 n os 0
  have g2 := fun n os => row_grown hb2 n os 1
  have g3 := fun n os => row_grown hb2 n os 2
  clear hW0 hb1 hb2
  refine region_grown_tail 10 (by kernel_rfl) (by kernel_rfl) ?_
  simp only [List.take_succ_cons, List.take_zero, List.drop_succ_cons, List.drop_zero]
  repeat (quiet_step (first | (go_at_call 79; exact grown_of_grows (HS.out _)) | (go_at_call 80; exact grown_of_same (HC.out _ _ _))))
  refine wpQuiet_nil ?_
  rintro W ⟨⟨n, os⟩, hW⟩
  have hg2 : Grows w W := by rw [hW]; exact hg.trans ⟨n, os, rfl⟩
  clear hW
  go_wp2_with fail
  refine (or2_any _ _ _ _ (heap_alloc_new W _)).mono ?_
  rintro e w' ⟨rfl, rfl⟩
  go_wp2
  go_ret
  exact ⟨ret_i HF.out.symm, hg2.alloc _⟩
set_option maxHeartbeats 400000 in
theorem rcmpId_any (a b : Id) (w : World) : Calls Tryd.prog 17 #[idV a, idV b] w fun e w' => e = .returned (.int .i64 (a.cmp b)) ∧ Grows w w' := by
  have HS := Lib.hid (fun w => rcmp_any a.s b.s w)
  have HF := Lib.hid (show a.cmp b = orI (a.s.cmp b.s) (icmp a.I b.I) from rfl)
  generalize a.cmp b = r at *
  generalize a.s.cmp b.s = x at *
  obtain ⟨⟨t1, r1, _, _⟩, i1, _⟩ := a
  obtain ⟨⟨t2, r2, _, _⟩, i2, _⟩ := b
  unfold idV
  unfold stV at HS
  unfold orI icmp at HF
  dsimp only at HF HS ⊢
  by_cases hx : x = 0
  · subst hx
    rw [if_pos rfl] at HF
    rcases Int.lt_trichotomy i1 i2 with h | h | h
    · have h1 : decide (i1 < i2) = true := by simpa using h
      rw [if_pos h] at HF
      go_enter Tryd.func17, Tryd.ntmps17
      go_wp2_with fail
      refine (HS.out _).mono ?_
      rintro e w1 ⟨rfl, hg⟩
      obtain ⟨hc, hf⟩ := bcell hg.below
      go_wp2
      go_ret
      exact ⟨ret_i HF.out.symm, (((Grows.refl w).alloc _).alloc _).trans hg⟩
    · subst h
      rw [if_neg (by omega), if_neg (by omega)] at HF
      go_enter Tryd.func17, Tryd.ntmps17
      go_wp2_with fail
      refine (HS.out _).mono ?_
      rintro e w1 ⟨rfl, hg⟩
      obtain ⟨hc, hf⟩ := bcell hg.below
      go_wp2
      go_ret
      exact ⟨ret_i HF.out.symm, (((Grows.refl w).alloc _).alloc _).trans hg⟩
    · have h1 : decide (i1 < i2) = false := by simp; omega
      rw [if_neg (by omega), if_pos h] at HF
      go_enter Tryd.func17, Tryd.ntmps17
      go_wp2_with fail
      refine (HS.out _).mono ?_
      rintro e w1 ⟨rfl, hg⟩
      obtain ⟨hc, hf⟩ := bcell hg.below
      go_wp2
      go_ret
      exact ⟨ret_i HF.out.symm, (((Grows.refl w).alloc _).alloc _).trans hg⟩
  · rw [if_neg hx] at HF
    have h0 : (x != 0) = true := by simpa using hx
    go_enter Tryd.func17, Tryd.ntmps17
    go_wp2_with fail
    refine (HS.out _).mono ?_
    rintro e w1 ⟨rfl, hg⟩
    go_wp2
    go_ret
    exact ⟨ret_i HF.out.symm, (((Grows.refl w).alloc _).alloc _).trans hg⟩
end Go.Proofs.YtphapjbfaomblaaDoor
