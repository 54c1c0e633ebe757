/- The walk of what any right program answers: it is true. -/
import Derived.Test.YtdkkfjcbdokdjaaDoorW18
namespace Go.Proofs.YtdkkfjcbdokdjaaDoor
open Go.RowKit
theorem isP_mk {p : Bs} (h0 : p ≠ []) (h1 : (decide ((Lib.decodeL p).1 = 65533 ∧ (Lib.decodeL p).2 = 1)) = false) (h2 : (Lib.decodeL p).2 = p.length) : isP p := ⟨h0, of_decide_eq_false h1, h2⟩
theorem isP_e : isP [195, 169] := isP_mk (by simp) (by decide +kernel) (by decide +kernel)
def ps1 : List Bs := [[97], [195, 169]]
theorem ps1_ok : AllP ps1 := AllP.cons (isP_ascii (by decide)) (AllP.cons isP_e AllP.nil)
def ps2 : List Bs := [[120], [32], [120], [49], [32], [40], [120], [41]]
theorem all_ascii : ∀ l : List UInt8, (∀ b ∈ l, b.toNat < 128) → AllP (l.map fun b => [b])
  | [], _ => AllP.nil
  | b :: l, h => AllP.cons (isP_ascii (h b List.mem_cons_self)) (all_ascii l fun c hc => h c (List.mem_cons_of_mem _ hc))
theorem ps2_ok : AllP ps2 := all_ascii [120, 32, 120, 49, 32, 40, 120, 41] (by decide)
def ps3 : List Bs := [[120], [32], [120], [49]]
theorem ps3_ok : AllP ps3 := all_ascii [120, 32, 120, 49] (by decide)
theorem find2 : findOf ps2 [120] = [(0, 1), (6, 7)] := by decide +kernel
theorem find3 : findOf ps3 [120] = [(0, 1)] := by decide +kernel
theorem repl3 : replTo ps3 [121] [(0, 1)] 0 = [121, 32, 120, 49] := by decide +kernel
theorem bad_ff : Lib.validD [255] = false := by decide +kernel
theorem id_x : identL [120] = true := by decide +kernel
theorem id_y : identL [121] = true := by decide +kernel
theorem aw_split (w : World) (hT : Tabs w) : Calls Tryd.prog 10 #[.string ⟨#[97, 195, 169]⟩] w fun e w' => ∃ v, e = .returned (.tuple #[v, .int .i64 0]) ∧ w'.ownsRow w.heap.size 9 1 v 2 (ps1.map str) ∧ Below w.heap.size w w' :=
  split_valid ps1 ps1_ok w (by decide) hT
theorem aw_find (w : World) (hT : Tabs w) : Calls Tryd.prog 15 #[.string ⟨#[120, 32, 120, 49, 32, 40, 120, 41]⟩, .string ⟨#[120]⟩] w fun e w' => ∃ v1 v2, e = .returned (.tuple #[v1, v2, .int .i64 0]) ∧
      w'.ownsRow w.heap.size 3 1 v1 2 (nums [0, 6]) ∧ w'.ownsRow w.heap.size 3 1 v2 2 (nums [1, 7]) ∧ Below w.heap.size w w' := by
  have h := find_ok ps2 ps2_ok [120] id_x w (by decide) (by decide) hT
  rw [find2] at h
  exact h
theorem aw_repl (w : World) (hT : Tabs w) : Calls Tryd.prog 19 #[.string ⟨#[120, 32, 120, 49]⟩, .string ⟨#[120]⟩, .string ⟨#[121]⟩] w fun e w' => e = .returned (.tuple #[.string ⟨#[121, 32, 120, 49]⟩, .int .i64 1, .int .i64 0]) ∧ Below w.heap.size w w' := by
  have h := replace_ok ps3 ps3_ok [120] [121] id_x id_y w (by decide) (by decide) (by decide) hT
  rw [find3, repl3] at h
  exact h
theorem aw_len (w : World) (hT : Tabs w) : Calls Tryd.prog 12 #[.string ⟨#[255]⟩] w fun e w' => e = .returned (.tuple #[.int .i64 0, .int .i64 60]) ∧ Below w.heap.size w w' :=
  len_bad [255] bad_ff w (by decide) hT
theorem aw_texts (A1 A2 : Option Addr) (c1 c2 : Nat) (B : Nat) (w : World) (h1 : Rd w B 1 (.slice A1 2 c1) 2 (ps1.map str)) (h2 : Rd w B 1 (.slice A2 2 c2) 2 (ps1.map str)) :
    Calls Tryd.prog 14 #[.slice A1 2 c1, .slice A2 2 c2] w fun e w' => e = .returned (.bool true) ∧ Below w.heap.size w w' := by
  have h := sameTexts_any A1 A2 2 2 c1 c2 ps1 ps1 B w h1 h2
  rw [decide_eq_true rfl] at h
  exact h
theorem aw_same (A1 A2 : Option Addr) (c1 c2 : Nat) (xs : List Int) (B : Nat) (w : World) (h1 : Rd w B 1 (.slice A1 2 c1) 2 (xs.map num)) (h2 : Rd w B 1 (.slice A2 2 c2) 2 (xs.map num)) :
    Calls Tryd.prog 25 #[.slice A1 2 c1, .slice A2 2 c2] w fun e w' => e = .returned (.bool true) ∧ Below w.heap.size w w' := by
  have h := same_any A1 A2 2 2 c1 c2 xs xs B w h1 h2
  rw [decide_eq_true rfl] at h
  exact h
theorem rd_new (w : World) (cs : List Value) (t : TypeId) (n : Nat) (hn : cs.length = n) (hm : n ≤ maxLen) : Rd (w.alloc (.cells cs.toArray t)) (w.heap.size + 1) 1 (.slice (some ⟨w.heap.size, 0, none⟩) n n) n cs := by
  refine ⟨by omega, _, n, rfl, Nat.le_refl _, hm, fun _ => ⟨w.heap.size, 0, rfl, by omega, fun j u hu => ?_⟩⟩
  rw [Nat.zero_add, cell_of_row _ _ j cs.toArray t (0, 0) (heap_alloc_new w _)]
  simpa using hu
set_option maxHeartbeats 2000000 in
theorem awake_any (w : World) (hT : Tabs w) : Calls Tryd.prog 9 #[] w fun e w' => e = .returned (.bool true) ∧ Below w.heap.size w w' := by
  go_enter Tryd.func9, Tryd.ntmps9
  go_wp2_with fail
  refine (aw_split _ hT).mono ?_
  rintro e w1 ⟨v1, rfl, ho1, hb1⟩
  go_wp2_with fail
  refine (aw_find _ (hT.below hb1)).mono ?_
  rintro e w2 ⟨v2, v3, rfl, ho2, ho3, hb2⟩
  have hT2 := (hT.below hb1).below hb2
  go_wp2_with fail
  refine (aw_repl _ hT2).mono ?_
  rintro e w3 ⟨rfl, hb3⟩
  have hT3 := hT2.below hb3
  go_wp2_with fail
  refine (aw_len _ hT3).mono ?_
  rintro e w4 ⟨rfl, hb4⟩
  have r1 := Rd.of_own (own_below (own_below (own_below ho1 hb2) hb3) hb4)
  have r2 := Rd.of_own (own_below (own_below ho2 hb3) hb4)
  have r3 := Rd.of_own (own_below (own_below ho3 hb3) hb4)
  have hbw4 := ((hb1.trans (hb2.mono hb1.size)).trans (hb3.mono (Nat.le_trans hb1.size hb2.size))).trans (hb4.mono (Nat.le_trans (Nat.le_trans hb1.size hb2.size) hb3.size))
  obtain ⟨A1, c1, rfl, _⟩ := r1.form
  obtain ⟨A2, c2, rfl, _⟩ := r2.form
  obtain ⟨A3, c3, rfl, _⟩ := r3.form
  have R1 := Lib.hid r1
  have R2 := Lib.hid r2
  have R3 := Lib.hid r3
  clear r1 r2 r3 ho1 ho2 ho3 hb1 hb2 hb3 hb4 hT hT2 hT3
  go_wp2_with fail
  refine (aw_texts _ _ _ _ (w4.heap.size + 1) _ ((R1.out.below ((Below.refl _ _).alloc (Nat.le_refl _) _)).more (by omega)) (rd_new w4 (ps1.map str) 9 2 rfl (by decide))).mono ?_
  rintro e w5 ⟨rfl, hb5⟩
  have hbA : Below w4.heap.size w4 w5 := ((Below.refl _ _).alloc (Nat.le_refl _) _).trans (hb5.mono (by simp))
  clear hb5
  go_wp2_with fail
  refine (aw_same _ _ _ _ [0, 6] (w5.heap.size + 1) _ (((R2.out.below hbA).below' (w' := w5.alloc _) ((Below.refl _ _).alloc (Nat.le_refl _) _) hbA.size).more (by have := hbA.size; omega)) (rd_new w5 [num 0, num 6] 3 2 rfl (by decide))).mono ?_
  rintro e w6 ⟨rfl, hb6⟩
  have hbB : Below w4.heap.size w4 w6 := (hbA.alloc hbA.size _).trans (hb6.mono (by have := hbA.size; simp; omega))
  clear hb6 hbA
  go_wp2_with fail
  refine (aw_same _ _ _ _ [1, 7] (w6.heap.size + 1) _ (((R3.out.below hbB).below' (w' := w6.alloc _) ((Below.refl _ _).alloc (Nat.le_refl _) _) hbB.size).more (by have := hbB.size; omega)) (rd_new w6 [num 1, num 7] 3 2 rfl (by decide))).mono ?_
  rintro e w7 ⟨rfl, hb7⟩
  have hbC : Below w4.heap.size w4 w7 := (hbB.alloc hbB.size _).trans (hb7.mono (by have := hbB.size; simp; omega))
  clear hb7 hbB
  go_wp2
  go_ret
  exact ⟨ret_bool' (by decide +kernel), hbw4.trans (hbC.mono hbw4.size)⟩
end Go.Proofs.YtdkkfjcbdokdjaaDoor
