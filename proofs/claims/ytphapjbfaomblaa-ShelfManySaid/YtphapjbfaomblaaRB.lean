/- The document's shelf: Place, Count. -/
import Derived.Test.YtphapjbfaomblaaRA
import Derived.Test.YtphapjbfaomblaaSE
namespace Go.Proofs.Ytphapjbfaomblaa
open Go Go.RowKit Go.Maps
theorem rcountAll_any {w : World} {rb : Nat} {vi vs : Value} {R : Row Id} (h : RfIs w rb vi vs R) :
    Calls Try.prog 23 #[.pointer (some ⟨rb, 0, none⟩)] w fun e w' => e = .returned (.int .i64 (cntR R : Nat)) ∧ w' = w := by
  have HC := Lib.hid (rcount_any h R.length (Nat.le_refl _))
  obtain ⟨A, c, rfl, hnc, hcm⟩ := (Rd.of_own h.ids).form
  have e0 : w.cell? ⟨rb, 0, none⟩ = some (.slice A R.length c) := cell_of_row _ _ 0 _ _ _ h.cell
  clear h
  rw [List.take_length] at HC
  go_enter Try.func23, Try.ntmps23
  go_wp2_with (go_at_call 31; refine HC.out.mono ?_; rintro e w1 ⟨rfl, rfl⟩)
  go_ret
  exact ⟨rfl, rfl⟩
set_option maxHeartbeats 2000000 in
theorem rplace_any {w : World} {rb : Nat} {vi vs : Value} {R : Row Id} (h : RfIs w rb vi vs R) (x : Id) :
    Calls Try.prog 19 #[.pointer (some ⟨rb, 0, none⟩), idV x] w fun e w' => e = .returned (.tuple #[.int .i64 (placeV R x).1, .int .i64 (placeV R x).2.1, .int .i64 (placeV R x).2.2]) ∧ Grows w w' := by
  have HA := Lib.hid (fun W (hW : Below w.heap.size w W) => rat_any (h.below hW) x)
  have HC := Lib.hid (fun W (hW : Below w.heap.size w W) n hn => rcount_any (h.below hW) n hn)
  clear h
  unfold idV at HA
  unfold idV
  by_cases hx : x ∈ namesR R
  · have HV := Lib.hid (show placeV R x = ((ixR R x : Int), ((cntR (R.take (ixR R x)) : Nat) : Int), 0) from by unfold placeV; rw [if_pos hx])
    have HX := Lib.hid hx
    have HL := Lib.hid (ixR_le R x)
    clear hx
    go_enter Try.func19, Try.ntmps19
    go_wp2_with (first
      | (go_at_call 30; refine (HA.out _ ((Below.refl _ w).alloc (Nat.le_refl _) _)).mono ?_; rintro e w1 ⟨⟨r, rfl, hr⟩, hg⟩; obtain rfl := at_ix hr HX.out; have HG := Lib.hid (((Grows.refl w).alloc _).trans hg); have i1 : ¬ ((ixR R x : Int) < 0) := by omega)
      | (go_at_call 31; refine (HC.out _ HG.out.below _ HL.out).mono ?_; rintro e w2 ⟨rfl, rfl⟩))
    go_ret3
    rw [HV.out]
    exact ⟨rfl, HG.out⟩
  · have HV := Lib.hid (show placeV R x = (0, 0, 111) from by unfold placeV; rw [if_neg hx])
    have HX := Lib.hid hx
    clear hx
    go_enter Try.func19, Try.ntmps19
    have hr1 : ∀ r, AtIs (namesR R) x r → r = -1 := fun r hr => by
      rcases hr with ⟨k, hk, _, h2, _⟩ | ⟨h1, _⟩
      · exact absurd (h2 ▸ List.getElem_mem hk) HX.out
      · exact h1
    have HR1 := Lib.hid hr1
    clear hr1
    go_wp2_with (go_at_call 30; refine (HA.out _ ((Below.refl _ w).alloc (Nat.le_refl _) _)).mono ?_; rintro e w1 ⟨⟨r, rfl, hr⟩, hg⟩; obtain rfl := HR1.out r hr; have HG := Lib.hid (((Grows.refl w).alloc _).trans hg))
    go_ret3
    rw [HV.out]
    exact ⟨rfl, HG.out⟩
end Go.Proofs.Ytphapjbfaomblaa
