/- The law PlaceReplays, walked. -/
import Derived.Test.YtejafcdlkpmemaaPL
import Derived.Test.YtejafcdlkpmemaaPH
namespace Go.Proofs.Ytejafcdlkpmemaa
open Go Go.RowKit Go.Maps Go.Shelf
set_option maxRecDepth 100000 in
set_option maxHeartbeats 4000000 in
theorem replays_walk (a : List Id) (b : List Place) (A A' : Option Addr) (n c n' c' : Nat) (w : World) (hR : Rd w w.heap.size 3 (.slice A n c) n (a.flatMap idC)) (hR' : Rd w w.heap.size 8 (.slice A' n' c') n' (b.flatMap plC)) :
    Calls Try.prog 12 #[.slice A n c, .slice A' n' c'] w fun e w' => e = .returned (.bool true) ∧ Below w.heap.size w w' := by
  have HR := Lib.hid (fun W (hb : Below w.heap.size w W) => hR.below' hb (Nat.le_refl _))
  have HR' := Lib.hid (fun W (hb : Below w.heap.size w W) => hR'.below' hb (Nat.le_refl _))
  clear hR hR'
  by_cases hn : n ≤ 80
  · by_cases hn' : n' ≤ 80
    · have HP := Lib.hid (fun W (hb : Below w.heap.size w W) => replay_any a b A A' n c n' c' w.heap.size W (HR.out W hb) (HR'.out W hb) hb.size (by omega))
      have HQ := Lib.hid (fun W (hb : Below w.heap.size w W) => rreplay_any a b A A' n c n' c' w.heap.size W (HR.out W hb) (HR'.out W hb) hb.size (by omega))
      have HA := Lib.hid (fun W => pawake_any W)
      go_enter Try.func12, Try.ntmps12
      go_wp2_with fail
      refine (HA.out _).mono ?_
      rintro e w2 ⟨rfl, k2⟩
      go_wp2_with fail
      refine (HP.out _ k2).mono ?_
      rintro e w3 ⟨v3, T3, rfl, hT3, _, hO3, hb3⟩
      have k3 := k2.trans (hb3.mono k2.size)
      obtain ⟨A3, c3, rfl, _, _⟩ := (Rd.of_own hO3).form
      have O3 := Lib.hid hO3
      have T3h := Lib.hid hT3
      clear hO3 hT3 hb3
      go_wp2_with fail
      refine (HQ.out _ k3).mono ?_
      rintro e w4 ⟨v4, T4, rfl, hT4, _, hO4, hb4⟩
      have k4 := k3.trans (hb4.mono k3.size)
      obtain rfl := toldOf_same T3h.out hT4
      obtain ⟨A4, c4, rfl, _, _⟩ := (Rd.of_own hO4).form
      have hs := samePl_any (replayL T3) (replayL T3) A3 A4 _ c3 _ c4 w4.heap.size w4 (((Rd.of_own O3.out).below' hb4 (Nat.le_refl _)).more hb4.size) (Rd.of_own hO4)
      rw [decide_eq_true rfl] at hs
      have HS4 := Lib.hid hs
      clear hO4 hT4 hs hb4
      go_wp2_with fail
      refine HS4.out.mono ?_
      rintro e w5 ⟨rfl, hg5⟩
      have k5 := k4.trans (hg5.below.mono k4.size)
      clear hg5
      have HF := Lib.hid k5
      clear k2 k3 k4 k5
      go_wp2
      go_ret
      exact ⟨rfl, HF.out⟩
    · go_enter Try.func12, Try.ntmps12
      go_wp2_with fail
      refine (pawake_any w).mono ?_
      rintro e w1 ⟨rfl, hb1⟩
      have HB1 := Lib.hid hb1
      clear hb1
      go_wp2
      go_ret
      exact ⟨rfl, HB1.out⟩
  · go_enter Try.func12, Try.ntmps12
    go_wp2_with fail
    refine (pawake_any w).mono ?_
    rintro e w1 ⟨rfl, hb1⟩
    have HB1 := Lib.hid hb1
    clear hb1
    go_wp2
    go_ret
    exact ⟨rfl, HB1.out⟩
end Go.Proofs.Ytejafcdlkpmemaa
