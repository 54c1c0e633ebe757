/- The walks of how many pieces there are, and where the one at a place begins. -/
import Derived.Test.YtdkkfjcbdokdjaaDoorW5
namespace Go.Proofs.YtdkkfjcbdokdjaaDoor
open Go.RowKit
theorem runeCountFrom_pieces (s : ByteArray) : ∀ (qs ps : List (List UInt8)) (fuel : Nat), AllP qs → s = ofL (ps.flatten ++ qs.flatten) → qs.length ≤ fuel → Lib.runeCountFrom s fuel ps.flatten.length = qs.length
  | [], ps, fuel, _, hs, _ => Lib.runeCountFrom_end s fuel _ (by rw [hs, ofL_size]; simp)
  | q :: qs, ps, 0, _, _, h => by simp at h
  | q :: qs, ps, fuel + 1, hq, hs, h => by
    obtain ⟨n1, n2, n3⟩ := next_piece (ps := ps) (qs := qs) hq.head s (by rw [hs]; simp)
    unfold Lib.runeCountFrom
    rw [if_pos n1, n3]
    have ih := runeCountFrom_pieces s qs (ps ++ [q]) fuel hq.tail (by rw [hs]; simp) (by simp at h; omega)
    rw [flatten_snoc, List.length_append] at ih
    rw [ih, List.length_cons]
    omega
theorem runeCount_pieces (ps : List (List UInt8)) (h : AllP ps) : Lib.runeCount (ofL ps.flatten) = ps.length := by
  have := runeCountFrom_pieces (ofL ps.flatten) ps [] (ofL ps.flatten).size h (by simp) (by rw [ofL_size]; exact length_le_flatten ps h)
  unfold Lib.runeCount
  simpa using this
set_option maxHeartbeats 400000 in
theorem len_valid (ps : List (List UInt8)) (hps : AllP ps) (w : World) (hl : ps.flatten.length ≤ 1000000000) (hT : Tabs w) :
    Calls Tryd.prog 12 #[.string (ofL ps.flatten)] w fun e w' => e = .returned (.tuple #[.int .i64 ps.length, .int .i64 0]) ∧ Below w.heap.size w w' := by
  have cV := valid_any ps.flatten w hl hT
  rw [valid_flatten ps hps] at cV
  have CV := Lib.hid cV
  have cR := fun w => Tryd.utf8_RuneCountInString (ofL ps.flatten) w (by rw [ofL_size]; omega)
  rw [runeCount_pieces ps hps] at cR
  have CR := Lib.hid cR
  clear cV cR
  go_enter Tryd.func12, Tryd.ntmps12
  go_wp2_with (first | (go_at_call 26; refine (CV.out).mono ?_; rintro e w1 ⟨rfl, hb1⟩) | (go_at_call 28; refine (CR.out _).mono ?_; rintro e w2 ⟨rfl, pos, rfl⟩))
  go_ret2
  exact ⟨rfl, hb1.alloc hb1.size _⟩
set_option maxHeartbeats 400000 in
theorem len_bad (l : List UInt8) (hv : Lib.validD l = false) (w : World) (hl : l.length ≤ 1000000000) (hT : Tabs w) :
    Calls Tryd.prog 12 #[.string (ofL l)] w fun e w' => e = .returned (.tuple #[.int .i64 0, .int .i64 60]) ∧ Below w.heap.size w w' := by
  have cV := valid_any l w hl hT
  rw [hv] at cV
  have CV := Lib.hid cV
  clear cV hv
  go_enter Tryd.func12, Tryd.ntmps12
  go_wp2_with (go_at_call 26; refine (CV.out).mono ?_; rintro e w1 ⟨rfl, hb1⟩)
  go_ret2
  exact ⟨rfl, hb1⟩
/-! the document's, by cases -/
theorem rsplit_valid (ps : List (List UInt8)) (hps : AllP ps) (w : World) (hl : ps.flatten.length ≤ 1000000000) :
    Calls Tryd.prog 11 #[.string (ofL ps.flatten)] w fun e w' => ∃ v, e = .returned (.tuple #[v, .int .i64 0]) ∧ w'.ownsRow w.heap.size 9 1 v ps.length (ps.map str) ∧ Below w.heap.size w w' := by
  refine (rsplit_any ps.flatten w hl).mono ?_
  rintro e w' (⟨qs, v, h1, h2, h3, h4, h5⟩ | ⟨h, _⟩)
  · obtain rfl := pieces_unique ps qs hps h1 h2
    exact ⟨v, h3, h4, h5⟩
  · rw [valid_flatten ps hps] at h; cases h
theorem rsplit_bad (l : List UInt8) (hv : Lib.validD l = false) (w : World) (hl : l.length ≤ 1000000000) :
    Calls Tryd.prog 11 #[.string (ofL l)] w fun e w' => e = .returned (.tuple #[.slice none 0 0, .int .i64 60]) ∧ Below w.heap.size w w' := by
  refine (rsplit_any l w hl).mono ?_
  rintro e w' (⟨qs, v, h1, h2, h3, h4, h5⟩ | ⟨h, h1, h2⟩)
  · rw [h2, valid_flatten qs h1] at hv; cases hv
  · exact ⟨h1, h2⟩
set_option maxHeartbeats 400000 in
theorem rlen_valid (ps : List (List UInt8)) (hps : AllP ps) (w : World) (hl : ps.flatten.length ≤ 1000000000) :
    Calls Tryd.prog 13 #[.string (ofL ps.flatten)] w fun e w' => e = .returned (.tuple #[.int .i64 ps.length, .int .i64 0]) ∧ Below w.heap.size w w' := by
  have CS := Lib.hid (rsplit_valid ps hps w hl)
  go_enter Tryd.func13, Tryd.ntmps13
  go_wp2_with (go_at_call 11; refine (CS.out).mono ?_)
  rintro e w1 ⟨v, rfl, ho, hb1⟩
  obtain ⟨A, c, rfl, _⟩ := (Rd.of_own ho).form
  have HO := Lib.hid ho
  clear ho
  go_wp2
  go_ret2
  exact ⟨rfl, hb1⟩
set_option maxHeartbeats 400000 in
theorem rlen_bad (l : List UInt8) (hv : Lib.validD l = false) (w : World) (hl : l.length ≤ 1000000000) :
    Calls Tryd.prog 13 #[.string (ofL l)] w fun e w' => e = .returned (.tuple #[.int .i64 0, .int .i64 60]) ∧ Below w.heap.size w w' := by
  have CS := Lib.hid (rsplit_bad l hv w hl)
  clear hv
  go_enter Tryd.func13, Tryd.ntmps13
  go_wp2_with (go_at_call 11; refine (CS.out).mono ?_; rintro e w1 ⟨rfl, hb1⟩)
  go_ret2
  exact ⟨rfl, hb1⟩
/-- where the code point at a place begins -/
def PlacePost (ps : List (List UInt8)) (a : Int) (e : Ending) : Prop :=
  (∃ k : Nat, a = k ∧ k ≤ ps.length ∧ e = .returned (.tuple #[.int .i64 ((ps.take k).flatten.length : Nat), .bool true])) ∨ (¬ (0 ≤ a ∧ a ≤ ps.length) ∧ ∃ x, e = .returned (.tuple #[.int .i64 x, .bool false]))
def PlaceRel (ps : List (List UInt8)) (a : Int) (w : World) (K : Nat) (v : Value) (wr : World) : Prop :=
  ∃ k : Nat, k ≤ ps.length ∧ (k : Int) ≤ a ∧ v = .int .i64 (a - k) ∧ wr.heap[K]? = some (.stringIter (ofL ps.flatten) (ps.take k).flatten.length) ∧ Below w.heap.size w wr ∧ w.heap.size ≤ K
set_option maxHeartbeats 400000 in
theorem place_any (ps : List (List UInt8)) (hps : AllP ps) (a : Int) (w : World) (hl : ps.flatten.length ≤ 1000000000) (ha1 : -9223372036854775808 ≤ a) (ha2 : a ≤ 9223372036854775807) :
    Calls Tryd.prog 37 #[.string (ofL ps.flatten), .int .i64 a] w fun e w' => PlacePost ps a e ∧ Below w.heap.size w w' := by
  by_cases ha : a < 0
  · go_enter Tryd.func37, Tryd.ntmps37
    go_wp2
    go_ret2
    exact ⟨.inr ⟨by omega, _, rfl⟩, Below.refl _ _⟩
  · have ha0 : 0 ≤ a := by omega
    clear ha
    go_enter Tryd.func37, Tryd.ntmps37
    go_wp2
    go_loopw [1, 6] (fun v _ wr => PlaceRel ps a w w.heap.size v wr) (fun _ _ wr => (ofL ps.flatten).size - wr.iterPos w.heap.size)
    case atStart => exact ⟨0, Nat.zero_le _, by omega, by simp, World.iter_heap _ _ _, (Below.refl _ _).alloc (Nat.le_refl _) _, Nat.le_refl _⟩
    case round =>
      obtain ⟨k, hk, hka, rfl, hit, hbw, _⟩ := hrel
      obtain ⟨K, hKK⟩ : ∃ K, w.heap.size = K := ⟨_, rfl⟩
      have hK : w.heap.size ≤ K := by omega
      rw [hKK] at hit ⊢
      obtain ⟨s, hs⟩ : ∃ s, ofL ps.flatten = s := ⟨_, rfl⟩
      rw [hs] at hit ⊢
      have hsz : s.size = ps.flatten.length := by rw [← hs, ofL_size]
      have hkl := length_le_flatten ps hps
      by_cases hlt : k < ps.length
      · have hp : isP ps[k] := hps _ (List.getElem_mem hlt)
        obtain ⟨n1, n2, n3⟩ := next_piece hp s (ps := ps.take k) (qs := ps.drop (k + 1)) (by rw [← hs]; congr 1; exact flat_split ps k hlt)
        have hnx := fun ty => Lib.run_next_any_at (P := Tryd.prog) wr K s _ ty hit n1
        rw [n2, n3] at hnx
        have hfl := flatten_take_succ ps k hlt
        obtain ⟨q, hq⟩ : ∃ q, ps[k] = q := ⟨_, rfl⟩
        rw [hq] at hnx hfl hp
        obtain ⟨c, hc⟩ : ∃ c, (Lib.decodeL q).1 = c := ⟨_, rfl⟩
        rw [hc] at hnx
        obtain ⟨pos, hpos⟩ : ∃ pos, (ps.take k).flatten.length = pos := ⟨_, rfl⟩
        rw [hpos] at hnx hit n1
        have hit2 := Lib.iterAt_heap wr K s pos (pos + q.length) hit
        have hbw2 := below_iterAt hbw hK s (pos + q.length)
        have hq0 := hp.pos
        have HFL := Lib.hid (show (ps.take (k + 1)).flatten.length = pos + q.length by rw [hfl, List.length_append, hpos])
        have HIT := Lib.hid hit
        have HIT2 := Lib.hid hit2
        have HS := Lib.hid hs
        have HPOS := Lib.hid hpos
        have HSZ := Lib.hid hsz
        clear n2 n3 hq hc hpos hit2 hfl hs hbw hit hsz hKK
        by_cases hak : a = k
        · have hz : ((a - (k : Int)) == 0) = true := by rw [beq_iff_eq]; omega
          have HAK := Lib.hid hak
          clear hak
          go_wp2
          go_ret2
          exact ⟨.inl ⟨k, HAK.out, hk, by rw [HPOS.out]; rfl⟩, hbw2⟩
        · have hz : ((a - (k : Int)) == 0) = false := by rw [beq_eq_false_iff_ne]; omega
          have hlt2 : (k : Int) < a := by omega
          clear hak
          go_wp2
          go_roundw
          case rel => exact ⟨k + 1, by omega, by omega, by congr 1; omega, by rw [HFL.out, HS.out]; exact HIT2.out, hbw2, hK⟩
          case measure => rw [iter_pos HIT2.out, iter_pos HIT.out]; omega
      · have hke : ps.take k = ps := List.take_of_length_le (by omega)
        have hn := fun ty => Lib.run_next_end_at (P := Tryd.prog) wr K s _ ty hit (by rw [hke, hsz]; omega)
        have hk2 : k = ps.length := by omega
        have HSZ := Lib.hid hsz
        have HK2 := Lib.hid hk2
        clear hke hs hit hsz hk2 hKK
        by_cases hak : a = k
        · have hz : ((a - (k : Int)) == 0) = true := by rw [beq_iff_eq]; omega
          have HAK := Lib.hid hak
          clear hak
          go_wp2
          go_ret2
          exact ⟨.inl ⟨k, HAK.out, hk, by rw [HK2.out, List.take_length, ← HSZ.out]; rfl⟩, hbw⟩
        · have hz : ((a - (k : Int)) == 0) = false := by rw [beq_eq_false_iff_ne]; omega
          have hlt2 : (k : Int) < a := by omega
          clear hak
          go_wp2
          go_ret2
          exact ⟨.inr ⟨by have := HK2.out; omega, _, rfl⟩, hbw⟩
end Go.Proofs.YtdkkfjcbdokdjaaDoor
