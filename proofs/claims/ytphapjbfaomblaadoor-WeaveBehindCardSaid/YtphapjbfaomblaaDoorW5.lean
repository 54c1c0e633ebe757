/- The walks of the program's pieces of a text, and of how many there are. -/
import Derived.Test.YtphapjbfaomblaaDoorChecked
import Derived.Test.YtphapjbfaomblaaDoorW4
import Derived.Test.YtphapjbfaomblaaDoorShelf
import Derived.Test.YtphapjbfaomblaaDoorM2
import Derived.WalkSmall
namespace Go.Proofs.YtphapjbfaomblaaDoor
open Go.RowKit
def Tabs (w : World) : Prop := Lib.Utf8Tabs (Tryd.lays196_ren.g 3) (Tryd.lays196_ren.g 4) w
theorem Tabs.below {w w' : World} (h : Tabs w) (hb : Below w.heap.size w w') : Tabs w' := Utf8Tabs_below h hb
theorem valid_any (l : List UInt8) (w : World) (hl : l.length ≤ 1000000000) (hT : Tabs w) :
    Calls Tryd.prog 76 #[.string (ofL l)] w fun e w' => e = .returned (.bool (Lib.validD l)) ∧ Below w.heap.size w w' := by
  have h := Tryd.utf8_ValidString (ofL l) w (by rw [ofL_size]; omega) hT
  rw [ofL_toList] at h
  exact h
/-- the k-th piece is what 'range' hands over there -/
theorem next_piece {ps qs : List (List UInt8)} {p : List UInt8} (hp : isP p) (s : ByteArray) (hs : s = ofL ((ps.flatten ++ p) ++ qs.flatten)) :
    ps.flatten.length < s.size ∧ (Utf8.decode s ps.flatten.length).1 = (Lib.decodeL p).1 ∧ (Utf8.decode s ps.flatten.length).2 = p.length := by
  have e : Lib.decodeL p = Utf8.decode s ps.flatten.length := by
    rw [← Lib.decodeL_drop, hs, ofL_toList, List.append_assoc, List.drop_left, hp.app]
  rw [← e]
  refine ⟨?_, rfl, hp.2.2⟩
  rw [hs, ofL_size, List.length_append, List.length_append]
  have := hp.pos
  omega
theorem iter_pos {w : World} {k pos : Nat} {s : ByteArray} (h : w.heap[k]? = some (.stringIter s pos)) : w.iterPos k = pos := by
  unfold World.iterPos
  rw [h]
theorem grown_iter {w w' : World} {row : Option Nat} {k pos : Nat} {s : ByteArray} (h : w.heap[k]? = some (.stringIter s pos)) (hg : w.grownBy w' row) (hne : row ≠ some k) : w'.heap[k]? = some (.stringIter s pos) :=
  (hg.block k (Array.getElem?_eq_some_iff.1 h).1 (Ne.symm hne)).trans h
theorem alloc_iter {w : World} {k pos : Nat} {s : ByteArray} (h : w.heap[k]? = some (.stringIter s pos)) (o : Obj) : (w.alloc o).heap[k]? = some (.stringIter s pos) :=
  (Below.heap_alloc w o k (Array.getElem?_eq_some_iff.1 h).1).trans h
theorem flat_split (ps : List (List UInt8)) (k : Nat) (h : k < ps.length) : ps.flatten = ((ps.take k).flatten ++ ps[k]) ++ (ps.drop (k + 1)).flatten := by
  rw [← flatten_take_succ ps k h, ← List.flatten_append, List.take_append_drop]
def SplitV (ps : List (List UInt8)) (w : World) (K : Nat) (v : Value) (wr : World) : Prop :=
  ∃ k, k ≤ ps.length ∧ wr.heap[K]? = some (.stringIter (ofL ps.flatten) (ps.take k).flatten.length) ∧ wr.ownsRow w.heap.size 9 1 v k ((ps.take k).map str) ∧ Below w.heap.size w wr ∧ w.heap.size ≤ K
set_option maxRecDepth 100000 in
set_option maxHeartbeats 400000 in
theorem split_valid (ps : List (List UInt8)) (hps : AllP ps) (w : World) (hl : ps.flatten.length ≤ 1000000000) (hT : Tabs w) :
    Calls Tryd.prog 65 #[.string (ofL ps.flatten)] w fun e w' => ∃ v, e = .returned (.tuple #[v, .int .i64 0]) ∧ w'.ownsRow w.heap.size 9 1 v ps.length (ps.map str) ∧ Below w.heap.size w w' := by
  obtain ⟨i0, hi, hz0, hz1, hz2⟩ := info_parts infoStr
  have cV := valid_any ps.flatten w hl hT
  rw [valid_flatten ps hps] at cV
  have CV := Lib.hid cV
  clear cV
  go_enter Tryd.func65, Tryd.ntmps65
  go_wp2_with (go_at_call 76; refine (CV.out).mono ?_; rintro e w1 ⟨rfl, hb1⟩)
  go_loopw [4] (fun v wr => SplitV ps w (w1.heap.size + 1) v wr) (fun _ wr => (ofL ps.flatten).size - wr.iterPos (w1.heap.size + 1))
  case atStart =>
    refine ⟨0, Nat.zero_le _, ?_, ?_, ?_, ?_⟩
    · have := World.iter_heap (w1.alloc (Obj.cells #[] 9)) (ofL ps.flatten) 0
      simpa using this
    · exact (World.ownsRow_made w1 #[] 0 hb1.size (Nat.zero_le _) rfl).alloc _
    · exact (hb1.alloc hb1.size _).alloc (by have := hb1.size; simp; omega) _
    · have := hb1.size; omega
  case round =>
    obtain ⟨k, hk, hit, hown, hbw, hK⟩ := hrel
    obtain ⟨K, hKK⟩ : ∃ K, w1.heap.size + 1 = K := ⟨_, rfl⟩
    rw [hKK] at hit hK ⊢
    clear CV hb1 hKK
    obtain ⟨s, hs⟩ : ∃ s, ofL ps.flatten = s := ⟨_, rfl⟩
    rw [hs] at hit ⊢
    by_cases hlt : k < ps.length
    · have hp : isP ps[k] := hps _ (List.getElem_mem hlt)
      obtain ⟨n1, n2, n3⟩ := next_piece hp s (ps := ps.take k) (qs := ps.drop (k + 1)) (by rw [← hs]; congr 1; exact flat_split ps k hlt)
      have hnx := fun ty => Lib.run_next_any_at (P := Tryd.prog) wr K s _ ty hit n1
      rw [n2, n3] at hnx
      have hen := encode_piece hp
      have hfl := flatten_take_succ ps k hlt
      have htk := List.take_succ_eq_append_getElem hlt
      obtain ⟨q, hq⟩ : ∃ q, ps[k] = q := ⟨_, rfl⟩
      rw [hq] at hnx hen hfl hp htk
      obtain ⟨c, hc⟩ : ∃ c, (Lib.decodeL q).1 = c := ⟨_, rfl⟩
      rw [hc] at hnx hen
      obtain ⟨pos, hpos⟩ : ∃ pos, (ps.take k).flatten.length = pos := ⟨_, rfl⟩
      rw [hpos] at hnx hit n1
      have hit2 := Lib.iterAt_heap wr K s pos (pos + q.length) hit
      have hown2 := own_iterAt hown hit (pos + q.length)
      have hbw2 := below_iterAt hbw hK s (pos + q.length)
      have hq0 := hp.pos
      have HFL := Lib.hid (show (ps.take (k + 1)).flatten.length = pos + q.length by rw [hfl, List.length_append, hpos])
      have HTK := Lib.hid htk
      have HIT := Lib.hid hit
      have HIT2 := Lib.hid hit2
      have HS := Lib.hid hs
      have hkl := length_le_flatten ps hps
      clear n2 n3 hq hc hpos hit2 hfl htk hs hown hbw hit
      go_wp2_with (at_builtin; refine wpList_append_own _ rfl _ _ 92 rfl w.heap.size 9 i0 (.string ⟨#[]⟩) 1 16 Tryd.underlying92 hi hz0 hz1 hz2 rfl (by decide) _ _ _ rfl (hown2.alloc _) ⟨(wr.iterAt K s (pos + q.length)).heap.size, 0, none⟩ 1 1 [str q] rfl rfl ?c1 ?c2 ?c3 ?c4 ?c5 ?_)
      case c1 => exact cell_one_new _ _ _
      case c2 => intro u hu; rcases List.mem_singleton.1 hu with rfl; rfl
      case c3 => simp only [maxLen]; omega
      case c4 => omega
      case c5 => have := hbw2.size; simp; omega
      intro v' w2 hown' hgrow _
      have hit3 := grown_iter (alloc_iter HIT2.out _) hgrow (own_ne_iter hown2 HIT2.out)
      have hbw3 : Below w.heap.size w w2 := (hbw2.alloc hbw2.size _).grown hgrow (by have := hbw2.size; simp; omega) (fun k hk => (hown2.lt k hk).1)
      clear hgrow
      go_wp2
      go_roundw
      case rel => exact ⟨k + 1, by omega, by rw [HFL.out, HS.out]; exact hit3, by rw [HTK.out, List.map_append, List.map_take]; exact hown', hbw3, hK⟩
      case measure => rw [iter_pos hit3, iter_pos HIT.out]; omega
    · have hke : ps.take k = ps := List.take_of_length_le (by omega)
      have hn := fun ty => Lib.run_next_end_at (P := Tryd.prog) wr K s _ ty hit (by rw [hke, ← hs, ofL_size]; omega)
      rw [hke] at hown
      have hk2 : k = ps.length := by omega
      subst hk2
      have HOWN := Lib.hid hown
      clear hke hs hown
      go_wp2
      go_ret2
      exact ⟨_, rfl, HOWN.out, hbw⟩
set_option maxRecDepth 100000 in
set_option maxHeartbeats 400000 in
theorem split_bad (l : List UInt8) (hv : Lib.validD l = false) (w : World) (hl : l.length ≤ 1000000000) (hT : Tabs w) :
    Calls Tryd.prog 65 #[.string (ofL l)] w fun e w' => e = .returned (.tuple #[.slice none 0 0, .int .i64 60]) ∧ Below w.heap.size w w' := by
  have cV := valid_any l w hl hT
  rw [hv] at cV
  have CV := Lib.hid cV
  clear cV hv
  go_enter Tryd.func65, Tryd.ntmps65
  go_wp2_with (go_at_call 76; refine (CV.out).mono ?_; rintro e w1 ⟨rfl, hb1⟩)
  go_ret2
  exact ⟨rfl, hb1⟩
end Go.Proofs.YtphapjbfaomblaaDoor
