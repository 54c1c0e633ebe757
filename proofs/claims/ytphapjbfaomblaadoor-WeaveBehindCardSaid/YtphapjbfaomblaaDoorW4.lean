/- The walk of the document's pieces of a text. -/
import Derived.Test.YtphapjbfaomblaaDoorChecked
import Derived.Test.YtphapjbfaomblaaDoorW2
import Derived.Test.YtphapjbfaomblaaDoorW3
namespace Go.Proofs.YtphapjbfaomblaaDoor
open Go.RowKit
theorem infoStr : (Tryd.prog.info? 9).map (fun i => (i.zero, i.size, i.bytes)) = some (some (.string ⟨#[]⟩), 1, 16) := by kernel_rfl
def strLen : Value → Nat | .string b => b.size | _ => 0
/-- what the pieces of a text come to -/
def SplitPost (l : List UInt8) (w : World) (e : Ending) (w' : World) : Prop :=
  (∃ ps v, AllP ps ∧ l = ps.flatten ∧ e = .returned (.tuple #[v, .int .i64 0]) ∧ w'.ownsRow w.heap.size 9 1 v ps.length (ps.map str) ∧ Below w.heap.size w w') ∨
  (Lib.validD l = false ∧ e = .returned (.tuple #[.slice none 0 0, .int .i64 60]) ∧ Below w.heap.size w w')
def SplitRel (l : List UInt8) (w : World) (s v : Value) (wr : World) (m : Nat) : Prop :=
  ∃ ps rest, AllP ps ∧ l = ps.flatten ++ rest ∧ Lib.validD rest = Lib.validD l ∧ s = str rest ∧ m = rest.length ∧ wr.ownsRow w.heap.size 9 1 v ps.length (ps.map str) ∧ Below w.heap.size w wr
theorem SplitRel.stop {l : List UInt8} {w wr : World} {v : Value} {ps : List (List UInt8)} (h1 : AllP ps) (h2 : l = ps.flatten ++ []) (h3 : wr.ownsRow w.heap.size 9 1 v ps.length (ps.map str)) (h4 : Below w.heap.size w wr) :
    SplitPost l w (.returned (.tuple #[v, .int .i64 0])) wr := .inl ⟨ps, v, h1, by simpa using h2, rfl, h3, h4⟩
theorem take_head {rest : List UInt8} : (ofL rest).extract 0 (Lib.decodeL rest).2 = ofL (rest.take (Lib.decodeL rest).2) := by rw [ofL_extract]; simp
theorem drop_head {rest : List UInt8} (n : Nat) : (ofL rest).extract n (ofL rest).size = ofL (rest.drop n) := by
  rw [ofL_extract, ofL_size, List.take_of_length_le]
  simp
theorem flatten_snoc (ps : List (List UInt8)) (p : List UInt8) : (ps ++ [p]).flatten = ps.flatten ++ p := by simp
set_option maxRecDepth 100000 in
set_option maxHeartbeats 400000 in
theorem rsplit_any (l : List UInt8) (w : World) (hl : l.length ≤ 1000000000) :
    Calls Tryd.prog 71 #[.string (ofL l)] w fun e w' => SplitPost l w e w' := by
  obtain ⟨i0, hi, hz0, hz1, hz2⟩ := info_parts infoStr
  go_enter Tryd.func71, Tryd.ntmps71
  go_wp2
  go_loopw [0, 4] (fun s v wr => ∃ m, SplitRel l w s v wr m) (fun s _ _ => strLen s)
  case atStart => exact ⟨l.length, [], l, AllP.nil, by simp, rfl, rfl, rfl, by simpa using World.ownsRow_nil w _ _ _, Below.refl _ _⟩
  case round =>
    obtain ⟨m, ps, rest, hp, hs, hv, rfl, hm, hown, hbw⟩ := hrel
    have hsz : (ofL rest).size = rest.length := ofL_size rest
    have hle : rest.length ≤ 1000000000 := by rw [hs, List.length_append] at hl; omega
    have HSZ := Lib.hid hsz
    have HS := Lib.hid hs
    have HV := Lib.hid hv
    clear hsz hs hv hm
    have hpl := length_le_flatten ps hp
    have hfl : ps.flatten.length ≤ 1000000000 := by have := HS.out; rw [this, List.length_append] at hl; omega
    unfold str
    by_cases hne : rest = []
    · subst hne
      go_wp2
      go_ret2
      exact SplitRel.stop hp HS.out hown hbw
    · have hpos : 0 < (ofL rest).size := by have := HSZ.out; have := List.length_pos_iff.2 hne; omega
      have hmx : (ofL rest).size ≤ 9223372036854775807 := by have := HSZ.out; omega
      have cF := first_any (ofL rest) wr hmx hpos
      rw [ofL_toList] at cF
      by_cases hb : bad rest
      · rw [if_pos hb] at cF
        have CF := Lib.hid cF
        have hbad : Lib.validD l = false := by
          rw [← HV.out, Lib.validD_step rest hne]
          exact if_pos hb
        have HB := Lib.hid hbad
        clear cF hbad hb
        go_wp2_with (go_at_call 86; refine (CF.out).mono ?_)
        rintro e w' ⟨(⟨_, rfl⟩ | ⟨n, hn, _⟩), rfl⟩
        · go_wp2
          go_ret2
          exact .inr ⟨HB.out, rfl, hbw⟩
        · cases hn
      · rw [if_neg hb] at cF
        have CF := Lib.hid cF
        have hst : Lib.validD (rest.drop (Lib.decodeL rest).2) = Lib.validD l := by
          rw [← HV.out, Lib.validD_step rest hne, if_neg (show ¬ ((Lib.decodeL rest).1 = 65533 ∧ (Lib.decodeL rest).2 = 1) from hb)]
        have hpc := isP_head hne hb
        have hd := Lib.decodeL_le rest hne
        have hw := Lib.decodeL_width rest
        have hx1 := take_head (rest := rest)
        have hx2 := drop_head (rest := rest) (Lib.decodeL rest).2
        have htd := List.take_append_drop (Lib.decodeL rest).2 rest
        have hdl : (rest.drop (Lib.decodeL rest).2).length + (Lib.decodeL rest).2 = rest.length := by rw [List.length_drop]; omega
        obtain ⟨q, hq⟩ : ∃ q, rest.take (Lib.decodeL rest).2 = q := ⟨_, rfl⟩
        obtain ⟨r, hr⟩ : ∃ r, rest.drop (Lib.decodeL rest).2 = r := ⟨_, rfl⟩
        obtain ⟨d, hdd⟩ : ∃ d, (Lib.decodeL rest).2 = d := ⟨_, rfl⟩
        rw [hq] at hpc hx1 htd
        rw [hr] at hst hx2 htd hdl
        rw [hdd] at hd hw hx1 hx2 hdl CF
        have hds : d ≤ (ofL rest).size := by have := HSZ.out; omega
        have HST := Lib.hid hst
        have HTD := Lib.hid htd
        have HDL := Lib.hid hdl
        have hdp : (0 : Int) ≤ d := by omega
        clear hq hr hdd cF hb hst htd hdl
        go_wp2_with (go_at_call 86; refine (CF.out).mono ?_)
        rintro e w' ⟨(⟨hn, _⟩ | ⟨n, hn, c, rfl⟩), rfl⟩
        · cases hn
        · obtain rfl : d = n := Option.some.inj hn
          clear hn
          go_wp2_with (at_builtin; refine wpList_append_own _ rfl _ _ 92 rfl w.heap.size 9 i0 (.string ⟨#[]⟩) 1 16 Tryd.underlying92 hi hz0 hz1 hz2 rfl (by decide) _ _ _ rfl (hown.alloc _) ⟨wr.heap.size, 0, none⟩ 1 1 [str q] rfl rfl ?c1 ?c2 ?c3 ?c4 ?c5 ?_)
          case c1 => exact cell_one_new _ _ _
          case c2 => intro u hu; rcases List.mem_singleton.1 hu with rfl; rfl
          case c3 => simp only [maxLen]; omega
          case c4 => omega
          case c5 => have := hbw.size; simp; omega
          intro v' w1 hown' hgrow _
          have hbw1 : Below w.heap.size w w1 := (hbw.alloc hbw.size _).grown hgrow (by have := hbw.size; simp; omega) (fun k hk => (hown.lt k hk).1)
          clear hown hgrow hbw
          go_wp2
          go_roundw
          case rel => exact ⟨_, ps ++ [q], r, hp.append (AllP.cons hpc AllP.nil), by rw [HS.out, flatten_snoc, List.append_assoc, HTD.out], HST.out, rfl, rfl, by rw [List.length_append, List.map_append]; exact hown', hbw1⟩
          case measure => simp only [strLen, ofL_size]; have := HDL.out; omega
end Go.Proofs.YtphapjbfaomblaaDoor
