/- The walk of the rows that are a name. -/
import Derived.Test.YtdkkfjcbdokdjaaDoorM4
import Derived.Test.YtdkkfjcbdokdjaaDoorW7
import Derived.Test.YtdkkfjcbdokdjaaDoorW12
import Derived.Maps.AppendAt
namespace Go.Proofs.YtdkkfjcbdokdjaaDoor
open Go.RowKit
/-- two owned values of unlike blocks -/
def Sep (v u : Value) : Prop := v.ownBlock = none ∨ v.ownBlock ≠ u.ownBlock
theorem Sep.app {w : World} {base : Nat} {e : TypeId} {sz n : Nat} {v u u' : Value} {xs : List Value} (h : Sep v u) (ho : w.ownsRow base e sz v n xs) (hu : u'.ownBlock = u.ownBlock ∨ u'.ownBlock = some w.heap.size) : Sep v u' := by
  rcases h with h | h
  · exact .inl h
  · rcases hu with hu | hu
    · exact .inr (by rw [hu]; exact h)
    · cases hb : v.ownBlock with
      | none => exact .inl hb
      | some g =>
        have := (ho.lt g hb).2
        exact .inr (by rw [hu, hb]; intro e1; injection e1 with e1; omega)
theorem Sep.app2 {w : World} {base : Nat} {e : TypeId} {sz n m : Nat} {v u u' : Value} {xs : List Value} (h : Sep v u) (ho : w.ownsRow base e sz v n xs) (hu : u'.ownBlock = u.ownBlock ∨ u'.ownBlock = some m) (hm : w.heap.size ≤ m) : Sep v u' := by
  rcases h with h | h
  · exact .inl h
  · rcases hu with hu | hu
    · exact .inr (by rw [hu]; exact h)
    · cases hb : v.ownBlock with
      | none => exact .inl hb
      | some g =>
        have := (ho.lt g hb).2
        exact .inr (by rw [hu, hb]; intro e1; injection e1 with e1; omega)
theorem alloc_size (w : World) (o : Obj) : (w.alloc o).heap.size = w.heap.size + 1 := by simp
theorem own_below {w w' : World} {base : Nat} {e : TypeId} {sz n : Nat} {v : Value} {xs : List Value} (h : w.ownsRow base e sz v n xs) (hb : Below w.heap.size w w') : w'.ownsRow base e sz v n xs :=
  h.kept (row := none) ⟨hb.os, hb.tape, hb.output, hb.size, fun k hk _ => hb.block k hk⟩ (by cases v.ownBlock <;> simp)
theorem own_mono {w : World} {base base' : Nat} {e : TypeId} {sz n : Nat} {v : Value} {xs : List Value} (h : w.ownsRow base e sz v n xs) (hb : base' ≤ base) : w.ownsRow base' e sz v n xs := by
  refine ⟨h.1, ?_⟩
  rcases h.2 with h2 | ⟨g, cap, cur, hv, hg, r⟩
  · exact .inl h2
  · exact .inr ⟨g, cap, cur, hv, Nat.le_trans hb hg, r⟩
def FoundRel (ps : List Bs) (name : Bs) (w : World) (vr : Value) (vo vi : Value) (wr : World) : Prop :=
  ∃ (k : Nat), k ≤ (rowsOf ps).length ∧ vi = .int .i64 (k : Nat) ∧ wr.ownsRow w.heap.size 56 4 vr (rowsOf ps).length (cells4 (rowsOf ps)) ∧
    wr.ownsRow w.heap.size 56 4 vo (((runsOf ps).take k).filter (fun r => word ps r == name)).length (cells4 ((((runsOf ps).take k).filter (fun r => word ps r == name)).map (row4 ps))) ∧
    Sep vr vo ∧ Below w.heap.size w wr
theorem rows_length (ps : List Bs) : (rowsOf ps).length = (runsOf ps).length := by rw [rows_runs, List.length_map]
theorem rising_len {n : Nat} : ∀ {a : Nat} {l : List (Nat × Nat)}, Rising a n l → a ≤ n → l.length ≤ n - a
  | _, [], _, _ => by simp
  | a, r :: l, ⟨h1, h2, h3, h4⟩, _ => by
    have := rising_len h4 h3
    rw [List.length_cons]
    omega
theorem filter_take_succ {l : List (Nat × Nat)} {k : Nat} (h : k < l.length) (f : Nat × Nat → Bool) : (l.take (k + 1)).filter f = (l.take k).filter f ++ (if f l[k] then [l[k]] else []) := by
  rw [List.take_succ_eq_append_getElem h, List.filter_append, List.filter_cons, List.filter_nil]
set_option maxHeartbeats 1000000 in
theorem found_ok (ps : List Bs) (hps : AllP ps) (name : Bs) (hid : identL name = true) (w : World) (hl : ps.flatten.length ≤ 1000000) (hn : name.length ≤ 1000000) (hT : Tabs w) :
    Calls Tryd.prog 29 #[.string (ofL ps.flatten), .string (ofL name)] w fun e w' => ∃ v, e = .returned (.tuple #[v, .int .i64 0]) ∧
      w'.ownsRow w.heap.size 56 4 v (findOf ps name).length (cells4 ((findOf ps name).map (row4 ps))) ∧ Below w.heap.size w w' := by
  obtain ⟨i0, hi, hz0, hz1, hz2⟩ := info_parts infoRow
  have cV := fun w hT => valid_any ps.flatten w (by omega) hT
  rw [valid_flatten ps hps] at cV
  have CV := Lib.hid cV
  have cI := fun w => ident_any name w hn
  rw [hid] at cI
  have CI := Lib.hid cI
  have CR := Lib.hid (fun w => rows_any ps hps w hl)
  clear cV cI hid
  have hrl := rising_len (runs_rising ps) (Nat.zero_le _)
  have hpl := length_le_flatten ps hps
  have hrr := rows_length ps
  have hb1 : (rowsOf ps).length ≤ 1000000 := by omega
  have HRR := Lib.hid hrr
  clear hrr hrl hpl
  go_enter Tryd.func29, Tryd.ntmps29
  go_wp2_with fail
  refine (CV.out _ hT).mono ?_
  rintro e w1 ⟨rfl, hb1⟩
  go_wp2_with fail
  refine (CI.out _).mono ?_
  rintro e w2 ⟨rfl, hb2⟩
  go_wp2_with fail
  refine (CR.out _).mono ?_
  rintro e w3 ⟨v, rfl, ho3, hb3⟩
  have hbw2 := hb1.trans (hb2.mono hb1.size)
  have hsz : w.heap.size ≤ w2.heap.size := hbw2.size
  have hmade := World.ownsRow_made (base := w.heap.size) (e := 56) (size := 4) w2 #[] 0 hsz (Nat.zero_le _) rfl
  have hm3 := own_below hmade hb3
  have hv3 := own_mono ho3 (show w.heap.size ≤ (w2.alloc (.cells #[] 56)).heap.size by rw [alloc_size]; omega)
  have hsep : Sep v (.slice (some ⟨w2.heap.size, 0, none⟩) 0 0) := by
    cases hb : v.ownBlock with
    | none => exact .inl hb
    | some g =>
      have h1 := (ho3.lt g hb).1
      rw [alloc_size] at h1
      refine .inr ?_
      rw [hb]
      simp only [Value.ownBlock]
      intro e1
      injection e1 with e1
      omega
  have hbw3 : Below w.heap.size w w3 := (hbw2.alloc hsz _).trans (hb3.mono (by rw [alloc_size]; omega))
  obtain ⟨A, c, rfl, hc1, hc2⟩ := (Rd.of_own ho3).form
  unfold maxLen at hc2
  clear ho3 hb3 hmade hbw2 hb1 hb2
  have HM := Lib.hid hm3
  have HV := Lib.hid hv3
  have HSEP := Lib.hid hsep
  clear hm3 hv3 hsep CV CI CR
  go_wp2
  go_loopw [6, 21] (fun vo vi wr => FoundRel ps name w (.slice A (rowsOf ps).length c) vo vi wr) (fun _ vi _ => (rowsOf ps).length - (intOf vi).toNat)
  case atStart =>
    refine ⟨0, Nat.zero_le _, rfl, HV.out, ?_, HSEP.out, hbw3⟩
    simpa [cells4] using HM.out
  case round =>
    obtain ⟨k, hk, rfl, hv, ho, hsp, hbw⟩ := hrel
    by_cases hlt : k < (rowsOf ps).length
    · have hltr : k < (runsOf ps).length := by rw [← HRR.out]; exact hlt
      have hg := cells4_get (rowsOf ps) k hlt
      have hrk : (rowsOf ps)[k] = row4 ps (runsOf ps)[k] := by
        have e := rows_runs ps
        simp only [e, List.getElem_map]
      rw [hrk] at hg
      obtain ⟨g, cap, hvv, _, hgl, _, _⟩ := own_form hv (by omega)
      obtain ⟨rfl, rfl⟩ : A = some ⟨g, 0, none⟩ ∧ c = cap := by injection hvv with e1 e2 e3; exact ⟨e1, e3⟩
      have d0 := (hv.cellAt (k * 4) (by omega)).trans hg.1
      have d1 := (hv.cellAt (k * 4 + 1) (by omega)).trans hg.2.1
      have d2 := (hv.cellAt (k * 4 + 2) (by omega)).trans hg.2.2.1
      have d3 := (hv.cellAt (k * 4 + 3) (by omega)).trans hg.2.2.2
      obtain ⟨r1, r2, r3⟩ := (runs_rising ps).mem _ (List.getElem_mem hltr)
      have hfs := filter_take_succ hltr (fun r => word ps r == name)
      have hcut := cut_flat ps (runsOf ps)[k].1 (runsOf ps)[k].2 (by omega) r3
      obtain ⟨r, hr⟩ : ∃ r, (runsOf ps)[k] = r := ⟨_, rfl⟩
      rw [hr] at d0 d1 d2 d3 r1 r2 r3 hfs hcut
      simp only [row4] at d0 d1 d2 d3
      obtain ⟨hx, hle1, hle2⟩ := hcut
      have hx' : (ofL ps.flatten).extract (off ps r.1) (off ps r.2) = ofL (word ps r) := hx
      have hle1' : off ps r.1 ≤ off ps r.2 := hle1
      have hle2' : off ps r.2 ≤ ps.flatten.length := hle2
      have hsz2 := ofL_size ps.flatten
      obtain ⟨s, hs⟩ : ∃ s, ofL ps.flatten = s := ⟨_, rfl⟩
      rw [hs] at hx' hsz2 ⊢
      obtain ⟨x, hxx⟩ : ∃ x, off ps r.1 = x := ⟨_, rfl⟩
      obtain ⟨y, hyy⟩ : ∃ y, off ps r.2 = y := ⟨_, rfl⟩
      rw [hxx] at hx' hle1' d0
      rw [hyy] at hx' hle1' hle2' d2
      have hys : y ≤ s.size := by omega
      have HFS := Lib.hid hfs
      have HR4 := Lib.hid (show row4 ps r = (x, r.1, y, r.2) by unfold row4; rw [hxx, hyy])
      have hfk : (((runsOf ps).take k).filter (fun r => word ps r == name)).length ≤ k := Nat.le_trans (List.length_filter_le _ _) (List.length_take_le _ _)
      have hol := ho.lt
      have hsp' := Lib.hid hsp
      have hv' := Lib.hid hv
      have HO := Lib.hid ho
      obtain ⟨F, hF⟩ : ∃ F, ((runsOf ps).take k).filter (fun r => word ps r == name) = F := ⟨_, rfl⟩
      rw [hF] at HFS HO hfk
      have HOL := Lib.hid hol
      have hbs := hbw.size
      clear hs hxx hyy hx hfs hle1 hle2 hr hF hg hrk hvv hltr ho hv hsp hol HM HV HSEP
      by_cases hwn : word ps r = name
      · have hwb : (word ps r == name) = true := beq_iff_eq.2 hwn
        have HWB := Lib.hid hwb
        rw [hwn] at hx'
        clear hwn hwb
        go_wp2_with (at_builtin; refine wpList_append_own_at _ rfl _ _ 52 rfl w.heap.size 56 i0 (.agg #[.int .i64 0, .int .i64 0, .int .i64 0, .int .i64 0]) 4 32 Tryd.underlying52 hi hz0 hz1 hz2 rfl (by decide) _ _ _ rfl ((HO.out.alloc _).alloc _) ⟨wr.heap.size + 1, 0, none⟩ 1 1 (cell4 (x, r.1, y, r.2)) rfl rfl ?c1 ?c2 ?c3 ?c4 ?c5 ?_)
        case c1 =>
          have := cells_new (wr.alloc (.cells #[.int .i64 (x : Nat), .int .i64 (r.1 : Nat), .int .i64 (y : Nat), .int .i64 (r.2 : Nat)] 56)) (cell4 (x, r.1, y, r.2)) 56
          rw [alloc_size] at this
          exact this
        case c2 => exact fun u hu => cells4_one' [(x, r.1, y, r.2)] u (by rw [cells4_one]; exact hu)
        case c3 => simp only [maxLen]; omega
        case c4 => omega
        case c5 => simp; omega
        intro v' w4 hown' hgrow _ hat
        have hv5 := Lib.hid (((hv'.out.alloc _).alloc _).kept hgrow hsp'.out)
        have hs5 := Lib.hid (Sep.app2 hsp'.out hv'.out hat (by omega))
        have hbw5 : Below w.heap.size w w4 := ((hbw.alloc hbs _).alloc (by simp; omega) _).grown hgrow (by simp; omega) (fun k hk => (HOL.out k hk).1)
        have hown5 := Lib.hid hown'
        clear hgrow hat hown'
        go_wp2
        go_roundw
        case rel =>
          refine ⟨k + 1, by omega, by go_num, hv5.out, ?_, hs5.out, hbw5⟩
          rw [HFS.out, HWB.out, if_pos rfl, List.length_append, List.map_append, cells4_append, List.map_cons, List.map_nil, cells4_one, HR4.out]
          exact hown5.out
        case measure => simp [intOf]; omega
      · have hwb : (word ps r == name) = false := beq_eq_false_iff_ne.2 hwn
        have HWB := Lib.hid hwb
        have hne := ofL_neq hwn
        clear hwn hwb
        go_wp2
        go_roundw
        case rel =>
          refine ⟨k + 1, by omega, by go_num, hv'.out.alloc _, ?_, hsp'.out, hbw.alloc hbs _⟩
          rw [HFS.out, HWB.out, if_neg (by simp), List.append_nil]
          exact HO.out.alloc _
        case measure => simp [intOf]; omega
    · have e1 : (runsOf ps).take k = runsOf ps := List.take_of_length_le (by rw [← HRR.out]; omega)
      rw [e1] at ho
      have HO := Lib.hid ho
      clear ho e1 hv hsp HM HV HSEP
      go_wp2
      go_ret2
      exact ⟨_, rfl, HO.out, hbw⟩
set_option maxHeartbeats 400000 in
theorem found_bad (l name : Bs) (hv : Lib.validD l = false) (w : World) (hl : l.length ≤ 1000000) (hT : Tabs w) :
    Calls Tryd.prog 29 #[.string (ofL l), .string (ofL name)] w fun e w' => e = .returned (.tuple #[.slice none 0 0, .int .i64 60]) ∧ Below w.heap.size w w' := by
  have cV := valid_any l w (by omega) hT
  rw [hv] at cV
  have CV := Lib.hid cV
  clear cV hv
  go_enter Tryd.func29, Tryd.ntmps29
  go_wp2_with fail
  refine (CV.out).mono ?_
  rintro e w1 ⟨rfl, hb1⟩
  go_wp2
  go_ret2
  exact ⟨rfl, hb1⟩
set_option maxHeartbeats 400000 in
theorem found_no (ps : List Bs) (hps : AllP ps) (name : Bs) (hid : identL name = false) (w : World) (hl : ps.flatten.length ≤ 1000000) (hn : name.length ≤ 1000000) (hT : Tabs w) :
    Calls Tryd.prog 29 #[.string (ofL ps.flatten), .string (ofL name)] w fun e w' => e = .returned (.tuple #[.slice none 0 0, .int .i64 61]) ∧ Below w.heap.size w w' := by
  have cV := fun w hT => valid_any ps.flatten w (by omega) hT
  rw [valid_flatten ps hps] at cV
  have CV := Lib.hid cV
  have cI := fun w => ident_any name w hn
  rw [hid] at cI
  have CI := Lib.hid cI
  clear cV cI hid
  go_enter Tryd.func29, Tryd.ntmps29
  go_wp2_with fail
  refine (CV.out _ hT).mono ?_
  rintro e w1 ⟨rfl, hb1⟩
  go_wp2_with fail
  refine (CI.out _).mono ?_
  rintro e w2 ⟨rfl, hb2⟩
  go_wp2
  go_ret2
  exact ⟨rfl, hb1.trans (hb2.mono hb1.size)⟩
end Go.Proofs.YtdkkfjcbdokdjaaDoor
