/- The walk of replacing. -/
import Derived.Test.YtdkkfjcbdokdjaaDoorM5
import Derived.Test.YtdkkfjcbdokdjaaDoorW14
import Derived.Test.YtdkkfjcbdokdjaaDoorW15
import Derived.Test.YtdkkfjcbdokdjaaDoorW8
namespace Go.Proofs.YtdkkfjcbdokdjaaDoor
open Go.RowKit
theorem own_others {w w' : World} {base b : Nat} {e : TypeId} {sz n : Nat} {v : Value} {xs : List Value} (h : w.ownsRow base e sz v n xs) (hb : Lib.OthersKept 5 (some b) w w') (he : e ≠ 5) (hnb : v.ownBlock ≠ some b) : w'.ownsRow base e sz v n xs := by
  refine ⟨h.1, ?_⟩
  rcases h.2 with h2 | ⟨g, cap, cur, hv, hg, hh, r⟩
  · exact .inl h2
  · refine .inr ⟨g, cap, cur, hv, hg, ?_, r⟩
    refine hb g _ hh ?_ ?_
    · intro e1
      injection e1 with e1
      apply hnb
      rw [hv, ← e1]
      rfl
    · intro c fz e1
      injection e1 with _ e2
      exact he e2
theorem cell_others {w w' : World} {b g : Nat} {cs : Array Value} {e : TypeId} {fz : Nat × Nat} (hb : Lib.OthersKept 5 (some b) w w') (hh : w.heap[g]? = some (.cells cs e fz)) (he : e ≠ 5) (hgb : g ≠ b) : w'.heap[g]? = some (.cells cs e fz) :=
  hb g _ hh (fun e1 => hgb (by injection e1)) (fun c fz' e1 => by injection e1 with _ e2; exact he e2)
theorem write_bytes (B b : Nat) (pre t : Bs) (w : World) (h : Lib.IsBuilderF 62 5 B b (Lib.byteCells pre) w) (hlen : pre.length + t.length ≤ 140737488355328) (hBw : B ≤ w.heap.size) :
    Calls Tryd.prog 35 #[.pointer (some ⟨b, 0, none⟩), .string (ofL t)] w fun e w' => e = .returned (.tuple #[.int .i64 t.length, .nilIface]) ∧ Lib.IsBuilderF 62 5 B b (Lib.byteCells (pre ++ t)) w' ∧ Below B w w' ∧ Lib.OthersKept 5 (some b) w w' := by
  refine (writeString_any B b (Lib.byteCells pre) (ofL t) w h (by rw [Lib.byteCells_length, ofL_size]; exact hlen) hBw).mono ?_
  rintro e w' ⟨he, h1, h2, h3⟩
  rw [ofL_size] at he
  rw [Lib.strCells_eq, ofL_toList, ← Lib.byteCells_append] at h1
  exact ⟨he, .inr h1, h2, h3⟩
def ReplRel (ps : List Bs) (by_ : Bs) (L : List (Nat × Nat)) (rs : List R4) (w : World) (b : Nat) (vr : Value) (va vi : Value) (wr : World) : Prop :=
  ∃ k : Nat, k ≤ L.length ∧ vi = .int .i64 (k : Nat) ∧ va = .int .i64 (off ps (lastTo (L.take k) 0) : Nat) ∧ wr.ownsRow w.heap.size 56 4 vr L.length (cells4 rs) ∧
    Lib.IsBuilderF 62 5 w.heap.size b (Lib.byteCells (replPre ps by_ (L.take k) 0)) wr ∧ vr.ownBlock ≠ some b ∧ Below w.heap.size w wr
theorem ret_str3 {a : ByteArray} {b : List UInt8} {y z : Value} (h : a = ofL b) : Ending.returned (.tuple #[.string a, y, z]) = Ending.returned (.tuple #[str b, y, z]) := by rw [h]; rfl
set_option maxHeartbeats 1000000 in
theorem replace_ok (ps : List Bs) (hps : AllP ps) (name by_ : Bs) (hid : identL name = true) (hby : identL by_ = true) (w : World) (hl : ps.flatten.length ≤ 10000) (hn : name.length ≤ 10000) (hb : by_.length ≤ 10000) (hT : Tabs w) :
    Calls Tryd.prog 19 #[.string (ofL ps.flatten), .string (ofL name), .string (ofL by_)] w fun e w' => e = .returned (.tuple #[str (replTo ps by_ (findOf ps name) 0), .int .i64 (findOf ps name).length, .int .i64 0]) ∧ Below w.heap.size w w' := by
  have CF := Lib.hid (found_ok ps hps name hid w (by omega) (by omega) hT)
  have cI := fun w => ident_any by_ w (by omega)
  rw [hby] at cI
  have CI := Lib.hid cI
  clear cI
  have hri := (runs_rising ps).filter (fun r => word ps r == name)
  have hrl := rising_len hri (Nat.zero_le _)
  have hpl := length_le_flatten ps hps
  have hb1 : (findOf ps name).length ≤ 10000 := by unfold findOf; omega
  have hri : Rising 0 ps.length (findOf ps name) := hri
  obtain ⟨L, hL⟩ : ∃ L, findOf ps name = L := ⟨_, rfl⟩
  rw [hL] at CF hb1 hri ⊢
  obtain ⟨rs, hrs⟩ : ∃ rs, L.map (row4 ps) = rs := ⟨_, rfl⟩
  rw [hrs] at CF
  have HRS := Lib.hid hrs
  have HRI := Lib.hid hri
  have hrt := replTo_eq ps by_ L 0
  obtain ⟨R, hR⟩ : ∃ R, replTo ps by_ L 0 = R := ⟨_, rfl⟩
  rw [hR] at hrt ⊢
  have HRT := Lib.hid hrt
  clear hrl hpl hid hL hrs hri hby hrt hR
  go_enter Tryd.func19, Tryd.ntmps19
  go_wp2_with fail
  refine (CF.out).mono ?_
  rintro e w1 ⟨v, rfl, ho, hb1⟩
  obtain ⟨A, c, rfl, hc1, hc2⟩ := (Rd.of_own ho).form
  unfold maxLen at hc2
  have HO := Lib.hid ho
  clear ho CF
  go_wp2_with fail
  refine (CI.out _).mono ?_
  rintro e w2 ⟨rfl, hb2⟩
  have hbw2 := hb1.trans (hb2.mono hb1.size)
  have hsz : w.heap.size ≤ w2.heap.size := hbw2.size
  have HO2 := Lib.hid (own_below HO.out hb2)
  have hnb : (Value.slice A L.length c).ownBlock ≠ some w2.heap.size := fun e1 => own_ne_ge HO2.out (Nat.le_refl _) e1.symm
  have HNB := Lib.hid hnb
  clear HO hb1 hb2 CI hnb
  go_wp2
  go_loopw [11, 32] (fun va vi wr => ReplRel ps by_ L rs w w2.heap.size (.slice A L.length c) va vi wr) (fun _ vi _ => L.length - (intOf vi).toNat)
  case atStart =>
    refine ⟨0, Nat.zero_le _, rfl, rfl, HO2.out.alloc _, ?_, HNB.out, hbw2.alloc hsz _⟩
    exact Lib.IsBuilderF.of (.inl ⟨hsz, .slice none 0 0, heap_alloc_new w2 _, World.ownsRow_nil _ _ _ _, by simp [Value.ownBlock]⟩)
  case round =>
    obtain ⟨k, hk, rfl, rfl, hr, hbu, hnb, hbw⟩ := hrel
    obtain ⟨b, hbb⟩ : ∃ b, w2.heap.size = b := ⟨_, rfl⟩
    rw [hbb] at hbu hnb ⊢
    have hbs := hbw.size
    have hb0 : w.heap.size ≤ b := by omega
    have hpre := replPre_len ps by_ (L.take k) 0
    have hpre2 : (replPre ps by_ (L.take k) 0).length ≤ 1000000000 := by
      have h1 : (L.take k).length ≤ 10000 := by rw [List.length_take]; omega
      have h2 := Nat.mul_le_mul h1 (show ps.flatten.length + by_.length ≤ 20000 by omega)
      omega
    have hsz2 := ofL_size ps.flatten
    by_cases hlt : k < L.length
    · have hkr : k < rs.length := by rw [← HRS.out, List.length_map]; exact hlt
      have hg := cells4_get rs k hkr
      have hrk : rs[k] = row4 ps L[k] := by
        have e := HRS.out
        simp only [← e, List.getElem_map]
      rw [hrk] at hg
      obtain ⟨g, cap, hvv, _, hgl, _, _⟩ := own_form hr (by omega)
      obtain ⟨rfl, rfl⟩ : A = some ⟨g, 0, none⟩ ∧ c = cap := by injection hvv with e1 e2 e3; exact ⟨e1, e3⟩
      have d0 := (hr.cellAt (k * 4) (by omega)).trans hg.1
      have d1 := (hr.cellAt (k * 4 + 1) (by omega)).trans hg.2.1
      have d2 := (hr.cellAt (k * 4 + 2) (by omega)).trans hg.2.2.1
      have d3 := (hr.cellAt (k * 4 + 3) (by omega)).trans hg.2.2.2
      have htk := List.take_succ_eq_append_getElem hlt
      have hsp : L = L.take k ++ L[k] :: L.drop (k + 1) := by rw [← List.drop_eq_getElem_cons hlt, List.take_append_drop]
      have hlr : lastTo (L.take k) 0 ≤ L[k].1 := lastTo_rising (m := L.drop (k + 1)) (by rw [← hsp]; exact HRI.out)
      obtain ⟨q1, q2, q3⟩ := HRI.out.mem _ (List.getElem_mem hlt)
      have hps1 := replPre_snoc ps by_ (L.take k) L[k] 0
      have hls1 := lastTo_snoc (L.take k) L[k] 0
      rw [← htk] at hps1 hls1
      obtain ⟨r, hrr⟩ : ∃ r, L[k] = r := ⟨_, rfl⟩
      rw [hrr] at d0 d1 d2 d3 htk hlr q1 q2 q3 hps1 hls1
      simp only [row4] at d0 d1 d2 d3
      obtain ⟨hx, hle1, hle2⟩ := cut_flat ps (lastTo (L.take k) 0) r.1 hlr (by omega)
      have hx' : (ofL ps.flatten).extract (off ps (lastTo (L.take k) 0)) (off ps r.1) = ofL ((ps.drop (lastTo (L.take k) 0)).take (r.1 - lastTo (L.take k) 0)).flatten := hx
      have hle1' : off ps (lastTo (L.take k) 0) ≤ off ps r.1 := hle1
      have hle2' : off ps r.1 ≤ ps.flatten.length := hle2
      have hpl2 := part_len ps (lastTo (L.take k) 0) (r.1 - lastTo (L.take k) 0)
      obtain ⟨pt, hpt⟩ : ∃ pt, ((ps.drop (lastTo (L.take k) 0)).take (r.1 - lastTo (L.take k) 0)).flatten = pt := ⟨_, rfl⟩
      rw [hpt] at hx' hps1 hpl2
      have hap := ofL_append pt by_
      have hps2 := ofL_size pt
      have hby2 := ofL_size by_
      have hsum : (ofL pt).size + (ofL by_).size ≤ 20000 := by omega
      obtain ⟨pre, hpp⟩ : ∃ pre, replPre ps by_ (L.take k) 0 = pre := ⟨_, rfl⟩
      rw [hpp] at hbu hpre2 hps1
      obtain ⟨O, hO⟩ : ∃ O, Obj.cells #[.int .i64 (off ps r.1 : Nat), .int .i64 (r.1 : Nat), .int .i64 (off ps r.2 : Nat), .int .i64 (r.2 : Nat)] 56 = O := ⟨_, rfl⟩
      have hbu2 := hbu.alloc O
      have CW := Lib.hid (write_bytes w.heap.size b pre (pt ++ by_) (wr.alloc O) hbu2 (by rw [List.length_append]; omega) (by rw [alloc_size]; omega))
      have hbl : b < wr.heap.size := by rcases hbu with h | h <;> exact h.lt
      have HR := Lib.hid (hr.alloc O)
      have HRC := Lib.hid (show (wr.alloc O).heap[wr.heap.size]? = some (.cells #[.int .i64 (off ps r.1 : Nat), .int .i64 (r.1 : Nat), .int .i64 (off ps r.2 : Nat), .int .i64 (r.2 : Nat)] 56 (0, 0)) by rw [← hO]; exact heap_alloc_new wr _)
      have HNB2 := Lib.hid hnb
      have HPS1 := Lib.hid hps1
      have HLS1 := Lib.hid hls1
      have HBW := Lib.hid (hbw.alloc hbs O)
      obtain ⟨x, hxx⟩ : ∃ x, off ps r.1 = x := ⟨_, rfl⟩
      obtain ⟨y, hyy⟩ : ∃ y, off ps r.2 = y := ⟨_, rfl⟩
      obtain ⟨a0, haa⟩ : ∃ a0, off ps (lastTo (L.take k) 0) = a0 := ⟨_, rfl⟩
      obtain ⟨s, hs⟩ : ∃ s, ofL ps.flatten = s := ⟨_, rfl⟩
      rw [hxx] at d0 hx' hle1' hle2' hO HRC
      rw [hyy] at d2 hO HRC
      rw [haa] at hx' hle1' ⊢
      rw [hs] at hx' hsz2 ⊢
      have hxs : x ≤ s.size := by omega
      have HYY := Lib.hid hyy
      have HOO := Lib.hid hO
      clear hg hrk hvv hrr htk hsp hlr hps1 hls1 hx hle1 hle2 hpt hpp hbu hbu2 hO hxx hyy haa hs hbb hr hnb hbw hpre hps2 hby2 hsz2 hle2' HO2 HNB
      go_wp2_with fail
      rw [HOO.out]
      refine (CW.out).mono ?_
      rintro e w4 ⟨rfl, hbu4, hb4, hk4⟩
      have c2 : w4.cell? ⟨wr.heap.size, 2, none⟩ = some (.int .i64 (y : Nat)) := by
        rw [cell_of_row _ _ 2 _ 56 (0, 0) (cell_others hk4 HRC.out (by decide) (by omega))]; rfl
      have HR4 := Lib.hid (own_others HR.out hk4 (by decide) HNB2.out)
      have hbw4 := HBW.out.trans hb4
      have HBU := Lib.hid hbu4
      clear hk4 hb4 hbu4
      go_wp2
      go_roundw
      case rel =>
        refine ⟨k + 1, by omega, by go_num, by rw [HLS1.out, HYY.out], HR4.out, ?_, HNB2.out, hbw4⟩
        rw [HPS1.out]; exact HBU.out
      case measure => simp [intOf]; omega
    · have e1 : L.take k = L := List.take_of_length_le (by omega)
      rw [e1] at hbu hpre2 ⊢
      have hx := (put_flat ps (lastTo L 0)).2
      have hx' : (ofL ps.flatten).extract (off ps (lastTo L 0)) (ofL ps.flatten).size = ofL (ps.drop (lastTo L 0)).flatten := hx
      have hle := off_max ps (lastTo L 0)
      have hap := ofL_append (replPre ps by_ L 0) (ps.drop (lastTo L 0)).flatten
      rw [← HRT.out] at hap
      have hdl := drop_len ps (lastTo L 0)
      obtain ⟨dr, hdr⟩ : ∃ dr, (ps.drop (lastTo L 0)).flatten = dr := ⟨_, rfl⟩
      obtain ⟨pre, hpp⟩ : ∃ pre, replPre ps by_ L 0 = pre := ⟨_, rfl⟩
      obtain ⟨a0, haa⟩ : ∃ a0, off ps (lastTo L 0) = a0 := ⟨_, rfl⟩
      rw [hdr] at hx' hap hdl
      rw [hpp] at hap hbu hpre2
      rw [haa] at hx' hle ⊢
      have cs : ∀ w' : World, Lib.IsBuilderF 62 5 w.heap.size b (Lib.byteCells pre) w' → w.heap.size ≤ w'.heap.size →
          Calls Tryd.prog 36 #[.pointer (some ⟨b, 0, none⟩)] w' fun e w'' => e = .returned (.string (ofL pre)) ∧ Below w.heap.size w' w'' := fun w' h hB =>
        (Tryd.Builder_String_any_k w.heap.size b pre w' h hB).mono fun e w'' ⟨h1, h2, h3, h4⟩ => ⟨h1, h3⟩
      have HBU := Lib.hid hbu
      have hs1 := ofL_size pre
      have hs2 := ofL_size dr
      obtain ⟨s, hs⟩ : ∃ s, ofL ps.flatten = s := ⟨_, rfl⟩
      obtain ⟨sp, hsp⟩ : ∃ sp, ofL pre = sp := ⟨_, rfl⟩
      obtain ⟨sd, hsd⟩ : ∃ sd, ofL dr = sd := ⟨_, rfl⟩
      rw [hs] at hx' hsz2 ⊢
      rw [hsp] at hs1 hap cs
      have CS := Lib.hid cs
      clear cs
      rw [hsd] at hs2 hap hx'
      have ha1 : a0 ≤ s.size := by omega
      have ha0 : (0 : Int) ≤ (a0 : Nat) := by omega
      have ha2 : ((a0 : Nat) : Int) ≤ (s.size : Nat) := by omega
      have hm1 : sp.size ≤ 1000000000 := by omega
      have hm2 : sd.size ≤ 1000000000 := by omega
      have hm3 : sp.size + sd.size ≤ 2000000000 := by omega
      have hm4 : ¬ (9223372036854775807 < sp.size + sd.size) := by omega
      have HAP := Lib.hid hap
      have HSP := Lib.hid hsp
      clear e1 hx hap hdr hpp haa hs hsp hsd hs1 hs2 hbu hr hnb hpre hpre2 hbb HO2 HNB hsz2 hle hdl
      go_wp2
      go_region_held3 (fun w' => True) (trivial) ((go_at_call 36; refine (CS.out _ (by exact HBU.out) (by exact hbw.size)).mono ?_; rintro e w5 ⟨rfl, hb5⟩))
      go_wp2
      go_ret3
      exact ⟨ret_str3 HAP.out, hbw.drew.trans hb5⟩
set_option maxHeartbeats 400000 in
theorem replace_err (l name by_ : Bs) (x : Int) (hx : x = 60 ∨ x = 61) (w : World)
    (h : Calls Tryd.prog 29 #[.string (ofL l), .string (ofL name)] w fun e w' => e = .returned (.tuple #[.slice none 0 0, .int .i64 x]) ∧ Below w.heap.size w w') :
    Calls Tryd.prog 19 #[.string (ofL l), .string (ofL name), .string (ofL by_)] w fun e w' => e = .returned (.tuple #[.string ⟨#[]⟩, .int .i64 0, .int .i64 x]) ∧ Below w.heap.size w w' := by
  have H := Lib.hid h
  clear h
  rcases hx with rfl | rfl
  all_goals
    go_enter Tryd.func19, Tryd.ntmps19
    go_wp2_with fail
    refine (H.out).mono ?_
    rintro e w1 ⟨rfl, hb1⟩
    go_wp2
    go_ret3
    exact ⟨rfl, hb1⟩
theorem replace_bad (l name by_ : Bs) (hv : Lib.validD l = false) (w : World) (hl : l.length ≤ 1000000) (hT : Tabs w) :
    Calls Tryd.prog 19 #[.string (ofL l), .string (ofL name), .string (ofL by_)] w fun e w' => e = .returned (.tuple #[.string ⟨#[]⟩, .int .i64 0, .int .i64 60]) ∧ Below w.heap.size w w' :=
  replace_err l name by_ 60 (.inl rfl) w (found_bad l name hv w hl hT)
theorem replace_no (ps : List Bs) (hps : AllP ps) (name by_ : Bs) (hid : identL name = false) (w : World) (hl : ps.flatten.length ≤ 1000000) (hn : name.length ≤ 1000000) (hT : Tabs w) :
    Calls Tryd.prog 19 #[.string (ofL ps.flatten), .string (ofL name), .string (ofL by_)] w fun e w' => e = .returned (.tuple #[.string ⟨#[]⟩, .int .i64 0, .int .i64 61]) ∧ Below w.heap.size w w' :=
  replace_err ps.flatten name by_ 61 (.inr rfl) w (found_no ps hps name hid w hl hn hT)
set_option maxHeartbeats 400000 in
theorem replace_noby (ps : List Bs) (hps : AllP ps) (name by_ : Bs) (hid : identL name = true) (hby : identL by_ = false) (w : World) (hl : ps.flatten.length ≤ 1000000) (hn : name.length ≤ 1000000) (hb : by_.length ≤ 1000000) (hT : Tabs w) :
    Calls Tryd.prog 19 #[.string (ofL ps.flatten), .string (ofL name), .string (ofL by_)] w fun e w' => e = .returned (.tuple #[.string ⟨#[]⟩, .int .i64 0, .int .i64 61]) ∧ Below w.heap.size w w' := by
  have CF := Lib.hid (found_ok ps hps name hid w hl hn hT)
  have cI := fun w => ident_any by_ w (by omega)
  rw [hby] at cI
  have CI := Lib.hid cI
  clear cI hby hid
  go_enter Tryd.func19, Tryd.ntmps19
  go_wp2_with fail
  refine (CF.out).mono ?_
  rintro e w1 ⟨v, rfl, ho, hb1⟩
  obtain ⟨A, c, rfl, hc1, hc2⟩ := (Rd.of_own ho).form
  clear ho CF
  go_wp2_with fail
  refine (CI.out _).mono ?_
  rintro e w2 ⟨rfl, hb2⟩
  go_wp2
  go_ret3
  exact ⟨rfl, hb1.trans (hb2.mono hb1.size)⟩
end Go.Proofs.YtdkkfjcbdokdjaaDoor
