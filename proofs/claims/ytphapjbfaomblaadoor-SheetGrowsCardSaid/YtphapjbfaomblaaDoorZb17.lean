/- Texts of this seat, one behind the other: GF, W15, GG. -/
import Derived.Test.YtphapjbfaomblaaDoorZb15
import Derived.Test.YtphapjbfaomblaaDoorZb16
import Derived.Deep.RegionHeld3
import Derived.Test.YtphapjbfaomblaaDoorZb4
import Derived.Shelf.Strings.BuilderK
/- The program's ordered: all that is gathered, in the order of the paths. -/
namespace Go.Proofs.YtphapjbfaomblaaDoor
open Go Go.RowKit Go.Maps
def Apart (v1 v2 : Value) : Prop := ∀ g, v1.ownBlock = some g → v2.ownBlock ≠ some g
theorem Apart.symm {v1 v2 : Value} (h : Apart v1 v2) : Apart v2 v1 := fun g h1 h2 => h g h2 h1
theorem Apart.kept {v1 v2 : Value} (h : Apart v1 v2) : v2.ownBlock = none ∨ v2.ownBlock ≠ v1.ownBlock := by
  cases e : v2.ownBlock with
  | none => exact .inl rfl
  | some g => exact .inr (fun e' => h g e'.symm e)
theorem Apart.new {v1 v1' v2 : Value} (h : Apart v1 v2) {W : World} {base : Nat} {e : TypeId} {K n m : Nat} {xs : List Value} (ho : W.ownsRow base e K v2 n xs) (hat : v1'.ownBlock = v1.ownBlock ∨ v1'.ownBlock = some m) (hm : W.heap.size ≤ m) : Apart v1' v2 := by
  intro g hg h2
  rcases hat with e1 | e1
  · exact h g (e1.symm.trans hg) h2
  · have := (ho.lt g h2).2
    rw [e1] at hg
    cases hg
    omega
theorem apart_base {W W' : World} {b b' : Nat} {e e' : TypeId} {K K' n n' : Nat} {v v' : Value} {xs xs' : List Value} (h : W.ownsRow b e K v n xs) (h' : W'.ownsRow b' e' K' v' n' xs') (hb : W.heap.size ≤ b') : Apart v v' := by
  intro g h1 h2
  have := (h.lt g h1).2
  have := (h'.lt g h2).1
  omega
theorem own_base {w : World} {b b' : Nat} {e : TypeId} {K n : Nat} {v : Value} {xs : List Value} (h : w.ownsRow b e K v n xs) (hb : b' ≤ b) : w.ownsRow b' e K v n xs :=
  ⟨h.1, h.2.imp id fun ⟨g, cap, cur, e1, hg, r⟩ => ⟨g, cap, cur, e1, Nat.le_trans hb hg, r⟩⟩
theorem own_drew' {w : World} {base : Nat} {e : TypeId} {K n : Nat} {v : Value} {xs : List Value} (h : w.ownsRow base e K v n xs) : w.drew.ownsRow base e K v n xs := h
abbrev Nd := List Id × El
def ndC (n : Nd) : List Value := elC n.2
def OrdRel (E : El → Prop) (w1 : World) (out wait : Value) (wr : World) : Prop :=
  ∃ O Wt : List Nd, Weaving Id.Lt El.id El.af zeroI E O Wt ∧ wr.ownsRow w1.heap.size 84 4 out O.length (O.flatMap ndC) ∧ wr.ownsRow w1.heap.size 84 4 wait Wt.length (Wt.reverse.flatMap ndC) ∧ Apart out wait ∧ Below w1.heap.size w1 wr
def lenOf : Value → Nat | .slice _ n _ => n | _ => 0
def OPost (R : List Rn) (w : World) (e : Ending) (w' : World) : Prop :=
  ∃ v O, e = .returned v ∧ OrderOf Id.Lt El.id El.af zeroI (Counts (flat R)) O ∧ w'.ownsRow w.heap.size 84 4 v O.length (O.flatMap ndC) ∧ O.length ≤ (flat R).length ∧ Below w.heap.size w w'
theorem weave_le {F : List El} {O Wt : List Nd} (h : Weaving Id.Lt El.id El.af zeroI (Counts F) O Wt) : O.length + Wt.length ≤ F.length := by
  have := nodes_le idSTO (counts_names F) h.so h.nodes (L := F) (fun e he => counts_mem he)
  rwa [List.length_append] at this
theorem kids_row (S : Id → List El) (p : List Id) (x : Id) : (kids El.id S p x).reverse.flatMap ndC = (S x).flatMap elC := by
  unfold kids
  rw [List.map_reverse, List.reverse_reverse, List.flatMap_map]
  rfl
theorem kids_len (S : Id → List El) (p : List Id) (x : Id) : (kids El.id S p x).length = (S x).length := by simp [kids]
set_option maxRecDepth 100000 in
set_option maxHeartbeats 4000000 in
theorem ordered_any (R : List Rn) (A : Option Addr) (n c B0 : Nat) (w : World) (hR : Rd w B0 7 (.slice A n c) n (R.flatMap rnC)) (hB : B0 ≤ w.heap.size) (hT : Tabs w) (hF : (flat R).length ≤ 100000) (htx : ∀ r ∈ R, r.tx.size ≤ 100000) :
    Calls Tryd.prog 41 #[.slice A n c] w (OPost R w) := by
  obtain ⟨i0, hi, hz0, hz1, hz2⟩ := info_parts info84
  have HG := Lib.hid (gathered_any R A n c B0 w hR hB hT hF htx)
  have HF := Lib.hid hF
  have HN := Lib.hid (counts_names (flat R))
  clear hR hT hF htx
  go_enter Tryd.func41, Tryd.ntmps41
  go_wp2_with fail
  refine HG.out.mono ?_
  rintro e w1 ⟨bm, m, D, hd, S, rfl, hM, hS, hb1⟩
  have HM := Lib.hid (fun W (hW : Below w1.heap.size w1 W) => hM.below hW)
  have HS := Lib.hid hS
  have HB1 := Lib.hid hb1
  have HE := Lib.hid (own_empty (w := w1.alloc (.cells #[] 84)) (base := w1.heap.size) (K := 4) (Nat.le_refl _) (heap_alloc_new w1 _))
  have hba : Below w1.heap.size w1 (w1.alloc (.cells #[] 84)) := (Below.refl _ w1).alloc (Nat.le_refl _) _
  have hlk := (hM.below hba).look zeroI
  have h0 : idV zeroI = .agg #[.int .i64 0, .int .i64 0, .int .i64 0] := rfl
  rw [h0] at hlk
  have hl0 : ∀ x, (S x).length ≤ 100000 := fun x => by
    have h1 : (S x).Nodup := ((hS x).1.imp (fun {a b} h e => by rw [e] at h; exact idSTO.irrefl _ h))
    have := pigeon' h1 (M := flat R) (fun e he => counts_mem (((hS x).2 e).1 he).1)
    have := HF.out
    omega
  have HCL := Lib.hid (clone_el (S zeroI) (hd zeroI) w.heap.size (w1.alloc (.cells #[] 84)) ((hM.below hba).rows zeroI) (by have := hl0 zeroI; omega))
  have HL0 := Lib.hid hl0
  have HBA := Lib.hid hba
  clear hM hS hb1 hba h0 hl0 HG
  go_wp2_with fail
  refine HCL.out.mono ?_
  rintro e w2 ⟨v, rfl, hv, hb2⟩
  obtain ⟨Av, cv, rfl, _, _⟩ := (Rd.of_own hv).form
  have hst : OrdRel (Counts (flat R)) w1 (.slice (some ⟨w1.heap.size, 0, none⟩) 0 0) (.slice Av (S zeroI).length cv) w2 :=
    ⟨[], kids El.id S [] zeroI, weave_start HS.out HN.out, own_grows HE.out hb2, by rw [kids_row, kids_len]; exact own_base hv (by simp), apart_base HE.out hv (Nat.le_refl _), HBA.out.trans (hb2.mono HBA.out.size)⟩
  have HST := Lib.hid hst
  clear hv hb2 hst hlk HE HCL HBA
  go_wp2
  go_loopw [4, 5] (fun out wait wr => OrdRel (Counts (flat R)) w1 out wait wr) (fun out wait _ => (flat R).length - lenOf out)
  case atStart => exact HST.out
  case round =>
    clear HST
    obtain ⟨O, Wt, hW, hO, hWt, hA, hb⟩ := hrel
    obtain ⟨Ao, co, rfl, _, _⟩ := (Rd.of_own hO).form
    obtain ⟨Aw, cw, rfl, _, _⟩ := (Rd.of_own hWt).form
    obtain ⟨wo, rfl⟩ : ∃ wo : World, wo = wr := ⟨_, rfl⟩
    have hle := weave_le hW
    have hfl := HF.out
    cases Wt with
    | nil =>
      have HE := Lib.hid (show OPost R w (.returned (.slice Ao O.length co)) wo from ⟨_, O, rfl, weave_end hW, own_base hO HB1.out.size, by simpa using hle, HB1.out.trans (hb.mono HB1.out.size)⟩)
      clear hO hWt hA hW hb hle hfl
      go_wp2
      go_ret
      exact HE.out
    | cons x rest =>
      obtain ⟨n1, hn1⟩ : ∃ n1, rest.length = n1 := ⟨_, rfl⟩
      have hlc : (x :: rest).length = n1 + 1 := by rw [List.length_cons, hn1]
      rw [hlc] at hA hWt hle ⊢
      have hcn : n1 + 1 ≤ cw := by have := hWt.1; obtain ⟨_, _, h, h2, _⟩ := (Rd.of_own hWt).form; cases h; exact h2
      have hrl : (x :: rest).reverse.length = n1 + 1 := by rw [List.length_reverse, hlc]
      have hrow := hWt
      obtain ⟨gw, ow, hAw, hBw, hcell⟩ := rd_at ndC 4 (fun _ => rfl) (by decide) (show Rd wo wo.heap.size 4 (.slice Aw (x :: rest).reverse.length cw) (x :: rest).reverse.length ((x :: rest).reverse.flatMap ndC) from by rw [hrl]; exact Rd.of_own hWt) (show n1 < (x :: rest).reverse.length by omega)
      subst hAw
      have hget : (x :: rest).reverse[n1]'(by omega) = x := by
        simp only [List.reverse_cons]
        rw [List.getElem_append_right (by simp [hn1])]
        simp [hn1]
      rw [hget] at hcell
      have hstep := weave_step HS.out HN.out hW
      have hrr : (x :: rest).reverse.flatMap ndC = rest.reverse.flatMap ndC ++ ndC x := by rw [List.reverse_cons, List.flatMap_append, List.flatMap_singleton]
      have hcut := own_cut hrow (show n1 ≤ n1 + 1 by omega)
      have htk : (List.flatMap ndC (x :: rest).reverse).take (n1 * 4) = rest.reverse.flatMap ndC := by
        rw [hrr, List.take_append_of_le_length (by rw [List.length_flatMap]; simp [ndC, elC, hn1, List.map_const', List.sum_replicate_nat]), List.take_of_length_le (by rw [List.length_flatMap]; simp [ndC, elC, hn1, List.map_const', List.sum_replicate_nat])]
      rw [htk] at hcut
      have hkl : (kids El.id S x.1 x.2.id ++ rest).length = n1 + (S x.2.id).length := by rw [List.length_append, kids_len, hn1]; omega
      have hkr : (kids El.id S x.1 x.2.id ++ rest).reverse.flatMap ndC = rest.reverse.flatMap ndC ++ (S x.2.id).flatMap elC := by rw [List.reverse_append, List.flatMap_append, kids_row]
      obtain ⟨p, e⟩ := x
      have c0 : wo.cell? ⟨gw, ow + n1 * 4, none⟩ = some (.int .i64 e.id.s.T) := hcell 0 _ rfl
      have c1 : wo.cell? ⟨gw, ow + n1 * 4 + 1, none⟩ = some (.int .i64 e.id.s.R) := hcell 1 _ rfl
      have c2 : wo.cell? ⟨gw, ow + n1 * 4 + 2, none⟩ = some (.int .i64 e.id.I) := hcell 2 _ rfl
      have c3 : wo.cell? ⟨gw, ow + n1 * 4 + 3, none⟩ = some (.string e.pc) := hcell 3 _ rfl
      dsimp only at hkl hkr hstep
      have i0' : (0 : Int) < ((n1 + 1 : Nat) : Int) := by omega
      have i1 : (0 : Int) ≤ (n1 : Int) := by omega
      have i2 : (n1 : Int) < ((n1 + 1 : Nat) : Int) := by omega
      have i3 : (n1 : Int) ≤ (cw : Int) := by omega
      have hls := HL0.out e.id
      have HSTEP := Lib.hid hstep
      have HCUT := Lib.hid hcut
      have HKL := Lib.hid hkl
      have HKR := Lib.hid hkr
      have HO := Lib.hid hO
      have HA := Lib.hid hA
      have HWT := Lib.hid hWt
      have HN1 := Lib.hid hn1
      have HLE := Lib.hid hle
      have hO100 : O.length ≤ 100000 := by omega
      have hn100 : n1 ≤ 100000 := by omega
      clear hrl hrow hcell hget hstep hrr hcut htk hkl hkr hO hWt hA hn1 hlc hle hW hcn
      go_wp2_with (at_builtin; refine wpList_append_own_at _ rfl _ _ 75 rfl w1.heap.size 84 i0 _ 4 40 Tryd.underlying75 hi hz0 hz1 hz2 rfl (by decide) _ O.length (O.flatMap ndC) rfl ((HO.out.alloc (.cells (elC e).toArray 84)).alloc (.cells (elC e).toArray 84)) ⟨wo.heap.size + 1, 0, none⟩ 1 1 (elC e) rfl rfl ?qc (elC_one e) ?q2 ?q3 ?q4 ?_)
      case qc =>
        have := cells_new (wo.alloc (.cells (elC e).toArray 84)) (elC e) 84
        rw [World.size_alloc] at this
        exact this
      case q2 => unfold maxLen; omega
      case q3 => omega
      case q4 => have := hb.size; simp; omega
      intro v1 W4 hown hgrow _ hat
      have hws := hb.size
      have hO4 : W4.ownsRow w1.heap.size 84 4 v1 (O.length + 1) ((O ++ [(p, e)]).flatMap ndC) := by rw [List.flatMap_append, List.flatMap_singleton]; exact hown
      have hA1 : Apart v1 (.slice (some ⟨gw, ow, none⟩) n1 cw) := HA.out.new HWT.out hat (by omega)
      obtain ⟨g4, cap4, R4, rfl, _⟩ := own_parts hO4 (Nat.succ_pos _)
      have hC4 : W4.ownsRow w1.heap.size 84 4 (.slice (some ⟨gw, ow, none⟩) n1 cw) n1 (rest.reverse.flatMap ndC) := ((HCUT.out.alloc _).alloc _).kept hgrow HA.out.kept
      have hb4 : Below w1.heap.size w1 W4 := ((hb.alloc hws (.cells (elC e).toArray 84)).alloc (by simp; omega) (.cells (elC e).toArray 84)).grown hgrow (by simp; omega) (fun j hj => (HO.out.lt j hj).1)
      have hbx : W4.heap[wo.heap.size]? = some (.cells (elC e).toArray 84 (0, 0)) :=
        (hgrow.block wo.heap.size (by simp; omega) (fun e' => by have := (HO.out.lt _ e'.symm).2; omega)).trans ((Below.heap_alloc _ _ _ (by simp)).trans (heap_alloc_new wo _))
      have hgw : gw < wo.heap.size := (HWT.out.lt gw rfl).2
      have hbxl := (Array.getElem?_eq_some_iff.1 hbx).1
      have HSx := Lib.hid (fun W' (hW : Below W4.heap.size W4 W') => (show W'.cell? ⟨wo.heap.size, 0, none⟩ = some (.int .i64 e.id.s.T) ∧ W'.cell? ⟨wo.heap.size, 1, none⟩ = some (.int .i64 e.id.s.R) ∧ W'.cell? ⟨wo.heap.size, 2, none⟩ = some (.int .i64 e.id.I) from
        ⟨(hW.cell (p := ⟨wo.heap.size, 0, none⟩) hbxl).trans (cell_of_row _ _ 0 _ _ _ hbx), (hW.cell (p := ⟨wo.heap.size, 1, none⟩) hbxl).trans (cell_of_row _ _ 1 _ _ _ hbx), (hW.cell (p := ⟨wo.heap.size, 2, none⟩) hbxl).trans (cell_of_row _ _ 2 _ _ _ hbx)⟩))
      obtain ⟨bx, hbxe⟩ : ∃ k, wo.heap.size = k := ⟨_, rfl⟩
      rw [hbxe] at hbx HSx hgw
      have hlk := (HM.out W4.drew hb4.drew).look e.id
      unfold idV at hlk
      have HROW := Lib.hid ((HM.out W4.drew hb4.drew).rows e.id)
      have HO4 := Lib.hid hO4
      have HC4 := Lib.hid (own_drew' hC4)
      have HA1 := Lib.hid hA1
      have HB4 := Lib.hid hb4
      have HBX := Lib.hid hbx
      have hw14 : w1.heap.size ≤ W4.heap.size := hb4.size
      have k1 : Below W4.heap.size W4 W4.drew := (Below.refl _ W4).drew
      have hbxl2 : bx < W4.heap.size := by rw [← hbxe]; exact hbxl
      clear hown hgrow hat hO4 hA1 hC4 hb4 hbx hbxl c0 c1 c2 c3 hws HO HA HWT HCUT
      simp only [hbxe]
      clear hbxe
      go_wp2
      go_region_held3 (fun W' => W'.cell? ⟨bx, 0, none⟩ = some (.int .i64 e.id.s.T) ∧ W'.cell? ⟨bx, 1, none⟩ = some (.int .i64 e.id.s.R) ∧ W'.cell? ⟨bx, 2, none⟩ = some (.int .i64 e.id.I))
        (first | exact HSx.out _ k1 | exact hS5 | go_keep)
        (first
          | (refine step_append_row _ (by rfl) _ _ _ (by rfl) w1.heap.size 84 i0 _ 4 40 Tryd.underlying75 hi hz0 hz1 hz2 rfl (by omega) _ n1 _ (by rfl) HC4.out (hdV (hd e.id)) w.heap.size (S e.id).length _ (by rfl) HROW.out (elC_list _) (by unfold maxLen; omega) (by omega) hw14 ?_
             intro v' W5 hown5 hgrow5 hat5
             have hx5 : W5.heap[bx]? = some (.cells (elC e).toArray 84 (0, 0)) := (hgrow5.block bx hbxl2 (fun e' => by have : bx = gw := (by simpa [Value.ownBlock] using e'); omega)).trans HBX.out
             have hS5 : W5.cell? ⟨bx, 0, none⟩ = some (.int .i64 e.id.s.T) ∧ W5.cell? ⟨bx, 1, none⟩ = some (.int .i64 e.id.s.R) ∧ W5.cell? ⟨bx, 2, none⟩ = some (.int .i64 e.id.I) := ⟨cell_of_row _ _ 0 _ _ _ hx5, cell_of_row _ _ 1 _ _ _ hx5, cell_of_row _ _ 2 _ _ _ hx5⟩))
      have hl' : (O ++ [(p, e)]).length = O.length + 1 := by simp
      have HRel := Lib.hid (show OrdRel (Counts (flat R)) w1 (.slice (some ⟨g4, 0, none⟩) (O.length + 1) cap4) v' W5 from
        ⟨O ++ [(p, e)], kids El.id S p e.id ++ rest, HSTEP.out, by rw [hl']; exact (own_drew' HO4.out).kept hgrow5 HA1.out.symm.kept, by rw [HKL.out, HKR.out]; exact hown5, (HA1.out.symm.new (own_drew' HO4.out) hat5 (Nat.le_refl _)).symm, HB4.out.drew.grown hgrow5 HB4.out.size (fun j hj => (HC4.out.lt j hj).1)⟩)
      clear hown5 hgrow5 hat5 hx5 hS5 hlk k1
      go_wp2
      go_roundw
      case rel => exact HRel.out
      case measure => have := HLE.out; simp [lenOf]; omega
end Go.Proofs.YtphapjbfaomblaaDoor
/- The walks of the library's Builder, as the program's replacing uses it. -/
namespace Go.Proofs.YtphapjbfaomblaaDoor
open Go.RowKit
theorem sizeBuilder : (Tryd.prog.info? 105).map (·.size) = some 2 := by kernel_rfl
theorem infoByte : (Tryd.prog.info? 5).map (fun i => (i.zero, i.size, i.bytes)) = some (some (.int .u8 0), 1, 1) := by kernel_rfl
theorem liesBuilder : liesAt Tryd.prog Tryd.prog.depth 105 (2 / Tryd.prog.cellsOf 105) 0 105 1 = true := by kernel_rfl
set_option maxHeartbeats 1000000 in
set_option maxRecDepth 100000 in
theorem copyCheck_used (b : Nat) (w : World) (h0 : w.cell? ⟨b, 0, none⟩ = some (.pointer (some ⟨b, 0, none⟩))) :
    Calls Tryd.prog 73 #[.pointer (some ⟨b, 0, none⟩)] w fun e w' => e = .returned (.tuple #[]) ∧ w' = w := by
  obtain ⟨j, hj, _⟩ := Option.map_eq_some_iff.1 sizeBuilder
  go_enter Tryd.func73, Tryd.ntmps73
  go_wp2
  rw [Lib.run_neq_ptr_same w _ Tryd.underlying103 hj]
  go_wp2
  go_end0
  exact ⟨rfl, rfl⟩
set_option maxHeartbeats 1000000 in
set_option maxRecDepth 100000 in
theorem copyCheck_fresh (b : Nat) (w : World) (h0 : w.cell? ⟨b, 0, none⟩ = some (.pointer none)) (hsh : w.shape? b = some (105, 2)) (hfz : w.frozen? ⟨b, 0, none⟩ = false) :
    Calls Tryd.prog 73 #[.pointer (some ⟨b, 0, none⟩)] w fun e w' => e = .returned (.tuple #[]) ∧ w' = w.setCell ⟨b, 0, none⟩ (.pointer (some ⟨b, 0, none⟩)) := by
  obtain ⟨j, hj, hjs⟩ := Option.map_eq_some_iff.1 sizeBuilder
  go_enter Tryd.func73, Tryd.ntmps73
  go_wp2
  rw [Lib.run_to_unsafe w ⟨b, 0, none⟩ Tryd.underlying103 Tryd.underlying147 hj (by rw [hjs]; decide) hsh (Nat.zero_lt_succ 1)]
  simp only [Result.andThen]
  rw [Oper.upon_value]
  go_wp2
  rw [run_callFunc_extern Tryd.func87 (by kernel_rfl) (by kernel_rfl) (by kernel_rfl) (e := Extern.AbiNoEscape.same) (by kernel_rfl)]
  rw [Lib.run_noEscape]
  simp only [Result.andThen]
  rw [Oper.upon_value]
  go_wp2
  rw [Lib.run_from_unsafe w ⟨b, 0, none⟩ Tryd.underlying147 Tryd.underlying103 hj hsh liesBuilder]
  simp only [Result.andThen]
  rw [Oper.upon_value]
  go_wp2
  go_end0
  exact ⟨rfl, rfl⟩
theorem copyCheck_any (B b : Nat) (bs : List Value) (w : World) (h : Lib.IsBuilderF 105 5 B b bs w) :
    Calls Tryd.prog 73 #[.pointer (some ⟨b, 0, none⟩)] w fun e w' => e = .returned (.tuple #[]) ∧ (Lib.BuilderAtF 105 5 B b (.pointer (some ⟨b, 0, none⟩)) bs w' ∧ Below B w w' ∧ Lib.OthersKept 5 (some b) w w') := by
  rcases h with h | h
  · refine (copyCheck_fresh b w h.cell0 h.shape h.frozen0).mono ?_
    rintro e w' ⟨rfl, rfl⟩
    exact ⟨rfl, h.used _, (Below.refl B w).setCell (p := ⟨b, 0, none⟩) h.1 _, (Lib.OthersKept.refl _ _ w).setCell ⟨b, 0, none⟩ rfl _⟩
  · refine (copyCheck_used b w h.cell0).mono ?_
    rintro e w' ⟨rfl, rfl⟩
    exact ⟨rfl, h, Below.refl B _, Lib.OthersKept.refl _ _ _⟩
set_option maxHeartbeats 1000000 in
set_option maxRecDepth 100000 in
theorem writeString_any (B b : Nat) (bs : List Value) (s : ByteArray) (w : World) (h : Lib.IsBuilderF 105 5 B b bs w) (hlen : bs.length + s.size ≤ 140737488355328) (hBw : B ≤ w.heap.size) :
    Calls Tryd.prog 53 #[.pointer (some ⟨b, 0, none⟩), .string s] w fun e w' => e = .returned (.tuple #[.int .i64 s.size, .nilIface]) ∧ (Lib.BuilderAtF 105 5 B b (.pointer (some ⟨b, 0, none⟩)) (bs ++ Lib.strCells s) w' ∧ Below B w w' ∧ Lib.OthersKept 5 (some b) w w') := by
  obtain ⟨i0, hi, hz0, hz1, hz2⟩ := info_parts infoByte
  go_enter Tryd.func53, Tryd.ntmps53
  go_wp2_with (go_at_call 73; refine (copyCheck_any B b bs _ h).mono ?_)
  rintro e w1 ⟨rfl, h1, hb1, hk1⟩
  obtain ⟨hB, v, hbk, hown, hne⟩ := h1
  have c0 : w1.cell? ⟨b, 0, none⟩ = some (.pointer (some ⟨b, 0, none⟩)) := by rw [Lib.cell_of_heap hbk]; rfl
  have c1 : w1.cell? ⟨b, 1, none⟩ = some v := by rw [Lib.cell_of_heap hbk]; rfl
  go_wp2_with (at_builtin; refine Lib.wpList_append_own_stringF _ rfl _ _ 48 9 rfl B 5 i0 Tryd.underlying48 Tryd.underlying9 hi hz0 hz1 hz2 _ _ _ rfl hown s rfl ?c3 ?c4 ?c5 ?_)
  case c3 => unfold maxLen; omega
  case c4 => omega
  case c5 => have := hb1.size; omega
  intro v' w2 hown' hgrow _
  have hlt : b < w1.heap.size := by
    rcases Nat.lt_or_ge b w1.heap.size with h' | h'
    · exact h'
    · simp [Array.getElem?_eq_none h'] at hbk
  have hb2 : w2.heap[b]? = some (.cells #[.pointer (some ⟨b, 0, none⟩), v] 105 (0, 0)) := by
    rw [hgrow.block b hlt (fun e => hne e.symm)]
    exact hbk
  have d0 : w2.cell? ⟨b, 0, none⟩ = some (.pointer (some ⟨b, 0, none⟩)) := by rw [Lib.cell_of_heap hb2]; rfl
  have d1 : w2.cell? ⟨b, 1, none⟩ = some v := by rw [Lib.cell_of_heap hb2]; rfl
  have f1 : w2.frozen? ⟨b, 1, none⟩ = false := Lib.frozen_of_heap hb2 1
  obtain ⟨ao, n', cap, rfl⟩ : ∃ ao n' cap, v' = .slice ao n' cap := by
    rcases hown'.2 with ⟨hv, _⟩ | ⟨g, cap, cur, fz, hv, _⟩
    · exact ⟨_, _, _, hv⟩
    · exact ⟨_, _, _, hv⟩
  go_wp2
  go_ret2
  refine ⟨rfl, ?_, ?_, (hk1.grown hgrow (Lib.ownsRowF_kind hown)).setCell ⟨b, 1, none⟩ rfl _⟩
  · exact Lib.BuilderAtF.put (T := 105) (e := 5) hB hb2 (bs' := bs ++ Lib.strCells s) (by simpa [Lib.strCells_length] using hown') (by decide)
  · exact (hb1.grown hgrow (by have := hb1.size; omega) (fun k hk => (hown.lt k hk).1)).setCell (p := ⟨b, 1, none⟩) hB _
end Go.Proofs.YtphapjbfaomblaaDoor
/- The program's told: names and text of a row of elements. -/
namespace Go.Proofs.YtphapjbfaomblaaDoor
open Go Go.RowKit
def txt (L : List El) : List UInt8 := (L.map (fun e => e.pc.data.toList)).flatten
theorem txt_snoc (L : List El) (e : El) : txt (L ++ [e]) = txt L ++ e.pc.data.toList := by simp [txt]
theorem byteCells_append (a b : List UInt8) : Lib.byteCells (a ++ b) = Lib.byteCells a ++ Lib.byteCells b := by simp [Lib.byteCells]
theorem strCells_eq (s : ByteArray) : Lib.strCells s = Lib.byteCells s.data.toList := rfl
theorem made_ids (n : Nat) : (madeCells #[.int .i64 0, .int .i64 0, .int .i64 0] (n * 3)).toList = List.replicate (n * 3) (.int .i64 0) := by
  apply List.ext_getElem
  · simp [madeCells]
  · intro i h1 h2
    simp only [List.getElem_replicate]
    have hm : i % 3 = 0 ∨ i % 3 = 1 ∨ i % 3 = 2 := by omega
    simp only [madeCells, Array.getElem_toList, Array.getElem_map, Array.getElem_range]
    rcases hm with h | h | h <;> simp [h]
theorem builder_far {B b g : Nat} {bs : List Value} {w w' : World} (h : Lib.IsBuilderF 105 5 B b bs w) (hg : g < B) (hk : ∀ k, k ≠ g → w'.heap[k]? = w.heap[k]?) : Lib.IsBuilderF 105 5 B b bs w' := by
  have key : ∀ p, Lib.BuilderAtF 105 5 B b p bs w → Lib.BuilderAtF 105 5 B b p bs w' := by
    rintro p ⟨hB, v, h1, h2, h3⟩
    refine ⟨hB, v, (hk b (by omega)).trans h1, ⟨h2.1, ?_⟩, h3⟩
    rcases h2.2 with h4 | ⟨g', cap, cur, fz, h4, h5, h6, h7⟩
    · exact .inl h4
    · exact .inr ⟨g', cap, cur, fz, h4, h5, (hk g' (by omega)).trans h6, h7⟩
  exact h.imp (key _) (key _)
theorem set3_other' {w : World} {g k a b c : Nat} {v u z : Value} (h : k ≠ g) : (((w.setCell ⟨g, a, none⟩ v).setCell ⟨g, b, none⟩ u).setCell ⟨g, c, none⟩ z).heap[k]? = w.heap[k]? := by
  rw [Below.heap_setCell _ _ _ _ h, Below.heap_setCell _ _ _ _ h, Below.heap_setCell _ _ _ _ h]
def ToRel (L : List El) (w : World) (b g : Nat) (i : Value) (wr : World) : Prop :=
  ∃ k : Nat, k ≤ L.length ∧ i = .int .i64 k ∧ Lib.IsBuilderF 105 5 b b (Lib.byteCells (txt (L.take k))) wr ∧ wr.ownsRow w.heap.size 26 3 (.slice (some ⟨g, 0, none⟩) L.length L.length) L.length (((L.take k).map El.id).flatMap idC ++ List.replicate ((L.length - k) * 3) (.int .i64 0)) ∧ Below w.heap.size w wr
def ToPost (L : List El) (w : World) (e : Ending) (w' : World) : Prop :=
  ∃ v, e = .returned (.tuple #[v, .string (ofL (txt L))]) ∧ w'.ownsRow w.heap.size 26 3 v L.length ((L.map El.id).flatMap idC) ∧ Below w.heap.size w w'
theorem info26 : (Tryd.prog.info? 26).map (fun i => (i.zero, i.size, i.bytes)) = some (some (.agg #[.int .i64 0, .int .i64 0, .int .i64 0]), 3, 24) := by kernel_rfl
theorem txt_le (L : List El) (k : Nat) : (txt (L.take k)).length ≤ (txt L).length := by
  have : txt L = txt (L.take k) ++ txt (L.drop k) := by
    unfold txt
    rw [← List.flatten_append, ← List.map_append, List.take_append_drop]
  rw [this, List.length_append]
  omega
set_option maxRecDepth 100000 in
set_option maxHeartbeats 4000000 in
theorem told_any (L : List El) (A : Option Addr) (n c B0 : Nat) (w : World) (hR : Rd w B0 4 (.slice A n c) n (L.flatMap elC)) (hB : B0 ≤ w.heap.size) (hn : L.length ≤ 100000) (hx : (txt L).length ≤ 1000000000) :
    Calls Tryd.prog 40 #[.slice A n c] w (ToPost L w) := by
  obtain ⟨_, hnc, hcm⟩ := hR.len
  unfold maxLen at hcm
  obtain rfl := len_of elC 4 (fun _ => rfl) (by decide) hR.1
  have HR := Lib.hid (fun W (hW : Below w.heap.size w W) => hR.below' hW hB)
  have HX := Lib.hid hx
  clear hR hx
  obtain ⟨i0, hi, hz0, hz1, hz2⟩ := info_parts info26
  go_enter Tryd.func40, Tryd.ntmps40
  go_wp2_with (at_make; refine wpList_make_full _ rfl _ _ 31 rfl w.heap.size 26 i0 _ 3 Tryd.underlying31 hi hz0 hz1 .i64 .i64 _ _ L.length rfl rfl rfl rfl (by rw [hz2]; omega) (by unfold maxLen; omega) (Nat.le_refl _) ?_; intro w1 hown1 hgrow1)
  have hb1 : Below w.heap.size w w1 := (Below.refl _ w).grown hgrow1 (Nat.le_refl _) (fun j hj => by cases hj)
  have hown : w1.ownsRow w.heap.size 26 3 (.slice (some ⟨w.heap.size, 0, none⟩) L.length L.length) L.length (((L.take 0).map El.id).flatMap idC ++ List.replicate ((L.length - 0) * 3) (.int .i64 0)) := by
    have e := made_ids L.length
    have h1 : (madeCells (Value.cells (.agg #[.int .i64 0, .int .i64 0, .int .i64 0])) (L.length * 3)).toList = List.replicate (L.length * 3) (.int .i64 0) := e
    rw [h1] at hown1
    simpa using hown1
  have hgs : w.heap.size < w1.heap.size := by
    obtain ⟨_, h2⟩ := hown.lt w.heap.size rfl
    exact h2
  have HO1 := Lib.hid hown
  have HB1 := Lib.hid hb1
  clear hown1 hgrow1 hown hb1
  go_wp2
  obtain ⟨w2, hw2⟩ : ∃ W, w1.alloc (.cells #[.pointer none, .slice none 0 0] 105) = W := ⟨_, rfl⟩
  have hfr : Lib.IsBuilderF 105 5 w1.heap.size w1.heap.size (Lib.byteCells (txt (L.take 0))) w2 := by rw [← hw2]; exact Lib.IsBuilderF.of (Lib.fresh_isBuilder 105 5 w1)
  have hb2 : Below w1.heap.size w1 w2 := by rw [← hw2]; exact (Below.refl _ w1).alloc (Nat.le_refl _) _
  have hst : ToRel L w w1.heap.size w.heap.size (.int .i64 0) w2 := ⟨0, Nat.zero_le _, rfl, hfr, own_grows HO1.out hb2, HB1.out.trans (hb2.mono HB1.out.size)⟩
  have HST := Lib.hid hst
  rw [hw2]
  obtain ⟨b, hbe⟩ : ∃ k, w1.heap.size = k := ⟨_, rfl⟩
  obtain ⟨g, hge⟩ : ∃ k, w.heap.size = k := ⟨_, rfl⟩
  have HGE := Lib.hid hge
  have hgb : g < b := by omega
  rw [hbe] at HST ⊢
  simp only [hge]
  rw [show ToRel L w b w.heap.size (.int .i64 0) w2 = ToRel L w b g (.int .i64 0) w2 by rw [hge]] at HST
  clear hw2 hfr hb2 hst hbe hge hgs HO1 HB1
  go_loopw [13] (fun i wr => ToRel L w b g i wr) (fun i _ => L.length - (intOf i).toNat)
  case atStart => exact HST.out
  case round =>
    clear HST
    obtain ⟨k, hk, rfl, hbu, hO, hb⟩ := hrel
    obtain ⟨wo, rfl⟩ : ∃ wo : World, wo = wr := ⟨_, rfl⟩
    have hbl : b < wo.heap.size := by
      rcases hbu with ⟨_, v, h1, _⟩ | ⟨_, v, h1, _⟩ <;> exact (Array.getElem?_eq_some_iff.1 h1).1
    by_cases hlt : k < L.length
    · obtain ⟨gr, og, rfl, hBr, hcell⟩ := rd_at elC 4 (fun _ => rfl) (by decide) (HR.out wo hb) hlt
      have htk := List.take_succ_eq_append_getElem hlt
      have htx := txt_snoc (L.take k) L[k]
      have htl := txt_le L (k + 1)
      rw [htk] at htl
      rw [htx] at htl
      have hxx := HX.out
      obtain ⟨e, he⟩ : ∃ e, L[k] = e := ⟨_, rfl⟩
      rw [he] at hcell htk htx htl
      have c0 : wo.cell? ⟨gr, og + k * 4, none⟩ = some (.int .i64 e.id.s.T) := hcell 0 _ rfl
      have c1 : wo.cell? ⟨gr, og + k * 4 + 1, none⟩ = some (.int .i64 e.id.s.R) := hcell 1 _ rfl
      have c2 : wo.cell? ⟨gr, og + k * 4 + 2, none⟩ = some (.int .i64 e.id.I) := hcell 2 _ rfl
      have c3 : wo.cell? ⟨gr, og + k * 4 + 3, none⟩ = some (.string e.pc) := hcell 3 _ rfl
      have hbl2 : (Lib.byteCells (txt (L.take k))).length + e.pc.size ≤ 140737488355328 := by
        rw [List.length_append] at htl
        have : (Lib.byteCells (txt (L.take k))).length = (txt (L.take k)).length := by simp [Lib.byteCells]
        have h2 : e.pc.data.toList.length = e.pc.size := (Lib.size_eq e.pc).symm
        omega
      have i1 : (0 : Int) ≤ (k : Int) := by omega
      have i2 : (k : Int) < (L.length : Int) := by omega
      -- the row, parted
      have hzr : List.replicate ((L.length - k) * 3) (Value.int .i64 0) = [.int .i64 0, .int .i64 0, .int .i64 0] ++ List.replicate ((L.length - (k + 1)) * 3) (Value.int .i64 0) := by
        have : (L.length - k) * 3 = (L.length - (k + 1)) * 3 + 1 + 1 + 1 := by omega
        rw [this, List.replicate_succ, List.replicate_succ, List.replicate_succ]
        rfl
      have hidl : (((L.take k).map El.id).flatMap idC).length = k * 3 := by rw [flatl idC 3 (fun _ => rfl), List.length_map, List.length_take]; omega
      rw [hzr, ← List.append_assoc] at hO
      have f0 := own_frozen hO (by omega)
      have hq : ∀ j u, ([.int .i64 0, .int .i64 0, .int .i64 0] : List Value)[j]? = some u → wo.cell? ⟨g, k * 3 + j, none⟩ = some u := fun j u hu => (own_cell hO (k * 3 + j) u (by
        rw [List.append_assoc, List.getElem?_append_right (by omega), hidl, Nat.add_sub_cancel_left, List.getElem?_append_left (List.getElem?_eq_some_iff.1 hu).1]
        exact hu)).1
      have q0 : wo.cell? ⟨g, k * 3, none⟩ = some (.int .i64 0) := hq 0 _ rfl
      have q1 : wo.cell? ⟨g, k * 3 + 1, none⟩ = some (.int .i64 0) := hq 1 _ rfl
      have q2 : wo.cell? ⟨g, k * 3 + 2, none⟩ = some (.int .i64 0) := hq 2 _ rfl
      have hgl : g < wo.heap.size := by omega
      have hne : wo.heap.size ≠ g := by omega
      have hne' : g ≠ wo.heap.size := by omega
      have hset := own_sets hO (idC e.id) rfl (by omega)
      rw [hidl] at hset
      have hset' : ((((wo.setCell ⟨g, k * 3, none⟩ (.int .i64 e.id.s.T)).setCell ⟨g, k * 3 + 1, none⟩ (.int .i64 e.id.s.R)).setCell ⟨g, k * 3 + 2, none⟩ (.int .i64 e.id.I)).alloc (.cells #[.int .i64 e.id.s.T, .int .i64 e.id.s.R, .int .i64 e.id.I, .string e.pc] 84)).ownsRow w.heap.size 26 3 (.slice (some ⟨g, 0, none⟩) L.length L.length) L.length (((L.take k).map El.id).flatMap idC ++ idC e.id ++ List.replicate ((L.length - (k + 1)) * 3) (.int .i64 0)) := World.ownsRow.alloc hset _
      have hbu' : Lib.IsBuilderF 105 5 b b (Lib.byteCells (txt (L.take k))) ((((wo.setCell ⟨g, k * 3, none⟩ (.int .i64 e.id.s.T)).setCell ⟨g, k * 3 + 1, none⟩ (.int .i64 e.id.s.R)).setCell ⟨g, k * 3 + 2, none⟩ (.int .i64 e.id.I)).alloc (.cells #[.int .i64 e.id.s.T, .int .i64 e.id.s.R, .int .i64 e.id.I, .string e.pc] 84)) := (builder_far (w' := (((wo.setCell ⟨g, k * 3, none⟩ (.int .i64 e.id.s.T)).setCell ⟨g, k * 3 + 1, none⟩ (.int .i64 e.id.s.R)).setCell ⟨g, k * 3 + 2, none⟩ (.int .i64 e.id.I))) hbu hgb (fun j hj => set3_other' hj)).alloc _
      have hb5 : Below w.heap.size w ((((wo.setCell ⟨g, k * 3, none⟩ (.int .i64 e.id.s.T)).setCell ⟨g, k * 3 + 1, none⟩ (.int .i64 e.id.s.R)).setCell ⟨g, k * 3 + 2, none⟩ (.int .i64 e.id.I)).alloc (.cells #[.int .i64 e.id.s.T, .int .i64 e.id.s.R, .int .i64 e.id.I, .string e.pc] 84)) := ((((hb.setCell (p := ⟨g, k * 3, none⟩) (by rw [HGE.out]; exact Nat.le_refl _) _).setCell (p := ⟨g, k * 3 + 1, none⟩) (by rw [HGE.out]; exact Nat.le_refl _) _).setCell (p := ⟨g, k * 3 + 2, none⟩) (by rw [HGE.out]; exact Nat.le_refl _) _).alloc (by have := hb.size; simpa using this) _)
      have hsz5 : b ≤ ((((wo.setCell ⟨g, k * 3, none⟩ (.int .i64 e.id.s.T)).setCell ⟨g, k * 3 + 1, none⟩ (.int .i64 e.id.s.R)).setCell ⟨g, k * 3 + 2, none⟩ (.int .i64 e.id.I)).alloc (.cells #[.int .i64 e.id.s.T, .int .i64 e.id.s.R, .int .i64 e.id.I, .string e.pc] 84)).heap.size := by simp; omega
      have hsz6 : b < ((((wo.setCell ⟨g, k * 3, none⟩ (.int .i64 e.id.s.T)).setCell ⟨g, k * 3 + 1, none⟩ (.int .i64 e.id.s.R)).setCell ⟨g, k * 3 + 2, none⟩ (.int .i64 e.id.I)).alloc (.cells #[.int .i64 e.id.s.T, .int .i64 e.id.s.R, .int .i64 e.id.I, .string e.pc] 84)).heap.size := by simp; omega
      have HS5 := Lib.hid hset'
      have HBU5 := Lib.hid hbu'
      have HB5 := Lib.hid hb5
      have HTK := Lib.hid htk
      have HTX := Lib.hid htx
      have hwg : w.heap.size = g := HGE.out
      have HWG := Lib.hid hwg
      clear hwg hset hset' hbu' hb5 hidl hzr hq hbu hO htk htx htl hxx hcell he hb
      go_wp2_with fail
      obtain ⟨w5, hw5⟩ : ∃ W, ((((wo.setCell ⟨g, k * 3, none⟩ (.int .i64 e.id.s.T)).setCell ⟨g, k * 3 + 1, none⟩ (.int .i64 e.id.s.R)).setCell ⟨g, k * 3 + 2, none⟩ (.int .i64 e.id.I)).alloc (.cells #[.int .i64 e.id.s.T, .int .i64 e.id.s.R, .int .i64 e.id.I, .string e.pc] 84)) = W := ⟨_, rfl⟩
      rw [hw5] at HS5 HBU5 HB5 hsz5 hsz6 ⊢
      clear hw5 c0 c1 c2 c3 q0 q1 q2 f0
      refine (writeString_any b b _ e.pc w5 HBU5.out hbl2 hsz5).mono ?_
      rintro r w6 ⟨rfl, hbu6, hb6, _⟩
      have hb6' : Below w.heap.size w w6 := HB5.out.trans (hb6.mono (by rw [HWG.out]; omega))
      have HB6 := Lib.hid hb6'
      have HBU6 := Lib.hid (show Lib.IsBuilderF 105 5 b b (Lib.byteCells (txt (L.take (k + 1)))) w6 by rw [HTK.out, HTX.out, byteCells_append]; exact .inr hbu6)
      have HS6 := Lib.hid (show w6.ownsRow w.heap.size 26 3 (.slice (some ⟨g, 0, none⟩) L.length L.length) L.length (((L.take (k + 1)).map El.id).flatMap idC ++ List.replicate ((L.length - (k + 1)) * 3) (.int .i64 0)) by
        rw [HTK.out, List.map_append, List.flatMap_append]
        simp only [List.map_cons, List.map_nil, List.flatMap_cons, List.flatMap_nil, List.append_nil]
        exact own_touch HS5.out (Below.touch' (F := fun x => b ≤ x) hb6 (fun x _ h => h)) (fun x hx h => by have : x = g := (by simpa [Value.ownBlock] using hx.symm); omega))
      clear hbu6 hb6 hb6'
      go_wp2
      go_roundw
      case rel => exact ⟨k + 1, by omega, by go_num, HBU6.out, HS6.out, HB6.out⟩
      case measure => simp [intOf]; omega
    · obtain rfl : k = L.length := by omega
      rw [List.take_length] at hbu hO
      rw [Nat.sub_self, Nat.zero_mul, List.replicate_zero, List.append_nil] at hO
      have HST := Lib.hid (Tryd.Builder_String_any_k b b (txt L) wo hbu (by omega))
      have HOe := Lib.hid hO
      have HBe := Lib.hid hb
      clear hbu hO hb hk
      go_wp2_with fail
      refine HST.out.mono ?_
      rintro r w6 ⟨rfl, _, hb6, _⟩
      have HB6 := Lib.hid (HBe.out.trans (hb6.mono (by rw [HGE.out]; omega)))
      have HO6 := Lib.hid (own_touch HOe.out (Below.touch' (F := fun x => b ≤ x) hb6 (fun x _ h => h)) (fun x hx h => by have : x = g := (by simpa [Value.ownBlock] using hx.symm); omega))
      clear hb6
      go_wp2
      go_ret2
      exact ⟨_, rfl, HO6.out, HB6.out⟩
end Go.Proofs.YtphapjbfaomblaaDoor
