/- The program's ordered: all that is gathered, in the order of the paths. -/
import Derived.Test.YtphapjbfaomblaaDoorGE
import Derived.Test.YtphapjbfaomblaaDoorGD
import Derived.Deep.RegionHeld3
namespace Go.Proofs.YtphapjbfaomblaaDoor
open Go Go.RowKit Go.Maps
def Apart (v1 v2 : Value) : Prop := ∀ g, v1.ownBlock = some g → v2.ownBlock ≠ some g
theorem Apart.symm {v1 v2 : Value} (h : Apart v1 v2) : Apart v2 v1 := fun g h1 h2 => h g h2 h1
theorem Apart.kept {v1 v2 : Value} (h : Apart v1 v2) : v2.ownBlock = none ∨ v2.ownBlock ≠ v1.ownBlock := by
  cases e : v2.ownBlock with
  | none => exact .inl rfl
  | some g => exact .inr (fun e' => h g e'.symm e)
theorem Apart.new {v1 v1' v2 : Value} (h : Apart v1 v2) {W : World} {base : Nat} {e : TypeId} {K n m : Nat} {xs : List Value} (ho : W.ownsRow base e K v2 n xs) (hat : v1'.ownBlock = v1.ownBlock ∨ v1'.ownBlock = some m) (hm : W.heap.size ≤ m) : Apart v1' v2 := by
  intro g hg h2
  rcases hat with e1 | e1
  · exact h g (e1.symm.trans hg) h2
  · have := (ho.lt g h2).2
    rw [e1] at hg
    cases hg
    omega
theorem apart_base {W W' : World} {b b' : Nat} {e e' : TypeId} {K K' n n' : Nat} {v v' : Value} {xs xs' : List Value} (h : W.ownsRow b e K v n xs) (h' : W'.ownsRow b' e' K' v' n' xs') (hb : W.heap.size ≤ b') : Apart v v' := by
  intro g h1 h2
  have := (h.lt g h1).2
  have := (h'.lt g h2).1
  omega
theorem own_base {w : World} {b b' : Nat} {e : TypeId} {K n : Nat} {v : Value} {xs : List Value} (h : w.ownsRow b e K v n xs) (hb : b' ≤ b) : w.ownsRow b' e K v n xs :=
  ⟨h.1, h.2.imp id fun ⟨g, cap, cur, e1, hg, r⟩ => ⟨g, cap, cur, e1, Nat.le_trans hb hg, r⟩⟩
theorem own_drew' {w : World} {base : Nat} {e : TypeId} {K n : Nat} {v : Value} {xs : List Value} (h : w.ownsRow base e K v n xs) : w.drew.ownsRow base e K v n xs := h
abbrev Nd := List Id × El
def ndC (n : Nd) : List Value := elC n.2
def OrdRel (E : El → Prop) (w1 : World) (out wait : Value) (wr : World) : Prop :=
  ∃ O Wt : List Nd, Weaving Id.Lt El.id El.af zeroI E O Wt ∧ wr.ownsRow w1.heap.size 84 4 out O.length (O.flatMap ndC) ∧ wr.ownsRow w1.heap.size 84 4 wait Wt.length (Wt.reverse.flatMap ndC) ∧ Apart out wait ∧ Below w1.heap.size w1 wr
def lenOf : Value → Nat | .slice _ n _ => n | _ => 0
def OPost (R : List Rn) (w : World) (e : Ending) (w' : World) : Prop :=
  ∃ v O, e = .returned v ∧ OrderOf Id.Lt El.id El.af zeroI (Counts (flat R)) O ∧ w'.ownsRow w.heap.size 84 4 v O.length (O.flatMap ndC) ∧ O.length ≤ (flat R).length ∧ Below w.heap.size w w'
theorem weave_le {F : List El} {O Wt : List Nd} (h : Weaving Id.Lt El.id El.af zeroI (Counts F) O Wt) : O.length + Wt.length ≤ F.length := by
  have := nodes_le idSTO (counts_names F) h.so h.nodes (L := F) (fun e he => counts_mem he)
  rwa [List.length_append] at this
theorem kids_row (S : Id → List El) (p : List Id) (x : Id) : (kids El.id S p x).reverse.flatMap ndC = (S x).flatMap elC := by
  unfold kids
  rw [List.map_reverse, List.reverse_reverse, List.flatMap_map]
  rfl
theorem kids_len (S : Id → List El) (p : List Id) (x : Id) : (kids El.id S p x).length = (S x).length := by simp [kids]
set_option maxRecDepth 100000 in
set_option maxHeartbeats 4000000 in
theorem ordered_any (R : List Rn) (A : Option Addr) (n c B0 : Nat) (w : World) (hR : Rd w B0 7 (.slice A n c) n (R.flatMap rnC)) (hB : B0 ≤ w.heap.size) (hT : Tabs w) (hF : (flat R).length ≤ 100000) (htx : ∀ r ∈ R, r.tx.size ≤ 100000) :
    Calls Tryd.prog 41 #[.slice A n c] w (OPost R w) := by
  obtain ⟨i0, hi, hz0, hz1, hz2⟩ := info_parts info84
  have HG := Lib.hid (gathered_any R A n c B0 w hR hB hT hF htx)
  have HF := Lib.hid hF
  have HN := Lib.hid (counts_names (flat R))
  clear hR hT hF htx
  go_enter Tryd.func41, Tryd.ntmps41
  go_wp2_with fail
  refine HG.out.mono ?_
  rintro e w1 ⟨bm, m, D, hd, S, rfl, hM, hS, hb1⟩
  have HM := Lib.hid (fun W (hW : Below w1.heap.size w1 W) => hM.below hW)
  have HS := Lib.hid hS
  have HB1 := Lib.hid hb1
  have HE := Lib.hid (own_empty (w := w1.alloc (.cells #[] 84)) (base := w1.heap.size) (K := 4) (Nat.le_refl _) (heap_alloc_new w1 _))
  have hba : Below w1.heap.size w1 (w1.alloc (.cells #[] 84)) := (Below.refl _ w1).alloc (Nat.le_refl _) _
  have hlk := (hM.below hba).look zeroI
  have h0 : idV zeroI = .agg #[.int .i64 0, .int .i64 0, .int .i64 0] := rfl
  rw [h0] at hlk
  have hl0 : ∀ x, (S x).length ≤ 100000 := fun x => by
    have h1 : (S x).Nodup := ((hS x).1.imp (fun {a b} h e => by rw [e] at h; exact idSTO.irrefl _ h))
    have := pigeon' h1 (M := flat R) (fun e he => counts_mem (((hS x).2 e).1 he).1)
    have := HF.out
    omega
  have HCL := Lib.hid (clone_el (S zeroI) (hd zeroI) w.heap.size (w1.alloc (.cells #[] 84)) ((hM.below hba).rows zeroI) (by have := hl0 zeroI; omega))
  have HL0 := Lib.hid hl0
  have HBA := Lib.hid hba
  clear hM hS hb1 hba h0 hl0 HG
  go_wp2_with fail
  refine HCL.out.mono ?_
  rintro e w2 ⟨v, rfl, hv, hb2⟩
  obtain ⟨Av, cv, rfl, _, _⟩ := (Rd.of_own hv).form
  have hst : OrdRel (Counts (flat R)) w1 (.slice (some ⟨w1.heap.size, 0, none⟩) 0 0) (.slice Av (S zeroI).length cv) w2 :=
    ⟨[], kids El.id S [] zeroI, weave_start HS.out HN.out, own_grows HE.out hb2, by rw [kids_row, kids_len]; exact own_base hv (by simp), apart_base HE.out hv (Nat.le_refl _), HBA.out.trans (hb2.mono HBA.out.size)⟩
  have HST := Lib.hid hst
  clear hv hb2 hst hlk HE HCL HBA
  go_wp2
  go_loopw [4, 5] (fun out wait wr => OrdRel (Counts (flat R)) w1 out wait wr) (fun out wait _ => (flat R).length - lenOf out)
  case atStart => exact HST.out
  case round =>
    clear HST
    obtain ⟨O, Wt, hW, hO, hWt, hA, hb⟩ := hrel
    obtain ⟨Ao, co, rfl, _, _⟩ := (Rd.of_own hO).form
    obtain ⟨Aw, cw, rfl, _, _⟩ := (Rd.of_own hWt).form
    obtain ⟨wo, rfl⟩ : ∃ wo : World, wo = wr := ⟨_, rfl⟩
    have hle := weave_le hW
    have hfl := HF.out
    cases Wt with
    | nil =>
      have HE := Lib.hid (show OPost R w (.returned (.slice Ao O.length co)) wo from ⟨_, O, rfl, weave_end hW, own_base hO HB1.out.size, by simpa using hle, HB1.out.trans (hb.mono HB1.out.size)⟩)
      clear hO hWt hA hW hb hle hfl
      go_wp2
      go_ret
      exact HE.out
    | cons x rest =>
      obtain ⟨n1, hn1⟩ : ∃ n1, rest.length = n1 := ⟨_, rfl⟩
      have hlc : (x :: rest).length = n1 + 1 := by rw [List.length_cons, hn1]
      rw [hlc] at hA hWt hle ⊢
      have hcn : n1 + 1 ≤ cw := by have := hWt.1; obtain ⟨_, _, h, h2, _⟩ := (Rd.of_own hWt).form; cases h; exact h2
      have hrl : (x :: rest).reverse.length = n1 + 1 := by rw [List.length_reverse, hlc]
      have hrow := hWt
      obtain ⟨gw, ow, hAw, hBw, hcell⟩ := rd_at ndC 4 (fun _ => rfl) (by decide) (show Rd wo wo.heap.size 4 (.slice Aw (x :: rest).reverse.length cw) (x :: rest).reverse.length ((x :: rest).reverse.flatMap ndC) from by rw [hrl]; exact Rd.of_own hWt) (show n1 < (x :: rest).reverse.length by omega)
      subst hAw
      have hget : (x :: rest).reverse[n1]'(by omega) = x := by
        simp only [List.reverse_cons]
        rw [List.getElem_append_right (by simp [hn1])]
        simp [hn1]
      rw [hget] at hcell
      have hstep := weave_step HS.out HN.out hW
      have hrr : (x :: rest).reverse.flatMap ndC = rest.reverse.flatMap ndC ++ ndC x := by rw [List.reverse_cons, List.flatMap_append, List.flatMap_singleton]
      have hcut := own_cut hrow (show n1 ≤ n1 + 1 by omega)
      have htk : (List.flatMap ndC (x :: rest).reverse).take (n1 * 4) = rest.reverse.flatMap ndC := by
        rw [hrr, List.take_append_of_le_length (by rw [List.length_flatMap]; simp [ndC, elC, hn1, List.map_const', List.sum_replicate_nat]), List.take_of_length_le (by rw [List.length_flatMap]; simp [ndC, elC, hn1, List.map_const', List.sum_replicate_nat])]
      rw [htk] at hcut
      have hkl : (kids El.id S x.1 x.2.id ++ rest).length = n1 + (S x.2.id).length := by rw [List.length_append, kids_len, hn1]; omega
      have hkr : (kids El.id S x.1 x.2.id ++ rest).reverse.flatMap ndC = rest.reverse.flatMap ndC ++ (S x.2.id).flatMap elC := by rw [List.reverse_append, List.flatMap_append, kids_row]
      obtain ⟨p, e⟩ := x
      have c0 : wo.cell? ⟨gw, ow + n1 * 4, none⟩ = some (.int .i64 e.id.s.T) := hcell 0 _ rfl
      have c1 : wo.cell? ⟨gw, ow + n1 * 4 + 1, none⟩ = some (.int .i64 e.id.s.R) := hcell 1 _ rfl
      have c2 : wo.cell? ⟨gw, ow + n1 * 4 + 2, none⟩ = some (.int .i64 e.id.I) := hcell 2 _ rfl
      have c3 : wo.cell? ⟨gw, ow + n1 * 4 + 3, none⟩ = some (.string e.pc) := hcell 3 _ rfl
      dsimp only at hkl hkr hstep
      have i0' : (0 : Int) < ((n1 + 1 : Nat) : Int) := by omega
      have i1 : (0 : Int) ≤ (n1 : Int) := by omega
      have i2 : (n1 : Int) < ((n1 + 1 : Nat) : Int) := by omega
      have i3 : (n1 : Int) ≤ (cw : Int) := by omega
      have hls := HL0.out e.id
      have HSTEP := Lib.hid hstep
      have HCUT := Lib.hid hcut
      have HKL := Lib.hid hkl
      have HKR := Lib.hid hkr
      have HO := Lib.hid hO
      have HA := Lib.hid hA
      have HWT := Lib.hid hWt
      have HN1 := Lib.hid hn1
      have HLE := Lib.hid hle
      have hO100 : O.length ≤ 100000 := by omega
      have hn100 : n1 ≤ 100000 := by omega
      clear hrl hrow hcell hget hstep hrr hcut htk hkl hkr hO hWt hA hn1 hlc hle hW hcn
      go_wp2_with (at_builtin; refine wpList_append_own_at _ rfl _ _ 75 rfl w1.heap.size 84 i0 _ 4 40 Tryd.underlying75 hi hz0 hz1 hz2 rfl (by decide) _ O.length (O.flatMap ndC) rfl ((HO.out.alloc (.cells (elC e).toArray 84)).alloc (.cells (elC e).toArray 84)) ⟨wo.heap.size + 1, 0, none⟩ 1 1 (elC e) rfl rfl ?qc (elC_one e) ?q2 ?q3 ?q4 ?_)
      case qc =>
        have := cells_new (wo.alloc (.cells (elC e).toArray 84)) (elC e) 84
        rw [World.size_alloc] at this
        exact this
      case q2 => unfold maxLen; omega
      case q3 => omega
      case q4 => have := hb.size; simp; omega
      intro v1 W4 hown hgrow _ hat
      have hws := hb.size
      have hO4 : W4.ownsRow w1.heap.size 84 4 v1 (O.length + 1) ((O ++ [(p, e)]).flatMap ndC) := by rw [List.flatMap_append, List.flatMap_singleton]; exact hown
      have hA1 : Apart v1 (.slice (some ⟨gw, ow, none⟩) n1 cw) := HA.out.new HWT.out hat (by omega)
      obtain ⟨g4, cap4, R4, rfl, _⟩ := own_parts hO4 (Nat.succ_pos _)
      have hC4 : W4.ownsRow w1.heap.size 84 4 (.slice (some ⟨gw, ow, none⟩) n1 cw) n1 (rest.reverse.flatMap ndC) := ((HCUT.out.alloc _).alloc _).kept hgrow HA.out.kept
      have hb4 : Below w1.heap.size w1 W4 := ((hb.alloc hws (.cells (elC e).toArray 84)).alloc (by simp; omega) (.cells (elC e).toArray 84)).grown hgrow (by simp; omega) (fun j hj => (HO.out.lt j hj).1)
      have hbx : W4.heap[wo.heap.size]? = some (.cells (elC e).toArray 84 (0, 0)) :=
        (hgrow.block wo.heap.size (by simp; omega) (fun e' => by have := (HO.out.lt _ e'.symm).2; omega)).trans ((Below.heap_alloc _ _ _ (by simp)).trans (heap_alloc_new wo _))
      have hgw : gw < wo.heap.size := (HWT.out.lt gw rfl).2
      have hbxl := (Array.getElem?_eq_some_iff.1 hbx).1
      have HSx := Lib.hid (fun W' (hW : Below W4.heap.size W4 W') => (show W'.cell? ⟨wo.heap.size, 0, none⟩ = some (.int .i64 e.id.s.T) ∧ W'.cell? ⟨wo.heap.size, 1, none⟩ = some (.int .i64 e.id.s.R) ∧ W'.cell? ⟨wo.heap.size, 2, none⟩ = some (.int .i64 e.id.I) from
        ⟨(hW.cell (p := ⟨wo.heap.size, 0, none⟩) hbxl).trans (cell_of_row _ _ 0 _ _ _ hbx), (hW.cell (p := ⟨wo.heap.size, 1, none⟩) hbxl).trans (cell_of_row _ _ 1 _ _ _ hbx), (hW.cell (p := ⟨wo.heap.size, 2, none⟩) hbxl).trans (cell_of_row _ _ 2 _ _ _ hbx)⟩))
      obtain ⟨bx, hbxe⟩ : ∃ k, wo.heap.size = k := ⟨_, rfl⟩
      rw [hbxe] at hbx HSx hgw
      have hlk := (HM.out W4.drew hb4.drew).look e.id
      unfold idV at hlk
      have HROW := Lib.hid ((HM.out W4.drew hb4.drew).rows e.id)
      have HO4 := Lib.hid hO4
      have HC4 := Lib.hid (own_drew' hC4)
      have HA1 := Lib.hid hA1
      have HB4 := Lib.hid hb4
      have HBX := Lib.hid hbx
      have hw14 : w1.heap.size ≤ W4.heap.size := hb4.size
      have k1 : Below W4.heap.size W4 W4.drew := (Below.refl _ W4).drew
      have hbxl2 : bx < W4.heap.size := by rw [← hbxe]; exact hbxl
      clear hown hgrow hat hO4 hA1 hC4 hb4 hbx hbxl c0 c1 c2 c3 hws HO HA HWT HCUT
      simp only [hbxe]
      clear hbxe
      go_wp2
      go_region_held3 (fun W' => W'.cell? ⟨bx, 0, none⟩ = some (.int .i64 e.id.s.T) ∧ W'.cell? ⟨bx, 1, none⟩ = some (.int .i64 e.id.s.R) ∧ W'.cell? ⟨bx, 2, none⟩ = some (.int .i64 e.id.I))
        (first | exact HSx.out _ k1 | exact hS5 | go_keep)
        (first
          | (refine step_append_row _ (by rfl) _ _ _ (by rfl) w1.heap.size 84 i0 _ 4 40 Tryd.underlying75 hi hz0 hz1 hz2 rfl (by omega) _ n1 _ (by rfl) HC4.out (hdV (hd e.id)) w.heap.size (S e.id).length _ (by rfl) HROW.out (elC_list _) (by unfold maxLen; omega) (by omega) hw14 ?_
             intro v' W5 hown5 hgrow5 hat5
             have hx5 : W5.heap[bx]? = some (.cells (elC e).toArray 84 (0, 0)) := (hgrow5.block bx hbxl2 (fun e' => by have : bx = gw := (by simpa [Value.ownBlock] using e'); omega)).trans HBX.out
             have hS5 : W5.cell? ⟨bx, 0, none⟩ = some (.int .i64 e.id.s.T) ∧ W5.cell? ⟨bx, 1, none⟩ = some (.int .i64 e.id.s.R) ∧ W5.cell? ⟨bx, 2, none⟩ = some (.int .i64 e.id.I) := ⟨cell_of_row _ _ 0 _ _ _ hx5, cell_of_row _ _ 1 _ _ _ hx5, cell_of_row _ _ 2 _ _ _ hx5⟩))
      have hl' : (O ++ [(p, e)]).length = O.length + 1 := by simp
      have HRel := Lib.hid (show OrdRel (Counts (flat R)) w1 (.slice (some ⟨g4, 0, none⟩) (O.length + 1) cap4) v' W5 from
        ⟨O ++ [(p, e)], kids El.id S p e.id ++ rest, HSTEP.out, by rw [hl']; exact (own_drew' HO4.out).kept hgrow5 HA1.out.symm.kept, by rw [HKL.out, HKR.out]; exact hown5, (HA1.out.symm.new (own_drew' HO4.out) hat5 (Nat.le_refl _)).symm, HB4.out.drew.grown hgrow5 HB4.out.size (fun j hj => (HC4.out.lt j hj).1)⟩)
      clear hown5 hgrow5 hat5 hx5 hS5 hlk k1
      go_wp2
      go_roundw
      case rel => exact HRel.out
      case measure => have := HLE.out; simp [lenOf]; omega
end Go.Proofs.YtphapjbfaomblaaDoor
