/- Texts of this seat, one behind the other: HD, KO, KA. -/
import Derived.Test.YtphapjbfaomblaaDoorZb25
import Derived.Test.YtphapjbfaomblaaDoorZb23
import Derived.Test.YtphapjbfaomblaaDoorZb3
import Derived.BigRegion
import Derived.IntWalk
/- Arguments that are picks, or bytes: opened. -/
namespace Go.Proofs.YtphapjbfaomblaaDoor
open Go Go.RowKit Go.ChangeShapes Go.WideShapes
theorem u8_bounds {x : Int} (h : (Lit.int .u8 x).wf = true) : 0 ≤ x ∧ x ≤ 255 := by
  have h1 : IntKind.u8.min = 0 := rfl
  have h2 : IntKind.u8.max = 255 := rfl
  unfold Lit.wf at h
  simp [h1, h2] at h
  omega
theorem co78 : Tryd.prog.cellsOf 78 = 3 := by kernel_rfl
theorem co5 : Tryd.prog.cellsOf 5 = 1 := by kernel_rfl
section
variable {H : Type} {enc : TypeId × Value → H} {W : World} {base : Nat} {sp : Nat → Bool} {held : Bool}
theorem trod5 {n : Nat} {cs : List Value} {y : DataW H × List MemPlace} (h : DataW.trod enc Tryd.prog W base sp held n 5 cs = some y) : ∃ a : Nat, a < 256 ∧ cs = [.int .u8 a] := by
  cases n with
  | zero => simp [DataW.trod] at h
  | succ n =>
    rw [DataW.trod_step] at h
    unfold DataW.trodStep at h
    simp only [Tryd.underlying5] at h
    match cs, h with
    | [.int q a], h =>
      simp at h
      obtain ⟨⟨rfl, hw⟩, _⟩ := h
      have hb := u8_bounds hw
      exact ⟨a.toNat, by omega, by congr 2; omega⟩
theorem trod78 {n : Nat} {cs : List Value} {y : DataW H × List MemPlace} (h : DataW.trod enc Tryd.prog W base sp held n 78 cs = some y) : ∃ x : Pick, cs = pickC x := by
  cases n with
  | zero => simp [DataW.trod] at h
  | succ n =>
    rw [DataW.trod_step] at h
    unfold DataW.trodStep at h
    simp only [Tryd.underlying78] at h
    split at h
    · rename_i hl
      rw [co78] at hl
      obtain ⟨c0, c1, c2, rfl⟩ := len3 hl
      simp [co5, Option.bind_eq_some_iff] at h
      obtain ⟨_, _, h0, _, ⟨_, _, h1, _, ⟨_, _, h2, _⟩, _⟩, _⟩ := h
      obtain ⟨a, ha, wa⟩ := trod5 h0
      obtain ⟨b, hb, wb⟩ := trod5 h1
      obtain ⟨c, hc, wc⟩ := trod5 h2
      cases wa; cases wb; cases wc
      exact ⟨⟨a, b, c, ha, hb, hc⟩, rfl⟩
    · cases h
set_option maxRecDepth 1000000 in
theorem open_picks {v : Value} {d : DataW H} {ps : List MemPlace} (hval : Value.okWide Tryd.prog W .any base 36 v) (h : DataW.Trod enc Tryd.prog W 0 (fun _ => true) true 36 v d ps) :
    ∃ (A : Option Addr) (n c : Nat) (L : List Pick), v = .slice A n c ∧ Rd W W.heap.size 3 (.slice A n c) n (L.flatMap pickC) := by
  obtain ⟨A, n, c, m, E, D, Pl, rfl, hR, _, _, hE⟩ := open_rd (k := 3) Tryd.underlying36 co78 (by decide) hval h
  obtain ⟨L, _, hL⟩ := list_of (f := pickC) n E (fun i hi => trod78 (hE i hi).2)
  exact ⟨A, n, c, L, rfl, hL ▸ hR⟩
end
end Go.Proofs.YtphapjbfaomblaaDoor
/- Arguments that are rows of bytes: opened. -/
namespace Go.Proofs.YtphapjbfaomblaaDoor
open Go Go.RowKit Go.ChangeShapes Go.WideShapes
section
variable {H : Type} {enc : TypeId × Value → H} {W : World} {base : Nat}
set_option maxRecDepth 1000000 in
theorem open_u8s {v : Value} {d : DataW H} {ps : List MemPlace} (hval : Value.okWide Tryd.prog W .any base 48 v) (h : DataW.Trod enc Tryd.prog W 0 (fun _ => true) true 48 v d ps) :
    ∃ (A : Option Addr) (n c : Nat) (L : List Nat), v = .slice A n c ∧ (∀ x ∈ L, x < 256) ∧ Rd W W.heap.size 1 (.slice A n c) n (L.flatMap ubC) := by
  obtain ⟨A, n, c, m, E, D, Pl, rfl, hR, _, _, hE⟩ := open_rd (k := 1) Tryd.underlying48 co5 (by decide) hval h
  obtain ⟨L, _, hL⟩ := list_of (f := fun x : Fin 256 => ubC x.val) n E (fun i hi => by
    obtain ⟨a, ha, e⟩ := trod5 (hE i hi).2
    exact ⟨⟨a, ha⟩, e⟩)
  refine ⟨A, n, c, L.map Fin.val, rfl, fun x hx => ?_, ?_⟩
  · obtain ⟨y, _, rfl⟩ := List.mem_map.1 hx
    exact y.isLt
  · rw [List.flatMap_map]
    exact hL ▸ hR
end
end Go.Proofs.YtphapjbfaomblaaDoor
/- The document's behind: what stands behind one, the newest first. -/
namespace Go.Proofs.YtphapjbfaomblaaDoor
open Go Go.RowKit
def reC (e : El) : List Value := [.int .i64 e.id.s.T, .int .i64 e.id.s.R, .int .i64 e.id.I, .int .i64 e.af.s.T, .int .i64 e.af.s.R, .int .i64 e.af.I, .string e.pc]
theorem reC_one (x : El) : ∀ u ∈ reC x, u.oneCell' = true := by
  intro u hu
  simp [reC] at hu
  rcases hu with rfl | rfl | rfl | rfl | rfl | rfl | rfl <;> rfl
theorem info112 : (Tryd.prog.info? 112).map (fun i => (i.zero, i.size, i.bytes)) = some (some (.agg #[.int .i64 0, .int .i64 0, .int .i64 0, .int .i64 0, .int .i64 0, .int .i64 0, .string ⟨#[]⟩]), 7, 64) := by kernel_rfl
theorem own_drewR {w : World} {base : Nat} {e : TypeId} {K n : Nat} {v : Value} {xs : List Value} (h : w.ownsRow base e K v n xs) : w.drew.ownsRow base e K v n xs := h
theorem own_drewNR {w : World} {base : Nat} {e : TypeId} {K n : Nat} {v : Value} {xs : List Value} (h : w.ownsRow base e K v n xs) (q : Nat) : (w.drewN q).ownsRow base e K v n xs := h
theorem list_snoc {α : Type} (P : List α) : P = [] ∨ ∃ P' y, P = P' ++ [y] := by
  rcases List.eq_nil_or_concat P with h | ⟨P', y, h⟩
  · exact .inl h
  · exact .inr ⟨P', y, by simpa using h⟩
theorem icmp_id_pos (a b : Id) : 0 < a.cmp b ↔ b.Lt a := by
  constructor
  · intro h
    rcases idSTO.total a b with h1 | h1 | h1
    · have := (icmp_id_neg a b).2 h1; omega
    · have := (icmp_id_zero a b).2 h1; omega
    · exact h1
  · intro h
    have h1 : ¬ a.cmp b < 0 := fun h2 => idSTO.asymm h ((icmp_id_neg a b).1 h2)
    have h2 : ¬ a.cmp b = 0 := fun h2 => by rw [(icmp_id_zero a b).1 h2] at h; exact idSTO.irrefl _ h
    omega
theorem flipI : STO (fun a b : Id => b.Lt a) where
  irrefl a := idSTO.irrefl a
  trans a b c h k := idSTO.trans c b a k h
  total a b := by
    rcases idSTO.total a b with h | h | h
    · exact .inr (.inr h)
    · exact .inr (.inl h)
    · exact .inl h
def FallI (L : List El) : Prop := (L.map El.id).Pairwise (fun a b => b.Lt a)
theorem fallI_put {P S : List El} {x : El} (h : FallI (P ++ S)) (hx : ∀ g ∈ P ++ S, g.id ≠ x.id) (hS : ∀ y ∈ S, y.id.Lt x.id) (hP : ∀ z, P.getLast? = some z → ¬ z.id.Lt x.id) : FallI (P ++ x :: S) := by
  unfold FallI at *
  rw [List.map_append] at h
  rw [List.map_append, List.map_cons]
  refine sorted_put flipI h ?_ ?_ ?_
  · intro hm
    rw [← List.map_append, List.mem_map] at hm
    obtain ⟨g, hg, e⟩ := hm
    exact hx g hg e
  · intro y hy
    obtain ⟨g, hg, rfl⟩ := List.mem_map.1 hy
    exact hS g hg
  · intro z hz
    rw [List.getLast?_map] at hz
    obtain ⟨g, hg, rfl⟩ := Option.map_eq_some_iff.1 hz
    exact hP g hg
/-- what stands behind one, the newest first -/
def BehP (G : List El) (x : Id) (M : List El) : Prop := FallI M ∧ (∀ e, e ∈ M ↔ e ∈ G ∧ e.af = x) ∧ M.length ≤ G.length
def BehPost (all : List El) (x : Id) (w : World) (e : Ending) (w' : World) : Prop := ∃ v M, e = .returned v ∧ w'.ownsRow w.heap.size 112 7 v M.length (M.flatMap reC) ∧ BehP all x M ∧ Below w.heap.size w w'
def BehRel (all : List El) (x : Id) (w1 : World) (out i : Value) (wr : World) : Prop := ∃ k : Nat, k ≤ all.length ∧ i = .int .i64 k ∧ ∃ M, wr.ownsRow w1.heap.size 112 7 out M.length (M.flatMap reC) ∧ BehP (all.take k) x M ∧ Below w1.heap.size w1 wr
def InsRelB (L : List El) (x : El) (n : Nat) (w : World) (v : Value) (i : Value) (wr : World) : Prop :=
  ∃ P S, L = P ++ S ∧ i = .int .i64 (P.length : Nat) ∧ (∀ y ∈ S, y.id.Lt x.id) ∧ wr.ownsRow w.heap.size 112 7 v n ((P ++ x :: S).flatMap reC) ∧ Below w.heap.size w wr
theorem take_unlike {all : List El} (hu : UnlikeK El.id all) {k : Nat} (hlt : k < all.length) : ∀ g ∈ all.take k, g.id ≠ all[k].id := by
  intro g hg e
  have h1 : all = all.take k ++ all[k] :: all.drop (k + 1) := by rw [List.getElem_cons_drop, List.take_append_drop]
  unfold UnlikeK at hu
  rw [h1, List.pairwise_append] at hu
  exact hu.2.2 g hg _ (List.mem_cons_self ..) e
theorem behP_no {all : List El} {x : Id} {k : Nat} {M : List El} (hlt : k < all.length) (h : BehP (all.take k) x M) (hx : all[k].af ≠ x) : BehP (all.take (k + 1)) x M := by
  refine ⟨h.1, fun e => ?_, ?_⟩
  · rw [h.2.1 e, List.take_succ_eq_append_getElem hlt, List.mem_append, List.mem_singleton]
    constructor
    · rintro ⟨h1, h2⟩; exact ⟨.inl h1, h2⟩
    · rintro ⟨h1 | rfl, h2⟩
      · exact ⟨h1, h2⟩
      · exact absurd h2 hx
  · have := h.2.2
    rw [List.take_succ_eq_append_getElem hlt, List.length_append]
    omega
theorem behP_yes {all : List El} {x : Id} {k : Nat} {M P S : List El} (hu : UnlikeK El.id all) (hlt : k < all.length) (h : BehP (all.take k) x M) (hx : all[k].af = x) (hM : M = P ++ S) (hS : ∀ y ∈ S, y.id.Lt all[k].id) (hP : ∀ z, P.getLast? = some z → ¬ z.id.Lt all[k].id) : BehP (all.take (k + 1)) x (P ++ all[k] :: S) := by
  refine ⟨fallI_put (hM ▸ h.1) (fun g hg => take_unlike hu hlt g ((h.2.1 g).1 (hM ▸ hg)).1) hS hP, fun e => ?_, ?_⟩
  · rw [mem_put, ← hM, h.2.1 e, List.take_succ_eq_append_getElem hlt, List.mem_append, List.mem_singleton]
    constructor
    · rintro (rfl | ⟨h1, h2⟩)
      · exact ⟨.inr rfl, hx⟩
      · exact ⟨.inl h1, h2⟩
    · rintro ⟨h1 | rfl, h2⟩
      · exact .inr ⟨h1, h2⟩
      · exact .inl rfl
  · have := h.2.2
    rw [hM, List.length_append] at this
    rw [List.take_succ_eq_append_getElem hlt, List.length_append, List.length_append, List.length_cons, List.length_singleton]
    omega
def swapE (w : World) (g j : Nat) (y x : El) : World :=
  ((((((((((((((w.setCell ⟨g, j * 7 + 7, none⟩ (.int .i64 y.id.s.T)).setCell ⟨g, j * 7 + 7 + 1, none⟩ (.int .i64 y.id.s.R)).setCell ⟨g, j * 7 + 7 + 2, none⟩ (.int .i64 y.id.I)).setCell ⟨g, j * 7 + 7 + 3, none⟩ (.int .i64 y.af.s.T)).setCell ⟨g, j * 7 + 7 + 4, none⟩ (.int .i64 y.af.s.R)).setCell ⟨g, j * 7 + 7 + 5, none⟩ (.int .i64 y.af.I)).setCell ⟨g, j * 7 + 7 + 6, none⟩ (.string y.pc)).setCell ⟨g, j * 7, none⟩ (.int .i64 x.id.s.T)).setCell ⟨g, j * 7 + 1, none⟩ (.int .i64 x.id.s.R)).setCell ⟨g, j * 7 + 2, none⟩ (.int .i64 x.id.I)).setCell ⟨g, j * 7 + 3, none⟩ (.int .i64 x.af.s.T)).setCell ⟨g, j * 7 + 4, none⟩ (.int .i64 x.af.s.R)).setCell ⟨g, j * 7 + 5, none⟩ (.int .i64 x.af.I)).setCell ⟨g, j * 7 + 6, none⟩ (.string x.pc)).drew
theorem swapE_eq (w : World) (g j : Nat) (y x : El) : swapE w g j y x = ((w.setCells g (j * 7 + 7) (reC y)).setCells g (j * 7) (reC x)).drew := rfl
theorem swapE_own {w : World} {base : Nat} {n g cap j : Nat} {P S : List El} {y x : El} (hj : P.length = j) (h : w.ownsRow base 112 7 (.slice (some ⟨g, 0, none⟩) n cap) n ((P ++ y :: x :: S).flatMap reC)) (hn : 0 < n) :
    (swapE w g j y x).ownsRow base 112 7 (.slice (some ⟨g, 0, none⟩) n cap) n ((P ++ x :: y :: S).flatMap reC) := by
  have := own_swap (enc := reC) (k := 7) (fun _ => rfl) h hn
  rw [hj] at this
  rw [swapE_eq]
  exact own_drewR this
theorem swapE_below {B : Nat} {a w : World} (h : Below B a w) {g : Nat} (hg : B ≤ g) (j : Nat) (y x : El) : Below B a (swapE w g j y x) := by
  rw [swapE_eq]
  exact (setCells_below (setCells_below h hg _ _) hg _ _).drew
set_option maxRecDepth 100000 in
set_option maxHeartbeats 8000000 in
theorem behind_any (all : List El) (x : Id) (A : Option Addr) (n c B : Nat) (w : World) (hR : Rd w B 7 (.slice A n c) n (all.flatMap reC)) (hB : B ≤ w.heap.size) (hu : UnlikeK El.id all) (hn : n ≤ 100000) :
    Calls Tryd.prog 60 #[.slice A n c, idV x] w (BehPost all x w) := by
  obtain rfl := len_of reC 7 (fun _ => rfl) (by decide) hR.1
  have HR := Lib.hid hR
  have HU := Lib.hid hu
  clear hR hu
  obtain ⟨i0, hi, hz0, hz1, hz2⟩ := info_parts info112
  unfold idV
  go_enter Tryd.func60, Tryd.ntmps60
  go_wp2
  obtain ⟨W0, hW0⟩ : ∃ W, w.alloc (.cells #[.int .i64 x.s.T, .int .i64 x.s.R, .int .i64 x.I] 26) = W := ⟨_, rfl⟩
  have hbW : Below w.heap.size w W0 := by rw [← hW0]; exact (Below.refl _ w).alloc (Nat.le_refl _) _
  have hb1 : W0.heap[w.heap.size]? = some (.cells #[.int .i64 x.s.T, .int .i64 x.s.R, .int .i64 x.I] 26 (0, 0)) := by rw [← hW0]; exact heap_alloc_new w _
  rw [hW0]
  obtain ⟨bx, hbx⟩ : ∃ z, w.heap.size = z := ⟨_, rfl⟩
  have hbx0 : bx < W0.heap.size := by rw [← hbx]; exact (Array.getElem?_eq_some_iff.1 hb1).1
  have HBX := Lib.hid hbx
  have HBW := Lib.hid hbW
  have hR1 := HR.out.below' hbW hB
  rw [hbx] at hb1
  simp only [hbx]
  have HX := Lib.hid (fun W' (hW : Below W0.heap.size W0 W') => (show W'.cell? ⟨bx, 0, none⟩ = some (.int .i64 x.s.T) ∧ W'.cell? ⟨bx, 1, none⟩ = some (.int .i64 x.s.R) ∧ W'.cell? ⟨bx, 2, none⟩ = some (.int .i64 x.I) from by
    have h := (hW.block bx hbx0).trans hb1
    exact ⟨cell_of_row _ _ 0 _ _ _ h, cell_of_row _ _ 1 _ _ _ h, cell_of_row _ _ 2 _ _ _ h⟩))
  have HR1 := Lib.hid (fun W' (hW : Below W0.heap.size W0 W') => hR1.below' hW (Nat.le_trans hB hbW.size))
  have hBW : B ≤ W0.heap.size := Nat.le_trans hB hbW.size
  clear hW0 hb1 hbx hbW hR1 HR hbx0
  go_loopw [5, 6] (fun out i wr => BehRel all x W0 out i wr) (fun _ i _ => all.length - (intOf i).toNat)
  case atStart => exact ⟨0, Nat.zero_le _, rfl, [], World.ownsRow_nil _ _ _ _, ⟨List.Pairwise.nil, fun e => by simp, Nat.zero_le _⟩, Below.refl _ _⟩
  case round =>
    obtain ⟨k, hk, rfl, M, hO, hM, hb⟩ := hrel
    obtain ⟨Av, cv, rfl, hLc, hcm2⟩ := (Rd.of_own hO).form
    have HO := Lib.hid hO
    have HM := Lib.hid hM
    have hL := hM.2.2
    have hL1 : M.length ≤ k := by rw [List.length_take, Nat.min_eq_left hk] at hL; exact hL
    obtain ⟨x0, x1, x2⟩ := HX.out wr hb
    have hRk := HR1.out wr hb
    clear hO hM hL
    obtain ⟨wo, rfl⟩ : ∃ wo : World, wo = wr := ⟨_, rfl⟩
    by_cases hlt : k < all.length
    · obtain ⟨ba, oa, rfl, hBa, hca⟩ := rd_at reC 7 (fun _ => rfl) (by decide) hRk hlt
      have hyes := fun P S h1 h2 h3 h4 => behP_yes (P := P) (S := S) HU.out hlt HM.out h1 h2 h3 h4
      have hno := behP_no hlt HM.out
      obtain ⟨e, he⟩ : ∃ e, all[k] = e := ⟨_, rfl⟩
      rw [he] at hca hyes hno
      have d0 : wo.cell? ⟨ba, oa + k * 7, none⟩ = some (.int .i64 e.id.s.T) := hca 0 _ rfl
      have d1 : wo.cell? ⟨ba, oa + k * 7 + 1, none⟩ = some (.int .i64 e.id.s.R) := hca 1 _ rfl
      have d2 : wo.cell? ⟨ba, oa + k * 7 + 2, none⟩ = some (.int .i64 e.id.I) := hca 2 _ rfl
      have d3 : wo.cell? ⟨ba, oa + k * 7 + 3, none⟩ = some (.int .i64 e.af.s.T) := hca 3 _ rfl
      have d4 : wo.cell? ⟨ba, oa + k * 7 + 4, none⟩ = some (.int .i64 e.af.s.R) := hca 4 _ rfl
      have d5 : wo.cell? ⟨ba, oa + k * 7 + 5, none⟩ = some (.int .i64 e.af.I) := hca 5 _ rfl
      have d6 : wo.cell? ⟨ba, oa + k * 7 + 6, none⟩ = some (.string e.pc) := hca 6 _ rfl
      have HYES := Lib.hid hyes
      have HNO := Lib.hid hno
      have hE := eq3_id e.af x
      obtain ⟨bb, hbb⟩ : ∃ bb, decide (e.af = x) = bb := ⟨_, rfl⟩
      rw [hbb] at hE
      have HBB := Lib.hid hbb
      have hq := neq26
      have hgd := gd26
      have i1 : (0 : Int) ≤ (k : Int) := by omega
      have i2 : (k : Int) < (all.length : Int) := by omega
      have hbal : ba < wo.heap.size := Nat.lt_of_lt_of_le hBa (Nat.le_trans hBW hb.size)
      clear hca hyes hno he hbb hRk
      cases bb
      · go_wp2
        go_quiet (fail)
        go_wp2
        go_roundw
        case rel => exact ⟨k + 1, by omega, by go_num, M, own_drewNR HO.out _, HNO.out (of_decide_eq_false HBB.out), below_drewN hb _⟩
        case measure => simp [intOf]; omega
      · go_wp2
        go_quiet (fail)
        have q0 : (wo.drewN nq).cell? ⟨ba, oa + k * 7, none⟩ = some (.int .i64 e.id.s.T) := d0
        have q1 : (wo.drewN nq).cell? ⟨ba, oa + k * 7 + 1, none⟩ = some (.int .i64 e.id.s.R) := d1
        have q2 : (wo.drewN nq).cell? ⟨ba, oa + k * 7 + 2, none⟩ = some (.int .i64 e.id.I) := d2
        have q3 : (wo.drewN nq).cell? ⟨ba, oa + k * 7 + 3, none⟩ = some (.int .i64 e.af.s.T) := d3
        have q4 : (wo.drewN nq).cell? ⟨ba, oa + k * 7 + 4, none⟩ = some (.int .i64 e.af.s.R) := d4
        have q5 : (wo.drewN nq).cell? ⟨ba, oa + k * 7 + 5, none⟩ = some (.int .i64 e.af.I) := d5
        have q6 : (wo.drewN nq).cell? ⟨ba, oa + k * 7 + 6, none⟩ = some (.string e.pc) := d6
        have hbq : Below W0.heap.size W0 (wo.drewN nq) := below_drewN hb _
        have hOq := Lib.hid (own_drewNR HO.out nq)
        generalize wo.drewN nq = W3 at *
        clear d0 d1 d2 d3 d4 d5 d6 hb HO hcm2 x0 x1 x2 hbal
        go_wp2_with (at_builtin; refine wpList_append_own _ rfl _ _ 60 rfl W0.heap.size 112 i0 _ 7 64 Tryd.underlying60 hi hz0 hz1 hz2 rfl (by decide) _ _ _ rfl (hOq.out.alloc _) ⟨W3.heap.size, 0, none⟩ 1 1 (reC e) rfl rfl ?qc2 (reC_one e) ?qc4 ?qc5 ?qc6 ?_)
        case qc2 => exact cells_new W3 (reC e) 112
        case qc4 => unfold maxLen; omega
        case qc5 => omega
        case qc6 => have := hbq.size; simp; omega
        intro v' W4 hown hgrow _
        obtain ⟨g, cap, rfl, hgB, hgc, hgm, ho4⟩ := own_snoc hown
        have hb4 : Below W0.heap.size W0 W4 := (hbq.alloc hbq.size _).grown hgrow (by have := hbq.size; simp; omega) (fun j hj => (hOq.out.lt j hj).1)
        clear hown
        obtain ⟨n1, hn1⟩ : ∃ n1, M.length + 1 = n1 := ⟨_, rfl⟩
        have hn1k : n1 ≤ k + 1 := by omega
        rw [hn1] at ho4 hgc ⊢
        have HN1 := Lib.hid hn1
        have HO4 := Lib.hid ho4
        have i3 : (n1 : Int) - 1 = (M.length : Int) := by omega
        unfold maxLen at hgm
        clear hgrow ho4 hOq hbq hn1 q0 q1 q2 q3 q4 q5 q6
        go_wp2
        go_loopw [7] (fun i wr => InsRelB M e n1 W0 (.slice (some ⟨g, 0, none⟩) n1 cap) i wr) (fun i _ => (intOf i).toNat)
        case atStart => exact ⟨M, [], by simp, by first | rfl | (congr 1; omega), by simp, HO4.out, hb4⟩
        case round =>
          obtain ⟨P, S, hLe, rfl, hSlt, hOr, hbr⟩ := hrel
          have HLe := Lib.hid hLe
          have HSl := Lib.hid hSlt
          have HOr := Lib.hid hOr
          have hgl : g < wr.heap.size := (hOr.lt g rfl).2
          clear hLe hSlt hOr hb4 HO4 i3
          rcases list_snoc P with rfl | ⟨P', y, rfl⟩
          · have HF := Lib.hid (show BehP (all.take (k + 1)) x (e :: S) from HYES.out [] S (of_decide_eq_true HBB.out) HLe.out HSl.out (by simp))
            have HLn := Lib.hid (show (e :: S).length = n1 from by have := HLe.out; have := HN1.out; simp_all)
            go_wp2
            go_quiet (fail)
            go_wp2
            go_roundw
            case rel => exact ⟨k + 1, by omega, by go_num, e :: S, by rw [HLn.out]; exact own_grows HOr.out ((Grows.refl wr).drewN nq).below, HF.out, hbr.trans (((Grows.refl wr).drewN nq).below.mono hbr.size)⟩
            case measure => simp [intOf]; omega
          · obtain ⟨j, hj⟩ : ∃ j, P'.length = j := ⟨_, rfl⟩
            have hkj : ((P' ++ [y]).length : Int) = (j : Int) + 1 := by rw [List.length_append, hj]; rfl
            rw [hkj]
            have hM1 : (P' ++ [y]) ++ e :: S = P' ++ y :: e :: S := by simp
            rw [hM1] at HOr
            have hjl : j + 1 < n1 := by have := congrArg List.length HLe.out; have := HN1.out; simp at *; omega
            have cy : ∀ r u, (reC y)[r]? = some u → wr.cell? ⟨g, j * 7 + r, none⟩ = some u := fun r u hu => (own_cell HOr.out _ u (hj ▸ flat_mid reC 7 (fun _ => rfl) P' (e :: S) y r u hu)).1
            have cx : ∀ r u, (reC e)[r]? = some u → wr.cell? ⟨g, (j + 1) * 7 + r, none⟩ = some u := fun r u hu => (own_cell HOr.out _ u (by
              have := flat_mid reC 7 (fun _ => rfl) (P' ++ [y]) S e r u hu
              rw [List.length_append, hj] at this
              simpa using this)).1
            have hk3 : (j + 1) * 7 = j * 7 + 7 := by omega
            rw [hk3] at cx
            have HJ := Lib.hid hj
            have HC := Lib.hid (fun w => rcmpId_any e.id y.id w)
            unfold idV at HC
            obtain ⟨r, hr⟩ : ∃ r, e.id.cmp y.id = r := ⟨_, rfl⟩
            rw [hr] at HC
            have HRR := Lib.hid hr
            clear hr
            have a0 : ∀ n os, (Sort.grow (wr.drewN n) os).cell? ⟨g, j * 7, none⟩ = some (.int .i64 y.id.s.T) := fun n os => cell_grown hgl (cy 0 _ rfl) n os
            have a1 : ∀ n os, (Sort.grow (wr.drewN n) os).cell? ⟨g, j * 7 + 1, none⟩ = some (.int .i64 y.id.s.R) := fun n os => cell_grown hgl (cy 1 _ rfl) n os
            have a2 : ∀ n os, (Sort.grow (wr.drewN n) os).cell? ⟨g, j * 7 + 2, none⟩ = some (.int .i64 y.id.I) := fun n os => cell_grown hgl (cy 2 _ rfl) n os
            have a3 : ∀ n os, (Sort.grow (wr.drewN n) os).cell? ⟨g, j * 7 + 3, none⟩ = some (.int .i64 y.af.s.T) := fun n os => cell_grown hgl (cy 3 _ rfl) n os
            have a4 : ∀ n os, (Sort.grow (wr.drewN n) os).cell? ⟨g, j * 7 + 4, none⟩ = some (.int .i64 y.af.s.R) := fun n os => cell_grown hgl (cy 4 _ rfl) n os
            have a5 : ∀ n os, (Sort.grow (wr.drewN n) os).cell? ⟨g, j * 7 + 5, none⟩ = some (.int .i64 y.af.I) := fun n os => cell_grown hgl (cy 5 _ rfl) n os
            have a6 : ∀ n os, (Sort.grow (wr.drewN n) os).cell? ⟨g, j * 7 + 6, none⟩ = some (.string y.pc) := fun n os => cell_grown hgl (cy 6 _ rfl) n os
            have b0 : ∀ n os, (Sort.grow (wr.drewN n) os).cell? ⟨g, j * 7 + 7, none⟩ = some (.int .i64 e.id.s.T) := fun n os => cell_grown hgl (cx 0 _ rfl) n os
            have b1 : ∀ n os, (Sort.grow (wr.drewN n) os).cell? ⟨g, j * 7 + 8, none⟩ = some (.int .i64 e.id.s.R) := fun n os => cell_grown hgl (cx 1 _ rfl) n os
            have b2 : ∀ n os, (Sort.grow (wr.drewN n) os).cell? ⟨g, j * 7 + 9, none⟩ = some (.int .i64 e.id.I) := fun n os => cell_grown hgl (cx 2 _ rfl) n os
            have b3 : ∀ n os, (Sort.grow (wr.drewN n) os).cell? ⟨g, j * 7 + 10, none⟩ = some (.int .i64 e.af.s.T) := fun n os => cell_grown hgl (cx 3 _ rfl) n os
            have b4 : ∀ n os, (Sort.grow (wr.drewN n) os).cell? ⟨g, j * 7 + 11, none⟩ = some (.int .i64 e.af.s.R) := fun n os => cell_grown hgl (cx 4 _ rfl) n os
            have b5 : ∀ n os, (Sort.grow (wr.drewN n) os).cell? ⟨g, j * 7 + 12, none⟩ = some (.int .i64 e.af.I) := fun n os => cell_grown hgl (cx 5 _ rfl) n os
            have b6 : ∀ n os, (Sort.grow (wr.drewN n) os).cell? ⟨g, j * 7 + 13, none⟩ = some (.string e.pc) := fun n os => cell_grown hgl (cx 6 _ rfl) n os
            have i3 : (0 : Int) ≤ (j : Int) + 1 := by omega
            have i4 : (j : Int) + 1 < (n1 : Int) := by omega
            have i5 : (0 : Int) ≤ (j : Int) := by omega
            have i6 : (j : Int) < (n1 : Int) := by omega
            have i7 : (0 : Int) < (j : Int) + 1 := by omega
            have hw : IntKind.i64.wrap (j : Int) = j := IntWalk.i64_in _ (by omega)
            clear hj hkj hM1 cx cy
            rcases hc : decide (0 < r) with _ | _
            · have HCn := Lib.hid hc
              go_wp2
              refine region_grown (by kernel_rfl) (by kernel_rfl) ?_
              repeat (quiet_step ((go_at_call 17; exact grown_of_grows (HC.out _))))
              refine wpQuiet_nil ?_
              rintro W ⟨⟨nq, osq⟩, hW⟩
              have hgW : Grows wr W := ⟨nq, osq, hW⟩
              have hbW := hbr.trans (hgW.below.mono hbr.size)
              have HOW := Lib.hid (own_grows HOr.out hgW.below)
              have HF := Lib.hid (show BehP (all.take (k + 1)) x (P' ++ y :: e :: S) from by
                have := HYES.out (P' ++ [y]) S (of_decide_eq_true HBB.out) HLe.out HSl.out (by
                  intro z hz
                  have : y = z := by simpa using hz
                  subst this
                  intro h
                  have h2 := (icmp_id_pos _ _).2 h
                  rw [HRR.out] at h2
                  have := HCn.out
                  simp at this
                  omega)
                simpa using this)
              have HLn := Lib.hid (show (P' ++ y :: e :: S).length = n1 from by have := congrArg List.length HLe.out; have := HN1.out; simp at *; omega)
              clear hW hgW hbr a0 a1 a2 a3 a4 a5 a6 b0 b1 b2 b3 b4 b5 b6
              go_wp2
              go_roundw
              case rel => exact ⟨k + 1, by omega, by go_num, _, by rw [HLn.out]; exact HOW.out, HF.out, hbW⟩
              case measure => simp [intOf]; omega
            · have HCn := Lib.hid hc
              go_wp2
              refine region_grown (by kernel_rfl) (by kernel_rfl) ?_
              repeat (quiet_step ((go_at_call 17; exact grown_of_grows (HC.out _))))
              refine wpQuiet_nil ?_
              rintro W ⟨⟨nq, osq⟩, hW⟩
              have hgW : Grows wr W := ⟨nq, osq, hW⟩
              have hbW := hbr.trans (hgW.below.mono hbr.size)
              have hoW := own_grows HOr.out hgW.below
              have A0 : W.cell? ⟨g, j * 7, none⟩ = some (.int .i64 y.id.s.T) := hW ▸ a0 nq osq
              have A1 : W.cell? ⟨g, j * 7 + 1, none⟩ = some (.int .i64 y.id.s.R) := hW ▸ a1 nq osq
              have A2 : W.cell? ⟨g, j * 7 + 2, none⟩ = some (.int .i64 y.id.I) := hW ▸ a2 nq osq
              have A3 : W.cell? ⟨g, j * 7 + 3, none⟩ = some (.int .i64 y.af.s.T) := hW ▸ a3 nq osq
              have A4 : W.cell? ⟨g, j * 7 + 4, none⟩ = some (.int .i64 y.af.s.R) := hW ▸ a4 nq osq
              have A5 : W.cell? ⟨g, j * 7 + 5, none⟩ = some (.int .i64 y.af.I) := hW ▸ a5 nq osq
              have A6 : W.cell? ⟨g, j * 7 + 6, none⟩ = some (.string y.pc) := hW ▸ a6 nq osq
              have B0 : W.cell? ⟨g, j * 7 + 7, none⟩ = some (.int .i64 e.id.s.T) := hW ▸ b0 nq osq
              have B1 : W.cell? ⟨g, j * 7 + 8, none⟩ = some (.int .i64 e.id.s.R) := hW ▸ b1 nq osq
              have B2 : W.cell? ⟨g, j * 7 + 9, none⟩ = some (.int .i64 e.id.I) := hW ▸ b2 nq osq
              have B3 : W.cell? ⟨g, j * 7 + 10, none⟩ = some (.int .i64 e.af.s.T) := hW ▸ b3 nq osq
              have B4 : W.cell? ⟨g, j * 7 + 11, none⟩ = some (.int .i64 e.af.s.R) := hW ▸ b4 nq osq
              have B5 : W.cell? ⟨g, j * 7 + 12, none⟩ = some (.int .i64 e.af.I) := hW ▸ b5 nq osq
              have B6 : W.cell? ⟨g, j * 7 + 13, none⟩ = some (.string e.pc) := hW ▸ b6 nq osq
              have hfz : ∀ i, W.frozen? ⟨g, i, none⟩ = false := own_frozen hoW (by omega)
              have HOW := Lib.hid hoW
              clear hW hgW hbr hoW a0 a1 a2 a3 a4 a5 a6 b0 b1 b2 b3 b4 b5 b6
              go_wp2
              go_region
              have HSW := Lib.hid (swapE_own HJ.out HOW.out (by omega))
              have HBW2 := Lib.hid (swapE_below hbW hgB j y e)
              change Exit.inBlock _ _ _ _ (swapE W g j y e)
              generalize swapE W g j y e = W5 at *
              clear A0 A1 A2 A3 A4 A5 A6 B0 B1 B2 B3 B4 B5 B6 hfz HOW hbW
              go_wp2
              go_roundw
              case rel =>
                refine ⟨P', y :: S, ?_, ?_, ?_, ?_, ?_⟩
                · rw [HLe.out]; simp
                · rw [HJ.out]
                · intro z hz
                  rcases List.mem_cons.1 hz with rfl | hz
                  · exact (icmp_id_pos _ _).1 (by rw [HRR.out]; have := HCn.out; simpa using this)
                  · exact HSl.out z hz
                · exact HSW.out
                · exact HBW2.out
              case measure => simp [intOf]
    · obtain rfl : k = all.length := by omega
      have HF := Lib.hid (show BehPost all x w (.returned (.slice Av M.length cv)) wo from ⟨_, M, rfl, by
        obtain ⟨h1, h2⟩ := HO.out
        exact ⟨h1, h2.imp id fun ⟨g, cap, cur, e1, hg, r⟩ => ⟨g, cap, cur, e1, Nat.le_trans HBW.out.size hg, r⟩⟩, by have := HM.out; rwa [List.take_length] at this, HBW.out.trans (hb.mono HBW.out.size)⟩)
      clear x0 x1 x2 hb
      go_wp2
      go_ret
      exact HF.out
end Go.Proofs.YtphapjbfaomblaaDoor
