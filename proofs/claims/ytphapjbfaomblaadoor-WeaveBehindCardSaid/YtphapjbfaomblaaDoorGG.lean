/- The program's told: names and text of a row of elements. -/
import Derived.Test.YtphapjbfaomblaaDoorGF
import Derived.Test.YtphapjbfaomblaaDoorW15
namespace Go.Proofs.YtphapjbfaomblaaDoor
open Go Go.RowKit
def txt (L : List El) : List UInt8 := (L.map (fun e => e.pc.data.toList)).flatten
theorem txt_snoc (L : List El) (e : El) : txt (L ++ [e]) = txt L ++ e.pc.data.toList := by simp [txt]
theorem byteCells_append (a b : List UInt8) : Lib.byteCells (a ++ b) = Lib.byteCells a ++ Lib.byteCells b := by simp [Lib.byteCells]
theorem strCells_eq (s : ByteArray) : Lib.strCells s = Lib.byteCells s.data.toList := rfl
theorem made_ids (n : Nat) : (madeCells #[.int .i64 0, .int .i64 0, .int .i64 0] (n * 3)).toList = List.replicate (n * 3) (.int .i64 0) := by
  apply List.ext_getElem
  · simp [madeCells]
  · intro i h1 h2
    simp only [List.getElem_replicate]
    have hm : i % 3 = 0 ∨ i % 3 = 1 ∨ i % 3 = 2 := by omega
    simp only [madeCells, Array.getElem_toList, Array.getElem_map, Array.getElem_range]
    rcases hm with h | h | h <;> simp [h]
theorem builder_far {B b g : Nat} {bs : List Value} {w w' : World} (h : Lib.IsBuilderF 105 5 B b bs w) (hg : g < B) (hk : ∀ k, k ≠ g → w'.heap[k]? = w.heap[k]?) : Lib.IsBuilderF 105 5 B b bs w' := by
  have key : ∀ p, Lib.BuilderAtF 105 5 B b p bs w → Lib.BuilderAtF 105 5 B b p bs w' := by
    rintro p ⟨hB, v, h1, h2, h3⟩
    refine ⟨hB, v, (hk b (by omega)).trans h1, ⟨h2.1, ?_⟩, h3⟩
    rcases h2.2 with h4 | ⟨g', cap, cur, fz, h4, h5, h6, h7⟩
    · exact .inl h4
    · exact .inr ⟨g', cap, cur, fz, h4, h5, (hk g' (by omega)).trans h6, h7⟩
  exact h.imp (key _) (key _)
theorem set3_other' {w : World} {g k a b c : Nat} {v u z : Value} (h : k ≠ g) : (((w.setCell ⟨g, a, none⟩ v).setCell ⟨g, b, none⟩ u).setCell ⟨g, c, none⟩ z).heap[k]? = w.heap[k]? := by
  rw [Below.heap_setCell _ _ _ _ h, Below.heap_setCell _ _ _ _ h, Below.heap_setCell _ _ _ _ h]
def ToRel (L : List El) (w : World) (b g : Nat) (i : Value) (wr : World) : Prop :=
  ∃ k : Nat, k ≤ L.length ∧ i = .int .i64 k ∧ Lib.IsBuilderF 105 5 b b (Lib.byteCells (txt (L.take k))) wr ∧ wr.ownsRow w.heap.size 26 3 (.slice (some ⟨g, 0, none⟩) L.length L.length) L.length (((L.take k).map El.id).flatMap idC ++ List.replicate ((L.length - k) * 3) (.int .i64 0)) ∧ Below w.heap.size w wr
def ToPost (L : List El) (w : World) (e : Ending) (w' : World) : Prop :=
  ∃ v, e = .returned (.tuple #[v, .string (ofL (txt L))]) ∧ w'.ownsRow w.heap.size 26 3 v L.length ((L.map El.id).flatMap idC) ∧ Below w.heap.size w w'
theorem info26 : (Tryd.prog.info? 26).map (fun i => (i.zero, i.size, i.bytes)) = some (some (.agg #[.int .i64 0, .int .i64 0, .int .i64 0]), 3, 24) := by kernel_rfl
theorem txt_le (L : List El) (k : Nat) : (txt (L.take k)).length ≤ (txt L).length := by
  have : txt L = txt (L.take k) ++ txt (L.drop k) := by
    unfold txt
    rw [← List.flatten_append, ← List.map_append, List.take_append_drop]
  rw [this, List.length_append]
  omega
set_option maxRecDepth 100000 in
set_option maxHeartbeats 4000000 in
theorem told_any (L : List El) (A : Option Addr) (n c B0 : Nat) (w : World) (hR : Rd w B0 4 (.slice A n c) n (L.flatMap elC)) (hB : B0 ≤ w.heap.size) (hn : L.length ≤ 100000) (hx : (txt L).length ≤ 1000000000) :
    Calls Tryd.prog 40 #[.slice A n c] w (ToPost L w) := by
  obtain ⟨_, hnc, hcm⟩ := hR.len
  unfold maxLen at hcm
  obtain rfl := len_of elC 4 (fun _ => rfl) (by decide) hR.1
  have HR := Lib.hid (fun W (hW : Below w.heap.size w W) => hR.below' hW hB)
  have HX := Lib.hid hx
  clear hR hx
  obtain ⟨i0, hi, hz0, hz1, hz2⟩ := info_parts info26
  go_enter Tryd.func40, Tryd.ntmps40
  go_wp2_with (at_make; refine wpList_make_full _ rfl _ _ 31 rfl w.heap.size 26 i0 _ 3 Tryd.underlying31 hi hz0 hz1 .i64 .i64 _ _ L.length rfl rfl rfl rfl (by rw [hz2]; omega) (by unfold maxLen; omega) (Nat.le_refl _) ?_; intro w1 hown1 hgrow1)
  have hb1 : Below w.heap.size w w1 := (Below.refl _ w).grown hgrow1 (Nat.le_refl _) (fun j hj => by cases hj)
  have hown : w1.ownsRow w.heap.size 26 3 (.slice (some ⟨w.heap.size, 0, none⟩) L.length L.length) L.length (((L.take 0).map El.id).flatMap idC ++ List.replicate ((L.length - 0) * 3) (.int .i64 0)) := by
    have e := made_ids L.length
    have h1 : (madeCells (Value.cells (.agg #[.int .i64 0, .int .i64 0, .int .i64 0])) (L.length * 3)).toList = List.replicate (L.length * 3) (.int .i64 0) := e
    rw [h1] at hown1
    simpa using hown1
  have hgs : w.heap.size < w1.heap.size := by
    obtain ⟨_, h2⟩ := hown.lt w.heap.size rfl
    exact h2
  have HO1 := Lib.hid hown
  have HB1 := Lib.hid hb1
  clear hown1 hgrow1 hown hb1
  go_wp2
  obtain ⟨w2, hw2⟩ : ∃ W, w1.alloc (.cells #[.pointer none, .slice none 0 0] 105) = W := ⟨_, rfl⟩
  have hfr : Lib.IsBuilderF 105 5 w1.heap.size w1.heap.size (Lib.byteCells (txt (L.take 0))) w2 := by rw [← hw2]; exact Lib.IsBuilderF.of (Lib.fresh_isBuilder 105 5 w1)
  have hb2 : Below w1.heap.size w1 w2 := by rw [← hw2]; exact (Below.refl _ w1).alloc (Nat.le_refl _) _
  have hst : ToRel L w w1.heap.size w.heap.size (.int .i64 0) w2 := ⟨0, Nat.zero_le _, rfl, hfr, own_grows HO1.out hb2, HB1.out.trans (hb2.mono HB1.out.size)⟩
  have HST := Lib.hid hst
  rw [hw2]
  obtain ⟨b, hbe⟩ : ∃ k, w1.heap.size = k := ⟨_, rfl⟩
  obtain ⟨g, hge⟩ : ∃ k, w.heap.size = k := ⟨_, rfl⟩
  have HGE := Lib.hid hge
  have hgb : g < b := by omega
  rw [hbe] at HST ⊢
  simp only [hge]
  rw [show ToRel L w b w.heap.size (.int .i64 0) w2 = ToRel L w b g (.int .i64 0) w2 by rw [hge]] at HST
  clear hw2 hfr hb2 hst hbe hge hgs HO1 HB1
  go_loopw [13] (fun i wr => ToRel L w b g i wr) (fun i _ => L.length - (intOf i).toNat)
  case atStart => exact HST.out
  case round =>
    clear HST
    obtain ⟨k, hk, rfl, hbu, hO, hb⟩ := hrel
    obtain ⟨wo, rfl⟩ : ∃ wo : World, wo = wr := ⟨_, rfl⟩
    have hbl : b < wo.heap.size := by
      rcases hbu with ⟨_, v, h1, _⟩ | ⟨_, v, h1, _⟩ <;> exact (Array.getElem?_eq_some_iff.1 h1).1
    by_cases hlt : k < L.length
    · obtain ⟨gr, og, rfl, hBr, hcell⟩ := rd_at elC 4 (fun _ => rfl) (by decide) (HR.out wo hb) hlt
      have htk := List.take_succ_eq_append_getElem hlt
      have htx := txt_snoc (L.take k) L[k]
      have htl := txt_le L (k + 1)
      rw [htk] at htl
      rw [htx] at htl
      have hxx := HX.out
      obtain ⟨e, he⟩ : ∃ e, L[k] = e := ⟨_, rfl⟩
      rw [he] at hcell htk htx htl
      have c0 : wo.cell? ⟨gr, og + k * 4, none⟩ = some (.int .i64 e.id.s.T) := hcell 0 _ rfl
      have c1 : wo.cell? ⟨gr, og + k * 4 + 1, none⟩ = some (.int .i64 e.id.s.R) := hcell 1 _ rfl
      have c2 : wo.cell? ⟨gr, og + k * 4 + 2, none⟩ = some (.int .i64 e.id.I) := hcell 2 _ rfl
      have c3 : wo.cell? ⟨gr, og + k * 4 + 3, none⟩ = some (.string e.pc) := hcell 3 _ rfl
      have hbl2 : (Lib.byteCells (txt (L.take k))).length + e.pc.size ≤ 140737488355328 := by
        rw [List.length_append] at htl
        have : (Lib.byteCells (txt (L.take k))).length = (txt (L.take k)).length := by simp [Lib.byteCells]
        have h2 : e.pc.data.toList.length = e.pc.size := (Lib.size_eq e.pc).symm
        omega
      have i1 : (0 : Int) ≤ (k : Int) := by omega
      have i2 : (k : Int) < (L.length : Int) := by omega
      -- the row, parted
      have hzr : List.replicate ((L.length - k) * 3) (Value.int .i64 0) = [.int .i64 0, .int .i64 0, .int .i64 0] ++ List.replicate ((L.length - (k + 1)) * 3) (Value.int .i64 0) := by
        have : (L.length - k) * 3 = (L.length - (k + 1)) * 3 + 1 + 1 + 1 := by omega
        rw [this, List.replicate_succ, List.replicate_succ, List.replicate_succ]
        rfl
      have hidl : (((L.take k).map El.id).flatMap idC).length = k * 3 := by rw [flatl idC 3 (fun _ => rfl), List.length_map, List.length_take]; omega
      rw [hzr, ← List.append_assoc] at hO
      have f0 := own_frozen hO (by omega)
      have hq : ∀ j u, ([.int .i64 0, .int .i64 0, .int .i64 0] : List Value)[j]? = some u → wo.cell? ⟨g, k * 3 + j, none⟩ = some u := fun j u hu => (own_cell hO (k * 3 + j) u (by
        rw [List.append_assoc, List.getElem?_append_right (by omega), hidl, Nat.add_sub_cancel_left, List.getElem?_append_left (List.getElem?_eq_some_iff.1 hu).1]
        exact hu)).1
      have q0 : wo.cell? ⟨g, k * 3, none⟩ = some (.int .i64 0) := hq 0 _ rfl
      have q1 : wo.cell? ⟨g, k * 3 + 1, none⟩ = some (.int .i64 0) := hq 1 _ rfl
      have q2 : wo.cell? ⟨g, k * 3 + 2, none⟩ = some (.int .i64 0) := hq 2 _ rfl
      have hgl : g < wo.heap.size := by omega
      have hne : wo.heap.size ≠ g := by omega
      have hne' : g ≠ wo.heap.size := by omega
      have hset := own_sets hO (idC e.id) rfl (by omega)
      rw [hidl] at hset
      have hset' : ((((wo.setCell ⟨g, k * 3, none⟩ (.int .i64 e.id.s.T)).setCell ⟨g, k * 3 + 1, none⟩ (.int .i64 e.id.s.R)).setCell ⟨g, k * 3 + 2, none⟩ (.int .i64 e.id.I)).alloc (.cells #[.int .i64 e.id.s.T, .int .i64 e.id.s.R, .int .i64 e.id.I, .string e.pc] 84)).ownsRow w.heap.size 26 3 (.slice (some ⟨g, 0, none⟩) L.length L.length) L.length (((L.take k).map El.id).flatMap idC ++ idC e.id ++ List.replicate ((L.length - (k + 1)) * 3) (.int .i64 0)) := World.ownsRow.alloc hset _
      have hbu' : Lib.IsBuilderF 105 5 b b (Lib.byteCells (txt (L.take k))) ((((wo.setCell ⟨g, k * 3, none⟩ (.int .i64 e.id.s.T)).setCell ⟨g, k * 3 + 1, none⟩ (.int .i64 e.id.s.R)).setCell ⟨g, k * 3 + 2, none⟩ (.int .i64 e.id.I)).alloc (.cells #[.int .i64 e.id.s.T, .int .i64 e.id.s.R, .int .i64 e.id.I, .string e.pc] 84)) := (builder_far (w' := (((wo.setCell ⟨g, k * 3, none⟩ (.int .i64 e.id.s.T)).setCell ⟨g, k * 3 + 1, none⟩ (.int .i64 e.id.s.R)).setCell ⟨g, k * 3 + 2, none⟩ (.int .i64 e.id.I))) hbu hgb (fun j hj => set3_other' hj)).alloc _
      have hb5 : Below w.heap.size w ((((wo.setCell ⟨g, k * 3, none⟩ (.int .i64 e.id.s.T)).setCell ⟨g, k * 3 + 1, none⟩ (.int .i64 e.id.s.R)).setCell ⟨g, k * 3 + 2, none⟩ (.int .i64 e.id.I)).alloc (.cells #[.int .i64 e.id.s.T, .int .i64 e.id.s.R, .int .i64 e.id.I, .string e.pc] 84)) := ((((hb.setCell (p := ⟨g, k * 3, none⟩) (by rw [HGE.out]; exact Nat.le_refl _) _).setCell (p := ⟨g, k * 3 + 1, none⟩) (by rw [HGE.out]; exact Nat.le_refl _) _).setCell (p := ⟨g, k * 3 + 2, none⟩) (by rw [HGE.out]; exact Nat.le_refl _) _).alloc (by have := hb.size; simpa using this) _)
      have hsz5 : b ≤ ((((wo.setCell ⟨g, k * 3, none⟩ (.int .i64 e.id.s.T)).setCell ⟨g, k * 3 + 1, none⟩ (.int .i64 e.id.s.R)).setCell ⟨g, k * 3 + 2, none⟩ (.int .i64 e.id.I)).alloc (.cells #[.int .i64 e.id.s.T, .int .i64 e.id.s.R, .int .i64 e.id.I, .string e.pc] 84)).heap.size := by simp; omega
      have hsz6 : b < ((((wo.setCell ⟨g, k * 3, none⟩ (.int .i64 e.id.s.T)).setCell ⟨g, k * 3 + 1, none⟩ (.int .i64 e.id.s.R)).setCell ⟨g, k * 3 + 2, none⟩ (.int .i64 e.id.I)).alloc (.cells #[.int .i64 e.id.s.T, .int .i64 e.id.s.R, .int .i64 e.id.I, .string e.pc] 84)).heap.size := by simp; omega
      have HS5 := Lib.hid hset'
      have HBU5 := Lib.hid hbu'
      have HB5 := Lib.hid hb5
      have HTK := Lib.hid htk
      have HTX := Lib.hid htx
      have hwg : w.heap.size = g := HGE.out
      have HWG := Lib.hid hwg
      clear hwg hset hset' hbu' hb5 hidl hzr hq hbu hO htk htx htl hxx hcell he hb
      go_wp2_with fail
      obtain ⟨w5, hw5⟩ : ∃ W, ((((wo.setCell ⟨g, k * 3, none⟩ (.int .i64 e.id.s.T)).setCell ⟨g, k * 3 + 1, none⟩ (.int .i64 e.id.s.R)).setCell ⟨g, k * 3 + 2, none⟩ (.int .i64 e.id.I)).alloc (.cells #[.int .i64 e.id.s.T, .int .i64 e.id.s.R, .int .i64 e.id.I, .string e.pc] 84)) = W := ⟨_, rfl⟩
      rw [hw5] at HS5 HBU5 HB5 hsz5 hsz6 ⊢
      clear hw5 c0 c1 c2 c3 q0 q1 q2 f0
      refine (writeString_any b b _ e.pc w5 HBU5.out hbl2 hsz5).mono ?_
      rintro r w6 ⟨rfl, hbu6, hb6, _⟩
      have hb6' : Below w.heap.size w w6 := HB5.out.trans (hb6.mono (by rw [HWG.out]; omega))
      have HB6 := Lib.hid hb6'
      have HBU6 := Lib.hid (show Lib.IsBuilderF 105 5 b b (Lib.byteCells (txt (L.take (k + 1)))) w6 by rw [HTK.out, HTX.out, byteCells_append]; exact .inr hbu6)
      have HS6 := Lib.hid (show w6.ownsRow w.heap.size 26 3 (.slice (some ⟨g, 0, none⟩) L.length L.length) L.length (((L.take (k + 1)).map El.id).flatMap idC ++ List.replicate ((L.length - (k + 1)) * 3) (.int .i64 0)) by
        rw [HTK.out, List.map_append, List.flatMap_append]
        simp only [List.map_cons, List.map_nil, List.flatMap_cons, List.flatMap_nil, List.append_nil]
        exact own_touch HS5.out (Below.touch' (F := fun x => b ≤ x) hb6 (fun x _ h => h)) (fun x hx h => by have : x = g := (by simpa [Value.ownBlock] using hx.symm); omega))
      clear hbu6 hb6 hb6'
      go_wp2
      go_roundw
      case rel => exact ⟨k + 1, by omega, by go_num, HBU6.out, HS6.out, HB6.out⟩
      case measure => simp [intOf]; omega
    · obtain rfl : k = L.length := by omega
      rw [List.take_length] at hbu hO
      rw [Nat.sub_self, Nat.zero_mul, List.replicate_zero, List.append_nil] at hO
      have HST := Lib.hid (Tryd.Builder_String_any_k b b (txt L) wo hbu (by omega))
      have HOe := Lib.hid hO
      have HBe := Lib.hid hb
      clear hbu hO hb hk
      go_wp2_with fail
      refine HST.out.mono ?_
      rintro r w6 ⟨rfl, _, hb6, _⟩
      have HB6 := Lib.hid (HBe.out.trans (hb6.mono (by rw [HGE.out]; omega)))
      have HO6 := Lib.hid (own_touch HOe.out (Below.touch' (F := fun x => b ≤ x) hb6 (fun x _ h => h)) (fun x hx h => by have : x = g := (by simpa [Value.ownBlock] using hx.symm); omega))
      clear hb6
      go_wp2
      go_ret2
      exact ⟨_, rfl, HO6.out, HB6.out⟩
end Go.Proofs.YtphapjbfaomblaaDoor
