/- Texts of this seat, one behind the other: X3, SF. -/
import Derived.Test.YtphapjbfaomblaaDoorZb9
import Derived.Test.YtphapjbfaomblaaDoorZb1
import Derived.Lib.SliceRun
/- append of all of a slice that came in, an empty one too. Plain, over any program. -/
namespace Go.Proofs.YtphapjbfaomblaaDoor
open Go Go.RowKit
theorem run_append_empty {P : Program} {w : World} (base : Nat) (t ty e : TypeId) (i : TypeInfo) (size : Nat) (ht : P.underlying t = some (.slice e)) (hi : P.info? e = some i)
    (v : Value) (n : Nat) (xs : List Value) (hown : w.ownsRow base e size v n xs) (A : Option Addr) (c : Nat) :
    (Builtin.append_ #[t, t] ty #[v, .slice A 0 c]).run P w = .ok v w := by
  rcases hown.2 with ⟨rfl, rfl⟩ | ⟨g, cap, cur, rfl, _, _, hnc, _⟩
  · cases A <;> simp [Builtin.append_, run_underlying ht, sizeOf, typeInfo, hi, Builtin.lenOf, Builtin.firstCells, loadCells, loadCellsFrom]
  · cases A <;> simp [Builtin.append_, run_underlying ht, sizeOf, typeInfo, hi, Builtin.lenOf, Builtin.firstCells, hnc, storeCells, loadCells, loadCellsFrom]
theorem wpList_append_rd {P : Program} {w : World} {ops : Array Oper} {rest : List Oper} {o : Oper} {a : Act} {Q : Exit → Act → World → Prop} (hgd : o.guard = none) (s x : Operand) (t : TypeId)
    (ho : o.op = .call { callee := .builtin .append, args := #[s, x], argTypes := #[t, t] })
    (base : Nat) (e : TypeId) (i : TypeInfo) (z : Value) (size bytes : Nat) (ht : P.underlying t = some (.slice e)) (hi : P.info? e = some i) (hz : i.zero = some z)
    (hsize : i.size = size) (hby : i.bytes = bytes) (hzs : z.cells.size = size) (hsz : 0 < size)
    (v : Value) (n : Nat) (xs : List Value) (hs : a.eval s = v) (hown : w.ownsRow base e size v n xs)
    (vb : Value) (B m : Nat) (news : List Value) (hx : a.eval x = vb) (hsrc : Rd w B size vb m news) (h1 : ∀ u ∈ news, u.oneCell' = true)
    (h63 : n + m ≤ maxLen) (hbytes : (n + m) * bytes ≤ 140737488355328) (hbase : base ≤ w.heap.size)
    (h : ∀ v' w', w'.ownsRow base e size v' (n + m) (xs ++ news) → w.grownBy w' v.ownBlock → wpList P ops Q rest (a.put o.dst v') w') : wpList P ops Q (o :: rest) a w := by
  obtain ⟨hl, A, c, rfl, _, _, hc⟩ := hsrc
  rcases Nat.eq_zero_or_pos m with rfl | hm
  · have hn : news = [] := List.eq_nil_of_length_eq_zero (by simpa using hl)
    subst hn
    have hr := run_append_empty (w := w) base t o.type e i size ht hi v n xs hown A c
    refine wpList_plain hgd fun _ hK => ?_
    unfold Oper.wp execOp
    simp only [ho, resolve, invoke, builtin, Sem.run_bind, Sem.run_pure, Result.andThen_ok, List.map_toArray, List.map_cons, List.map_nil, hs, hx, hr]
    exact hK _ _ (h v w (by simpa using hown) ⟨rfl, rfl, rfl, Nat.le_refl _, fun _ _ _ => rfl⟩)
  · obtain ⟨b, o', rfl, _, hcell⟩ := hc hm
    exact wpList_append_own w hgd s x t ho base e i z size bytes ht hi hz hsize hby hzs hsz v n xs hs hown ⟨b, o', none⟩ m c news hx hl (fun j u hu => by rw [Go.WideShapes.add_plain]; exact hcell j u hu) h1 h63 hbytes hbase (fun v' w' h2 h3 _ => h v' w' h2 h3)
theorem Rd.taken {w : World} {B size n m : Nat} {A : Option Addr} {c : Nat} {xs : List Value} (h : Rd w B size (.slice A n c) n xs) (hm : m ≤ n) : Rd w B size (.slice A m c) m (xs.take (m * size)) := by
  obtain ⟨hl, A', c', he, h1, h2, h3⟩ := h
  cases he
  refine ⟨?_, A, c, rfl, by omega, h2, fun h0 => ?_⟩
  · rw [List.length_take, hl]
    exact Nat.min_eq_left (Nat.mul_le_mul_right _ hm)
  · obtain ⟨b, o, rfl, hb, hc⟩ := h3 (by omega)
    refine ⟨b, o, rfl, hb, fun j u hu => hc j u ?_⟩
    rw [List.getElem?_take] at hu
    split at hu
    · exact hu
    · cases hu
theorem flat_take {α : Type} {f : α → List Value} {k : Nat} (hf : ∀ x, (f x).length = k) : ∀ (l : List α) (m : Nat), (l.flatMap f).take (m * k) = (l.take m).flatMap f
  | [], m => by simp
  | x :: l, 0 => by simp
  | x :: l, m + 1 => by
    rw [List.flatMap_cons, List.take_succ_cons, List.flatMap_cons, ← flat_take hf l m, Nat.succ_mul, List.take_append, hf x, List.take_of_length_le (by rw [hf x]; omega)]
    congr 2
    omega
end Go.Proofs.YtphapjbfaomblaaDoor
/- slices.Clone of a row, cut or not; the shelf's spot. -/
namespace Go.Proofs.YtphapjbfaomblaaDoor
open Go Go.RowKit Go.Maps
theorem own_emptyS {w : World} {base b : Nat} {e : TypeId} {K : Nat} (hb : base ≤ b) (h : w.heap[b]? = some (.cells #[] e (0, 0))) : w.ownsRow base e K (.slice (some ⟨b, 0, none⟩) 0 0) 0 [] :=
  ⟨by simp, .inr ⟨b, 0, #[], rfl, hb, h, Nat.le_refl _, Nat.zero_le _, by simp, by simp⟩⟩
theorem own_cutS {w : World} {base : Nat} {e : TypeId} {K n m : Nat} {A : Option Addr} {c : Nat} {xs : List Value} (h : w.ownsRow base e K (.slice A n c) n xs) (hm : m ≤ n) : w.ownsRow base e K (.slice A m c) m (xs.take (m * K)) := by
  refine ⟨by rw [List.length_take, h.1]; exact Nat.min_eq_left (Nat.mul_le_mul_right _ hm), ?_⟩
  rcases h.2 with ⟨e1, rfl⟩ | ⟨g, cap, cur, e1, h2, h3, h4, h5, h6, h7⟩
  · cases e1
    exact .inl ⟨by rw [Nat.le_zero.1 hm], Nat.le_zero.1 hm⟩
  · cases e1
    refine .inr ⟨g, c, cur, rfl, h2, h3, by omega, h5, h6, ?_⟩
    rw [← h7, List.take_take, Nat.min_eq_left (Nat.mul_le_mul_right _ hm)]
set_option maxRecDepth 100000 in
set_option maxHeartbeats 1000000 in
theorem clone_ids (L : List Id) (a : Addr) (n c B : Nat) (w : World) (hR : Rd w B 3 (.slice (some a) n c) n (L.flatMap idC)) (hl : L.length ≤ 1000000) (hB : B ≤ w.heap.size) :
    Calls Tryd.prog 96 #[.slice (some a) n c] w fun e w' => ∃ v, e = .returned v ∧ w'.ownsRow w.heap.size 26 3 v L.length (L.flatMap idC) ∧ Below w.heap.size w w' := by
  obtain ⟨i0, hi, hz0, hz1, hz2⟩ := info_parts info_insId
  obtain rfl := len_of idC 3 (fun _ => rfl) (by decide) hR.1
  have qe : ∀ (w : World) (A : Option Addr) (n c : Nat), (binOp .eql 31 (.slice A n c) (.slice none 0 0)).run Tryd.prog w = .ok (.bool A.isNone) w := fun w A n c => Lib.run_eql_slice_nil w 31 26 A n c 0 0 Tryd.underlying31
  have HO := Lib.hid (hR.below' ((Below.refl w.heap.size w).alloc (Nat.le_refl _) (.cells #[] 26)) hB)
  have HE := Lib.hid (own_emptyS (w := w.alloc (.cells #[] 26)) (base := w.heap.size) (K := 3) (Nat.le_refl _) (heap_alloc_new w _))
  clear hR
  go_enter Tryd.func96, Tryd.ntmps96
  go_wp2_with (at_builtin; refine wpList_append_rd rfl _ _ 31 rfl w.heap.size 26 i0 _ 3 24 Tryd.underlying31 hi hz0 hz1 hz2 rfl (by decide) _ 0 [] rfl HE.out _ B L.length (L.flatMap idC) rfl HO.out (flat_one_insId L) (by unfold maxLen; omega) (by omega) (by simp) ?_)
  intro v' w' hown hgrow
  have hb : Below w.heap.size w w' := ((Below.refl _ w).alloc (Nat.le_refl _) _).grown hgrow (by simp) (fun k hk => by
    have : k = w.heap.size := by simpa [Value.ownBlock] using hk.symm
    omega)
  have HOn := Lib.hid (show w'.ownsRow w.heap.size 26 3 v' L.length (L.flatMap idC) by simpa using hown)
  clear hown hgrow
  go_wp2
  go_ret
  exact ⟨_, rfl, HOn.out, hb⟩
set_option maxRecDepth 100000 in
set_option maxHeartbeats 1000000 in
theorem clone_bools (L : List Bool) (a : Addr) (n c B : Nat) (w : World) (hR : Rd w B 1 (.slice (some a) n c) n (L.flatMap boC)) (hl : L.length ≤ 1000000) (hB : B ≤ w.heap.size) :
    Calls Tryd.prog 97 #[.slice (some a) n c] w fun e w' => ∃ v, e = .returned v ∧ w'.ownsRow w.heap.size 4 1 v L.length (L.flatMap boC) ∧ Below w.heap.size w w' := by
  obtain ⟨i0, hi, hz0, hz1, hz2⟩ := info_parts info_insB
  obtain rfl := len_of boC 1 (fun _ => rfl) (by decide) hR.1
  have qe : ∀ (w : World) (A : Option Addr) (n c : Nat), (binOp .eql 130 (.slice A n c) (.slice none 0 0)).run Tryd.prog w = .ok (.bool A.isNone) w := fun w A n c => Lib.run_eql_slice_nil w 130 4 A n c 0 0 Tryd.underlying130
  have HO := Lib.hid (hR.below' ((Below.refl w.heap.size w).alloc (Nat.le_refl _) (.cells #[] 4)) hB)
  have HE := Lib.hid (own_emptyS (w := w.alloc (.cells #[] 4)) (base := w.heap.size) (K := 1) (Nat.le_refl _) (heap_alloc_new w _))
  clear hR
  go_enter Tryd.func97, Tryd.ntmps97
  go_wp2_with (at_builtin; refine wpList_append_rd rfl _ _ 130 rfl w.heap.size 4 i0 _ 1 1 Tryd.underlying130 hi hz0 hz1 hz2 rfl (by decide) _ 0 [] rfl HE.out _ B L.length (L.flatMap boC) rfl HO.out (flat_one_insB L) (by unfold maxLen; omega) (by omega) (by simp) ?_)
  intro v' w' hown hgrow
  have hb : Below w.heap.size w w' := ((Below.refl _ w).alloc (Nat.le_refl _) _).grown hgrow (by simp) (fun k hk => by
    have : k = w.heap.size := by simpa [Value.ownBlock] using hk.symm
    omega)
  have HOn := Lib.hid (show w'.ownsRow w.heap.size 4 1 v' L.length (L.flatMap boC) by simpa using hown)
  clear hown hgrow
  go_wp2
  go_ret
  exact ⟨_, rfl, HOn.out, hb⟩
def SpRel (Bs : List Bl) (a : Nat) (w : World) (av i : Value) (wr : World) : Prop :=
  ∃ k m : Nat, k ≤ Bs.length ∧ i = .int .i64 k ∧ av = .int .i64 m ∧ (rowOf (Bs.take k)).length + m = a ∧ wr = w
def SpotPost (sb mp : Nat) (vb : Value) (Bs : List Bl) (D : DataW (Option Nat)) (t : Int) (R : Row Id) (a : Nat) (w : World) (e : Ending) (w' : World) : Prop :=
  ∃ (pre : List Bl) (b : Bl) (post : List Bl) (vb' : Value) (k : Nat), e = .returned (.tuple #[.pointer (some ⟨b.ad, 0, none⟩), .int .i64 pre.length, .int .i64 k]) ∧ ShIs w' sb mp vb' (pre ++ b :: post) D t ∧ Tidy (pre ++ b :: post) D t R ∧ (rowOf pre).length + k = a ∧ k ≤ b.R.length ∧
    Touch (foot sb mp vb Bs) w w' ∧ (∀ x, foot sb mp vb' (pre ++ b :: post) x → foot sb mp vb Bs x ∨ w.heap.size ≤ x) ∧ (pre ++ b :: post).length ≤ Bs.length + 1
theorem SpotPost.drew {sb mp : Nat} {vb : Value} {Bs : List Bl} {D : DataW (Option Nat)} {t : Int} {R : Row Id} {a : Nat} {w w' : World} {e : Ending} (h : SpotPost sb mp vb Bs D t R a w e w') : SpotPost sb mp vb Bs D t R a w e w'.drew := by
  obtain ⟨pre, b, post, vb', k, h1, h2, h3, h4, h5, h6, h7, h8⟩ := h
  exact ⟨pre, b, post, vb', k, h1, h2.below (Below.refl _ w').drew, h3, h4, h5, h6.drew, h7, h8⟩
theorem inF_more {Bs : List Bl} {b : Bl} (hb : b.R = []) (x : Id) : inF (Bs ++ [b]) x = inF Bs x := by
  unfold inF
  rw [List.find?_append]
  cases Bs.find? (fun b => decide (x ∈ namesR b.R)) with
  | some y => rfl
  | none => simp [hb, namesR]
theorem Tidy.more {Bs : List Bl} {D : DataW (Option Nat)} {t : Int} {R : Row Id} (h : Tidy Bs D t R) {b : Bl} (hb : b.R = []) (hn : b.n = 0) : Tidy (Bs ++ [b]) D t R where
  row := by rw [rowOf_app, h.row]; simp [rowOf, hb]
  nodup := h.nodup
  cnt := fun c hc => by
    rcases List.mem_append.1 hc with hc | hc
    · exact h.cnt c hc
    · rw [List.mem_singleton.1 hc, hb, hn]; rfl
  all := h.all
  size := h.size
  fm := h.fm.congr (fun s => (inF_more hb s).symm)
theorem info58 : (Tryd.prog.info? 129).map (fun i => (i.zero, i.size, i.bytes)) = some (some (.pointer none), 1, 8) := by kernel_rfl
set_option maxRecDepth 100000 in
set_option maxHeartbeats 4000000 in
theorem spot_any {w : World} {sb mp : Nat} {vb : Value} {Bs : List Bl} {D : DataW (Option Nat)} {t : Int} {R0 : Row Id} (h : ShIs w sb mp vb Bs D t) (hT : Tidy Bs D t R0) (hlen : R0.length ≤ 100000) (hBl : Bs.length ≤ 100000) (a : Nat) (ha : a ≤ R0.length) :
    Calls Tryd.prog 81 #[.pointer (some ⟨sb, 0, none⟩), .int .i64 a] w (SpotPost sb mp vb Bs D t R0 a w) := by
  have hrow := hT.row
  obtain ⟨j0, gi, gz0, gz1, gz2⟩ := info_parts info58
  obtain ⟨Av, cv, rfl, hnc0, hcm0⟩ := (Rd.of_own h.row).form
  unfold maxLen at hcm0
  have HS := Lib.hid h
  have HT := Lib.hid hT
  have HROW := Lib.hid hrow
  have c0 : w.cell? ⟨sb, 0, none⟩ = some (.slice Av Bs.length cv) := cell_of_row _ _ 0 _ _ _ h.cell
  have hsbl : sb < w.heap.size := kind_lt (kind_cell h.cell)
  clear h hT hrow
  go_enter Tryd.func81, Tryd.ntmps81
  go_wp2
  go_loopw [1, 15] (fun av i wr => SpRel Bs a w av i wr) (fun _ i _ => Bs.length - (intOf i).toNat)
  case atStart => exact ⟨0, a, Nat.zero_le _, rfl, rfl, by rw [List.take_zero]; simp [rowOf], rfl⟩
  case round =>
    obtain ⟨k, m, hk, rfl, rfl, hsum, hwr⟩ := hrel
    subst hwr
    obtain ⟨wo, rfl⟩ : ∃ wo : World, wo = wr := ⟨_, rfl⟩
    by_cases hlt : k < Bs.length
    · obtain ⟨g, cap, e1, c1, _⟩ := HS.out.at hlt
      injection e1 with e1 _ e3
      subst e1; subst e3
      have hbm : Bs[k] ∈ Bs := List.getElem_mem hlt
      have htk : rowOf (Bs.take (k + 1)) = rowOf (Bs.take k) ++ (Bs[k]).R := by rw [List.take_succ_eq_append_getElem hlt, rowOf_app]; simp [rowOf]
      have hsp : Bs = Bs.take k ++ Bs[k] :: Bs.drop (k + 1) := by rw [List.getElem_cons_drop, List.take_append_drop]
      have hbl := HS.out.bl _ hbm
      obtain ⟨b, hbe⟩ : ∃ b, Bs[k] = b := ⟨_, rfl⟩
      rw [hbe] at c1 htk hbl hsp
      obtain ⟨Ai, ci, hvi, _, _⟩ := (Rd.of_own hbl.ids).form
      have c2 : wo.cell? ⟨b.ad, 0, none⟩ = some (.slice Ai b.R.length ci) := by rw [← hvi]; exact cell_of_row _ _ 0 _ _ _ hbl.cell
      have hlR : (rowOf (Bs.take k)).length + b.R.length ≤ R0.length := by
        rw [← HROW.out, hsp, rowOf_app, rowOf_cons]
        rw [← hsp]
        simp only [List.length_append]
        omega
      have i1 : (0 : Int) ≤ (k : Int) := by omega
      have i2 : (k : Int) < (Bs.length : Int) := by omega
      obtain ⟨lb, hlb⟩ : ∃ z, b.R.length = z := ⟨_, rfl⟩
      rw [hlb] at c2 hlR
      by_cases hle : m ≤ lb
      · have j1 : (m : Int) ≤ (lb : Int) := by omega
        have hpl : (Bs.take k).length = k := by rw [List.length_take]; omega
        have HF := Lib.hid (show SpotPost sb mp (.slice (some ⟨g, 0, none⟩) Bs.length cv) Bs D t R0 a wo (.returned (.tuple #[.pointer (some ⟨b.ad, 0, none⟩), .int .i64 k, .int .i64 m])) wo from
          ⟨Bs.take k, b, Bs.drop (k + 1), _, m, by rw [hpl], hsp ▸ HS.out, hsp ▸ HT.out, hsum, by omega, Touch.refl _ _, fun x hx => .inl (by rw [← hsp] at hx; exact hx), by rw [← hsp]; exact Nat.le_succ _⟩)
        clear hbm htk hsp hbl hbe hvi hlR hlb hpl hsum
        go_wp2
        go_ret3
        exact HF.out
      · have j1 : ¬ (m : Int) ≤ (lb : Int) := by omega
        have j2 : IntKind.i64.wrap ((m : Int) - (lb : Int)) = ((m - lb : Nat) : Int) := by rw [IntWalk.i64_in _ (by omega)]; omega
        have HL := Lib.hid (show (rowOf (Bs.take (k + 1))).length + (m - lb) = a from by rw [htk, List.length_append, hlb]; omega)
        clear hbm htk hsp hbl hbe hvi hlR hlb hsum
        go_wp2
        go_roundw
        case rel => exact ⟨k + 1, m - lb, by omega, by go_num, rfl, HL.out, rfl⟩
        case measure => simp [intOf]; omega
    · obtain rfl : k = Bs.length := by omega
      rw [List.take_length, HROW.out] at hsum
      obtain rfl : m = 0 := by omega
      obtain rfl : a = R0.length := by omega
      have h1 := (HS.out.below ((Below.refl _ wo).alloc (Nat.le_refl _) (.cells #[.slice none 0 0, .slice none 0 0, .int .i64 0] 132)))
      have hsz1 : (wo.alloc (.cells #[.slice none 0 0, .slice none 0 0, .int .i64 0] 132)).heap.size = wo.heap.size + 1 := by simp
      have hcnew := heap_alloc_new wo (.cells #[.slice none 0 0, .slice none 0 0, .int .i64 0] 132)
      obtain ⟨wb, hwb⟩ : ∃ W, wo.alloc (.cells #[.slice none 0 0, .slice none 0 0, .int .i64 0] 132) = W := ⟨_, rfl⟩
      have tb : Touch (foot sb mp (.slice Av Bs.length cv) Bs) wo wb := by rw [← hwb]; exact (Touch.refl _ wo).alloc _
      have c1x : (wo.alloc (.cells #[.slice none 0 0, .slice none 0 0, .int .i64 0] 132)).cell? ⟨sb, 0, none⟩ = some (.slice Av Bs.length cv) := cell_of_row _ _ 0 _ _ _ h1.cell
      rw [hwb] at h1 hsz1 hcnew
      have HS1 := Lib.hid h1
      have HCN := Lib.hid hcnew
      have HWB := Lib.hid hwb
      have HSZ := Lib.hid hsz1
      have HTB := Lib.hid tb
      have hown := (h1.row.alloc (.cells #[.pointer (some ⟨wo.heap.size, 0, none⟩)] 129))
      have HOW := Lib.hid (show ((wo.alloc (.cells #[.slice none 0 0, .slice none 0 0, .int .i64 0] 132)).alloc (.cells #[.pointer (some ⟨wo.heap.size, 0, none⟩)] 129)).ownsRow 0 129 1 (.slice Av Bs.length cv) Bs.length ((Bs.map Bl.ad).flatMap ptC) from by rw [hwb]; exact hown)
      clear h1 hsz1 hcnew hwb tb hown hsum
      go_wp2_with (at_builtin; refine wpList_append_own_at _ rfl _ _ 121 rfl 0 129 j0 _ 1 8 Tryd.underlying121 gi gz0 gz1 gz2 rfl (by decide) _ _ _ rfl HOW.out ⟨wo.heap.size + 1, 0, none⟩ 1 1 (ptC wo.heap.size) rfl rfl ?qc (by simp [ptC, Value.oneCell']) ?q2 ?q3 (Nat.zero_le _) ?_)
      case qc => (have := cells_new (wo.alloc (.cells #[.slice none 0 0, .slice none 0 0, .int .i64 0] 132)) (ptC wo.heap.size) 129; rw [World.size_alloc] at this; exact this)
      case q2 => unfold maxLen; omega
      case q3 => omega
      intro v4 W4 hown4 hgrow4 _ hat4
      rw [HWB.out] at hgrow4
      have hs4 : W4.heap[sb]? = some (.cells #[.slice Av Bs.length cv, .map (some mp), .int .i64 t] 123 (0, 0)) := by
        have hl : sb < wb.heap.size := kind_lt (kind_cell HS1.out.cell)
        refine (hgrow4.block sb (by simp; omega) (fun e => ?_)).trans ((Below.heap_alloc _ _ _ hl).trans HS1.out.cell)
        exact ne_kind (kind_cell HS1.out.cell) (kind_row HS1.out.row e.symm) (by decide) rfl
      have t4 : Touch (fun k => k = sb ∨ (Value.slice Av Bs.length cv).ownBlock = some k) wb W4 := ((Touch.refl _ wb).alloc _).grown hgrow4 (fun k hk _ => .inr hk)
      obtain ⟨W5, hW5⟩ : ∃ W, W4.setCell ⟨sb, 0, none⟩ v4 = W := ⟨_, rfl⟩
      have t5 : Touch (fun k => k = sb ∨ (Value.slice Av Bs.length cv).ownBlock = some k) wb W5 := by rw [← hW5]; exact t4.setCell (fun _ => .inl rfl) _
      have hs5 : W5.heap[sb]? = some (.cells #[v4, .map (some mp), .int .i64 t] 123 (0, 0)) := by rw [← hW5]; exact (heap_setCell3 hs4 v4).1
      have hr5 : W5.ownsRow 0 129 1 v4 (Bs.length + 1) ((Bs.map Bl.ad).flatMap ptC ++ ptC wo.heap.size) := own_touch hown4 (by rw [← hW5]; exact touch_set W4 sb 0 v4) (fun g hg (e : g = sb) => ne_kind (kind_cell hs4) (kind_row hown4 hg) (by decide) e.symm)
      have hnew : ∀ d ∈ Bs ++ [], wo.heap.size ≠ d.ad ∧ ApartS (.slice none 0 0) d.vi ∧ ApartS (.slice none 0 0) d.vs := fun d hd => by
        rw [List.append_nil] at hd
        have := HS.out.lt (k := d.ad) (.inr (.inr (.inr ⟨d, hd, .inl rfl⟩)))
        exact ⟨by omega, fun g hg => (by cases hg), fun g hg => (by cases hg)⟩
      have hSn : ShIs W5 sb mp v4 (Bs ++ ⟨wo.heap.size, .slice none 0 0, .slice none 0 0, 0, []⟩ :: []) D t :=
        ShIs.insert (pre := Bs) (post := []) (c := ⟨wo.heap.size, .slice none 0 0, .slice none 0 0, 0, []⟩) (by rw [List.append_nil]; exact HS1.out) ⟨HCN.out, World.ownsRow_nil _ _ _ _, World.ownsRow_nil _ _ _ _⟩ hnew t5 hs5 (by simpa using hr5)
      have hTn := HT.out.more (b := ⟨wo.heap.size, .slice none 0 0, .slice none 0 0, 0, []⟩) rfl rfl
      have hTouch : Touch (foot sb mp (.slice Av Bs.length cv) Bs) wo W5 := HTB.out.trans t5 (fun x _ hx => hx.elim (fun h => .inl h) (fun h => .inr (.inr (.inl h))))
      have hfoot : ∀ x, foot sb mp v4 (Bs ++ ⟨wo.heap.size, .slice none 0 0, .slice none 0 0, 0, []⟩ :: []) x → foot sb mp (.slice Av Bs.length cv) Bs x ∨ wo.heap.size ≤ x := fun x hx => by
        rcases hx with h | h | h | ⟨b, hb, h⟩
        · exact .inl (.inl h)
        · exact .inl (.inr (.inl h))
        · rcases hat4 with h' | h'
          · exact .inl (.inr (.inr (.inl (h' ▸ h))))
          · rw [h'] at h
            injection h with h
            exact .inr (by omega)
        · rcases List.mem_append.1 hb with hb | hb
          · exact .inl (.inr (.inr (.inr ⟨b, hb, h⟩)))
          · rw [List.mem_singleton] at hb
            subst hb
            rcases h with h | h | h
            · exact .inr (Nat.le_of_eq h.symm)
            · cases h
            · cases h
      have HF := Lib.hid (show SpotPost sb mp (.slice Av Bs.length cv) Bs D t R0 R0.length wo (.returned (.tuple #[.pointer (some ⟨wo.heap.size, 0, none⟩), .int .i64 Bs.length, .int .i64 (0 : Nat)])) W5 from
        ⟨Bs, _, [], v4, 0, rfl, hSn, hTn, by rw [HROW.out]; rfl, Nat.zero_le _, hTouch, hfoot, by simp⟩)
      obtain ⟨g4, c4, R4, hv4, _⟩ := own_parts hown4 (Nat.succ_pos _)
      subst hv4
      have d0 : W4.cell? ⟨sb, 0, none⟩ = some (.slice Av Bs.length cv) := cell_of_row _ _ 0 _ _ _ hs4
      have d1 : ∀ i, W4.frozen? ⟨sb, i, none⟩ = false := fun i => by simp [World.frozen?, hs4]
      have d2 : W5.cell? ⟨sb, 0, none⟩ = some (.slice (some ⟨g4, 0, none⟩) (Bs.length + 1) c4) := cell_of_row _ _ 0 _ _ _ hs5
      have d2x : (W4.setCell ⟨sb, 0, none⟩ (.slice (some ⟨g4, 0, none⟩) (Bs.length + 1) c4)).cell? ⟨sb, 0, none⟩ = some (.slice (some ⟨g4, 0, none⟩) (Bs.length + 1) c4) := by rw [hW5]; exact d2
      have j2 : IntKind.i64.wrap (((Bs.length + 1 : Nat) : Int) - 1) = (Bs.length : Int) := by rw [IntWalk.i64_in _ (by omega)]; omega
      have HW5 := Lib.hid hW5
      clear hown4 hgrow4 hat4 hs4 t4 hW5 t5 hs5 hr5 hnew hSn hTn hTouch hfoot
      go_wp2
      go_region
      go_wp2
      go_ret3
      rw [HW5.out]
      first | exact HF.out.drew | exact HF.out
end Go.Proofs.YtphapjbfaomblaaDoor
