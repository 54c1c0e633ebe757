/- Texts of this seat, one behind the other: IN. -/
import Derived.Test.YtphapjbfaomblaaDoorZb1
import Derived.Test.YtphapjbfaomblaaDoorZb3
import Derived.Lib.Overlaps
import Derived.Lib.AppendZerosOnto
import Derived.Laws.Externs
import Derived.Deep.RegionLaw
import Derived.ProofKit
/- slices.Insert of one thing into a row of the call's own: at the end, in place, into a new row. -/
namespace Go.Proofs.YtphapjbfaomblaaDoor
open Go Go.RowKit Go.Lib
variable {P : Program}
theorem wpList_copy_runI (w : World) {ops : Array Oper} {rest : List Oper} {o : Oper} {a : Act} {Q : Exit → Act → World → Prop} (hgd : o.guard = none) (d s : Operand) (t t' : TypeId)
    (ho : o.op = .call { callee := .builtin .copy, args := #[d, s], argTypes := #[t, t'] }) (v u : Value) (hd : a.eval d = v) (hs : a.eval s = u) {v' : Value} {w' : World}
    (hr : (Builtin.copy_ #[t, t'] o.type #[v, u]).run P w = .ok v' w') (h : wpList P ops Q rest (a.put o.dst v') w') : wpList P ops Q (o :: rest) a w := by
  refine wpList_plain hgd fun K hK => ?_
  unfold Oper.wp execOp
  simp only [ho, resolve, invoke, builtin, Sem.run_bind, Sem.run_pure, Result.andThen_ok, List.map_toArray, List.map_cons, List.map_nil, hd, hs, hr]
  exact hK _ _ h
theorem step_copy_runI {ops : Array Oper} {o : Oper} {a : Act} {w : World} {K : Act → World → Prop} {Q : Exit → Act → World → Prop} {E : Prop}
    (hg : o.guard = none) (d x : Operand) (dT sT : TypeId) (hop : o.op = Op.call { callee := Callee.builtin Builtin.copy, args := #[d, x], argTypes := #[dT, sT] })
    (v u : Value) (hd : a.eval d = v) (hx : a.eval x = u) {v' : Value} {w' : World} (hr : (Builtin.copy_ #[dT, sT] o.type #[v, u]).run P w = .ok v' w') (hK : K (a.put o.dst v') w') :
    if Region.wanted o (yielded ops a.tmps) = true then Oper.wp P o a w K Q else E := by
  have hw : Region.wanted o (yielded ops a.tmps) = true := by simp [Region.wanted, hg]
  rw [if_pos hw]
  unfold Oper.wp
  simp [execOp, hop, resolve, invoke, builtin, hd, hx, hr, Result.andThen]
  exact hK
/-- copy at elements of several cells -/
theorem run_copy_K (w : World) (dT sT ty elem : TypeId) (i : TypeInfo) (K b o dLen dCap : Nat) (a : Addr) (sLen sCap m : Nat) (cs : List Value)
    (hu : P.underlying dT = some (.slice elem)) (hi : P.info? elem = some i) (hK : i.size = K) (hm : Nat.min sLen dLen = m) (hn : cs.length = m * K)
    (hsrc : ∀ j v, cs[j]? = some v → w.cell? (a.add j) = some v) (hc : ∀ j, j < cs.length → (w.cell? ⟨b, o + j, none⟩).isSome = true) (hf : ∀ j, j < cs.length → w.frozen? ⟨b, o + j, none⟩ = false) (h1 : ∀ v ∈ cs, v.oneCell' = true) :
    (Builtin.copy_ #[dT, sT] ty #[.slice (some ⟨b, o, none⟩) dLen dCap, .slice (some a) sLen sCap]).run P w = .ok (goInt m) (w.setCells b o cs) := by
  have hl := run_loadCells_list (P := P) w a cs hsrc
  have hst := run_storeCells_cells (P := P) b o cs 0 w (by simpa using hc) (by simpa using hf) h1
  simp [Builtin.copy_, run_underlying hu, Builtin.lenOf, Builtin.firstCells, sizeOf, typeInfo, hi, hK, hm, ← hn, hl, hst]
theorem shape_row {w : World} {g : Nat} {cs : Array Value} {t : TypeId} (h : w.heap[g]? = some (.cells cs t (0, 0))) : w.shape? g = some (t, cs.size) := by
  simp [World.shape?, h]
theorem isSome_row {w : World} {g : Nat} {cs : List Value} {t : TypeId} (h : w.heap[g]? = some (.cells cs.toArray t (0, 0))) {j : Nat} (hj : j < cs.length) : (w.cell? ⟨g, j, none⟩).isSome = true := by
  rw [cell_of_row w g j _ t (0, 0) h]
  simp [hj]
theorem frozen_row {w : World} {g : Nat} {cs : Array Value} {t : TypeId} (h : w.heap[g]? = some (.cells cs t (0, 0))) (j : Nat) : w.frozen? ⟨g, j, none⟩ = false := by simp [World.frozen?, h]
theorem setCells_heap_congr (b : Nat) : ∀ (vs : List Value) (o : Nat) {w w' : World}, w.heap = w'.heap → (w.setCells b o vs).heap = (w'.setCells b o vs).heap
  | [], _, _, _, h => h
  | v :: r, o, w, w', h => by
    rw [World.setCells, World.setCells]
    exact setCells_heap_congr b r (o + 1) (by simp [World.setCell, h])
def boC (b : Bool) : List Value := [.bool b]
def ptC (b : Nat) : List Value := [.pointer (some ⟨b, 0, none⟩)]
theorem drew_setCells (b : Nat) : ∀ (vs : List Value) (o : Nat) (w : World), (w.setCells b o vs).drew = w.drew.setCells b o vs
  | [], _, _ => rfl
  | v :: r, o, w => by rw [World.setCells, World.setCells, drew_setCells b r]; rfl


/-! insId -/
theorem info_insId : (Tryd.prog.info? 26).map (fun i => (i.zero, i.size, i.bytes)) = some (some (.agg #[.int .i64 0, .int .i64 0, .int .i64 0]), 3, 24) := by kernel_rfl
theorem enc_len_insId (x : Id) : (idC x).length = 3 := rfl
theorem enc_one_insId (x : Id) : ∀ u ∈ idC x, u.oneCell' = true := by
  intro u hu
  simp [idC] at hu
  first | (rcases hu with rfl | rfl | rfl <;> rfl) | (subst hu; rfl)
theorem size_insId : ∀ u : World, (sizeOf 26).run Tryd.prog u = .ok 3 u := fun u => by
  obtain ⟨i0, hi, _, hz1, _⟩ := info_parts info_insId
  simp [sizeOf, typeInfo, hi, hz1]
theorem flat_one_insId (L : List Id) : ∀ u ∈ L.flatMap idC, u.oneCell' = true := by
  intro u hu
  obtain ⟨x, _, hx⟩ := List.mem_flatMap.1 hu
  exact enc_one_insId x u hx
set_option maxRecDepth 1000000 in
/-- at the end -/
theorem insId_end (base : Nat) (v : Value) (L : List Id) (x : Id) (vb : Nat) (w : World) (hv : w.ownsRow base 26 3 v L.length (L.flatMap idC)) (hL : L.length ≤ 100000) (hvb : w.heap[vb]? = some (.cells (idC x).toArray 26 (0, 0))) (hbase : base ≤ w.heap.size) :
    Calls Tryd.prog 82 #[v, .int .i64 (L.length : Int), .slice (some ⟨vb, 0, none⟩) 1 1] w fun e w' => ∃ v', e = .returned v' ∧ w'.ownsRow base 26 3 v' (L.length + 1) ((L ++ [x]).flatMap idC) ∧ w.grownBy w' v.ownBlock ∧ (v'.ownBlock = v.ownBlock ∨ v'.ownBlock = some w.heap.size) := by
  obtain ⟨i0, hi, hz0, hz1, hz2⟩ := info_parts info_insId
  obtain ⟨Av, c, rfl, hlc, hcm⟩ := (Rd.of_own hv).form
  unfold maxLen at hcm
  have hnews : ∀ j u, (idC x)[j]? = some u → w.cell? ((⟨vb, 0, none⟩ : Addr).add j) = some u := by
    intro j u hu
    rw [Go.WideShapes.add_plain, Nat.zero_add, cell_of_row _ _ _ _ _ _ hvb, ← hu]
    simp
  have HV := Lib.hid hv
  clear hv hvb
  by_cases hc : c = L.length
  · subst hc
    go_enter Tryd.func82, Tryd.ntmps82
    go_wp2_with (at_builtin; refine wpList_append_own_at _ rfl _ _ 31 rfl base 26 i0 _ 3 24 Tryd.underlying31 hi hz0 hz1 hz2 rfl (by decide) _ _ _ rfl HV.out ⟨vb, 0, none⟩ 1 1 (idC x) rfl rfl hnews (enc_one_insId x) (by unfold maxLen; omega) (by omega) hbase ?_)
    intro v' W hown hgrow _ hat
    go_wp2
    go_ret
    exact ⟨_, rfl, by rw [List.flatMap_append, List.flatMap_singleton]; exact hown, hgrow, hat⟩
  · go_enter Tryd.func82, Tryd.ntmps82
    go_wp2_with (at_builtin; refine wpList_append_own_at _ rfl _ _ 31 rfl base 26 i0 _ 3 24 Tryd.underlying31 hi hz0 hz1 hz2 rfl (by decide) _ _ _ rfl HV.out ⟨vb, 0, none⟩ 1 1 (idC x) rfl rfl hnews (enc_one_insId x) (by unfold maxLen; omega) (by omega) hbase ?_)
    intro v' W hown hgrow _ hat
    go_wp2
    go_ret
    exact ⟨_, rfl, by rw [List.flatMap_append, List.flatMap_singleton]; exact hown, hgrow, hat⟩


set_option maxRecDepth 1000000 in
theorem insId_shift (base g c n m k : Nat) (L : List Id) (x : Id) (vb : Nat) (w : World) (hn : L.length = n) (hm : m = 1) (hv : w.ownsRow base 26 3 (.slice (some ⟨g, 0, none⟩) n c) n (L.flatMap idC)) (hk : k < n) (hroom : n + m ≤ c) (hvb : w.heap[vb]? = some (.cells (idC x).toArray 26 (0, 0))) (hne : vb ≠ g) :
    Calls Tryd.prog 82 #[.slice (some ⟨g, 0, none⟩) n c, .int .i64 (k : Int), .slice (some ⟨vb, 0, none⟩) m m] w fun e w' => e = .returned (.slice (some ⟨g, 0, none⟩) (n + m) c) ∧ w'.ownsRow base 26 3 (.slice (some ⟨g, 0, none⟩) (n + m) c) (n + m) ((L.take k ++ x :: L.drop k).flatMap idC) ∧ w.grownBy w' (some g) := by
  obtain ⟨i0, hi, hz0, hz1, hz2⟩ := info_parts info_insId
  obtain ⟨g', c', R, e1, hb, hgl, hnc, hcm, hg, hsz⟩ := own_parts hv (by omega)
  injection e1 with e1 _ e3
  injection e1 with e1
  injection e1 with e1
  subst e1; subst e3
  obtain ⟨A, hA⟩ : ∃ A, A = (L.take k).flatMap idC := ⟨_, rfl⟩
  obtain ⟨C, hC⟩ : ∃ C, C = (L.drop k).flatMap idC := ⟨_, rfl⟩
  have hAC : L.flatMap idC = A ++ C := by rw [hA, hC, ← List.flatMap_append, List.take_append_drop]
  have hAl : A.length = k * 3 := by rw [hA, flatl idC 3 enc_len_insId, List.length_take]; omega
  have hCl : C.length = (n - k) * 3 := by rw [hC, flatl idC 3 enc_len_insId, List.length_drop, hn]
  have hC1 : ∀ u ∈ C, u.oneCell' = true := by rw [hC]; exact flat_one_insId _
  have hNew : (L.take k ++ x :: L.drop k).flatMap idC = A ++ idC x ++ C := by rw [hA, hC]; simp
  have hRl : (A ++ C).length + R.length = c * 3 := by rw [← hAC, ← List.length_append]; exact hsz
  rw [hAC] at hg
  obtain ⟨H, hH⟩ : ∃ H, H = (C ++ R).take 3 := ⟨_, rfl⟩
  obtain ⟨T, hT⟩ : ∃ T, T = ((C ++ R).drop 3).take C.length := ⟨_, rfl⟩
  obtain ⟨R2, hR2⟩ : ∃ R2, R2 = ((C ++ R).drop 3).drop C.length := ⟨_, rfl⟩
  have hsplit : A ++ C ++ R = (A ++ H) ++ T ++ R2 := by
    rw [hH, hT, hR2, List.append_assoc, List.append_assoc, List.take_append_drop, List.append_assoc, List.take_append_drop]
  rw [List.length_append] at hRl
  have hroomK : (n + 1) * 3 ≤ c * 3 := Nat.mul_le_mul_right _ (by omega)
  have hkn : k * 3 + (n - k) * 3 = n * 3 := by rw [← Nat.add_mul]; congr 1; omega
  have hHl : H.length = 3 := by rw [hH, List.length_take, List.length_append]; omega
  have hTl : T.length = C.length := by rw [hT, List.length_take, List.length_drop, List.length_append]; omega
  have hR2l : R2.length = c * 3 - (n + 1) * 3 := by rw [hR2, List.length_drop, List.length_drop, List.length_append]; omega
  rw [hsplit] at hg
  have hAH : (A ++ H).length = (k + m) * 3 := by rw [List.length_append, hAl, hHl, hm]; all_goals omega
  have hg1 : (w.drew.setCells g ((k + m) * 3) C).heap[g]? = some (.cells (A ++ H ++ C ++ R2).toArray 26 (0, 0)) := by
    rw [← hAH]
    exact heap_setCells C T (A ++ H) R2 w.drew hg hTl.symm
  have hov : ∀ lb cb, (callFunc 92 #[.slice (some ⟨vb, 0, none⟩) m m, .slice (some ⟨g, (k + m) * 3, none⟩) lb cb]).run Tryd.prog w = .ok (.value (.bool false)) w := fun lb cb => by
    have hsb := shape_row hg
    have hsa := shape_row hvb
    rw [run_callFunc_extern Tryd.func92 (by kernel_rfl) (by kernel_rfl) (by kernel_rfl) (e := Extern.SlicesOverlaps.overlaps #[31, 31] #[4]) (by kernel_rfl),
      Lib.run_overlaps_apart w 31 4 26 Tryd.underlying31 3 size_insId ⟨vb, 0, none⟩ ⟨g, (k + m) * 3, none⟩ m m lb cb hne _ _ _ _ hsa hsb (by simp only [List.size_toArray, List.length_append]; omega) (frozen_row hvb _) (frozen_row hvb _)]
    rfl
  have hcp1 : ∀ ty dc sc, (Builtin.copy_ #[31, 31] ty #[.slice (some ⟨g, (k + m) * 3, none⟩) (n + m - (k + m)) dc, .slice (some ⟨g, k * 3, none⟩) (n + m - k) sc]).run Tryd.prog w.drew = .ok (goInt ((n - k : Nat) : Int)) (w.drew.setCells g ((k + m) * 3) C) := fun ty dc sc =>
    run_copy_K w.drew _ _ ty 26 i0 3 g ((k + m) * 3) (n + m - (k + m)) dc ⟨g, k * 3, none⟩ (n + m - k) sc (n - k) C Tryd.underlying31 hi hz1 (by simp only [Nat.min_def]; split <;> omega) hCl
      (fun j u hj => by
        rw [Go.WideShapes.add_plain]
        show w.cell? _ = _
        rw [cell_of_row w g _ _ _ _ hg, ← hsplit, ← hAl, List.append_assoc]
        rw [List.getElem?_toArray, List.getElem?_append_right (by omega), Nat.add_sub_cancel_left, List.getElem?_append_left (List.getElem?_eq_some_iff.1 hj).1]
        exact hj)
      (fun j hj => isSome_row (w := w.drew) hg (by rw [← hAH]; simp only [List.length_append]; omega)) (fun j _ => frozen_row (w := w.drew) hg _) hC1
  obtain ⟨W1, hW1⟩ : ∃ W1, W1 = w.drew.setCells g ((k + m) * 3) C := ⟨_, rfl⟩
  rw [← hW1] at hcp1 hg1
  have hvb1 : W1.heap[vb]? = some (.cells (idC x).toArray 26 (0, 0)) := by rw [hW1, setCells_other _ _ _ _ hne]; exact hvb
  have hcp2 : ∀ (W : World), W.heap = W1.heap → ∀ ty dc, (Builtin.copy_ #[31, 31] ty #[.slice (some ⟨g, k * 3, none⟩) (n + m - k) dc, .slice (some ⟨vb, 0, none⟩) m m]).run Tryd.prog W = .ok (goInt m) (W.setCells g (k * 3) (idC x)) := fun W hWc ty dc => by
    have hgW : W.heap[g]? = some (.cells (A ++ H ++ C ++ R2).toArray 26 (0, 0)) := by rw [hWc]; exact hg1
    have hvW : W.heap[vb]? = some (.cells (idC x).toArray 26 (0, 0)) := by rw [hWc]; exact hvb1
    exact run_copy_K W _ _ ty 26 i0 3 g (k * 3) (n + m - k) dc ⟨vb, 0, none⟩ m m m (idC x) Tryd.underlying31 hi hz1 (by simp only [Nat.min_def]; split <;> omega) (by rw [hm]; rfl)
      (fun j u hj => by rw [Go.WideShapes.add_plain, Nat.zero_add, cell_of_row _ _ _ _ _ _ hvW, ← hj]; simp)
      (fun j hj => isSome_row hgW (by rw [enc_len_insId] at hj; simp only [List.length_append]; omega)) (fun j _ => frozen_row hgW _) (enc_one_insId x)
  have hfin : ∀ W : World, W.heap = W1.heap → W.os = w.os ∧ W.tape = w.tape ∧ W.output = w.output → (W.setCells g (k * 3) (idC x)).ownsRow base 26 3 (.slice (some ⟨g, 0, none⟩) (n + m) c) (n + m) ((L.take k ++ x :: L.drop k).flatMap idC) ∧ w.grownBy (W.setCells g (k * 3) (idC x)) (some g) := fun W hWc hWo => by
    have hgW : W.heap[g]? = some (.cells (A ++ H ++ (C ++ R2)).toArray 26 (0, 0)) := by rw [hWc]; simpa using hg1
    have h2 := heap_setCells (idC x) H A (C ++ R2) W hgW (by rw [hHl]; rfl)
    rw [hAl] at h2
    refine ⟨?_, ?_⟩
    · rw [hNew]
      refine own_mk (R := R2) ?_ hb hroom hcm (by simpa using h2) ?_
      · simp only [List.length_append, enc_len_insId]; rw [hAl, hCl, hm, Nat.add_mul]; omega
      · simp only [List.length_append, enc_len_insId]; rw [hAl, hCl, hR2l]; rw [Nat.add_mul] at hroomK ⊢; omega
    · obtain ⟨s1, s2, s3, s4⟩ := setCells_same (g := g) (idC x) (k * 3) W
      obtain ⟨r1, r2, r3, r4⟩ := setCells_same (g := g) C ((k + m) * 3) w.drew
      rw [← hW1] at r1 r2 r3 r4
      refine ⟨s1.trans hWo.1, s2.trans hWo.2.1, s3.trans hWo.2.2, ?_, fun i _ hne' => ?_⟩
      · rw [s4, hWc, r4]; exact Nat.le_refl _
      · rw [setCells_other _ _ _ _ (fun e => hne' (by rw [e])), hWc, hW1, setCells_other _ _ _ _ (fun e => hne' (by rw [e]))]
        rfl
  have hst : ∀ W : World, W.os = W1.os → W.tape = W1.tape → W.output = W1.output → W.os = w.os ∧ W.tape = w.tape ∧ W.output = w.output := fun W h1 h2 h3 => by
    obtain ⟨r1, r2, r3, r4⟩ := setCells_same (g := g) C ((k + m) * 3) w.drew
    rw [← hW1] at r1 r2 r3
    exact ⟨h1.trans r1, h2.trans r2, h3.trans r3⟩
  have HFIN := Lib.hid hfin
  have mixed : Tryd.prog.follows Departure.mixedOrders = true := by kernel_rfl
  have HST := Lib.hid hst
  have hz1 : ¬ ((m : Int) = 0) := by omega
  have hz2 : ¬ ((k : Int) = (n : Int)) := by omega
  have hw1 : IntKind.i64.wrap ((k : Int) + (m : Int)) = (k : Int) + (m : Int) := by unfold maxLen at hcm; rw [IntKind.wrap_i64]; omega
  have hb1 : (0 : Int) ≤ (k : Int) + (m : Int) := by omega
  have hin : k ≤ n := by omega
  have htn : ((k : Int) + (m : Int)).toNat = k + m := by omega
  have hb2 : ¬ (c = k + m) := by omega
  have hb3 : (k : Int) ≤ (n : Int) + (m : Int) := by omega
  have hb4 : ¬ (c = k) := by omega
  have hc63 : c ≤ 9223372036854775807 := by unfold maxLen at hcm; omega
  clear hA hC hAC hAl hCl hC1 hNew hRl hH hT hR2 hsplit hroomK hkn hHl hTl hR2l hAH hg1 hfin hst hvb1 hg hsz hcm hv hvb hn hm
  go_enter Tryd.func82, Tryd.ntmps82
  go_wp2_with (simp only [hov])
  go_region_law_o (refine step_copy_runI rfl _ _ 31 31 rfl _ _ (by simp [Act.eval, Act.put]) (by simp [Act.eval, Act.put]) (hcp1 _ _ _) ?_)
  go_wp2_with (at_builtin; refine wpList_copy_runI _ rfl _ _ 31 31 rfl _ _ rfl rfl (hcp2 _ (by first | rfl | rw [hW1]) _ _) ?_)
  go_ret
  exact ⟨rfl, HFIN.out _ (by rw [hW1]) (HST.out _ (by rw [hW1]) (by rw [hW1]) (by rw [hW1]))⟩


set_option maxRecDepth 1000000 in
theorem insId_grow (base g n m k : Nat) (L : List Id) (x : Id) (vb : Nat) (w : World) (hn : L.length = n) (hm : m = 1) (hv : w.ownsRow base 26 3 (.slice (some ⟨g, 0, none⟩) n n) n (L.flatMap idC)) (hk : k < n) (hL : n ≤ 100000) (hvb : w.heap[vb]? = some (.cells (idC x).toArray 26 (0, 0))) (hbase : base ≤ w.heap.size) :
    Calls Tryd.prog 82 #[.slice (some ⟨g, 0, none⟩) n n, .int .i64 (k : Int), .slice (some ⟨vb, 0, none⟩) m m] w fun e w' => ∃ G, e = .returned (.slice (some ⟨w.heap.size, 0, none⟩) (n + m) G) ∧ w'.ownsRow base 26 3 (.slice (some ⟨w.heap.size, 0, none⟩) (n + m) G) (n + m) ((L.take k ++ x :: L.drop k).flatMap idC) ∧ w.grownBy w' (some g) := by
  obtain ⟨i0, hi, hz0, hz1, hz2⟩ := info_parts info_insId
  obtain ⟨g', c', R, e1, hb, hgl, hnc, hcm, hg, hsz⟩ := own_parts hv (by omega)
  injection e1 with e1 _ e3
  injection e1 with e1
  injection e1 with e1
  subst e1; subst e3
  obtain ⟨A, hA⟩ : ∃ A, A = (L.take k).flatMap idC := ⟨_, rfl⟩
  obtain ⟨C, hC⟩ : ∃ C, C = (L.drop k).flatMap idC := ⟨_, rfl⟩
  have hAC : L.flatMap idC = A ++ C := by rw [hA, hC, ← List.flatMap_append, List.take_append_drop]
  have hAl : A.length = k * 3 := by rw [hA, flatl idC 3 enc_len_insId, List.length_take]; omega
  have hCl : C.length = (n - k) * 3 := by rw [hC, flatl idC 3 enc_len_insId, List.length_drop, hn]
  have hC1 : ∀ u ∈ C, u.oneCell' = true := by rw [hC]; exact flat_one_insId _
  have hNew : (L.take k ++ x :: L.drop k).flatMap idC = A ++ idC x ++ C := by rw [hA, hC]; simp
  rw [hAC] at hg
  have hvl : vb < w.heap.size := (Array.getElem?_eq_some_iff.1 hvb).1
  obtain ⟨G, hG⟩ : ∃ G, G = grownCap w (n + m) n 26 := ⟨_, rfl⟩
  obtain ⟨Z1, hZ1⟩ : ∃ Z1, Z1 = (Builtin.zeroCells (.agg #[.int .i64 0, .int .i64 0, .int .i64 0] : Value).cells (n + m - k)).toList := ⟨_, rfl⟩
  obtain ⟨Z2, hZ2⟩ : ∃ Z2, Z2 = (Builtin.zeroCells (.agg #[.int .i64 0, .int .i64 0, .int .i64 0] : Value).cells (G - (n + m))).toList := ⟨_, rfl⟩
  have hZ1l : Z1.length = (n + m - k) * 3 := by rw [hZ1, Array.length_toList, size_zeroCells]; rfl
  have hZ2l : Z2.length = (G - (n + m)) * 3 := by rw [hZ2, Array.length_toList, size_zeroCells]; rfl
  have hGn : n + m ≤ G := by rw [hG]; exact grownCap_ge w _ _ _
  have hGm : G ≤ maxLen := by rw [hG]; exact grownCap_le_maxLen w (n + m) n 26 (by unfold maxLen; omega)
  have hold : (Builtin.firstCells i0.size k (.slice (some ⟨g, 0, none⟩) k n)).run Tryd.prog w.drew = .ok A.toArray w.drew := by
    rw [hz1]
    exact run_firstCells_some w.drew 3 k ⟨g, 0, none⟩ k n A (by rw [hAl]; all_goals omega) (fun j u hj => by
      rw [Go.WideShapes.add_plain, Nat.zero_add]
      show w.cell? _ = _
      rw [cell_of_row w g _ _ _ _ hg, List.append_assoc, List.getElem?_toArray, List.getElem?_append_left (List.getElem?_eq_some_iff.1 hj).1]
      exact hj)
  have hrz : ∀ ty, (Builtin.append_ #[31, 3] ty #[.slice (some ⟨g, 0, none⟩) k n, .int .i64 ((n : Int) + (m : Int) - (k : Int))]).run Tryd.prog w = .ok (.slice (some ⟨w.heap.size, 0, none⟩) (n + m) G) (w.drew.alloc (.cells (A ++ Z1 ++ Z2).toArray 26)) := fun ty => by
    have hkk : (n : Int) + (m : Int) - (k : Int) = ((n + m - k : Nat) : Int) := by omega
    have hik : k + (n + m - k) = n + m := by omega
    have h := Lib.run_append_grow_zeros w 31 3 ty 26 i0 _ .i64 .i64 Tryd.underlying31 Tryd.underlying3 hi hz0 (some ⟨g, 0, none⟩) k n A hold (n + m - k) (by omega) (by rw [hz1]; decide) (by omega) (by omega) (by rw [hz2]; omega) (by rw [hz2, hik]; exact growslice_fits (by omega) (by omega))
    rw [hik] at h
    have har : ∀ X Y : Array Value, A.toArray ++ X ++ Y = (A ++ X.toList ++ Y.toList).toArray := fun X Y => by
      apply Array.toList_inj.1
      simp
    rw [hkk, h, hG, hZ1, hZ2, hG, ← har]
  obtain ⟨ROW, hROW⟩ : ∃ ROW, ROW = (A ++ Z1 ++ Z2).toArray := ⟨_, rfl⟩
  rw [← hROW] at hrz
  obtain ⟨W1, hW1⟩ : ∃ W1, W1 = w.drew.alloc (.cells ROW 26) := ⟨_, rfl⟩
  have hsz1 : W1.heap.size = w.heap.size + 1 := by rw [hW1]; simp
  have hn1 : W1.heap[w.heap.size]? = some (.cells (A ++ Z1 ++ Z2).toArray 26 (0, 0)) := by rw [hW1, ← hROW]; exact heap_alloc_new w.drew _
  have ho1 : ∀ i, i < w.heap.size → W1.heap[i]? = w.heap[i]? := fun i hi' => by rw [hW1]; exact heap_alloc_old w.drew _ hi'
  obtain ⟨H, hH⟩ : ∃ H, H = Z1.take 3 := ⟨_, rfl⟩
  obtain ⟨T, hT⟩ : ∃ T, T = Z1.drop 3 := ⟨_, rfl⟩
  have hHT : Z1 = H ++ T := by rw [hH, hT, List.take_append_drop]
  have hmk : (n + m - k) * 3 = 3 + (n - k) * 3 := by rw [show n + m - k = 1 + (n - k) by omega, Nat.add_mul, Nat.one_mul]
  have hHl : H.length = 3 := by rw [hH, List.length_take]; omega
  have hTl : T.length = (n - k) * 3 := by rw [hT, List.length_drop]; omega
  have hcpA : ∀ (W : World), W.heap = W1.heap → ∀ ty dc, (Builtin.copy_ #[31, 31] ty #[.slice (some ⟨w.heap.size, k * 3, none⟩) (n + m - k) dc, .slice (some ⟨vb, 0, none⟩) m m]).run Tryd.prog W = .ok (goInt m) (W.setCells w.heap.size (k * 3) (idC x)) := fun W hWc ty dc => by
    have hgW : W.heap[w.heap.size]? = some (.cells (A ++ Z1 ++ Z2).toArray 26 (0, 0)) := by rw [hWc]; exact hn1
    have hvW : W.heap[vb]? = some (.cells (idC x).toArray 26 (0, 0)) := by rw [hWc, ho1 vb hvl]; exact hvb
    exact run_copy_K W _ _ ty 26 i0 3 w.heap.size (k * 3) (n + m - k) dc ⟨vb, 0, none⟩ m m m (idC x) Tryd.underlying31 hi hz1 (by simp only [Nat.min_def]; split <;> omega) (by rw [hm]; rfl)
      (fun j u hj => by rw [Go.WideShapes.add_plain, Nat.zero_add, cell_of_row _ _ _ _ _ _ hvW, ← hj]; simp)
      (fun j hj => isSome_row hgW (by rw [enc_len_insId] at hj; simp only [List.length_append]; omega)) (fun j _ => frozen_row hgW _) (enc_one_insId x)
  obtain ⟨W2, hW2⟩ : ∃ W2, W2 = W1.setCells w.heap.size (k * 3) (idC x) := ⟨_, rfl⟩
  have hn2 : W2.heap[w.heap.size]? = some (.cells (A ++ idC x ++ (T ++ Z2)).toArray 26 (0, 0)) := by
    rw [hW2, ← hAl]
    exact heap_setCells (idC x) H A (T ++ Z2) W1 (by rw [hn1, hHT]; simp) (by rw [hHl]; rfl)
  have ho2 : ∀ i, i < w.heap.size → W2.heap[i]? = w.heap[i]? := fun i hi' => by rw [hW2, setCells_other _ _ _ _ (by omega)]; exact ho1 i hi'
  have hcpB : ∀ (W : World), W.heap = W2.heap → ∀ ty dc sc, (Builtin.copy_ #[31, 31] ty #[.slice (some ⟨w.heap.size, (k + m) * 3, none⟩) (n + m - (k + m)) dc, .slice (some ⟨g, k * 3, none⟩) (n - k) sc]).run Tryd.prog W = .ok (goInt ((n - k : Nat) : Int)) (W.setCells w.heap.size ((k + m) * 3) C) := fun W hWc ty dc sc => by
    have hgW : W.heap[w.heap.size]? = some (.cells (A ++ idC x ++ (T ++ Z2)).toArray 26 (0, 0)) := by rw [hWc]; exact hn2
    have hgo : W.heap[g]? = some (.cells (A ++ C ++ R).toArray 26 (0, 0)) := by rw [hWc, ho2 g hgl]; exact hg
    exact run_copy_K W _ _ ty 26 i0 3 w.heap.size ((k + m) * 3) (n + m - (k + m)) dc ⟨g, k * 3, none⟩ (n - k) sc (n - k) C Tryd.underlying31 hi hz1 (by simp only [Nat.min_def]; split <;> omega) hCl
      (fun j u hj => by
        rw [Go.WideShapes.add_plain, cell_of_row W g _ _ _ _ hgo, ← hAl, List.append_assoc]
        rw [List.getElem?_toArray, List.getElem?_append_right (by omega), Nat.add_sub_cancel_left, List.getElem?_append_left (List.getElem?_eq_some_iff.1 hj).1]
        exact hj)
      (fun j hj => isSome_row hgW (by simp only [List.length_append, enc_len_insId]; rw [hAl, hTl]; rw [hCl] at hj; have : (k + m) * 3 = k * 3 + 3 := by rw [hm, Nat.add_mul, Nat.one_mul]
                                      omega)) (fun j _ => frozen_row hgW _) hC1
  have hfin : ∀ W : World, W.heap = W2.heap → W.os = w.os ∧ W.tape = w.tape ∧ W.output = w.output → (W.setCells w.heap.size ((k + m) * 3) C).ownsRow base 26 3 (.slice (some ⟨w.heap.size, 0, none⟩) (n + m) G) (n + m) ((L.take k ++ x :: L.drop k).flatMap idC) ∧ w.grownBy (W.setCells w.heap.size ((k + m) * 3) C) (some g) := fun W hWc hWo => by
    have hgW : W.heap[w.heap.size]? = some (.cells (A ++ idC x ++ T ++ Z2).toArray 26 (0, 0)) := by rw [hWc]; simpa using hn2
    have h2 := heap_setCells C T (A ++ idC x) Z2 W hgW (by rw [hTl, hCl])
    have hAx : (A ++ idC x).length = (k + m) * 3 := by rw [List.length_append, hAl, enc_len_insId, hm]; all_goals omega
    rw [hAx] at h2
    have hGK : (n + m) * 3 ≤ G * 3 := Nat.mul_le_mul_right _ hGn
    have hkn : k * 3 + (n - k) * 3 = n * 3 := by rw [← Nat.add_mul]; congr 1; omega
    refine ⟨?_, ?_⟩
    · rw [hNew]
      refine own_mk (R := Z2) ?_ hbase hGn hGm (by simpa using h2) ?_
      · simp only [List.length_append, enc_len_insId]; rw [hAl, hCl, hm, Nat.add_mul]; omega
      · have hGG : (G - (n + m)) * 3 = G * 3 - (n + m) * 3 := Nat.sub_mul _ _ _
        have hnm : (n + m) * 3 = n * 3 + 3 := by rw [hm, Nat.add_mul, Nat.one_mul]
        simp only [List.length_append, enc_len_insId]; rw [hAl, hCl, hZ2l, hGG]; omega
    · obtain ⟨s1, s2, s3, s4⟩ := setCells_same (g := w.heap.size) C ((k + m) * 3) W
      obtain ⟨r1, r2, r3, r4⟩ := setCells_same (g := w.heap.size) (idC x) (k * 3) W1
      rw [← hW2] at r4
      refine ⟨s1.trans hWo.1, s2.trans hWo.2.1, s3.trans hWo.2.2, ?_, fun i hi' _ => ?_⟩
      · rw [s4, hWc, r4, hsz1]; omega
      · rw [setCells_other _ _ _ _ (by omega), hWc, ho2 i hi']
  have hst : ∀ W : World, W.os = W2.os → W.tape = W2.tape → W.output = W2.output → W.os = w.os ∧ W.tape = w.tape ∧ W.output = w.output := fun W h1 h2 h3 => by
    obtain ⟨r1, r2, r3, r4⟩ := setCells_same (g := w.heap.size) (idC x) (k * 3) W1
    rw [← hW2] at r1 r2 r3
    exact ⟨h1.trans (r1.trans (by rw [hW1]; rfl)), h2.trans (r2.trans (by rw [hW1]; rfl)), h3.trans (r3.trans (by rw [hW1]; rfl))⟩
  have HFIN := Lib.hid hfin
  have mixed : Tryd.prog.follows Departure.mixedOrders = true := by kernel_rfl
  have HST := Lib.hid hst
  have hz1 : ¬ ((m : Int) = 0) := by omega
  have hz2 : ¬ ((k : Int) = (n : Int)) := by omega
  have hw1 : IntKind.i64.wrap ((k : Int) + (m : Int)) = (k : Int) + (m : Int) := by rw [IntKind.wrap_i64]; omega
  have hb1 : (0 : Int) ≤ (k : Int) + (m : Int) := by omega
  have hin : k ≤ n := by omega
  have htn : ((k : Int) + (m : Int)).toNat = k + m := by omega
  have hb2 : ¬ (G = k + m) := by omega
  have hb3 : (k : Int) ≤ (n : Int) := by omega
  have hb4 : ¬ (G = k) := by omega
  have hb5 : ¬ (n = k) := by omega
  have hb6 : (n : Int) < (n : Int) + (m : Int) := by omega
  have hG63 : G ≤ 9223372036854775807 := by unfold maxLen at hGm; omega
  clear hA hC hAC hAl hCl hC1 hNew hfin hst hg hsz hcm hvb hn hm hZ1 hZ2 hZ1l hZ2l hG hGm hold hsz1 hn1 ho1 hH hT hHT hmk hHl hTl hn2 ho2 hvl hv hROW
  go_enter Tryd.func82, Tryd.ntmps82
  go_wp2_with (first
    | (at_builtin; refine Lib.wpList_append_run _ rfl _ _ _ _ rfl _ _ rfl rfl _ _ (hrz _) ?_)
    | (at_builtin; refine wpList_copy_runI _ rfl _ _ 31 31 rfl _ _ rfl rfl (hcpA _ (by rw [hW1]; rfl) _ _) ?_))
  go_region_law_o (refine step_copy_runI rfl _ _ 31 31 rfl (.slice (some ⟨w.heap.size, (k + m) * 3, none⟩) (n + m - (k + m)) (G - (k + m))) (.slice (some ⟨g, k * 3, none⟩) (n - k) (n - k)) (by simp [Act.eval, Act.put]) (by simp [Act.eval, Act.put]) (hcpB _ (by rw [hW2, hW1]; rfl) _ _ _) ?_)
  go_wp2
  go_ret
  exact ⟨G, rfl, HFIN.out _ (by rw [hW2, hW1]; rfl) (HST.out _ (by rw [hW2, hW1]; rfl) (by rw [hW2, hW1]; rfl) (by rw [hW2, hW1]; rfl))⟩


set_option maxRecDepth 1000000 in
theorem insId_any (base : Nat) (v : Value) (L : List Id) (k : Nat) (x : Id) (vb : Nat) (w : World) (hv : w.ownsRow base 26 3 v L.length (L.flatMap idC)) (hk : k ≤ L.length) (hL : L.length ≤ 100000) (hvb : w.heap[vb]? = some (.cells (idC x).toArray 26 (0, 0))) (hne : v.ownBlock ≠ some vb) (hbase : base ≤ w.heap.size) :
    Calls Tryd.prog 82 #[v, .int .i64 (k : Int), .slice (some ⟨vb, 0, none⟩) 1 1] w fun e w' => ∃ v', e = .returned v' ∧ w'.ownsRow base 26 3 v' (L.length + 1) ((L.take k ++ x :: L.drop k).flatMap idC) ∧ w.grownBy w' v.ownBlock ∧ (v'.ownBlock = v.ownBlock ∨ v'.ownBlock = some w.heap.size) := by
  rcases Nat.lt_or_eq_of_le hk with h | rfl
  · obtain ⟨g, c, R, rfl, _, _, hnc, _, _, _⟩ := own_parts hv (by omega)
    by_cases hc : L.length + 1 ≤ c
    · refine (insId_shift base g c L.length 1 k L x vb w rfl rfl hv h hc hvb (fun e => hne (by rw [e]; rfl))).mono ?_
      rintro e w' ⟨rfl, h1, h2⟩
      exact ⟨_, rfl, h1, h2, .inl rfl⟩
    · obtain rfl : c = L.length := by omega
      refine (insId_grow base g L.length 1 k L x vb w rfl rfl hv h hL hvb hbase).mono ?_
      rintro e w' ⟨G, rfl, h1, h2⟩
      exact ⟨_, rfl, h1, h2, .inr rfl⟩
  · refine (insId_end base v L x vb w hv hL hvb hbase).mono ?_
    rintro e w' ⟨v', rfl, h1, h2, h3⟩
    exact ⟨v', rfl, by rw [List.take_length, List.drop_length]; exact h1, h2, h3⟩


/-! insB -/
theorem info_insB : (Tryd.prog.info? 4).map (fun i => (i.zero, i.size, i.bytes)) = some (some (.bool false), 1, 1) := by kernel_rfl
theorem enc_len_insB (x : Bool) : (boC x).length = 1 := rfl
theorem enc_one_insB (x : Bool) : ∀ u ∈ boC x, u.oneCell' = true := by
  intro u hu
  simp [boC] at hu
  first | (rcases hu with rfl | rfl | rfl <;> rfl) | (subst hu; rfl)
theorem size_insB : ∀ u : World, (sizeOf 4).run Tryd.prog u = .ok 1 u := fun u => by
  obtain ⟨i0, hi, _, hz1, _⟩ := info_parts info_insB
  simp [sizeOf, typeInfo, hi, hz1]
theorem flat_one_insB (L : List Bool) : ∀ u ∈ L.flatMap boC, u.oneCell' = true := by
  intro u hu
  obtain ⟨x, _, hx⟩ := List.mem_flatMap.1 hu
  exact enc_one_insB x u hx
set_option maxRecDepth 1000000 in
/-- at the end -/
theorem insB_end (base : Nat) (v : Value) (L : List Bool) (x : Bool) (vb : Nat) (w : World) (hv : w.ownsRow base 4 1 v L.length (L.flatMap boC)) (hL : L.length ≤ 100000) (hvb : w.heap[vb]? = some (.cells (boC x).toArray 4 (0, 0))) (hbase : base ≤ w.heap.size) :
    Calls Tryd.prog 83 #[v, .int .i64 (L.length : Int), .slice (some ⟨vb, 0, none⟩) 1 1] w fun e w' => ∃ v', e = .returned v' ∧ w'.ownsRow base 4 1 v' (L.length + 1) ((L ++ [x]).flatMap boC) ∧ w.grownBy w' v.ownBlock ∧ (v'.ownBlock = v.ownBlock ∨ v'.ownBlock = some w.heap.size) := by
  obtain ⟨i0, hi, hz0, hz1, hz2⟩ := info_parts info_insB
  obtain ⟨Av, c, rfl, hlc, hcm⟩ := (Rd.of_own hv).form
  unfold maxLen at hcm
  have hnews : ∀ j u, (boC x)[j]? = some u → w.cell? ((⟨vb, 0, none⟩ : Addr).add j) = some u := by
    intro j u hu
    rw [Go.WideShapes.add_plain, Nat.zero_add, cell_of_row _ _ _ _ _ _ hvb, ← hu]
    simp
  have HV := Lib.hid hv
  clear hv hvb
  by_cases hc : c = L.length
  · subst hc
    go_enter Tryd.func83, Tryd.ntmps83
    go_wp2_with (at_builtin; refine wpList_append_own_at _ rfl _ _ 130 rfl base 4 i0 _ 1 1 Tryd.underlying130 hi hz0 hz1 hz2 rfl (by decide) _ _ _ rfl HV.out ⟨vb, 0, none⟩ 1 1 (boC x) rfl rfl hnews (enc_one_insB x) (by unfold maxLen; omega) (by omega) hbase ?_)
    intro v' W hown hgrow _ hat
    go_wp2
    go_ret
    exact ⟨_, rfl, by rw [List.flatMap_append, List.flatMap_singleton]; exact hown, hgrow, hat⟩
  · go_enter Tryd.func83, Tryd.ntmps83
    go_wp2_with (at_builtin; refine wpList_append_own_at _ rfl _ _ 130 rfl base 4 i0 _ 1 1 Tryd.underlying130 hi hz0 hz1 hz2 rfl (by decide) _ _ _ rfl HV.out ⟨vb, 0, none⟩ 1 1 (boC x) rfl rfl hnews (enc_one_insB x) (by unfold maxLen; omega) (by omega) hbase ?_)
    intro v' W hown hgrow _ hat
    go_wp2
    go_ret
    exact ⟨_, rfl, by rw [List.flatMap_append, List.flatMap_singleton]; exact hown, hgrow, hat⟩


set_option maxRecDepth 1000000 in
theorem insB_shift (base g c n m k : Nat) (L : List Bool) (x : Bool) (vb : Nat) (w : World) (hn : L.length = n) (hm : m = 1) (hv : w.ownsRow base 4 1 (.slice (some ⟨g, 0, none⟩) n c) n (L.flatMap boC)) (hk : k < n) (hroom : n + m ≤ c) (hvb : w.heap[vb]? = some (.cells (boC x).toArray 4 (0, 0))) (hne : vb ≠ g) :
    Calls Tryd.prog 83 #[.slice (some ⟨g, 0, none⟩) n c, .int .i64 (k : Int), .slice (some ⟨vb, 0, none⟩) m m] w fun e w' => e = .returned (.slice (some ⟨g, 0, none⟩) (n + m) c) ∧ w'.ownsRow base 4 1 (.slice (some ⟨g, 0, none⟩) (n + m) c) (n + m) ((L.take k ++ x :: L.drop k).flatMap boC) ∧ w.grownBy w' (some g) := by
  obtain ⟨i0, hi, hz0, hz1, hz2⟩ := info_parts info_insB
  obtain ⟨g', c', R, e1, hb, hgl, hnc, hcm, hg, hsz⟩ := own_parts hv (by omega)
  injection e1 with e1 _ e3
  injection e1 with e1
  injection e1 with e1
  subst e1; subst e3
  obtain ⟨A, hA⟩ : ∃ A, A = (L.take k).flatMap boC := ⟨_, rfl⟩
  obtain ⟨C, hC⟩ : ∃ C, C = (L.drop k).flatMap boC := ⟨_, rfl⟩
  have hAC : L.flatMap boC = A ++ C := by rw [hA, hC, ← List.flatMap_append, List.take_append_drop]
  have hAl : A.length = k := by rw [hA, flatl boC 1 enc_len_insB, List.length_take]; omega
  have hCl : C.length = (n - k) * 1 := by rw [hC, flatl boC 1 enc_len_insB, List.length_drop, hn]
  have hC1 : ∀ u ∈ C, u.oneCell' = true := by rw [hC]; exact flat_one_insB _
  have hNew : (L.take k ++ x :: L.drop k).flatMap boC = A ++ boC x ++ C := by rw [hA, hC]; simp
  have hRl : (A ++ C).length + R.length = c * 1 := by rw [← hAC, ← List.length_append]; exact hsz
  rw [hAC] at hg
  obtain ⟨H, hH⟩ : ∃ H, H = (C ++ R).take 1 := ⟨_, rfl⟩
  obtain ⟨T, hT⟩ : ∃ T, T = ((C ++ R).drop 1).take C.length := ⟨_, rfl⟩
  obtain ⟨R2, hR2⟩ : ∃ R2, R2 = ((C ++ R).drop 1).drop C.length := ⟨_, rfl⟩
  have hsplit : A ++ C ++ R = (A ++ H) ++ T ++ R2 := by
    rw [hH, hT, hR2, List.append_assoc, List.append_assoc, List.take_append_drop, List.append_assoc, List.take_append_drop]
  rw [List.length_append] at hRl
  have hroomK : (n + 1) * 1 ≤ c * 1 := Nat.mul_le_mul_right _ (by omega)
  have hkn : k * 1 + (n - k) * 1 = n * 1 := by rw [← Nat.add_mul]; congr 1; omega
  have hHl : H.length = 1 := by rw [hH, List.length_take, List.length_append]; omega
  have hTl : T.length = C.length := by rw [hT, List.length_take, List.length_drop, List.length_append]; omega
  have hR2l : R2.length = c * 1 - (n + 1) * 1 := by rw [hR2, List.length_drop, List.length_drop, List.length_append]; omega
  rw [hsplit] at hg
  have hAH : (A ++ H).length = k + m := by rw [List.length_append, hAl, hHl, hm]; all_goals omega
  have hg1 : (w.drew.setCells g (k + m) C).heap[g]? = some (.cells (A ++ H ++ C ++ R2).toArray 4 (0, 0)) := by
    rw [← hAH]
    exact heap_setCells C T (A ++ H) R2 w.drew hg hTl.symm
  have hov : ∀ lb cb, (callFunc 94 #[.slice (some ⟨vb, 0, none⟩) m m, .slice (some ⟨g, k + m, none⟩) lb cb]).run Tryd.prog w = .ok (.value (.bool false)) w := fun lb cb => by
    have hsb := shape_row hg
    have hsa := shape_row hvb
    rw [run_callFunc_extern Tryd.func94 (by kernel_rfl) (by kernel_rfl) (by kernel_rfl) (e := Extern.SlicesOverlaps.overlaps #[130, 130] #[4]) (by kernel_rfl),
      Lib.run_overlaps_apart w 130 4 4 Tryd.underlying130 1 size_insB ⟨vb, 0, none⟩ ⟨g, k + m, none⟩ m m lb cb hne _ _ _ _ hsa hsb (by simp only [List.size_toArray, List.length_append]; omega) (frozen_row hvb _) (frozen_row hvb _)]
    rfl
  have hcp1 : ∀ ty dc sc, (Builtin.copy_ #[130, 130] ty #[.slice (some ⟨g, k + m, none⟩) (n + m - (k + m)) dc, .slice (some ⟨g, k, none⟩) (n + m - k) sc]).run Tryd.prog w.drew = .ok (goInt ((n - k : Nat) : Int)) (w.drew.setCells g (k + m) C) := fun ty dc sc =>
    run_copy_K w.drew _ _ ty 4 i0 1 g (k + m) (n + m - (k + m)) dc ⟨g, k, none⟩ (n + m - k) sc (n - k) C Tryd.underlying130 hi hz1 (by simp only [Nat.min_def]; split <;> omega) hCl
      (fun j u hj => by
        rw [Go.WideShapes.add_plain]
        show w.cell? _ = _
        rw [cell_of_row w g _ _ _ _ hg, ← hsplit, ← hAl, List.append_assoc]
        rw [List.getElem?_toArray, List.getElem?_append_right (by omega), Nat.add_sub_cancel_left, List.getElem?_append_left (List.getElem?_eq_some_iff.1 hj).1]
        exact hj)
      (fun j hj => isSome_row (w := w.drew) hg (by rw [← hAH]; simp only [List.length_append]; omega)) (fun j _ => frozen_row (w := w.drew) hg _) hC1
  obtain ⟨W1, hW1⟩ : ∃ W1, W1 = w.drew.setCells g (k + m) C := ⟨_, rfl⟩
  rw [← hW1] at hcp1 hg1
  have hvb1 : W1.heap[vb]? = some (.cells (boC x).toArray 4 (0, 0)) := by rw [hW1, setCells_other _ _ _ _ hne]; exact hvb
  have hcp2 : ∀ (W : World), W.heap = W1.heap → ∀ ty dc, (Builtin.copy_ #[130, 130] ty #[.slice (some ⟨g, k, none⟩) (n + m - k) dc, .slice (some ⟨vb, 0, none⟩) m m]).run Tryd.prog W = .ok (goInt m) (W.setCells g (k) (boC x)) := fun W hWc ty dc => by
    have hgW : W.heap[g]? = some (.cells (A ++ H ++ C ++ R2).toArray 4 (0, 0)) := by rw [hWc]; exact hg1
    have hvW : W.heap[vb]? = some (.cells (boC x).toArray 4 (0, 0)) := by rw [hWc]; exact hvb1
    exact run_copy_K W _ _ ty 4 i0 1 g (k) (n + m - k) dc ⟨vb, 0, none⟩ m m m (boC x) Tryd.underlying130 hi hz1 (by simp only [Nat.min_def]; split <;> omega) (by rw [hm]; rfl)
      (fun j u hj => by rw [Go.WideShapes.add_plain, Nat.zero_add, cell_of_row _ _ _ _ _ _ hvW, ← hj]; simp)
      (fun j hj => isSome_row hgW (by rw [enc_len_insB] at hj; simp only [List.length_append]; omega)) (fun j _ => frozen_row hgW _) (enc_one_insB x)
  have hfin : ∀ W : World, W.heap = W1.heap → W.os = w.os ∧ W.tape = w.tape ∧ W.output = w.output → (W.setCells g (k) (boC x)).ownsRow base 4 1 (.slice (some ⟨g, 0, none⟩) (n + m) c) (n + m) ((L.take k ++ x :: L.drop k).flatMap boC) ∧ w.grownBy (W.setCells g (k) (boC x)) (some g) := fun W hWc hWo => by
    have hgW : W.heap[g]? = some (.cells (A ++ H ++ (C ++ R2)).toArray 4 (0, 0)) := by rw [hWc]; simpa using hg1
    have h2 := heap_setCells (boC x) H A (C ++ R2) W hgW (by rw [hHl]; rfl)
    rw [hAl] at h2
    refine ⟨?_, ?_⟩
    · rw [hNew]
      refine own_mk (R := R2) ?_ hb hroom hcm (by simpa using h2) ?_
      · simp only [List.length_append, enc_len_insB]; rw [hAl, hCl, hm, Nat.add_mul]; omega
      · simp only [List.length_append, enc_len_insB]; rw [hAl, hCl, hR2l]; rw [Nat.add_mul] at hroomK ⊢; omega
    · obtain ⟨s1, s2, s3, s4⟩ := setCells_same (g := g) (boC x) (k) W
      obtain ⟨r1, r2, r3, r4⟩ := setCells_same (g := g) C (k + m) w.drew
      rw [← hW1] at r1 r2 r3 r4
      refine ⟨s1.trans hWo.1, s2.trans hWo.2.1, s3.trans hWo.2.2, ?_, fun i _ hne' => ?_⟩
      · rw [s4, hWc, r4]; exact Nat.le_refl _
      · rw [setCells_other _ _ _ _ (fun e => hne' (by rw [e])), hWc, hW1, setCells_other _ _ _ _ (fun e => hne' (by rw [e]))]
        rfl
  have hst : ∀ W : World, W.os = W1.os → W.tape = W1.tape → W.output = W1.output → W.os = w.os ∧ W.tape = w.tape ∧ W.output = w.output := fun W h1 h2 h3 => by
    obtain ⟨r1, r2, r3, r4⟩ := setCells_same (g := g) C (k + m) w.drew
    rw [← hW1] at r1 r2 r3
    exact ⟨h1.trans r1, h2.trans r2, h3.trans r3⟩
  have HFIN := Lib.hid hfin
  have mixed : Tryd.prog.follows Departure.mixedOrders = true := by kernel_rfl
  have HST := Lib.hid hst
  have hz1 : ¬ ((m : Int) = 0) := by omega
  have hz2 : ¬ ((k : Int) = (n : Int)) := by omega
  have hw1 : IntKind.i64.wrap ((k : Int) + (m : Int)) = (k : Int) + (m : Int) := by unfold maxLen at hcm; rw [IntKind.wrap_i64]; omega
  have hb1 : (0 : Int) ≤ (k : Int) + (m : Int) := by omega
  have hin : k ≤ n := by omega
  have htn : ((k : Int) + (m : Int)).toNat = k + m := by omega
  have hb2 : ¬ (c = k + m) := by omega
  have hb3 : (k : Int) ≤ (n : Int) + (m : Int) := by omega
  have hb4 : ¬ (c = k) := by omega
  have hc63 : c ≤ 9223372036854775807 := by unfold maxLen at hcm; omega
  clear hA hC hAC hAl hCl hC1 hNew hRl hH hT hR2 hsplit hroomK hkn hHl hTl hR2l hAH hg1 hfin hst hvb1 hg hsz hcm hv hvb hn hm
  go_enter Tryd.func83, Tryd.ntmps83
  go_wp2_with (simp only [hov])
  go_region_law_o (refine step_copy_runI rfl _ _ 130 130 rfl _ _ (by simp [Act.eval, Act.put]) (by simp [Act.eval, Act.put]) (hcp1 _ _ _) ?_)
  go_wp2_with (at_builtin; refine wpList_copy_runI _ rfl _ _ 130 130 rfl _ _ rfl rfl (hcp2 _ (by first | rfl | rw [hW1]) _ _) ?_)
  go_ret
  exact ⟨rfl, HFIN.out _ (by rw [hW1]) (HST.out _ (by rw [hW1]) (by rw [hW1]) (by rw [hW1]))⟩


set_option maxRecDepth 1000000 in
theorem insB_grow (base g n m k : Nat) (L : List Bool) (x : Bool) (vb : Nat) (w : World) (hn : L.length = n) (hm : m = 1) (hv : w.ownsRow base 4 1 (.slice (some ⟨g, 0, none⟩) n n) n (L.flatMap boC)) (hk : k < n) (hL : n ≤ 100000) (hvb : w.heap[vb]? = some (.cells (boC x).toArray 4 (0, 0))) (hbase : base ≤ w.heap.size) :
    Calls Tryd.prog 83 #[.slice (some ⟨g, 0, none⟩) n n, .int .i64 (k : Int), .slice (some ⟨vb, 0, none⟩) m m] w fun e w' => ∃ G, e = .returned (.slice (some ⟨w.heap.size, 0, none⟩) (n + m) G) ∧ w'.ownsRow base 4 1 (.slice (some ⟨w.heap.size, 0, none⟩) (n + m) G) (n + m) ((L.take k ++ x :: L.drop k).flatMap boC) ∧ w.grownBy w' (some g) := by
  obtain ⟨i0, hi, hz0, hz1, hz2⟩ := info_parts info_insB
  obtain ⟨g', c', R, e1, hb, hgl, hnc, hcm, hg, hsz⟩ := own_parts hv (by omega)
  injection e1 with e1 _ e3
  injection e1 with e1
  injection e1 with e1
  subst e1; subst e3
  obtain ⟨A, hA⟩ : ∃ A, A = (L.take k).flatMap boC := ⟨_, rfl⟩
  obtain ⟨C, hC⟩ : ∃ C, C = (L.drop k).flatMap boC := ⟨_, rfl⟩
  have hAC : L.flatMap boC = A ++ C := by rw [hA, hC, ← List.flatMap_append, List.take_append_drop]
  have hAl : A.length = k := by rw [hA, flatl boC 1 enc_len_insB, List.length_take]; omega
  have hCl : C.length = (n - k) * 1 := by rw [hC, flatl boC 1 enc_len_insB, List.length_drop, hn]
  have hC1 : ∀ u ∈ C, u.oneCell' = true := by rw [hC]; exact flat_one_insB _
  have hNew : (L.take k ++ x :: L.drop k).flatMap boC = A ++ boC x ++ C := by rw [hA, hC]; simp
  rw [hAC] at hg
  have hvl : vb < w.heap.size := (Array.getElem?_eq_some_iff.1 hvb).1
  obtain ⟨G, hG⟩ : ∃ G, G = grownCap w (n + m) n 4 := ⟨_, rfl⟩
  obtain ⟨Z1, hZ1⟩ : ∃ Z1, Z1 = (Builtin.zeroCells (.bool false : Value).cells (n + m - k)).toList := ⟨_, rfl⟩
  obtain ⟨Z2, hZ2⟩ : ∃ Z2, Z2 = (Builtin.zeroCells (.bool false : Value).cells (G - (n + m))).toList := ⟨_, rfl⟩
  have hZ1l : Z1.length = (n + m - k) * 1 := by rw [hZ1, Array.length_toList, size_zeroCells]; rfl
  have hZ2l : Z2.length = (G - (n + m)) * 1 := by rw [hZ2, Array.length_toList, size_zeroCells]; rfl
  have hGn : n + m ≤ G := by rw [hG]; exact grownCap_ge w _ _ _
  have hGm : G ≤ maxLen := by rw [hG]; exact grownCap_le_maxLen w (n + m) n 4 (by unfold maxLen; omega)
  have hold : (Builtin.firstCells i0.size k (.slice (some ⟨g, 0, none⟩) k n)).run Tryd.prog w.drew = .ok A.toArray w.drew := by
    rw [hz1]
    exact run_firstCells_some w.drew 1 k ⟨g, 0, none⟩ k n A (by rw [hAl]; all_goals omega) (fun j u hj => by
      rw [Go.WideShapes.add_plain, Nat.zero_add]
      show w.cell? _ = _
      rw [cell_of_row w g _ _ _ _ hg, List.append_assoc, List.getElem?_toArray, List.getElem?_append_left (List.getElem?_eq_some_iff.1 hj).1]
      exact hj)
  have hrz : ∀ ty, (Builtin.append_ #[130, 3] ty #[.slice (some ⟨g, 0, none⟩) k n, .int .i64 ((n : Int) + (m : Int) - (k : Int))]).run Tryd.prog w = .ok (.slice (some ⟨w.heap.size, 0, none⟩) (n + m) G) (w.drew.alloc (.cells (A ++ Z1 ++ Z2).toArray 4)) := fun ty => by
    have hkk : (n : Int) + (m : Int) - (k : Int) = ((n + m - k : Nat) : Int) := by omega
    have hik : k + (n + m - k) = n + m := by omega
    have h := Lib.run_append_grow_zeros w 130 3 ty 4 i0 _ .i64 .i64 Tryd.underlying130 Tryd.underlying3 hi hz0 (some ⟨g, 0, none⟩) k n A hold (n + m - k) (by omega) (by rw [hz1]; decide) (by omega) (by omega) (by rw [hz2]; omega) (by rw [hz2, hik]; exact growslice_fits (by omega) (by omega))
    rw [hik] at h
    have har : ∀ X Y : Array Value, A.toArray ++ X ++ Y = (A ++ X.toList ++ Y.toList).toArray := fun X Y => by
      apply Array.toList_inj.1
      simp
    rw [hkk, h, hG, hZ1, hZ2, hG, ← har]
  obtain ⟨ROW, hROW⟩ : ∃ ROW, ROW = (A ++ Z1 ++ Z2).toArray := ⟨_, rfl⟩
  rw [← hROW] at hrz
  obtain ⟨W1, hW1⟩ : ∃ W1, W1 = w.drew.alloc (.cells ROW 4) := ⟨_, rfl⟩
  have hsz1 : W1.heap.size = w.heap.size + 1 := by rw [hW1]; simp
  have hn1 : W1.heap[w.heap.size]? = some (.cells (A ++ Z1 ++ Z2).toArray 4 (0, 0)) := by rw [hW1, ← hROW]; exact heap_alloc_new w.drew _
  have ho1 : ∀ i, i < w.heap.size → W1.heap[i]? = w.heap[i]? := fun i hi' => by rw [hW1]; exact heap_alloc_old w.drew _ hi'
  obtain ⟨H, hH⟩ : ∃ H, H = Z1.take 1 := ⟨_, rfl⟩
  obtain ⟨T, hT⟩ : ∃ T, T = Z1.drop 1 := ⟨_, rfl⟩
  have hHT : Z1 = H ++ T := by rw [hH, hT, List.take_append_drop]
  have hmk : (n + m - k) * 1 = 1 + (n - k) * 1 := by rw [show n + m - k = 1 + (n - k) by omega, Nat.add_mul, Nat.one_mul]
  have hHl : H.length = 1 := by rw [hH, List.length_take]; omega
  have hTl : T.length = (n - k) * 1 := by rw [hT, List.length_drop]; omega
  have hcpA : ∀ (W : World), W.heap = W1.heap → ∀ ty dc, (Builtin.copy_ #[130, 130] ty #[.slice (some ⟨w.heap.size, k, none⟩) (n + m - k) dc, .slice (some ⟨vb, 0, none⟩) m m]).run Tryd.prog W = .ok (goInt m) (W.setCells w.heap.size (k) (boC x)) := fun W hWc ty dc => by
    have hgW : W.heap[w.heap.size]? = some (.cells (A ++ Z1 ++ Z2).toArray 4 (0, 0)) := by rw [hWc]; exact hn1
    have hvW : W.heap[vb]? = some (.cells (boC x).toArray 4 (0, 0)) := by rw [hWc, ho1 vb hvl]; exact hvb
    exact run_copy_K W _ _ ty 4 i0 1 w.heap.size (k) (n + m - k) dc ⟨vb, 0, none⟩ m m m (boC x) Tryd.underlying130 hi hz1 (by simp only [Nat.min_def]; split <;> omega) (by rw [hm]; rfl)
      (fun j u hj => by rw [Go.WideShapes.add_plain, Nat.zero_add, cell_of_row _ _ _ _ _ _ hvW, ← hj]; simp)
      (fun j hj => isSome_row hgW (by rw [enc_len_insB] at hj; simp only [List.length_append]; omega)) (fun j _ => frozen_row hgW _) (enc_one_insB x)
  obtain ⟨W2, hW2⟩ : ∃ W2, W2 = W1.setCells w.heap.size (k) (boC x) := ⟨_, rfl⟩
  have hn2 : W2.heap[w.heap.size]? = some (.cells (A ++ boC x ++ (T ++ Z2)).toArray 4 (0, 0)) := by
    rw [hW2, ← hAl]
    exact heap_setCells (boC x) H A (T ++ Z2) W1 (by rw [hn1, hHT]; simp) (by rw [hHl]; rfl)
  have ho2 : ∀ i, i < w.heap.size → W2.heap[i]? = w.heap[i]? := fun i hi' => by rw [hW2, setCells_other _ _ _ _ (by omega)]; exact ho1 i hi'
  have hcpB : ∀ (W : World), W.heap = W2.heap → ∀ ty dc sc, (Builtin.copy_ #[130, 130] ty #[.slice (some ⟨w.heap.size, k + m, none⟩) (n + m - (k + m)) dc, .slice (some ⟨g, k, none⟩) (n - k) sc]).run Tryd.prog W = .ok (goInt ((n - k : Nat) : Int)) (W.setCells w.heap.size (k + m) C) := fun W hWc ty dc sc => by
    have hgW : W.heap[w.heap.size]? = some (.cells (A ++ boC x ++ (T ++ Z2)).toArray 4 (0, 0)) := by rw [hWc]; exact hn2
    have hgo : W.heap[g]? = some (.cells (A ++ C ++ R).toArray 4 (0, 0)) := by rw [hWc, ho2 g hgl]; exact hg
    exact run_copy_K W _ _ ty 4 i0 1 w.heap.size (k + m) (n + m - (k + m)) dc ⟨g, k, none⟩ (n - k) sc (n - k) C Tryd.underlying130 hi hz1 (by simp only [Nat.min_def]; split <;> omega) hCl
      (fun j u hj => by
        rw [Go.WideShapes.add_plain, cell_of_row W g _ _ _ _ hgo, ← hAl, List.append_assoc]
        rw [List.getElem?_toArray, List.getElem?_append_right (by omega), Nat.add_sub_cancel_left, List.getElem?_append_left (List.getElem?_eq_some_iff.1 hj).1]
        exact hj)
      (fun j hj => isSome_row hgW (by simp only [List.length_append, enc_len_insB]; rw [hAl, hTl]; rw [hCl] at hj; have : (k + m) * 1 = k * 1 + 1 := by rw [hm, Nat.add_mul, Nat.one_mul]
                                      omega)) (fun j _ => frozen_row hgW _) hC1
  have hfin : ∀ W : World, W.heap = W2.heap → W.os = w.os ∧ W.tape = w.tape ∧ W.output = w.output → (W.setCells w.heap.size (k + m) C).ownsRow base 4 1 (.slice (some ⟨w.heap.size, 0, none⟩) (n + m) G) (n + m) ((L.take k ++ x :: L.drop k).flatMap boC) ∧ w.grownBy (W.setCells w.heap.size (k + m) C) (some g) := fun W hWc hWo => by
    have hgW : W.heap[w.heap.size]? = some (.cells (A ++ boC x ++ T ++ Z2).toArray 4 (0, 0)) := by rw [hWc]; simpa using hn2
    have h2 := heap_setCells C T (A ++ boC x) Z2 W hgW (by rw [hTl, hCl])
    have hAx : (A ++ boC x).length = k + m := by rw [List.length_append, hAl, enc_len_insB, hm]; all_goals omega
    rw [hAx] at h2
    have hGK : (n + m) * 1 ≤ G * 1 := Nat.mul_le_mul_right _ hGn
    have hkn : k * 1 + (n - k) * 1 = n * 1 := by rw [← Nat.add_mul]; congr 1; omega
    refine ⟨?_, ?_⟩
    · rw [hNew]
      refine own_mk (R := Z2) ?_ hbase hGn hGm (by simpa using h2) ?_
      · simp only [List.length_append, enc_len_insB]; rw [hAl, hCl, hm, Nat.add_mul]; omega
      · have hGG : (G - (n + m)) * 1 = G * 1 - (n + m) * 1 := Nat.sub_mul _ _ _
        have hnm : (n + m) * 1 = n * 1 + 1 := by rw [hm, Nat.add_mul, Nat.one_mul]
        simp only [List.length_append, enc_len_insB]; rw [hAl, hCl, hZ2l, hGG]; omega
    · obtain ⟨s1, s2, s3, s4⟩ := setCells_same (g := w.heap.size) C (k + m) W
      obtain ⟨r1, r2, r3, r4⟩ := setCells_same (g := w.heap.size) (boC x) (k) W1
      rw [← hW2] at r4
      refine ⟨s1.trans hWo.1, s2.trans hWo.2.1, s3.trans hWo.2.2, ?_, fun i hi' _ => ?_⟩
      · rw [s4, hWc, r4, hsz1]; omega
      · rw [setCells_other _ _ _ _ (by omega), hWc, ho2 i hi']
  have hst : ∀ W : World, W.os = W2.os → W.tape = W2.tape → W.output = W2.output → W.os = w.os ∧ W.tape = w.tape ∧ W.output = w.output := fun W h1 h2 h3 => by
    obtain ⟨r1, r2, r3, r4⟩ := setCells_same (g := w.heap.size) (boC x) (k) W1
    rw [← hW2] at r1 r2 r3
    exact ⟨h1.trans (r1.trans (by rw [hW1]; rfl)), h2.trans (r2.trans (by rw [hW1]; rfl)), h3.trans (r3.trans (by rw [hW1]; rfl))⟩
  have HFIN := Lib.hid hfin
  have mixed : Tryd.prog.follows Departure.mixedOrders = true := by kernel_rfl
  have HST := Lib.hid hst
  have hz1 : ¬ ((m : Int) = 0) := by omega
  have hz2 : ¬ ((k : Int) = (n : Int)) := by omega
  have hw1 : IntKind.i64.wrap ((k : Int) + (m : Int)) = (k : Int) + (m : Int) := by rw [IntKind.wrap_i64]; omega
  have hb1 : (0 : Int) ≤ (k : Int) + (m : Int) := by omega
  have hin : k ≤ n := by omega
  have htn : ((k : Int) + (m : Int)).toNat = k + m := by omega
  have hb2 : ¬ (G = k + m) := by omega
  have hb3 : (k : Int) ≤ (n : Int) := by omega
  have hb4 : ¬ (G = k) := by omega
  have hb5 : ¬ (n = k) := by omega
  have hb6 : (n : Int) < (n : Int) + (m : Int) := by omega
  have hG63 : G ≤ 9223372036854775807 := by unfold maxLen at hGm; omega
  clear hA hC hAC hAl hCl hC1 hNew hfin hst hg hsz hcm hvb hn hm hZ1 hZ2 hZ1l hZ2l hG hGm hold hsz1 hn1 ho1 hH hT hHT hmk hHl hTl hn2 ho2 hvl hv hROW
  go_enter Tryd.func83, Tryd.ntmps83
  go_wp2_with (first
    | (at_builtin; refine Lib.wpList_append_run _ rfl _ _ _ _ rfl _ _ rfl rfl _ _ (hrz _) ?_)
    | (at_builtin; refine wpList_copy_runI _ rfl _ _ 130 130 rfl _ _ rfl rfl (hcpA _ (by rw [hW1]; rfl) _ _) ?_))
  go_region_law_o (refine step_copy_runI rfl _ _ 130 130 rfl (.slice (some ⟨w.heap.size, k + m, none⟩) (n + m - (k + m)) (G - (k + m))) (.slice (some ⟨g, k, none⟩) (n - k) (n - k)) (by simp [Act.eval, Act.put]) (by simp [Act.eval, Act.put]) (hcpB _ (by rw [hW2, hW1]; rfl) _ _ _) ?_)
  go_wp2
  go_ret
  exact ⟨G, rfl, HFIN.out _ (by rw [hW2, hW1]; rfl) (HST.out _ (by rw [hW2, hW1]; rfl) (by rw [hW2, hW1]; rfl) (by rw [hW2, hW1]; rfl))⟩


set_option maxRecDepth 1000000 in
theorem insB_any (base : Nat) (v : Value) (L : List Bool) (k : Nat) (x : Bool) (vb : Nat) (w : World) (hv : w.ownsRow base 4 1 v L.length (L.flatMap boC)) (hk : k ≤ L.length) (hL : L.length ≤ 100000) (hvb : w.heap[vb]? = some (.cells (boC x).toArray 4 (0, 0))) (hne : v.ownBlock ≠ some vb) (hbase : base ≤ w.heap.size) :
    Calls Tryd.prog 83 #[v, .int .i64 (k : Int), .slice (some ⟨vb, 0, none⟩) 1 1] w fun e w' => ∃ v', e = .returned v' ∧ w'.ownsRow base 4 1 v' (L.length + 1) ((L.take k ++ x :: L.drop k).flatMap boC) ∧ w.grownBy w' v.ownBlock ∧ (v'.ownBlock = v.ownBlock ∨ v'.ownBlock = some w.heap.size) := by
  rcases Nat.lt_or_eq_of_le hk with h | rfl
  · obtain ⟨g, c, R, rfl, _, _, hnc, _, _, _⟩ := own_parts hv (by omega)
    by_cases hc : L.length + 1 ≤ c
    · refine (insB_shift base g c L.length 1 k L x vb w rfl rfl hv h hc hvb (fun e => hne (by rw [e]; rfl))).mono ?_
      rintro e w' ⟨rfl, h1, h2⟩
      exact ⟨_, rfl, h1, h2, .inl rfl⟩
    · obtain rfl : c = L.length := by omega
      refine (insB_grow base g L.length 1 k L x vb w rfl rfl hv h hL hvb hbase).mono ?_
      rintro e w' ⟨G, rfl, h1, h2⟩
      exact ⟨_, rfl, h1, h2, .inr rfl⟩
  · refine (insB_end base v L x vb w hv hL hvb hbase).mono ?_
    rintro e w' ⟨v', rfl, h1, h2, h3⟩
    exact ⟨v', rfl, by rw [List.take_length, List.drop_length]; exact h1, h2, h3⟩


/-! insP -/
theorem info_insP : (Tryd.prog.info? 129).map (fun i => (i.zero, i.size, i.bytes)) = some (some (.pointer none), 1, 8) := by kernel_rfl
theorem enc_len_insP (x : Nat) : (ptC x).length = 1 := rfl
theorem enc_one_insP (x : Nat) : ∀ u ∈ ptC x, u.oneCell' = true := by
  intro u hu
  simp [ptC] at hu
  first | (rcases hu with rfl | rfl | rfl <;> rfl) | (subst hu; rfl)
theorem size_insP : ∀ u : World, (sizeOf 129).run Tryd.prog u = .ok 1 u := fun u => by
  obtain ⟨i0, hi, _, hz1, _⟩ := info_parts info_insP
  simp [sizeOf, typeInfo, hi, hz1]
theorem flat_one_insP (L : List Nat) : ∀ u ∈ L.flatMap ptC, u.oneCell' = true := by
  intro u hu
  obtain ⟨x, _, hx⟩ := List.mem_flatMap.1 hu
  exact enc_one_insP x u hx
set_option maxRecDepth 1000000 in
/-- at the end -/
theorem insP_end (base : Nat) (v : Value) (L : List Nat) (x : Nat) (vb : Nat) (w : World) (hv : w.ownsRow base 129 1 v L.length (L.flatMap ptC)) (hL : L.length ≤ 100000) (hvb : w.heap[vb]? = some (.cells (ptC x).toArray 129 (0, 0))) (hbase : base ≤ w.heap.size) :
    Calls Tryd.prog 98 #[v, .int .i64 (L.length : Int), .slice (some ⟨vb, 0, none⟩) 1 1] w fun e w' => ∃ v', e = .returned v' ∧ w'.ownsRow base 129 1 v' (L.length + 1) ((L ++ [x]).flatMap ptC) ∧ w.grownBy w' v.ownBlock ∧ (v'.ownBlock = v.ownBlock ∨ v'.ownBlock = some w.heap.size) := by
  obtain ⟨i0, hi, hz0, hz1, hz2⟩ := info_parts info_insP
  obtain ⟨Av, c, rfl, hlc, hcm⟩ := (Rd.of_own hv).form
  unfold maxLen at hcm
  have hnews : ∀ j u, (ptC x)[j]? = some u → w.cell? ((⟨vb, 0, none⟩ : Addr).add j) = some u := by
    intro j u hu
    rw [Go.WideShapes.add_plain, Nat.zero_add, cell_of_row _ _ _ _ _ _ hvb, ← hu]
    simp
  have HV := Lib.hid hv
  clear hv hvb
  by_cases hc : c = L.length
  · subst hc
    go_enter Tryd.func98, Tryd.ntmps98
    go_wp2_with (at_builtin; refine wpList_append_own_at _ rfl _ _ 121 rfl base 129 i0 _ 1 8 Tryd.underlying121 hi hz0 hz1 hz2 rfl (by decide) _ _ _ rfl HV.out ⟨vb, 0, none⟩ 1 1 (ptC x) rfl rfl hnews (enc_one_insP x) (by unfold maxLen; omega) (by omega) hbase ?_)
    intro v' W hown hgrow _ hat
    go_wp2
    go_ret
    exact ⟨_, rfl, by rw [List.flatMap_append, List.flatMap_singleton]; exact hown, hgrow, hat⟩
  · go_enter Tryd.func98, Tryd.ntmps98
    go_wp2_with (at_builtin; refine wpList_append_own_at _ rfl _ _ 121 rfl base 129 i0 _ 1 8 Tryd.underlying121 hi hz0 hz1 hz2 rfl (by decide) _ _ _ rfl HV.out ⟨vb, 0, none⟩ 1 1 (ptC x) rfl rfl hnews (enc_one_insP x) (by unfold maxLen; omega) (by omega) hbase ?_)
    intro v' W hown hgrow _ hat
    go_wp2
    go_ret
    exact ⟨_, rfl, by rw [List.flatMap_append, List.flatMap_singleton]; exact hown, hgrow, hat⟩


set_option maxRecDepth 1000000 in
theorem insP_shift (base g c n m k : Nat) (L : List Nat) (x : Nat) (vb : Nat) (w : World) (hn : L.length = n) (hm : m = 1) (hv : w.ownsRow base 129 1 (.slice (some ⟨g, 0, none⟩) n c) n (L.flatMap ptC)) (hk : k < n) (hroom : n + m ≤ c) (hvb : w.heap[vb]? = some (.cells (ptC x).toArray 129 (0, 0))) (hne : vb ≠ g) :
    Calls Tryd.prog 98 #[.slice (some ⟨g, 0, none⟩) n c, .int .i64 (k : Int), .slice (some ⟨vb, 0, none⟩) m m] w fun e w' => e = .returned (.slice (some ⟨g, 0, none⟩) (n + m) c) ∧ w'.ownsRow base 129 1 (.slice (some ⟨g, 0, none⟩) (n + m) c) (n + m) ((L.take k ++ x :: L.drop k).flatMap ptC) ∧ w.grownBy w' (some g) := by
  obtain ⟨i0, hi, hz0, hz1, hz2⟩ := info_parts info_insP
  obtain ⟨g', c', R, e1, hb, hgl, hnc, hcm, hg, hsz⟩ := own_parts hv (by omega)
  injection e1 with e1 _ e3
  injection e1 with e1
  injection e1 with e1
  subst e1; subst e3
  obtain ⟨A, hA⟩ : ∃ A, A = (L.take k).flatMap ptC := ⟨_, rfl⟩
  obtain ⟨C, hC⟩ : ∃ C, C = (L.drop k).flatMap ptC := ⟨_, rfl⟩
  have hAC : L.flatMap ptC = A ++ C := by rw [hA, hC, ← List.flatMap_append, List.take_append_drop]
  have hAl : A.length = k := by rw [hA, flatl ptC 1 enc_len_insP, List.length_take]; omega
  have hCl : C.length = (n - k) * 1 := by rw [hC, flatl ptC 1 enc_len_insP, List.length_drop, hn]
  have hC1 : ∀ u ∈ C, u.oneCell' = true := by rw [hC]; exact flat_one_insP _
  have hNew : (L.take k ++ x :: L.drop k).flatMap ptC = A ++ ptC x ++ C := by rw [hA, hC]; simp
  have hRl : (A ++ C).length + R.length = c * 1 := by rw [← hAC, ← List.length_append]; exact hsz
  rw [hAC] at hg
  obtain ⟨H, hH⟩ : ∃ H, H = (C ++ R).take 1 := ⟨_, rfl⟩
  obtain ⟨T, hT⟩ : ∃ T, T = ((C ++ R).drop 1).take C.length := ⟨_, rfl⟩
  obtain ⟨R2, hR2⟩ : ∃ R2, R2 = ((C ++ R).drop 1).drop C.length := ⟨_, rfl⟩
  have hsplit : A ++ C ++ R = (A ++ H) ++ T ++ R2 := by
    rw [hH, hT, hR2, List.append_assoc, List.append_assoc, List.take_append_drop, List.append_assoc, List.take_append_drop]
  rw [List.length_append] at hRl
  have hroomK : (n + 1) * 1 ≤ c * 1 := Nat.mul_le_mul_right _ (by omega)
  have hkn : k * 1 + (n - k) * 1 = n * 1 := by rw [← Nat.add_mul]; congr 1; omega
  have hHl : H.length = 1 := by rw [hH, List.length_take, List.length_append]; omega
  have hTl : T.length = C.length := by rw [hT, List.length_take, List.length_drop, List.length_append]; omega
  have hR2l : R2.length = c * 1 - (n + 1) * 1 := by rw [hR2, List.length_drop, List.length_drop, List.length_append]; omega
  rw [hsplit] at hg
  have hAH : (A ++ H).length = k + m := by rw [List.length_append, hAl, hHl, hm]; all_goals omega
  have hg1 : (w.drew.setCells g (k + m) C).heap[g]? = some (.cells (A ++ H ++ C ++ R2).toArray 129 (0, 0)) := by
    rw [← hAH]
    exact heap_setCells C T (A ++ H) R2 w.drew hg hTl.symm
  have hov : ∀ lb cb, (callFunc 111 #[.slice (some ⟨vb, 0, none⟩) m m, .slice (some ⟨g, k + m, none⟩) lb cb]).run Tryd.prog w = .ok (.value (.bool false)) w := fun lb cb => by
    have hsb := shape_row hg
    have hsa := shape_row hvb
    rw [run_callFunc_extern Tryd.func111 (by kernel_rfl) (by kernel_rfl) (by kernel_rfl) (e := Extern.SlicesOverlaps.overlaps #[121, 121] #[4]) (by kernel_rfl),
      Lib.run_overlaps_apart w 121 4 129 Tryd.underlying121 1 size_insP ⟨vb, 0, none⟩ ⟨g, k + m, none⟩ m m lb cb hne _ _ _ _ hsa hsb (by simp only [List.size_toArray, List.length_append]; omega) (frozen_row hvb _) (frozen_row hvb _)]
    rfl
  have hcp1 : ∀ ty dc sc, (Builtin.copy_ #[121, 121] ty #[.slice (some ⟨g, k + m, none⟩) (n + m - (k + m)) dc, .slice (some ⟨g, k, none⟩) (n + m - k) sc]).run Tryd.prog w.drew = .ok (goInt ((n - k : Nat) : Int)) (w.drew.setCells g (k + m) C) := fun ty dc sc =>
    run_copy_K w.drew _ _ ty 129 i0 1 g (k + m) (n + m - (k + m)) dc ⟨g, k, none⟩ (n + m - k) sc (n - k) C Tryd.underlying121 hi hz1 (by simp only [Nat.min_def]; split <;> omega) hCl
      (fun j u hj => by
        rw [Go.WideShapes.add_plain]
        show w.cell? _ = _
        rw [cell_of_row w g _ _ _ _ hg, ← hsplit, ← hAl, List.append_assoc]
        rw [List.getElem?_toArray, List.getElem?_append_right (by omega), Nat.add_sub_cancel_left, List.getElem?_append_left (List.getElem?_eq_some_iff.1 hj).1]
        exact hj)
      (fun j hj => isSome_row (w := w.drew) hg (by rw [← hAH]; simp only [List.length_append]; omega)) (fun j _ => frozen_row (w := w.drew) hg _) hC1
  obtain ⟨W1, hW1⟩ : ∃ W1, W1 = w.drew.setCells g (k + m) C := ⟨_, rfl⟩
  rw [← hW1] at hcp1 hg1
  have hvb1 : W1.heap[vb]? = some (.cells (ptC x).toArray 129 (0, 0)) := by rw [hW1, setCells_other _ _ _ _ hne]; exact hvb
  have hcp2 : ∀ (W : World), W.heap = W1.heap → ∀ ty dc, (Builtin.copy_ #[121, 121] ty #[.slice (some ⟨g, k, none⟩) (n + m - k) dc, .slice (some ⟨vb, 0, none⟩) m m]).run Tryd.prog W = .ok (goInt m) (W.setCells g (k) (ptC x)) := fun W hWc ty dc => by
    have hgW : W.heap[g]? = some (.cells (A ++ H ++ C ++ R2).toArray 129 (0, 0)) := by rw [hWc]; exact hg1
    have hvW : W.heap[vb]? = some (.cells (ptC x).toArray 129 (0, 0)) := by rw [hWc]; exact hvb1
    exact run_copy_K W _ _ ty 129 i0 1 g (k) (n + m - k) dc ⟨vb, 0, none⟩ m m m (ptC x) Tryd.underlying121 hi hz1 (by simp only [Nat.min_def]; split <;> omega) (by rw [hm]; rfl)
      (fun j u hj => by rw [Go.WideShapes.add_plain, Nat.zero_add, cell_of_row _ _ _ _ _ _ hvW, ← hj]; simp)
      (fun j hj => isSome_row hgW (by rw [enc_len_insP] at hj; simp only [List.length_append]; omega)) (fun j _ => frozen_row hgW _) (enc_one_insP x)
  have hfin : ∀ W : World, W.heap = W1.heap → W.os = w.os ∧ W.tape = w.tape ∧ W.output = w.output → (W.setCells g (k) (ptC x)).ownsRow base 129 1 (.slice (some ⟨g, 0, none⟩) (n + m) c) (n + m) ((L.take k ++ x :: L.drop k).flatMap ptC) ∧ w.grownBy (W.setCells g (k) (ptC x)) (some g) := fun W hWc hWo => by
    have hgW : W.heap[g]? = some (.cells (A ++ H ++ (C ++ R2)).toArray 129 (0, 0)) := by rw [hWc]; simpa using hg1
    have h2 := heap_setCells (ptC x) H A (C ++ R2) W hgW (by rw [hHl]; rfl)
    rw [hAl] at h2
    refine ⟨?_, ?_⟩
    · rw [hNew]
      refine own_mk (R := R2) ?_ hb hroom hcm (by simpa using h2) ?_
      · simp only [List.length_append, enc_len_insP]; rw [hAl, hCl, hm, Nat.add_mul]; omega
      · simp only [List.length_append, enc_len_insP]; rw [hAl, hCl, hR2l]; rw [Nat.add_mul] at hroomK ⊢; omega
    · obtain ⟨s1, s2, s3, s4⟩ := setCells_same (g := g) (ptC x) (k) W
      obtain ⟨r1, r2, r3, r4⟩ := setCells_same (g := g) C (k + m) w.drew
      rw [← hW1] at r1 r2 r3 r4
      refine ⟨s1.trans hWo.1, s2.trans hWo.2.1, s3.trans hWo.2.2, ?_, fun i _ hne' => ?_⟩
      · rw [s4, hWc, r4]; exact Nat.le_refl _
      · rw [setCells_other _ _ _ _ (fun e => hne' (by rw [e])), hWc, hW1, setCells_other _ _ _ _ (fun e => hne' (by rw [e]))]
        rfl
  have hst : ∀ W : World, W.os = W1.os → W.tape = W1.tape → W.output = W1.output → W.os = w.os ∧ W.tape = w.tape ∧ W.output = w.output := fun W h1 h2 h3 => by
    obtain ⟨r1, r2, r3, r4⟩ := setCells_same (g := g) C (k + m) w.drew
    rw [← hW1] at r1 r2 r3
    exact ⟨h1.trans r1, h2.trans r2, h3.trans r3⟩
  have HFIN := Lib.hid hfin
  have mixed : Tryd.prog.follows Departure.mixedOrders = true := by kernel_rfl
  have HST := Lib.hid hst
  have hz1 : ¬ ((m : Int) = 0) := by omega
  have hz2 : ¬ ((k : Int) = (n : Int)) := by omega
  have hw1 : IntKind.i64.wrap ((k : Int) + (m : Int)) = (k : Int) + (m : Int) := by unfold maxLen at hcm; rw [IntKind.wrap_i64]; omega
  have hb1 : (0 : Int) ≤ (k : Int) + (m : Int) := by omega
  have hin : k ≤ n := by omega
  have htn : ((k : Int) + (m : Int)).toNat = k + m := by omega
  have hb2 : ¬ (c = k + m) := by omega
  have hb3 : (k : Int) ≤ (n : Int) + (m : Int) := by omega
  have hb4 : ¬ (c = k) := by omega
  have hc63 : c ≤ 9223372036854775807 := by unfold maxLen at hcm; omega
  clear hA hC hAC hAl hCl hC1 hNew hRl hH hT hR2 hsplit hroomK hkn hHl hTl hR2l hAH hg1 hfin hst hvb1 hg hsz hcm hv hvb hn hm
  go_enter Tryd.func98, Tryd.ntmps98
  go_wp2_with (simp only [hov])
  go_region_law_o (refine step_copy_runI rfl _ _ 121 121 rfl _ _ (by simp [Act.eval, Act.put]) (by simp [Act.eval, Act.put]) (hcp1 _ _ _) ?_)
  go_wp2_with (at_builtin; refine wpList_copy_runI _ rfl _ _ 121 121 rfl _ _ rfl rfl (hcp2 _ (by first | rfl | rw [hW1]) _ _) ?_)
  go_ret
  exact ⟨rfl, HFIN.out _ (by rw [hW1]) (HST.out _ (by rw [hW1]) (by rw [hW1]) (by rw [hW1]))⟩


set_option maxRecDepth 1000000 in
theorem insP_grow (base g n m k : Nat) (L : List Nat) (x : Nat) (vb : Nat) (w : World) (hn : L.length = n) (hm : m = 1) (hv : w.ownsRow base 129 1 (.slice (some ⟨g, 0, none⟩) n n) n (L.flatMap ptC)) (hk : k < n) (hL : n ≤ 100000) (hvb : w.heap[vb]? = some (.cells (ptC x).toArray 129 (0, 0))) (hbase : base ≤ w.heap.size) :
    Calls Tryd.prog 98 #[.slice (some ⟨g, 0, none⟩) n n, .int .i64 (k : Int), .slice (some ⟨vb, 0, none⟩) m m] w fun e w' => ∃ G, e = .returned (.slice (some ⟨w.heap.size, 0, none⟩) (n + m) G) ∧ w'.ownsRow base 129 1 (.slice (some ⟨w.heap.size, 0, none⟩) (n + m) G) (n + m) ((L.take k ++ x :: L.drop k).flatMap ptC) ∧ w.grownBy w' (some g) := by
  obtain ⟨i0, hi, hz0, hz1, hz2⟩ := info_parts info_insP
  obtain ⟨g', c', R, e1, hb, hgl, hnc, hcm, hg, hsz⟩ := own_parts hv (by omega)
  injection e1 with e1 _ e3
  injection e1 with e1
  injection e1 with e1
  subst e1; subst e3
  obtain ⟨A, hA⟩ : ∃ A, A = (L.take k).flatMap ptC := ⟨_, rfl⟩
  obtain ⟨C, hC⟩ : ∃ C, C = (L.drop k).flatMap ptC := ⟨_, rfl⟩
  have hAC : L.flatMap ptC = A ++ C := by rw [hA, hC, ← List.flatMap_append, List.take_append_drop]
  have hAl : A.length = k := by rw [hA, flatl ptC 1 enc_len_insP, List.length_take]; omega
  have hCl : C.length = (n - k) * 1 := by rw [hC, flatl ptC 1 enc_len_insP, List.length_drop, hn]
  have hC1 : ∀ u ∈ C, u.oneCell' = true := by rw [hC]; exact flat_one_insP _
  have hNew : (L.take k ++ x :: L.drop k).flatMap ptC = A ++ ptC x ++ C := by rw [hA, hC]; simp
  rw [hAC] at hg
  have hvl : vb < w.heap.size := (Array.getElem?_eq_some_iff.1 hvb).1
  obtain ⟨G, hG⟩ : ∃ G, G = grownCap w (n + m) n 129 := ⟨_, rfl⟩
  obtain ⟨Z1, hZ1⟩ : ∃ Z1, Z1 = (Builtin.zeroCells (.pointer none : Value).cells (n + m - k)).toList := ⟨_, rfl⟩
  obtain ⟨Z2, hZ2⟩ : ∃ Z2, Z2 = (Builtin.zeroCells (.pointer none : Value).cells (G - (n + m))).toList := ⟨_, rfl⟩
  have hZ1l : Z1.length = (n + m - k) * 1 := by rw [hZ1, Array.length_toList, size_zeroCells]; rfl
  have hZ2l : Z2.length = (G - (n + m)) * 1 := by rw [hZ2, Array.length_toList, size_zeroCells]; rfl
  have hGn : n + m ≤ G := by rw [hG]; exact grownCap_ge w _ _ _
  have hGm : G ≤ maxLen := by rw [hG]; exact grownCap_le_maxLen w (n + m) n 129 (by unfold maxLen; omega)
  have hold : (Builtin.firstCells i0.size k (.slice (some ⟨g, 0, none⟩) k n)).run Tryd.prog w.drew = .ok A.toArray w.drew := by
    rw [hz1]
    exact run_firstCells_some w.drew 1 k ⟨g, 0, none⟩ k n A (by rw [hAl]; all_goals omega) (fun j u hj => by
      rw [Go.WideShapes.add_plain, Nat.zero_add]
      show w.cell? _ = _
      rw [cell_of_row w g _ _ _ _ hg, List.append_assoc, List.getElem?_toArray, List.getElem?_append_left (List.getElem?_eq_some_iff.1 hj).1]
      exact hj)
  have hrz : ∀ ty, (Builtin.append_ #[121, 3] ty #[.slice (some ⟨g, 0, none⟩) k n, .int .i64 ((n : Int) + (m : Int) - (k : Int))]).run Tryd.prog w = .ok (.slice (some ⟨w.heap.size, 0, none⟩) (n + m) G) (w.drew.alloc (.cells (A ++ Z1 ++ Z2).toArray 129)) := fun ty => by
    have hkk : (n : Int) + (m : Int) - (k : Int) = ((n + m - k : Nat) : Int) := by omega
    have hik : k + (n + m - k) = n + m := by omega
    have h := Lib.run_append_grow_zeros w 121 3 ty 129 i0 _ .i64 .i64 Tryd.underlying121 Tryd.underlying3 hi hz0 (some ⟨g, 0, none⟩) k n A hold (n + m - k) (by omega) (by rw [hz1]; decide) (by omega) (by omega) (by rw [hz2]; omega) (by rw [hz2, hik]; exact growslice_fits (by omega) (by omega))
    rw [hik] at h
    have har : ∀ X Y : Array Value, A.toArray ++ X ++ Y = (A ++ X.toList ++ Y.toList).toArray := fun X Y => by
      apply Array.toList_inj.1
      simp
    rw [hkk, h, hG, hZ1, hZ2, hG, ← har]
  obtain ⟨ROW, hROW⟩ : ∃ ROW, ROW = (A ++ Z1 ++ Z2).toArray := ⟨_, rfl⟩
  rw [← hROW] at hrz
  obtain ⟨W1, hW1⟩ : ∃ W1, W1 = w.drew.alloc (.cells ROW 129) := ⟨_, rfl⟩
  have hsz1 : W1.heap.size = w.heap.size + 1 := by rw [hW1]; simp
  have hn1 : W1.heap[w.heap.size]? = some (.cells (A ++ Z1 ++ Z2).toArray 129 (0, 0)) := by rw [hW1, ← hROW]; exact heap_alloc_new w.drew _
  have ho1 : ∀ i, i < w.heap.size → W1.heap[i]? = w.heap[i]? := fun i hi' => by rw [hW1]; exact heap_alloc_old w.drew _ hi'
  obtain ⟨H, hH⟩ : ∃ H, H = Z1.take 1 := ⟨_, rfl⟩
  obtain ⟨T, hT⟩ : ∃ T, T = Z1.drop 1 := ⟨_, rfl⟩
  have hHT : Z1 = H ++ T := by rw [hH, hT, List.take_append_drop]
  have hmk : (n + m - k) * 1 = 1 + (n - k) * 1 := by rw [show n + m - k = 1 + (n - k) by omega, Nat.add_mul, Nat.one_mul]
  have hHl : H.length = 1 := by rw [hH, List.length_take]; omega
  have hTl : T.length = (n - k) * 1 := by rw [hT, List.length_drop]; omega
  have hcpA : ∀ (W : World), W.heap = W1.heap → ∀ ty dc, (Builtin.copy_ #[121, 121] ty #[.slice (some ⟨w.heap.size, k, none⟩) (n + m - k) dc, .slice (some ⟨vb, 0, none⟩) m m]).run Tryd.prog W = .ok (goInt m) (W.setCells w.heap.size (k) (ptC x)) := fun W hWc ty dc => by
    have hgW : W.heap[w.heap.size]? = some (.cells (A ++ Z1 ++ Z2).toArray 129 (0, 0)) := by rw [hWc]; exact hn1
    have hvW : W.heap[vb]? = some (.cells (ptC x).toArray 129 (0, 0)) := by rw [hWc, ho1 vb hvl]; exact hvb
    exact run_copy_K W _ _ ty 129 i0 1 w.heap.size (k) (n + m - k) dc ⟨vb, 0, none⟩ m m m (ptC x) Tryd.underlying121 hi hz1 (by simp only [Nat.min_def]; split <;> omega) (by rw [hm]; rfl)
      (fun j u hj => by rw [Go.WideShapes.add_plain, Nat.zero_add, cell_of_row _ _ _ _ _ _ hvW, ← hj]; simp)
      (fun j hj => isSome_row hgW (by rw [enc_len_insP] at hj; simp only [List.length_append]; omega)) (fun j _ => frozen_row hgW _) (enc_one_insP x)
  obtain ⟨W2, hW2⟩ : ∃ W2, W2 = W1.setCells w.heap.size (k) (ptC x) := ⟨_, rfl⟩
  have hn2 : W2.heap[w.heap.size]? = some (.cells (A ++ ptC x ++ (T ++ Z2)).toArray 129 (0, 0)) := by
    rw [hW2, ← hAl]
    exact heap_setCells (ptC x) H A (T ++ Z2) W1 (by rw [hn1, hHT]; simp) (by rw [hHl]; rfl)
  have ho2 : ∀ i, i < w.heap.size → W2.heap[i]? = w.heap[i]? := fun i hi' => by rw [hW2, setCells_other _ _ _ _ (by omega)]; exact ho1 i hi'
  have hcpB : ∀ (W : World), W.heap = W2.heap → ∀ ty dc sc, (Builtin.copy_ #[121, 121] ty #[.slice (some ⟨w.heap.size, k + m, none⟩) (n + m - (k + m)) dc, .slice (some ⟨g, k, none⟩) (n - k) sc]).run Tryd.prog W = .ok (goInt ((n - k : Nat) : Int)) (W.setCells w.heap.size (k + m) C) := fun W hWc ty dc sc => by
    have hgW : W.heap[w.heap.size]? = some (.cells (A ++ ptC x ++ (T ++ Z2)).toArray 129 (0, 0)) := by rw [hWc]; exact hn2
    have hgo : W.heap[g]? = some (.cells (A ++ C ++ R).toArray 129 (0, 0)) := by rw [hWc, ho2 g hgl]; exact hg
    exact run_copy_K W _ _ ty 129 i0 1 w.heap.size (k + m) (n + m - (k + m)) dc ⟨g, k, none⟩ (n - k) sc (n - k) C Tryd.underlying121 hi hz1 (by simp only [Nat.min_def]; split <;> omega) hCl
      (fun j u hj => by
        rw [Go.WideShapes.add_plain, cell_of_row W g _ _ _ _ hgo, ← hAl, List.append_assoc]
        rw [List.getElem?_toArray, List.getElem?_append_right (by omega), Nat.add_sub_cancel_left, List.getElem?_append_left (List.getElem?_eq_some_iff.1 hj).1]
        exact hj)
      (fun j hj => isSome_row hgW (by simp only [List.length_append, enc_len_insP]; rw [hAl, hTl]; rw [hCl] at hj; have : (k + m) * 1 = k * 1 + 1 := by rw [hm, Nat.add_mul, Nat.one_mul]
                                      omega)) (fun j _ => frozen_row hgW _) hC1
  have hfin : ∀ W : World, W.heap = W2.heap → W.os = w.os ∧ W.tape = w.tape ∧ W.output = w.output → (W.setCells w.heap.size (k + m) C).ownsRow base 129 1 (.slice (some ⟨w.heap.size, 0, none⟩) (n + m) G) (n + m) ((L.take k ++ x :: L.drop k).flatMap ptC) ∧ w.grownBy (W.setCells w.heap.size (k + m) C) (some g) := fun W hWc hWo => by
    have hgW : W.heap[w.heap.size]? = some (.cells (A ++ ptC x ++ T ++ Z2).toArray 129 (0, 0)) := by rw [hWc]; simpa using hn2
    have h2 := heap_setCells C T (A ++ ptC x) Z2 W hgW (by rw [hTl, hCl])
    have hAx : (A ++ ptC x).length = k + m := by rw [List.length_append, hAl, enc_len_insP, hm]; all_goals omega
    rw [hAx] at h2
    have hGK : (n + m) * 1 ≤ G * 1 := Nat.mul_le_mul_right _ hGn
    have hkn : k * 1 + (n - k) * 1 = n * 1 := by rw [← Nat.add_mul]; congr 1; omega
    refine ⟨?_, ?_⟩
    · rw [hNew]
      refine own_mk (R := Z2) ?_ hbase hGn hGm (by simpa using h2) ?_
      · simp only [List.length_append, enc_len_insP]; rw [hAl, hCl, hm, Nat.add_mul]; omega
      · have hGG : (G - (n + m)) * 1 = G * 1 - (n + m) * 1 := Nat.sub_mul _ _ _
        have hnm : (n + m) * 1 = n * 1 + 1 := by rw [hm, Nat.add_mul, Nat.one_mul]
        simp only [List.length_append, enc_len_insP]; rw [hAl, hCl, hZ2l, hGG]; omega
    · obtain ⟨s1, s2, s3, s4⟩ := setCells_same (g := w.heap.size) C (k + m) W
      obtain ⟨r1, r2, r3, r4⟩ := setCells_same (g := w.heap.size) (ptC x) (k) W1
      rw [← hW2] at r4
      refine ⟨s1.trans hWo.1, s2.trans hWo.2.1, s3.trans hWo.2.2, ?_, fun i hi' _ => ?_⟩
      · rw [s4, hWc, r4, hsz1]; omega
      · rw [setCells_other _ _ _ _ (by omega), hWc, ho2 i hi']
  have hst : ∀ W : World, W.os = W2.os → W.tape = W2.tape → W.output = W2.output → W.os = w.os ∧ W.tape = w.tape ∧ W.output = w.output := fun W h1 h2 h3 => by
    obtain ⟨r1, r2, r3, r4⟩ := setCells_same (g := w.heap.size) (ptC x) (k) W1
    rw [← hW2] at r1 r2 r3
    exact ⟨h1.trans (r1.trans (by rw [hW1]; rfl)), h2.trans (r2.trans (by rw [hW1]; rfl)), h3.trans (r3.trans (by rw [hW1]; rfl))⟩
  have HFIN := Lib.hid hfin
  have mixed : Tryd.prog.follows Departure.mixedOrders = true := by kernel_rfl
  have HST := Lib.hid hst
  have hz1 : ¬ ((m : Int) = 0) := by omega
  have hz2 : ¬ ((k : Int) = (n : Int)) := by omega
  have hw1 : IntKind.i64.wrap ((k : Int) + (m : Int)) = (k : Int) + (m : Int) := by rw [IntKind.wrap_i64]; omega
  have hb1 : (0 : Int) ≤ (k : Int) + (m : Int) := by omega
  have hin : k ≤ n := by omega
  have htn : ((k : Int) + (m : Int)).toNat = k + m := by omega
  have hb2 : ¬ (G = k + m) := by omega
  have hb3 : (k : Int) ≤ (n : Int) := by omega
  have hb4 : ¬ (G = k) := by omega
  have hb5 : ¬ (n = k) := by omega
  have hb6 : (n : Int) < (n : Int) + (m : Int) := by omega
  have hG63 : G ≤ 9223372036854775807 := by unfold maxLen at hGm; omega
  clear hA hC hAC hAl hCl hC1 hNew hfin hst hg hsz hcm hvb hn hm hZ1 hZ2 hZ1l hZ2l hG hGm hold hsz1 hn1 ho1 hH hT hHT hmk hHl hTl hn2 ho2 hvl hv hROW
  go_enter Tryd.func98, Tryd.ntmps98
  go_wp2_with (first
    | (at_builtin; refine Lib.wpList_append_run _ rfl _ _ _ _ rfl _ _ rfl rfl _ _ (hrz _) ?_)
    | (at_builtin; refine wpList_copy_runI _ rfl _ _ 121 121 rfl _ _ rfl rfl (hcpA _ (by rw [hW1]; rfl) _ _) ?_))
  go_region_law_o (refine step_copy_runI rfl _ _ 121 121 rfl (.slice (some ⟨w.heap.size, k + m, none⟩) (n + m - (k + m)) (G - (k + m))) (.slice (some ⟨g, k, none⟩) (n - k) (n - k)) (by simp [Act.eval, Act.put]) (by simp [Act.eval, Act.put]) (hcpB _ (by rw [hW2, hW1]; rfl) _ _ _) ?_)
  go_wp2
  go_ret
  exact ⟨G, rfl, HFIN.out _ (by rw [hW2, hW1]; rfl) (HST.out _ (by rw [hW2, hW1]; rfl) (by rw [hW2, hW1]; rfl) (by rw [hW2, hW1]; rfl))⟩


set_option maxRecDepth 1000000 in
theorem insP_any (base : Nat) (v : Value) (L : List Nat) (k : Nat) (x : Nat) (vb : Nat) (w : World) (hv : w.ownsRow base 129 1 v L.length (L.flatMap ptC)) (hk : k ≤ L.length) (hL : L.length ≤ 100000) (hvb : w.heap[vb]? = some (.cells (ptC x).toArray 129 (0, 0))) (hne : v.ownBlock ≠ some vb) (hbase : base ≤ w.heap.size) :
    Calls Tryd.prog 98 #[v, .int .i64 (k : Int), .slice (some ⟨vb, 0, none⟩) 1 1] w fun e w' => ∃ v', e = .returned v' ∧ w'.ownsRow base 129 1 v' (L.length + 1) ((L.take k ++ x :: L.drop k).flatMap ptC) ∧ w.grownBy w' v.ownBlock ∧ (v'.ownBlock = v.ownBlock ∨ v'.ownBlock = some w.heap.size) := by
  rcases Nat.lt_or_eq_of_le hk with h | rfl
  · obtain ⟨g, c, R, rfl, _, _, hnc, _, _, _⟩ := own_parts hv (by omega)
    by_cases hc : L.length + 1 ≤ c
    · refine (insP_shift base g c L.length 1 k L x vb w rfl rfl hv h hc hvb (fun e => hne (by rw [e]; rfl))).mono ?_
      rintro e w' ⟨rfl, h1, h2⟩
      exact ⟨_, rfl, h1, h2, .inl rfl⟩
    · obtain rfl : c = L.length := by omega
      refine (insP_grow base g L.length 1 k L x vb w rfl rfl hv h hL hvb hbase).mono ?_
      rintro e w' ⟨G, rfl, h1, h2⟩
      exact ⟨_, rfl, h1, h2, .inr rfl⟩
  · refine (insP_end base v L x vb w hv hL hvb hbase).mono ?_
    rintro e w' ⟨v', rfl, h1, h2, h3⟩
    exact ⟨v', rfl, by rw [List.take_length, List.drop_length]; exact h1, h2, h3⟩

end Go.Proofs.YtphapjbfaomblaaDoor
