/- The document's Order: all elements, in the order of the paths. -/
import Derived.Test.YtphapjbfaomblaaDoorZb27
import Derived.Test.YtphapjbfaomblaaDoorZb17
import Derived.Test.YtphapjbfaomblaaDoorZcXS
namespace Go.Proofs.YtphapjbfaomblaaDoor
open Go Go.RowKit Go.Maps
/-! plain: what stands behind each one -/
theorem pw_unique {α : Type} {r : α → α → Prop} (hr : ∀ a b, r a b → r b a → False) : ∀ {L M : List α}, L.Pairwise r → M.Pairwise r → (∀ x, x ∈ L ↔ x ∈ M) → L = M
  | [], [], _, _, _ => rfl
  | [], b :: M, _, _, h => by have := (h b).2 (by simp); simp at this
  | a :: L, [], _, _, h => by have := (h a).1 (by simp); simp at this
  | a :: L, b :: M, h1, h2, h => by
    obtain ⟨a1, a2⟩ := List.pairwise_cons.1 h1
    obtain ⟨b1, b2⟩ := List.pairwise_cons.1 h2
    have e : a = b := by
      rcases List.mem_cons.1 ((h a).1 (by simp)) with e | ha
      · exact e
      · rcases List.mem_cons.1 ((h b).2 (by simp)) with e | hb
        · exact e.symm
        · exact (hr a b (a1 b hb) (b1 a ha)).elim
    subst e
    rw [pw_unique hr a2 b2 fun x => ?_]
    constructor
    · intro hx
      rcases List.mem_cons.1 ((h x).1 (by simp [hx])) with e | h'
      · subst e; exact (hr x x (a1 x hx) (a1 x hx)).elim
      · exact h'
    · intro hx
      rcases List.mem_cons.1 ((h x).2 (by simp [hx])) with e | h'
      · subst e; exact (hr x x (b1 x hx) (b1 x hx)).elim
      · exact h'
theorem fallI_iff (L : List El) : FallI L ↔ L.Pairwise (fun a b => b.id.Lt a.id) := by
  unfold FallI
  rw [List.pairwise_map]
theorem behP_unique {M K K' : List El} {x : Id} (h : BehP M x K) (h' : BehP M x K') : K = K' :=
  pw_unique (r := fun a b : El => b.id.Lt a.id) (fun _ _ h1 h2 => idSTO.asymm h1 h2) ((fallI_iff _).1 h.1) ((fallI_iff _).1 h'.1) (fun e => (h.2.1 e).trans (h'.2.1 e).symm)
theorem put_place (e : El) : ∀ n (K : List El), K.length = n → ∃ P S, K = P ++ S ∧ (∀ y ∈ S, y.id.Lt e.id) ∧ ∀ z, P.getLast? = some z → ¬ z.id.Lt e.id := by
  intro n
  induction n with
  | zero => exact fun K hK => ⟨[], [], by rw [List.length_eq_zero_iff] at hK; rw [hK]; rfl, by simp, by simp⟩
  | succ n ih =>
    intro K hK
    rcases list_snoc K with rfl | ⟨K', y, rfl⟩
    · cases hK
    by_cases hy : y.id.Lt e.id
    · obtain ⟨P, S, h1, h2, h3⟩ := ih K' (by simpa using hK)
      refine ⟨P, S ++ [y], by rw [h1, List.append_assoc], fun z hz => ?_, h3⟩
      rcases List.mem_append.1 hz with h | h
      · exact h2 z h
      · rw [List.mem_singleton.1 h]; exact hy
    · exact ⟨K' ++ [y], [], by simp, by simp, fun z hz => by
        have : y = z := by simpa using hz
        rw [← this]; exact hy⟩
theorem behP_exists {M : List El} (hu : UnlikeK El.id M) (x : Id) : ∃ K, BehP M x K := by
  have key : ∀ k, k ≤ M.length → ∃ K, BehP (M.take k) x K := by
    intro k
    induction k with
    | zero => exact fun _ => ⟨[], List.Pairwise.nil, fun e => by simp, Nat.zero_le _⟩
    | succ k ih =>
      intro hk
      obtain ⟨K, hK⟩ := ih (by omega)
      have hlt : k < M.length := by omega
      by_cases hx : M[k].af = x
      · obtain ⟨P, S, h1, h2, h3⟩ := put_place M[k] _ K rfl
        exact ⟨_, behP_yes hu hlt hK hx h1 h2 h3⟩
      · exact ⟨K, behP_no hlt hK hx⟩
  have := key M.length (Nat.le_refl _)
  rwa [List.take_length] at this
noncomputable def behL (M : List El) (x : Id) : List El := open Classical in if h : ∃ K, BehP M x K then h.choose else []
theorem behL_is {M : List El} (hu : UnlikeK El.id M) (x : Id) : BehP M x (behL M x) := by
  have h := behP_exists hu x
  unfold behL
  rw [dif_pos h]
  exact h.choose_spec
noncomputable def behB (M : List El) (x : Id) : List El := (behL M x).reverse
theorem behB_of (F : List El) : BehindOf Id.Lt El.id El.af (Counts F) (behB (cntL F)) := by
  obtain ⟨h1, h2, _⟩ := cntL_mem F
  intro x
  have hb := behL_is h2 x
  refine ⟨?_, fun e => ?_⟩
  · unfold behB
    rw [List.pairwise_reverse]
    exact (fallI_iff _).1 hb.1
  · unfold behB
    rw [List.mem_reverse, hb.2.1 e, h1 e]
def ndR (n : Nd) : List Value := reC n.2
theorem kidsR_row (M : List El) (p : List Id) (x : Id) : (kids El.id (behB M) p x).flatMap ndR = (behL M x).flatMap reC := by
  unfold kids behB
  rw [List.reverse_reverse, List.flatMap_map]
  rfl
theorem kidsR_len (M : List El) (p : List Id) (x : Id) : (kids El.id (behB M) p x).length = (behL M x).length := by simp [kids, behB]
def OPostR (R : List Rn) (w : World) (e : Ending) (w' : World) : Prop :=
  ∃ v O, e = .returned v ∧ OrderOf Id.Lt El.id El.af zeroI (Counts (flat R)) O ∧ w'.ownsRow w.heap.size 112 7 v O.length (O.flatMap ndR) ∧ O.length ≤ (flat R).length ∧ Below w.heap.size w w'
def OrdRelR (E : El → Prop) (w1 : World) (out wait : Value) (wr : World) : Prop :=
  ∃ O Wt : List Nd, Weaving Id.Lt El.id El.af zeroI E O Wt ∧ wr.ownsRow w1.heap.size 112 7 out O.length (O.flatMap ndR) ∧ wr.ownsRow w1.heap.size 112 7 wait Wt.length (Wt.flatMap ndR) ∧ Apart out wait ∧ Below w1.heap.size w1 wr
theorem wpList_slice_from2 {P : Program} {w : World} {ops : Array Oper} {rest : List Oper} {o : Oper} {a : Act} {Q : Exit → Act → World → Prop} (hgd : o.guard = none) (x lo : Operand) (t : TypeId)
    (ho : o.op = .slice t x (some lo) none none) (ht : P.underlying t = some (.slice (P.elem t))) (sz : Nat) (hsz : (sizeOf (P.elem t)).run P w = .ok sz w)
    (k : IntKind) (A : Option Addr) (n c l B : Nat) (xs : List Value) (hl : a.eval lo = .int k (l : Int)) (hx : a.eval x = .slice A n c) (hR : Rd w B sz (.slice A n c) n xs) (hln : l ≤ n)
    (h : ∀ A' c', (∀ W B, Rd W B sz (.slice A n c) n xs → Rd W B sz (.slice A' (n - l) c') (n - l) (xs.drop (l * sz))) → wpList P ops Q rest (a.put o.dst (.slice A' (n - l) c')) w) : wpList P ops Q (o :: rest) a w := by
  have hc := hR.len
  have hr := run_slice_l (P := P) w t A n c ht k (l : Int) (by omega) (by omega)
  rw [hsz] at hr
  simp only [Result.andThen, Int.toNat_natCast] at hr
  refine wpList_plain hgd fun _ hK => ?_
  unfold Oper.wp execOp
  simp only [ho, Sem.run_bind, Sem.run_pure, Option.map_some, Option.map_none, hx, hl, run_sliceAt_slice w t _ _ _ _ ht, hr, Result.andThen]
  exact hK _ _ (h _ _ (fun W B hW => hW.from hln))
theorem ht60 : Tryd.prog.underlying 60 = some (.slice (Tryd.prog.elem 60)) := by kernel_rfl
theorem sz60 (w : World) : (sizeOf (Tryd.prog.elem 60)).run Tryd.prog w = .ok 7 w := by
  have h : Tryd.prog.elem 60 = 112 := by kernel_rfl
  obtain ⟨i0, hi, _, hz1, _⟩ := info_parts info112
  rw [h]
  simp [sizeOf, typeInfo, hi, hz1]
theorem reC_list (L : List El) : ∀ u ∈ L.flatMap reC, u.oneCell' = true := list_one reC_one L
theorem ndR_list (L : List Nd) : ∀ u ∈ L.flatMap ndR, u.oneCell' = true := list_one (f := ndR) (fun n => reC_one n.2) L
theorem apart_le {W : World} {b' : Nat} {e' : TypeId} {K' n' : Nat} {v v' : Value} {xs' : List Value} (h : ∀ g, v.ownBlock = some g → g < b') (h' : W.ownsRow b' e' K' v' n' xs') : Apart v v' := by
  intro g h1 h2
  have := h g h1
  have := (h'.lt g h2).1
  omega
set_option maxRecDepth 100000 in
set_option maxHeartbeats 4000000 in
theorem rorderAll_any (R : List Rn) (A : Option Addr) (n c B0 : Nat) (w : World) (hR : Rd w B0 7 (.slice A n c) n (R.flatMap rnC)) (hB : B0 ≤ w.heap.size) (hF : (flat R).length ≤ 100000) (htx : ∀ r ∈ R, r.tx.size ≤ 100000) (hI : ∀ r ∈ R, 0 ≤ r.el.I ∧ r.el.I ≤ 1000000) :
    Calls Tryd.prog 38 #[.slice A n c] w (OPostR R w) := by
  obtain ⟨i0, hi, hz0, hz1, hz2⟩ := info_parts info112
  have HE := Lib.hid (elements_any R A n c B0 w hR hB hF htx hI)
  have HF := Lib.hid hF
  have HN := Lib.hid (counts_names (flat R))
  have HBO := Lib.hid (behB_of (flat R))
  obtain ⟨_, hmu, hml⟩ := cntL_mem (flat R)
  clear hR htx hI
  go_enter Tryd.func38, Tryd.ntmps38
  go_wp2_with fail
  refine HE.out.mono ?_
  rintro e w1 ⟨v, rfl, hv, hb1⟩
  obtain ⟨M, hM⟩ : ∃ M, cntL (flat R) = M := ⟨_, rfl⟩
  rw [hM] at hv hmu hml HBO
  obtain ⟨Am, cm, rfl, _, hcm⟩ := (Rd.of_own hv).form
  have HBH := Lib.hid (fun (x : Id) W (hW : Below w1.heap.size w1 W) => (behind_any M x Am M.length cm w1.heap.size W ((Rd.of_own hv).below' hW (Nat.le_refl _)) hW.size hmu (by omega)).mono (R' := fun e w' => ∃ v, e = .returned v ∧ w'.ownsRow W.heap.size 112 7 v (behL M x).length ((behL M x).flatMap reC) ∧ Below W.heap.size W w') (by
    rintro e w' ⟨v, K, rfl, h1, h2, h3⟩
    rw [behP_unique h2 (behL_is hmu x)] at h1
    exact ⟨v, rfl, h1, h3⟩))
  have HKL := Lib.hid (fun x => Nat.le_trans (behL_is hmu x).2.2 (Nat.le_trans hml hF))
  have HB1 := Lib.hid hb1
  clear hv hb1 HE hM hcm hmu hml hF
  have hz := HBH.out zeroI w1 (Below.refl _ _)
  have h0 : idV zeroI = .agg #[.int .i64 0, .int .i64 0, .int .i64 0] := rfl
  rw [h0] at hz
  have HZ := Lib.hid hz
  clear hz h0
  go_wp2_with fail
  refine HZ.out.mono ?_
  rintro e w2 ⟨v0, rfl, hv0, hb2⟩
  obtain ⟨Av, cv, rfl, _, _⟩ := (Rd.of_own hv0).form
  have hst : OrdRelR (Counts (flat R)) w1 (.slice none 0 0) (.slice Av (behL M zeroI).length cv) w2 :=
    ⟨[], kids El.id (behB M) [] zeroI, weave_start HBO.out HN.out, World.ownsRow_nil _ _ _ _, by rw [kidsR_row, kidsR_len]; exact hv0, (fun g hg => by cases hg), hb2⟩
  have HST := Lib.hid hst
  clear hv0 hb2 hst HZ
  go_wp2
  go_loopw [4, 5] (fun out wait wr => OrdRelR (Counts (flat R)) w1 out wait wr) (fun out wait _ => (flat R).length - lenOf out)
  case atStart => exact HST.out
  case round =>
    clear HST
    obtain ⟨O, Wt, hW, hO, hWt, hA, hb⟩ := hrel
    obtain ⟨Ao, co, rfl, _, _⟩ := (Rd.of_own hO).form
    obtain ⟨wo, rfl⟩ : ∃ wo : World, wo = wr := ⟨_, rfl⟩
    have hle := weave_le hW
    have hfl := HF.out
    cases Wt with
    | nil =>
      obtain ⟨Aw, cw, rfl, _, _⟩ := (Rd.of_own hWt).form
      have HE := Lib.hid (show OPostR R w (.returned (.slice Ao O.length co)) wo from ⟨_, O, rfl, weave_end hW, own_base hO HB1.out.size, by simpa using hle, HB1.out.trans (hb.mono HB1.out.size)⟩)
      clear hO hWt hA hW hb hle hfl
      go_wp2
      go_ret
      exact HE.out
    | cons x rest =>
      obtain ⟨n1, hn1⟩ : ∃ n1, rest.length = n1 := ⟨_, rfl⟩
      have hlc : (x :: rest).length = n1 + 1 := by rw [List.length_cons, hn1]
      rw [hlc] at hWt hle
      obtain ⟨gw, cw, Rw, rfl, hgwb, _, hncw, hmcw, _, _⟩ := own_parts hWt (Nat.succ_pos _)
      have hstep := weave_step HBO.out HN.out hW
      obtain ⟨p, e⟩ := x
      have hcell : ∀ j u, (reC e)[j]? = some u → wo.cell? ⟨gw, j, none⟩ = some u := fun j u hu => (own_cell hWt j u (by
        rw [List.flatMap_cons, List.getElem?_append_left (by have := (List.getElem?_eq_some_iff.1 hu).1; simpa [ndR] using this)]
        exact hu)).1
      have c0 : wo.cell? ⟨gw, 0, none⟩ = some (.int .i64 e.id.s.T) := hcell 0 _ rfl
      have c1 : wo.cell? ⟨gw, 1, none⟩ = some (.int .i64 e.id.s.R) := hcell 1 _ rfl
      have c2 : wo.cell? ⟨gw, 2, none⟩ = some (.int .i64 e.id.I) := hcell 2 _ rfl
      have c3 : wo.cell? ⟨gw, 3, none⟩ = some (.int .i64 e.af.s.T) := hcell 3 _ rfl
      have c4 : wo.cell? ⟨gw, 4, none⟩ = some (.int .i64 e.af.s.R) := hcell 4 _ rfl
      have c5 : wo.cell? ⟨gw, 5, none⟩ = some (.int .i64 e.af.I) := hcell 5 _ rfl
      have c6 : wo.cell? ⟨gw, 6, none⟩ = some (.string e.pc) := hcell 6 _ rfl
      have i0' : (0 : Int) < ((n1 + 1 : Nat) : Int) := by omega
      have i1 : (0 : Int) ≤ (n1 : Int) := by omega
      have i3 : (n1 : Int) ≤ (cw : Int) := by omega
      unfold maxLen at hmcw
      dsimp only at hstep
      have hkl : (kids El.id (behB M) p e.id ++ rest).length = (behL M e.id).length + n1 := by rw [List.length_append, kidsR_len, hn1]
      have hkr : (kids El.id (behB M) p e.id ++ rest).flatMap ndR = (behL M e.id).flatMap reC ++ rest.flatMap ndR := by rw [List.flatMap_append, kidsR_row]
      have HSTEP := Lib.hid hstep
      have HKLL := Lib.hid hkl
      have HKR := Lib.hid hkr
      have HO := Lib.hid hO
      have HA := Lib.hid hA
      have HWT := Lib.hid hWt
      have HN1 := Lib.hid hn1
      have HLE := Lib.hid hle
      have hO100 : O.length ≤ 100000 := by omega
      have hn100 : n1 ≤ 100000 := by omega
      have hdrop : ((((p, e) : Nd) :: rest).flatMap ndR).drop (1 * 7) = rest.flatMap ndR := by
        rw [List.flatMap_cons]
        rfl
      have HDR := Lib.hid hdrop
      clear hcell hstep hkl hkr hO hWt hA hn1 hlc hle hW hdrop
      have hws := hb.size
      have HWV : ∃ WV : Value, (cw = 1 → WV = .slice (some ⟨gw, 0, none⟩) n1 0) ∧ (cw ≠ 1 → WV = .slice (some ⟨gw, 7, none⟩) n1 (cw - 1)) ∧ ∀ W B xs, Rd W B 7 (.slice (some ⟨gw, 0, none⟩) (n1 + 1) cw) (n1 + 1) xs → Rd W B 7 WV n1 (xs.drop (1 * 7)) := by
        by_cases hc : cw = 1
        · refine ⟨.slice (some ⟨gw, 0, none⟩) n1 0, fun _ => rfl, fun h => absurd hc h, fun W B xs h => ?_⟩
          have := h.from (l := 1) (by omega)
          subst hc
          exact this
        · refine ⟨.slice (some ⟨gw, 7, none⟩) n1 (cw - 1), fun h => absurd h hc, fun _ => rfl, fun W B xs h => ?_⟩
          have := h.from (l := 1) (by omega)
          unfold sliced at this
          rw [if_neg (by omega)] at this
          exact this
      obtain ⟨WV, hwv1, hwv2, hfr⟩ := HWV
      have HFR := Lib.hid hfr
      clear hfr
      by_cases hcw : cw = 1
      all_goals (
        first
          | (obtain rfl := hwv1 hcw; subst hcw; clear hwv1 hwv2 i3 hncw)
          | (obtain rfl := hwv2 hcw; clear hwv1 hwv2)
        go_wp2_with (at_builtin; refine wpList_append_own_at _ rfl _ _ 60 rfl w1.heap.size 112 i0 _ 7 64 Tryd.underlying60 hi hz0 hz1 hz2 rfl (by decide) _ O.length (O.flatMap ndR) rfl ((HO.out.alloc (.cells (reC e).toArray 112)).alloc (.cells (reC e).toArray 112)) ⟨wo.heap.size + 1, 0, none⟩ 1 1 (reC e) rfl rfl ?qc (reC_one e) ?q2 ?q3 ?q4 ?_)
        case qc =>
          have := cells_new (wo.alloc (.cells (reC e).toArray 112)) (reC e) 112
          rw [World.size_alloc] at this
          exact this
        case q2 => unfold maxLen; omega
        case q3 => omega
        case q4 => simp; omega
        intro v1 W4 hown hgrow _ hat
        have hO4 : W4.ownsRow w1.heap.size 112 7 v1 (O.length + 1) ((O ++ [((p, e) : Nd)]).flatMap ndR) := by rw [List.flatMap_append, List.flatMap_singleton]; exact hown
        obtain ⟨g4, cap4, R4, rfl, _⟩ := own_parts hO4 (Nat.succ_pos _)
        have hW4 := ((HWT.out.alloc (.cells (reC e).toArray 112)).alloc (.cells (reC e).toArray 112)).kept hgrow HA.out.kept
        have hR4 := HFR.out W4 W4.heap.size _ (Rd.of_own hW4)
        rw [HDR.out] at hR4
        have hb4 : Below w1.heap.size w1 W4 := ((hb.alloc hws (.cells (reC e).toArray 112)).alloc (by simp; omega) (.cells (reC e).toArray 112)).grown hgrow (by simp; omega) (fun j hj => (HO.out.lt j hj).1)
        have hbx : W4.heap[wo.heap.size]? = some (.cells (reC e).toArray 112 (0, 0)) :=
          (hgrow.block wo.heap.size (by simp; omega) (fun e' => by have := (HO.out.lt _ e'.symm).2; omega)).trans ((Below.heap_alloc _ _ _ (by simp)).trans (heap_alloc_new wo _))
        have x0 : W4.cell? ⟨wo.heap.size, 0, none⟩ = some (.int .i64 e.id.s.T) := cell_of_row _ _ 0 _ _ _ hbx
        have x1 : W4.cell? ⟨wo.heap.size, 1, none⟩ = some (.int .i64 e.id.s.R) := cell_of_row _ _ 1 _ _ _ hbx
        have x2 : W4.cell? ⟨wo.heap.size, 2, none⟩ = some (.int .i64 e.id.I) := cell_of_row _ _ 2 _ _ _ hbx
        have hcl := HBH.out e.id W4 hb4
        unfold idV at hcl
        have HCL := Lib.hid hcl
        have HO4 := Lib.hid hO4
        have HR4 := Lib.hid hR4
        have HB4 := Lib.hid hb4
        have hw14 : w1.heap.size ≤ W4.heap.size := hb4.size
        have hkl5 := HKL.out e.id
        clear hown hgrow hat hO4 hW4 hR4 hb4 hbx hcl c0 c1 c2 c3 c4 c5 c6 hws HO HA HWT HFR
        go_wp2_with fail
        refine HCL.out.mono ?_
        rintro e5 W5 ⟨vK, rfl, hK, hb5⟩
        obtain ⟨AK, cK, rfl, _, _⟩ := (Rd.of_own hK).form
        have HK := Lib.hid hK
        have HB5 := Lib.hid hb5
        have hw45 : W4.heap.size ≤ W5.heap.size := hb5.size
        clear hK hb5 x0 x1 x2 HCL
        go_wp2_with (at_builtin; refine wpList_append_row rfl _ _ 60 rfl W4.heap.size 112 i0 _ 7 64 Tryd.underlying60 hi hz0 hz1 hz2 rfl (by decide) _ 0 [] rfl (World.ownsRow_nil _ _ _ _) _ W4.heap.size (behL M e.id).length ((behL M e.id).flatMap reC) rfl HK.out (reC_list _) (by unfold maxLen; omega) (by omega) hw45 ?_)
        intro v6 W6 hown6 hgrow6
        have hb6 : Below W4.heap.size W4 W6 := HB5.out.grown hgrow6 hw45 (fun j hj => by simp [Value.ownBlock] at hj)
        have HO6 := Lib.hid (show W6.ownsRow W4.heap.size 112 7 v6 (behL M e.id).length ((behL M e.id).flatMap reC) from by simpa using hown6)
        obtain ⟨A6, c6, rfl, _, _⟩ := (Rd.of_own HO6.out).form
        have HB6 := Lib.hid hb6
        have hw46 : W4.heap.size ≤ W6.heap.size := hb6.size
        have HR6 := Lib.hid (HR4.out.below' hb6 (Nat.le_refl _))
        clear hown6 hgrow6 hb6 HK HB5
        go_wp2_with (at_builtin; refine wpList_append_rd rfl _ _ 60 rfl W4.heap.size 112 i0 _ 7 64 Tryd.underlying60 hi hz0 hz1 hz2 rfl (by decide) _ (behL M e.id).length ((behL M e.id).flatMap reC) rfl HO6.out _ W4.heap.size n1 (rest.flatMap ndR) rfl HR6.out (ndR_list _) (by unfold maxLen; omega) (by omega) hw46 ?_)
        intro v7 W7 hown7 hgrow7
        have hb7 : Below W4.heap.size W4 W7 := HB6.out.grown hgrow7 hw46 (fun j hj => (HO6.out.lt j hj).1)
        have HREL := Lib.hid (show OrdRelR (Counts (flat R)) w1 (.slice (some ⟨g4, 0, none⟩) (O.length + 1) cap4) v7 W7 from
          ⟨O ++ [(p, e)], kids El.id (behB M) p e.id ++ rest, HSTEP.out, by rw [show (O ++ [((p, e) : Nd)]).length = O.length + 1 by simp]; exact own_grows HO4.out hb7, by rw [HKLL.out, HKR.out]; exact own_base hown7 hw14, apart_le (fun g hg => (HO4.out.lt g hg).2) hown7, HB4.out.trans (hb7.mono HB4.out.size)⟩)
        clear hown7 hgrow7 hb7 HO6 HR6 HB6 HO4 HR4 HB4
        go_wp2
        go_roundw
        case rel => exact HREL.out
        case measure => have := HLE.out; simp [lenOf]; omega)
end Go.Proofs.YtphapjbfaomblaaDoor
