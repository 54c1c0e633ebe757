/- Texts of this seat, one behind the other: JX, JV, JY, F1, K, GQ. -/
import Derived.Test.YtphapjbfaomblaaDoorZb24
import Derived.Deep.RegionHeld3
import Derived.Test.YtphapjbfaomblaaDoorRows
import Derived.Test.YtphapjbfaomblaaDoorZb5
import Derived.Lib.LaidIn
import Derived.Lib.LaidU8T
import Derived.PinnedBridge
import Derived.Deep.DeepHandedRow
import Derived.Deep.DeepWitnessRowRef
import Derived.ProofKit
import Derived.SizedLaws
import Derived.Deep.Slices
import Derived.OpenShut
import Derived.Carry
import Derived.Laws.Cover2
import Derived.Test.YtphapjbfaomblaaDoorZb1
import Derived.Test.YtphapjbfaomblaaDoorZb23
/- SheetInserts, plain: new ones, newer than all, one behind the other, come in at one place. -/
namespace Go.Proofs.YtphapjbfaomblaaDoor
open Go
section
variable {α ε : Type} {lt : α → α → Prop} {idf af : ε → α} {z : α} {E : ε → Prop}
theorem put_newer (T : STO lt) {O : List (List α × ε)} (hO : OrderOf lt idf af z E O) {p : List α} {x : α} {k : Nat} (h : PutAt lt O p x k) (hx : ∀ e, E e → lt (idf e) x) : PutEnd lt O p x k := by
  by_cases hk : k < O.length
  · refine put_stop T hO h hk ?_
    have hr := h.rest k hk (Nat.le_refl _)
    rcases plt_cases hr with ⟨t, ht⟩ | hs
    · cases t with
      | nil =>
        rw [List.append_nil] at ht
        rw [← ht] at hr
        exact absurd hr (plt_irrefl T _)
      | cons c r =>
        obtain ⟨e, y, h1, h2, _⟩ := path_cut (node_path ((hO.2 _).1 (List.getElem_mem hk))) ht.symm
        rw [← ht]
        exact slt_plt (slt_at (h2 ▸ hx e h1) p [] r)
    · have := slt_more [x] [] hs
      rw [List.append_nil] at this
      exact slt_plt this
  · exact put_last h (by have := h.le; omega)
end
def ndsOf (p : List Id) : List El → List Nd
  | [] => []
  | e :: l => (p ++ [e.id], e) :: ndsOf (p ++ [e.id]) l
theorem ndsOf_els : ∀ (l : List El) (p : List Id), (ndsOf p l).map (·.2) = l
  | [], _ => rfl
  | e :: l, p => by rw [ndsOf, List.map_cons, ndsOf_els l]
theorem ins_order : ∀ (ps : List (List UInt8)) (E : El → Prop) (O : List Nd) (p : List Id) (k : Nat) (a x : Id), OrderOf Id.Lt El.id El.af zeroI E O → (∀ y, PutAt Id.Lt O p y k) → IsPath El.id El.af zeroI E p a → Names El.id zeroI E →
    (∀ e, E e → e.af = zeroI ∨ ∃ f, E f ∧ f.id = e.af) → (a = zeroI ∨ ∃ f, E f ∧ f.id = a) → (∀ e, E e → ∀ j, j < ps.length → e.id.Lt (nthI x j)) → (∀ j, j < ps.length → nthI x j ≠ zeroI) → (∀ i j, i < j → j < ps.length → (nthI x i).Lt (nthI x j)) →
    OrderOf Id.Lt El.id El.af zeroI (fun e => E e ∨ e ∈ flatOf a x ps) (O.take k ++ (ndsOf p (flatOf a x ps) ++ O.drop k))
  | [], E, O, p, k, a, x, hO, _, _, _, _, _, _, _, _ => by
    have : (fun e => E e ∨ e ∈ flatOf a x []) = E := by
      funext e
      simp [flatOf]
    rw [this, flatOf, ndsOf, List.nil_append, List.take_append_drop]
    exact hO
  | q :: ps, E, O, p, k, a, x, hO, hat, hp, hN, hc, ha, hnew, hnz, hup => by
    have hend := put_newer idSTO hO (hat x) (fun e he => hnew e he 0 (by simp))
    have hne : NewOne El.id El.af zeroI E ⟨x, a, ofL q⟩ := {
      fresh := fun e he h => by
        have := hnew e he 0 (by simp)
        rw [show nthI x 0 = x from rfl, h] at this
        exact idSTO.irrefl _ this
      nz := hnz 0 (by simp)
      behind := ha
      closed := hc }
    have hO1 := put_order hO hne hp hN hend
    obtain ⟨hk, _, _⟩ := hend
    obtain ⟨O1, hO1e⟩ : ∃ O1, O.take k ++ (p ++ [x], (⟨x, a, ofL q⟩ : El)) :: O.drop k = O1 := ⟨_, rfl⟩
    have hlt : k < O1.length := by
      rw [← hO1e, List.length_append, List.length_take, List.length_cons]
      omega
    have hg : O1[k] = (p ++ [x], (⟨x, a, ofL q⟩ : El)) := by
      have h1 : (O.take k).length = k := by rw [List.length_take]; omega
      subst hO1e
      rw [List.getElem_append_right (by omega)]
      simp [h1]
    have ht1 : O1.take (k + 1) = O.take k ++ [(p ++ [x], (⟨x, a, ofL q⟩ : El))] := by
      have h1 : (O.take k).length = k := by rw [List.length_take]; omega
      rw [← hO1e, List.take_append, h1, List.take_of_length_le (by omega), show k + 1 - k = 1 by omega]
      rfl
    have hd1 : O1.drop (k + 1) = O.drop k := by
      have h1 : (O.take k).length = k := by rw [List.length_take]; omega
      rw [← hO1e, List.drop_append, h1, List.drop_of_length_le (by omega), show k + 1 - k = 1 by omega]
      rfl
    have hOO : OrderOf Id.Lt El.id El.af zeroI (fun e => E e ∨ e = ⟨x, a, ofL q⟩) O1 := by
      rw [← hO1e]
      exact hO1
    have hm : ∀ {r y}, IsPath El.id El.af zeroI E r y → IsPath El.id El.af zeroI (fun e => E e ∨ e = ⟨x, a, ofL q⟩) r y := by
      intro r y hq
      induction hq with
      | root => exact .root
      | step p e x y _ h2 h3 h4 ih => exact .step p e x y ih (.inl h2) h3 h4
    have ih := ins_order ps (fun e => E e ∨ e = ⟨x, a, ofL q⟩) O1 (p ++ [x]) (k + 1) x (nextI x) hOO (fun y => by
        have := put_behind idSTO hOO hlt y
        rwa [hg] at this)
      (.step p ⟨x, a, ofL q⟩ x a (hm hp) (.inr rfl) rfl rfl)
      ⟨fun e f he hf h => by
        rcases he with he | rfl <;> rcases hf with hf | rfl
        · exact hN.uniq e f he hf h
        · exact absurd h (hne.fresh e he)
        · exact absurd h.symm (hne.fresh f hf)
        · rfl, fun e he => by
        rcases he with he | rfl
        · exact hN.nz e he
        · exact hne.nz⟩
      (fun e he => by
        rcases he with he | rfl
        · exact (hc e he).imp id (fun ⟨f, hf, h⟩ => ⟨f, .inl hf, h⟩)
        · exact ha.imp id (fun ⟨f, hf, h⟩ => ⟨f, .inl hf, h⟩))
      (.inr ⟨⟨x, a, ofL q⟩, .inr rfl, rfl⟩)
      (fun e he j hj => by
        rw [nthI_next]
        rcases he with he | rfl
        · exact hnew e he (j + 1) (by simp; omega)
        · exact hup 0 (j + 1) (by omega) (by simp; omega))
      (fun j hj => by rw [nthI_next]; exact hnz (j + 1) (by simp; omega))
      (fun i j hij hj => by rw [nthI_next, nthI_next]; exact hup (i + 1) (j + 1) (by omega) (by simp; omega))
    have hpe : (fun e => E e ∨ e ∈ flatOf a x (q :: ps)) = fun e => (E e ∨ e = ⟨x, a, ofL q⟩) ∨ e ∈ flatOf x (nextI x) ps := by
      funext e
      rw [flatOf, List.mem_cons, or_assoc]
    rw [hpe, flatOf, ndsOf]
    rw [ht1, hd1, List.append_assoc] at ih
    exact ih
/-! what is seen -/
theorem findR_atX {α : Type} : ∀ (R : Row α) (k : Nat) (x : α), findR R k = some x → ∃ i, ∃ (h : i < R.length), R[i] = (x, true) ∧ cntR (R.take i) = k
  | [], _, _, h => by cases h
  | (y, true) :: R, 0, x, h => by
    injection h with h
    subst h
    exact ⟨0, by simp, rfl, rfl⟩
  | (y, true) :: R, k + 1, x, h => by
    obtain ⟨i, hi, h1, h2⟩ := findR_atX R k x h
    refine ⟨i + 1, by simp; omega, by simpa using h1, ?_⟩
    rw [List.take_succ_cons, cntR_cons, h2]
    simp
    omega
  | (y, false) :: R, k, x, h => by
    obtain ⟨i, hi, h1, h2⟩ := findR_atX R k x h
    refine ⟨i + 1, by simp; omega, by simpa using h1, ?_⟩
    rw [List.take_succ_cons, cntR_cons, h2]
    simp
theorem seenO_app (A B : List Nd) (on : Stamp → Int) (gn : Id → Int) : seenO (A ++ B) on gn = seenO A on gn ++ seenO B on gn := by
  unfold seenO
  rw [List.map_append, List.filter_append]
theorem row_take (O : List Nd) (on : Stamp → Int) (gn : Id → Int) (i : Nat) : (rowV O on gn).take i = rowV (O.take i) on gn := by
  unfold rowV idsO
  rw [List.map_take, List.map_take]
theorem find_mem {O : List Nd} {on : Stamp → Int} {gn : Id → Int} {k : Int} (h : (findV (rowV O on gn) k).2 = 0) : (findV (rowV O on gn) k).1 ∈ idsO O := by
  cases e : (if k < 0 then none else findR (rowV O on gn) k.toNat) with
  | none => rw [findV_none e] at h; cases h
  | some x =>
    rw [findV_some e]
    have h1 : findR (rowV O on gn) k.toNat = some x := by
      by_cases hk : k < 0
      · rw [if_pos hk] at e; cases e
      · rw [if_neg hk] at e; exact e
    obtain ⟨i, hi, h2, _⟩ := findR_atX _ _ _ h1
    have h3 : x ∈ namesR (rowV O on gn) := List.mem_map.2 ⟨_, List.getElem_mem hi, by rw [h2]⟩
    rwa [rowV_names] at h3
theorem beh_at (O : List Nd) (on : Stamp → Int) (gn : Id → Int) {k : Nat} (hk : k ≤ (seenO O on gn).length) : (behV (rowV O on gn) k).2 = 0 ∧
    ∃ j, j ≤ O.length ∧ (seenO (O.take j) on gn).length = k ∧ (((behV (rowV O on gn) k).1 = zeroI ∧ j = 0) ∨ ∃ i, ∃ (h : i < O.length), j = i + 1 ∧ O[i].2.id = (behV (rowV O on gn) k).1) := by
  rw [← cnt_row] at hk
  unfold behV
  rw [if_neg (by omega)]
  by_cases h0 : k = 0
  · subst h0
    rw [if_pos (show ((0 : Nat) : Int) = 0 from rfl)]
    exact ⟨rfl, 0, Nat.zero_le _, rfl, .inl ⟨rfl, rfl⟩⟩
  · rw [if_neg (by omega)]
    obtain ⟨m, rfl⟩ : ∃ m, k = m + 1 := ⟨k - 1, by omega⟩
    obtain ⟨x, hx, _⟩ := findR_some (rowV O on gn) m (by omega)
    have e : (if ((m + 1 : Nat) : Int) - 1 < 0 then none else findR (rowV O on gn) (((m + 1 : Nat) : Int) - 1).toNat) = some x := by
      rw [if_neg (by omega), show (((m + 1 : Nat) : Int) - 1).toNat = m by omega]
      exact hx
    rw [findV_some e]
    obtain ⟨i, hi, h2, h3⟩ := findR_atX _ _ _ hx
    have hi' : i < O.length := by rwa [rowV_len] at hi
    have hrow : (rowV O on gn)[i] = (O[i].2.id, seenI on gn O[i].2.id) := by simp [rowV, idsO]
    have h2' := h2
    rw [hrow] at h2'
    injection h2' with e1 e2
    refine ⟨rfl, i + 1, hi', ?_, .inr ⟨i, hi', rfl, e1⟩⟩
    rw [← cnt_row, ← row_take, List.take_succ_eq_append_getElem hi, cntR_snoc, h2, h3]
    rfl
theorem Sht.gn0 {w0 w : World} {P : Nat → Prop} {p : Loc} {c : Nat} {F : List El} {O : List Nd} {on : Stamp → Int} {gn : Id → Int} (h : Sht w0 P p c F O on gn w) {x : Id} (hx : x ∉ F.map El.id) : gn x = 0 := by
  obtain ⟨Fs, Es, n, m, n2, D, Dr, hd, Dn, h1, h2, h3, _⟩ := h
  refine h2.gn0 x (fun e he h => hx ?_)
  rw [← h3, List.map_map]
  exact List.mem_map.2 ⟨e, he, h⟩
theorem Sht.mem {w0 w : World} {P : Nat → Prop} {p : Loc} {c : Nat} {F : List El} {O : List Nd} {on : Stamp → Int} {gn : Id → Int} (h : Sht w0 P p c F O on gn w) {x : Id} (hx : x ∈ idsO O) : x ∈ F.map El.id := by
  obtain ⟨nd, hnd, rfl⟩ := List.mem_map.1 hx
  exact List.mem_map.2 ⟨nd.2, ((h.order.2 nd).1 hnd).1, rfl⟩
theorem Sht.names {w0 w : World} {P : Nat → Prop} {p : Loc} {c : Nat} {F : List El} {O : List Nd} {on : Stamp → Int} {gn : Id → Int} (h : Sht w0 P p c F O on gn w) : Names El.id zeroI (fun e => e ∈ F) ∧ ∀ e ∈ F, e.af = zeroI ∨ ∃ f ∈ F, f.id = e.af := by
  obtain ⟨Fs, Es, n, m, n2, D, Dr, hd, Dn, h1, h2, h3, _⟩ := h
  rw [← h3]
  refine ⟨⟨fun e f he hf h => ?_, fun e he => ?_⟩, fun e he => ?_⟩
  · obtain ⟨e0, he0, rfl⟩ := List.mem_map.1 he
    obtain ⟨f0, hf0, rfl⟩ := List.mem_map.1 hf
    rw [en_one h1.uniq he0 hf0 h]
  · obtain ⟨e0, he0, rfl⟩ := List.mem_map.1 he
    exact h2.nz e0 he0
  · obtain ⟨e0, he0, rfl⟩ := List.mem_map.1 he
    exact (h2.clo e0 he0).imp id (fun ⟨f, hf, h⟩ => ⟨elOf f, List.mem_map.2 ⟨f, hf, rfl⟩, h⟩)
/-- all that comes in is newer: it stands at the place at once, and all else as it did -/
theorem ins_seen {O O' : List Nd} {F : List El} {on on' : Stamp → Int} {gn : Id → Int} {k : Nat} {a x : Id} {ps : List (List UInt8)} (hk : k ≤ (seenO O on gn).length) (ha : a = (behV (rowV O on gn) k).1)
    (hO : OrderOf Id.Lt El.id El.af zeroI (fun e => e ∈ F) O) (hN : Names El.id zeroI (fun e => e ∈ F) ∧ ∀ e ∈ F, e.af = zeroI ∨ ∃ f ∈ F, f.id = e.af)
    (hnew : ∀ e ∈ F, ∀ j, j < ps.length → e.id.Lt (nthI x j)) (hnz : ∀ j, j < ps.length → nthI x j ≠ zeroI) (hup : ∀ i j, i < j → j < ps.length → (nthI x i).Lt (nthI x j))
    (hO' : OrderOf Id.Lt El.id El.af zeroI (fun e => e ∈ F ++ flatOf a x ps) O')
    (hold : ∀ e ∈ F, seenI on' gn e.id = seenI on gn e.id) (hnw : ∀ e ∈ flatOf a x ps, seenI on' gn e.id = true) :
    ∃ A B, seenO O on gn = A ++ B ∧ A.length = k ∧ seenO O' on' gn = A ++ (flatOf a x ps ++ B) := by
  obtain ⟨_, j, hj, hl, hc⟩ := beh_at O on gn hk
  rw [← ha] at hc
  have hp : ∃ p, IsPath El.id El.af zeroI (fun e => e ∈ F) p a ∧ (∀ y, PutAt Id.Lt O p y j) ∧ (a = zeroI ∨ ∃ f, f ∈ F ∧ f.id = a) := by
    rcases hc with ⟨rfl, rfl⟩ | ⟨i, hi, rfl, rfl⟩
    · exact ⟨[], .root, fun y => put_first hO y, .inl rfl⟩
    · exact ⟨_, node_path ((hO.2 _).1 (List.getElem_mem hi)), fun y => put_behind idSTO hO hi y, .inr ⟨_, ((hO.2 _).1 (List.getElem_mem hi)).1, rfl⟩⟩
  obtain ⟨p, hp1, hp2, hp3⟩ := hp
  have h1 := ins_order ps (fun e => e ∈ F) O p j a x hO hp2 hp1 hN.1 hN.2 hp3 hnew hnz hup
  have hpe : (fun e => e ∈ F ++ flatOf a x ps) = fun e => e ∈ F ∨ e ∈ flatOf a x ps := by
    funext e
    rw [List.mem_append]
  rw [hpe] at hO'
  obtain rfl := order_unique idSTO h1 hO'
  have hse : ∀ M : List Nd, (∀ nd ∈ M, nd ∈ O) → seenO M on' gn = seenO M on gn := fun M hM => by
    unfold seenO
    refine List.filter_congr fun e he => ?_
    obtain ⟨nd, hnd, rfl⟩ := List.mem_map.1 he
    exact hold _ ((hO.2 nd).1 (hM nd hnd)).1
  refine ⟨seenO (O.take j) on gn, seenO (O.drop j) on gn, by rw [← seenO_app, List.take_append_drop], hl, ?_⟩
  rw [seenO_app, seenO_app, hse _ (fun nd h => List.mem_of_mem_take h), hse _ (fun nd h => List.mem_of_mem_drop h)]
  congr 2
  unfold seenO
  rw [ndsOf_els]
  exact List.filter_eq_self.2 hnw
theorem txt_app (A B : List El) : txt (A ++ B) = txt A ++ txt B := by
  unfold txt
  rw [List.map_append, List.flatten_append]
end Go.Proofs.YtphapjbfaomblaaDoor
/- law11's awake, walked. -/
namespace Go.Proofs.YtphapjbfaomblaaDoor
open Go Go.RowKit Go.Maps Go.ChangeMaps
set_option maxRecDepth 100000 in
set_option maxHeartbeats 4000000 in
theorem lawake_any (w : World) (hT : Tabs w) : Calls Tryd.prog 21 #[] w fun e w' => e = .returned (.bool true) ∧ Below w.heap.size w w' := by
  have HT := Lib.hid (fun W (hW : Below w.heap.size w W) => hT.below hW)
  clear hT
  go_enter Tryd.func21, Tryd.ntmps21
  go_wp2_with fail
  refine (Sht.new (w0 := w) (P := fun _ => False) (Below.refl _ w) (fun _ h => h.elim)).mono ?_
  rintro e w1 ⟨p, rfl, hS1, _⟩
  have HS1 := Lib.hid hS1
  clear hS1
  go_wp2_with fail
  refine (lid_any _ _ _ _).mono ?_
  rintro e w2 ⟨rfl, hb2⟩
  have HS2 := Lib.hid (HS1.out.below hb2)
  clear hb2
  go_wp2_with fail
  refine (HS2.out.add ⟨zeroI, mk 1 1 0, ⟨#[97, 98]⟩⟩ [[97], [98]] (AllP.cons (isP_ascii (by decide)) (AllP.cons (isP_ascii (by decide)) AllP.nil)) rfl (by decide) (by decide) (HT.out w2 HS2.out.out) (by decide) (.inl rfl) (fun j hj => ⟨?_, by simp⟩) (fun i j hij hj => ?_)).mono ?_
  · match j, hj with
    | 0, _ => decide
    | 1, _ => decide
  · obtain ⟨rfl, rfl⟩ : i = 0 ∧ j = 1 := by simp at hj; omega
    decide
  rintro e w3 ⟨rfl, ⟨O, hS3⟩, _⟩
  have hS3 : Sht w (fun _ => False) p 2 [eA, eB] O (fun _ => 0) (fun _ => 0) w3 := hS3
  obtain rfl := hS3.one bOrder
  have HS3 := Lib.hid hS3
  clear hS3
  go_wp2_with fail
  refine (HS3.out.set bS true (by omega)).mono ?_
  rintro e w4 ⟨⟨_, rfl⟩, hS4, _⟩
  have hS4 : Sht w (fun _ => False) p 3 [eA, eB] bO bOn (fun _ => 0) w4 := hS4
  have HS4 := Lib.hid hS4
  clear hS4
  have HX1 := Lib.hid (HS4.out.text (by omega) (by rw [bSeen]; decide))
  rw [bSeen, show ofL (txt [eA, eB]) = ⟨#[97, 98]⟩ from rfl] at HX1
  go_wp2_with fail
  refine HX1.out.mono ?_
  rintro e w5 ⟨rfl, hb5⟩
  have HS5 := Lib.hid (HS4.out.below hb5)
  clear hb5
  go_wp2_with fail
  refine (lid_any _ _ _ _).mono ?_
  rintro e w6 ⟨rfl, hb6⟩
  have HS6 := Lib.hid (HS5.out.below hb6)
  clear hb6
  go_wp2_with fail
  refine (HS6.out.take (mk 1 1 0) true (by omega)).mono ?_
  rw [if_pos (show mk 1 1 0 ∈ [eA, eB].map El.id by decide), if_pos (show mk 1 1 0 ∈ [eA, eB].map El.id by decide)]
  rintro e w7 ⟨rfl, hS7, _⟩
  have hS7 : Sht w (fun _ => False) p 4 [eA, eB] bO bOn bGn w7 := hS7
  have HS7 := Lib.hid hS7
  clear hS7
  have HB := Lib.hid (HS7.out.behind (by omega) 1 (by omega))
  rw [bBeh] at HB
  go_wp2_with fail
  refine HB.out.mono ?_
  rintro e w8 ⟨rfl, hb8⟩
  have HS8 := Lib.hid (HS7.out.below hb8)
  clear hb8
  unfold idV
  obtain ⟨W9, hW9⟩ : ∃ W, w8.alloc (.cells #[.int .i64 1, .int .i64 1, .int .i64 1] 26) = W := ⟨_, rfl⟩
  have hb9 : Below w8.heap.size w8 W9 := by rw [← hW9]; exact (Below.refl _ w8).alloc (Nat.le_refl _) _
  have hx9 : W9.heap[w8.heap.size]? = some (.cells #[.int .i64 1, .int .i64 1, .int .i64 1] 26 (0, 0)) := by rw [← hW9]; exact heap_alloc_new w8 _
  obtain ⟨q, hq⟩ : ∃ z, w8.heap.size = z := ⟨_, rfl⟩
  rw [hq] at hx9
  have HS9 := Lib.hid (HS8.out.below hb9)
  have HC := Lib.hid (fun W (hW : Below W9.heap.size W9 W) => (show (W.cell? ⟨q, 0, none⟩ = some (.int .i64 1) ∧ W.cell? ⟨q, 1, none⟩ = some (.int .i64 1) ∧ W.cell? ⟨q, 2, none⟩ = some (.int .i64 1)) from by
    have hh := (hW.block q (Array.getElem?_eq_some_iff.1 hx9).1).trans hx9
    exact ⟨cell_of_row _ _ 0 _ _ _ hh, cell_of_row _ _ 1 _ _ _ hh, cell_of_row _ _ 2 _ _ _ hh⟩))
  have HSW := Lib.hid (fun W (hW : Below W9.heap.size W9 W) => HS9.out.below hW)
  have HTXT := Lib.hid (fun W (hW : Below W9.heap.size W9 W) => (HSW.out W hW).text (by omega) (by rw [bSeen2]; decide))
  rw [bSeen2, show ofL (txt [eB]) = ⟨#[98]⟩ from rfl] at HTXT
  have HLEN := Lib.hid (fun W (hW : Below W9.heap.size W9 W) => (HSW.out W hW).len)
  rw [bCnt] at HLEN
  have HHAD := Lib.hid (fun W (hW : Below W9.heap.size W9 W) => (HSW.out W hW).addHad ⟨zeroI, mk 1 1 1, ⟨#[99]⟩⟩ [[99]] (AllP.cons (isP_ascii (by decide)) AllP.nil) rfl (by decide) (by decide) (HT.out W (HSW.out W hW).out) rfl (by decide))
  have HLID := Lib.hid (fun t r i W (hW : Below W9.heap.size W9 W) => (lid_any t r i W).mono (fun e w' (h : e = _ ∧ Below W.heap.size W w') => (show e = .returned (.agg #[.int .i64 t, .int .i64 r, .int .i64 i]) ∧ Below W9.heap.size W9 w' from ⟨h.1, hW.trans (h.2.mono hW.size)⟩)))
  have HW9 := Lib.hid hW9
  have HQ := Lib.hid hq
  have hqe := eql26
  have hgd := gd26
  have k1 : Below W9.heap.size W9 W9.drew := (Below.refl _ W9).drew
  clear hW9 hb9 hx9 hq
  go_wp2
  rw [show w8.alloc (.cells #[.int .i64 (mk 1 1 1).s.T, .int .i64 (mk 1 1 1).s.R, .int .i64 (mk 1 1 1).I] 26) = W9 from HW9.out, HQ.out]
  go_region_held3 (fun W => (W.cell? ⟨q, 0, none⟩ = some (.int .i64 1) ∧ W.cell? ⟨q, 1, none⟩ = some (.int .i64 1) ∧ W.cell? ⟨q, 2, none⟩ = some (.int .i64 1)))
    (first | exact HC.out _ (by assumption) | go_keep)
    (first
      | (go_at_call 29; refine (HTXT.out _ k1).mono ?_; rintro e w10 ⟨rfl, hb10⟩; have k2 := k1.trans (hb10.mono k1.size); clear hb10)
      | (go_at_call 31; refine (HLEN.out _ k3).mono ?_; rintro e w11 ⟨rfl, rfl⟩)
      | (go_at_call 23; refine (HHAD.out _ k4).mono ?_; rintro e w13 ⟨rfl, hb13⟩; have k5 := k4.trans (hb13.mono k4.size); clear hb13)
      | (go_at_call 45; refine (HLID.out _ _ _ _ k3).mono ?_; rintro e w12 ⟨rfl, k4⟩)
      | (go_at_call 45; refine (HLID.out _ _ _ _ k2).mono ?_; rintro e w12 ⟨rfl, k3⟩))
  go_wp2
  go_ret
  exact ⟨rfl, HS9.out.out.trans (k5.mono HS9.out.out.size)⟩
end Go.Proofs.YtphapjbfaomblaaDoor
/- A sheet beside rows of the caller's: what SheetReturns and SheetInserts need of it. -/
namespace Go.Proofs.YtphapjbfaomblaaDoor
open Go Go.RowKit Go.Maps Go.ChangeMaps
def ubC (x : Nat) : List Value := [.int .u8 x]
theorem Sht.olen {w0 w : World} {P : Nat → Prop} {p : Loc} {c : Nat} {F : List El} {O : List Nd} {on : Stamp → Int} {gn : Id → Int} (h : Sht w0 P p c F O on gn w) : O.length ≤ c := by
  obtain ⟨Fs, Es, n, m, n2, D, Dr, hd, Dn, h1, h2, h3, _⟩ := h
  exact h2.len.2
theorem seen_le (O : List Nd) (on : Stamp → Int) (gn : Id → Int) : (seenO O on gn).length ≤ O.length := by
  unfold seenO
  refine Nat.le_trans (List.length_filter_le _ _) ?_
  simp
theorem Sht.seen {w0 w : World} {P : Nat → Prop} {p : Loc} {c : Nat} {F : List El} {O : List Nd} {on : Stamp → Int} {gn : Id → Int} (h : Sht w0 P p c F O on gn w) {e : El} (he : e ∈ seenO O on gn) : e ∈ F := by
  obtain ⟨nd, hnd, rfl⟩ := List.mem_map.1 (List.mem_filter.1 he).1
  exact ((h.order.2 nd).1 hnd).1
theorem Sht.txt {w0 w : World} {P : Nat → Prop} {p : Loc} {c : Nat} {F : List El} {O : List Nd} {on : Stamp → Int} {gn : Id → Int} (h : Sht w0 P p c F O on gn w) (hF : ∀ e ∈ F, e.pc.size = 1) : (txt (seenO O on gn)).length = (seenO O on gn).length ∧ (seenO O on gn).length ≤ c :=
  ⟨txt_one _ (fun e he => hF e (h.seen he)), Nat.le_trans (seen_le O on gn) h.olen⟩
/-- a sheet, a row of ids and a variable of the caller's -/
def ShR (w0 : World) (p : Loc) (c : Nat) (F : List El) (O : List Nd) (on : Stamp → Int) (gn : Id → Int) (B : Nat) (v : Value) (xs : List Id) (W : World) : Prop :=
  Sht w0 (fun g => v.ownBlock = some g) p c F O on gn W ∧ W.ownsRow B 26 3 v xs.length (xs.flatMap idC)
def ShX (w0 : World) (p : Loc) (c : Nat) (F : List El) (O : List Nd) (on : Stamp → Int) (gn : Id → Int) (B : Nat) (v : Value) (xs : List Id) (b : Nat) (x : Id) (W : World) : Prop :=
  Sht w0 (fun g => v.ownBlock = some g ∨ g = b) p c F O on gn W ∧ W.ownsRow B 26 3 v xs.length (xs.flatMap idC) ∧ Box W b x ∧ ∀ g, v.ownBlock = some g → g ≠ b
section
variable {w0 w w' : World} {p : Loc} {c : Nat} {F : List El} {O : List Nd} {on : Stamp → Int} {gn : Id → Int} {B b : Nat} {v : Value} {xs : List Id} {x : Id}
/-- a new variable -/
theorem ShR.box (h : ShR w0 p c F O on gn B v xs w) (hb : Below w.heap.size w w') (hl : w.heap.size ≤ b) (hx : Box w' b x) : ShX w0 p c F O on gn B v xs b x w' :=
  ⟨h.1.go (Below.touch hb _) (fun k hk => by
    rcases hk with hk | rfl
    · exact .inl hk
    · exact .inr ⟨hl, (Array.getElem?_eq_some_iff.1 hx).1⟩), own_grows h.2 hb, hx, fun g hg e => by have := (h.2.lt g hg).2; omega⟩
theorem ShX.drop (h : ShX w0 p c F O on gn B v xs b x w) : ShR w0 p c F O on gn B v xs w :=
  ⟨h.1.go (Touch.refl _ _) (fun _ hk => .inl (.inl hk)), h.2.1⟩
theorem ShX.take (h : ShX w0 p c F O on gn B v xs b x w) (hx : x ∈ F.map El.id) (q : Bool) (hc : c ≤ 4000) :
    Calls Tryd.prog 27 #[.pointer (some ⟨p.sh, 0, none⟩), idV x, .bool q] w fun r w' => (∃ u, r = .returned u) ∧ ShX w0 p (c + 1) F O on (gnT gn x (if q then 1 else -1)) B v xs b x w' := by
  refine (h.1.take x q hc).mono ?_
  rw [if_pos hx, if_pos hx]
  rintro r w' ⟨rfl, hS, ht⟩
  exact ⟨⟨_, rfl⟩, hS, own_touch h.2.1 ht (fun g hg hs => hs.2 (.inl hg)), block_touch h.2.2.1 ht (fun hs => hs.2 (.inr rfl)), h.2.2.2⟩
/-- the row grows by one -/
theorem ShX.push (h : ShX w0 p c F O on gn B v xs b x w) {o : Obj} {v' : Value} (hB : w0.heap.size ≤ B) (hown : w'.ownsRow B 26 3 v' (xs.length + 1) (xs.flatMap idC ++ idC x)) (hg : (w.alloc o).grownBy w' v.ownBlock) (hat : v'.ownBlock = v.ownBlock ∨ v'.ownBlock = some (w.heap.size + 1)) : ShX w0 p c F O on gn B v' (xs ++ [x]) b x w' := by
  have t : Touch (fun k => (v.ownBlock = some k ∨ k = b) ∧ w0.heap.size ≤ k) w w' := Touch.grown (Touch.alloc (Touch.refl _ w) o) hg (fun k hk hl => ⟨.inl hk, Nat.le_trans hB (h.2.1.lt k hk).1⟩)
  refine ⟨h.1.go t (fun k hk => ?_), by rw [List.length_append, List.flatMap_append]; simpa using hown, ?_, fun g hg e => ?_⟩
  · rcases hk with hk | rfl
    · rcases hat with e | e
      · exact .inl (.inl (e ▸ hk))
      · refine .inr ⟨?_, (hown.lt k hk).2⟩
        rw [e] at hk
        cases hk
        omega
    · exact .inl (.inr rfl)
  · have hbl := (Array.getElem?_eq_some_iff.1 h.2.2.1).1
    exact (hg.block b (by simp; omega) (fun e => h.2.2.2 b e.symm rfl)).trans ((Below.heap_alloc w o b hbl).trans h.2.2.1)
  · have hbl := (Array.getElem?_eq_some_iff.1 h.2.2.1).1
    rcases hat with e1 | e1
    · exact h.2.2.2 g (e1 ▸ hg) e
    · rw [e1] at hg
      cases hg
      omega
end
end Go.Proofs.YtphapjbfaomblaaDoor
/- What all rows of this seat share: the listed tables in memory, and a world for the witness. -/
namespace Go.Proofs.YtphapjbfaomblaaDoor
open Go.ChangeShapes Go.WideShapes Go.ChangeAt Go.RowKit Go.Shelf
theorem own : ownKnob Tryd.prog.godebug = none := by kernel_rfl
def laids : List (String × DataW Unit) := [("unicode/utf8.acceptRanges", Rows.laid_unicode_utf8_acceptRanges), ("unicode/utf8.first", Rows.laid_unicode_utf8_first)]
theorem accept_eq : (Rows.laid_unicode_utf8_acceptRanges : DataW Unit) = Lib.acceptData := by kernel_rfl
theorem first_eq : (Rows.laid_unicode_utf8_first : DataW Unit) = Lib.firstData := Pinned.utf8First_eq
theorem laids_eq : laids = [("unicode/utf8.acceptRanges", Lib.acceptData), ("unicode/utf8.first", Lib.firstData)] := by
  unfold laids
  rw [accept_eq, first_eq]
theorem tabs_of {W : World} (hL : laidMetH Tryd.prog laids W) : Tabs W := by
  rw [laids_eq] at hL
  exact utf8Tabs_of_readsT (U8Types.of196 Tryd.lays196) ⟨by kernel_rfl, by kernel_rfl, by kernel_rfl, by kernel_rfl, by kernel_rfl, by kernel_rfl, by kernel_rfl⟩ (Lib.laidMet.reads hL (.tail _ (.head _))) (Lib.laidMet.reads hL (.head _))
/-- A world for the witness: the settled one, the two variables holding what their initialisers lay. -/
noncomputable def laidWorld (os : Os) : World :=
  let w0 := World.holding Tryd.prog os ⟨#[], #[], []⟩
  let put (h : Array Obj) (g : Nat) (cs : Array Value) : Array Obj := h.modify g fun
    | .cells _ t frozen => .cells cs t frozen
    | o => o
  let h1 := put w0.heap 0 (Lib.firstTab.map fun z => Value.int .u8 z).toArray
  let h2 := put h1 1 ((List.range 16).flatMap fun i => [Value.int .u8 (Lib.accLo i), Value.int .u8 (Lib.accHi i)]).toArray
  { w0 with heap := h2 }
theorem laid_met (os : Os) (args : Array Value) : laidMet Tryd.prog laids ((laidWorld os).forCall (fun _ _ => 0) ⟨#[], args, []⟩).memory := by
  rw [laids_eq]
  exact (LaidIn.of_run (l := [("unicode/utf8.acceptRanges", Lib.acceptData), ("unicode/utf8.first", Lib.firstData)]) [1, 0] 8 (by kernel_rfl) (by kernel_rfl) (by kernel_rfl) (by kernel_rfl)).met
end Go.Proofs.YtphapjbfaomblaaDoor
/- What all rows share: a law that returns true and leaves what was there as it was meets its row; slices that came in, opened to their cells. Plain, over any program. -/
namespace Go.Proofs.YtphapjbfaomblaaDoor
open Go Go.RowKit Go.ChangeShapes Go.WideShapes Go.ChangeAt
section
variable {H : Type} {enc : TypeId × Value → H} {P : Program}
theorem trodAll_below (hl : laidOutB P = true) : ∀ (ts : List TypeId) (vs : List Value) (ds : List (DataW H)) (ps : List MemPlace) {W W' : World}, (∀ t ∈ ts, P.readableRec t = true ∧ t < P.types.size) →
    DataW.TrodAll enc P W 0 (fun _ => true) true ts vs ds ps → Below W.heap.size W W' → (∀ x ∈ ps, x.block < W.heap.size) →
    DataW.TrodAll enc P W' 0 (fun b => decide (b < W.heap.size)) true ts vs ds ps
  | [], _, _, _, _, _, _, h, _, _ => by
    obtain ⟨rfl, rfl, rfl⟩ := trodAll_nil h
    exact trodAll_mk0
  | t :: ts, _, _, _, _, _, hr, h, hb, hlt => by
    obtain ⟨v, vs, d, ds, p, q, rfl, rfl, rfl, h1, h2⟩ := trodAll_cons h
    have ht := hr t (by simp)
    exact trodAll_cons_mk (Below.trod hl ht.1 ht.2 h1 hb (fun x hx => hlt x (by simp [hx])))
      (trodAll_below hl ts vs ds q (fun t' ht' => hr t' (by simp [ht'])) h2 hb (fun x hx => hlt x (by simp [hx])))
theorem params_ok {l : List TypeId} (h : (l.all fun t => P.readableRec t && decide (t < P.types.size)) = true) : ∀ t ∈ l, P.readableRec t = true ∧ t < P.types.size := fun t ht => by
  have := List.all_eq_true.1 h t ht
  simpa using this
theorem law_post {fn : Func} {s : ChangeSpec} {W W' : World} {args : Array Value} {ds gs : List (DataW H)} {before : List MemPlace} {tb : TypeId}
    (hl : laidOutB P = true) (hr : ∀ t ∈ fn.params.toList, P.readableRec t = true ∧ t < P.types.size) (hv : s.vars = []) (hres : fn.resultTypes = #[tb]) (hb : P.underlying tb = some .bool)
    (hfn : ∀ ds : List (DataW H), ds.length = fn.params.toList.length → s.fn H ds = { results := [.lit (.bool true)], args := ds })
    (hW : DataW.Whole enc P fn.params.toList s.vars false W args.toList ds gs before) (bel : Below W.heap.size W W') :
    s.post enc P fn false true false false W args (.bool true) W' := by
  have hW' := hW
  obtain ⟨p, q, hA, hV, hpq, _, _⟩ := hW
  have hlen : ds.length = fn.params.toList.length := by
    have : ∀ (ts : List TypeId) (vs : List Value) (ds : List (DataW H)) (ps : List MemPlace), DataW.TrodAll enc P W 0 (fun _ => true) true ts vs ds ps → ds.length = ts.length := by
      intro ts
      induction ts with
      | nil => intro vs ds ps h; obtain ⟨_, rfl, _⟩ := trodAll_nil h; rfl
      | cons t ts ih =>
        intro vs ds ps h
        obtain ⟨v, vs, d, ds, p, q, rfl, rfl, rfl, _, h2⟩ := trodAll_cons h
        rw [List.length_cons, List.length_cons, ih _ _ _ h2]
    exact this _ _ _ _ hA
  have hgs : gs = [] := by rw [hv] at hV; exact (trodVars_none hV).1
  subst hgs
  have e1 : s.fn H (ds ++ []) = { results := [.lit (.bool true)], args := ds } := by rw [List.append_nil]; exact hfn ds hlen
  refine ⟨ds, [], before, [], p, [], hW', ?_, ?_, ?_, bel.frame _, fun h => by cases h⟩
  · rw [e1, hres]
    exact trodAll_mk1 (shut_bool hb true)
  · rw [e1]
    exact trodAll_below hl _ _ _ _ hr hA bel (fun x hx => hW'.lt x (by rw [hpq]; simp [hx]))
  · rw [e1, hv]
    rfl
theorem law_lifted {C : Checked} {os : Os} {f : FuncId} {fn : Func} {s : ChangeSpec} {tb : TypeId} {laid : List (String × DataW Unit)} {F : Stop.Interp}
    (own : ownKnob C.prog.godebug = none) (started : os.Started) (noInit : C.prog.inits.idxOf? f = none) (hfnn : C.prog.funcs[f]? = some fn)
    (witness : ∃ (w : World) (tape : Tape) (i : Input), w.os = os ∧ (w.forCall tape i).Shaped C.prog ∧ i.vars = [] ∧ Input.okWide C.prog (w.forCall tape i) .any w.heap.size f i ∧
      (OpenSpec.ofChange s).preRow enc C.prog fn [] false laid (w.forCall tape i).memory i.args ∧ ({} : Assume).holds C.prog (lone (Frame.enter C.prog f i.args .normal) [] (w.forCall tape i)))
    (hl : laidOutB C.prog = true) (hr : ∀ t ∈ fn.params.toList, C.prog.readableRec t = true ∧ t < C.prog.types.size) (hv : s.vars = []) (hres : fn.resultTypes = #[tb]) (hb : C.prog.underlying tb = some .bool)
    (hfn : ∀ ds : List (DataW H), ds.length = fn.params.toList.length → s.fn H ds = { results := [.lit (.bool true)], args := ds })
    (contract : ∀ (W : World) (base : Nat) (args : Array Value) (ds : List (DataW H)) (ps : List MemPlace),
      (∀ (j : Nat) t v, fn.params[j]? = some t → args[j]? = some v → Value.okWide C.prog W .any base t v) →
      DataW.TrodAll enc C.prog W 0 (fun _ => true) true fn.params.toList args.toList ds ps →
      (DataW.weightsEach C.prog fn.params.toList ds).all (· ≤ reachBytes) = true →
      laidMetH C.prog laid W → W.ShapedOpen C.prog →
      Calls C.prog f args W fun e W' => e = .returned (.bool true) ∧ Below W.heap.size W W') :
    ReturnsInHanded {} C os f .any ((OpenSpec.ofChange s).preRow enc C.prog fn [] false laid) (((OpenSpec.ofChange s).at F).post enc C.prog fn false true false false) := by
  refine returnsInHanded_of_row (C := C) (s := OpenSpec.ofChange s) own started noInit hfnn witness ?_
  intro W base args ds gs before hval hW _ _ hwt hL hsh _
  have hv' : (OpenSpec.ofChange s).vars = [] := hv
  have hW0 := hW
  obtain ⟨p, q, hA, hV, hpq, _, _⟩ := hW
  have hgs : gs = [] := by rw [hv'] at hV; exact (trodVars_none hV).1
  subst hgs
  have hvt : (OpenSpec.ofChange s).bare.plain.varTypes C.prog = [] := by
    show (s.vars.filterMap _) = []
    rw [hv]; rfl
  rw [hvt, List.append_nil, List.append_nil] at hwt
  refine (contract W base args ds p hval hA hwt hL hsh).mono ?_
  rintro e W' ⟨rfl, bel⟩
  exact ⟨_, rfl, law_post hl hr hv hres hb hfn hW0 bel⟩
/-! slices that came in -/
theorem flatE_get {k n : Nat} {E : Nat → List Value} (hE : ∀ i, i < n → (E i).length = k) : ∀ (j : Nat) (u : Value), ((List.range n).flatMap E)[j]? = some u → ∃ i r, i < n ∧ r < k ∧ j = i * k + r ∧ (E i)[r]? = some u := by
  induction n with
  | zero => intro j u h; simp at h
  | succ n ih =>
    intro j u h
    have hlen : ((List.range n).flatMap E).length = n * k := by
      rw [List.length_flatMap]
      have : ((List.range n).map fun a => (E a).length) = (List.range n).map fun _ => k := by
        apply List.map_congr_left
        intro a ha
        exact hE a (by have := List.mem_range.1 ha; omega)
      rw [this]
      simp [List.map_const', List.sum_replicate_nat]
    rw [List.range_succ, List.flatMap_append, List.getElem?_append] at h
    split at h
    · obtain ⟨i, r, h1, h2, h3, h4⟩ := ih (fun i hi => hE i (by omega)) j u h
      exact ⟨i, r, by omega, h2, h3, h4⟩
    · rw [hlen] at h
      simp only [List.flatMap_cons, List.flatMap_nil, List.append_nil] at h
      have hr : j - n * k < (E n).length := (List.getElem?_eq_some_iff.1 h).1
      rw [hE n (by omega)] at hr
      exact ⟨n, j - n * k, by omega, hr, by omega, h⟩
theorem flatE_len {k n : Nat} {E : Nat → List Value} (hE : ∀ i, i < n → (E i).length = k) : ((List.range n).flatMap E).length = n * k := by
  rw [List.length_flatMap]
  have : ((List.range n).map fun a => (E a).length) = (List.range n).map fun _ => k := by
    apply List.map_congr_left
    intro a ha
    exact hE a (List.mem_range.1 ha)
  rw [this]
  simp [List.map_const', List.sum_replicate_nat]
/-- A SLICE ARGUMENT: it reads as its elements' cells, one behind the other; each element reads by itself. -/
theorem open_rd {t e : TypeId} {k : Nat} {W : World} {base : Nat} {v : Value} {d : DataW H} {ps : List MemPlace} (ht : P.underlying t = some (.slice e)) (hk : P.cellsOf e = k) (hk0 : 0 < k)
    (hval : Value.okWide P W .any base t v) (h : DataW.Trod enc P W 0 (fun _ => true) true t v d ps) :
    ∃ (A : Option Addr) (n c m : Nat) (E : Nat → List Value) (D : Nat → DataW H) (Pl : Nat → List MemPlace), v = .slice A n c ∧ Rd W W.heap.size k (.slice A n c) n ((List.range n).flatMap E) ∧
      (d = .nil ∨ ∃ r, d = .slice ((List.range n).map D) r) ∧ (d = .nil → n = 0) ∧
      ∀ i, i < n → (E i).length = k ∧ DataW.trod enc P W 0 (fun _ => true) true m e (E i) = some (D i, Pl i) := by
  obtain ⟨A, n, c, rfl⟩ := okWide_slice ht hval
  obtain ⟨fuel, hf⟩ := h
  rcases Go.Deep.open_slice ht hf with ⟨hcs, hx⟩ | ⟨a, len, cap, m, n', D, Pl, hcs, _, hl, hm, hmm, hx, hi⟩
  · simp only [Value.cells] at hcs
    obtain ⟨rfl, rfl, rfl⟩ : A = none ∧ n = 0 ∧ c = 0 := by simpa using hcs
    exact ⟨none, 0, 0, 0, fun _ => [], fun _ => .nil, fun _ => [], rfl, Rd.nil _ _ _, .inl (congrArg Prod.fst hx), fun _ => rfl, fun i hi => absurd hi (by omega)⟩
  · simp only [Value.cells] at hcs
    obtain ⟨rfl, rfl, rfl⟩ : A = some a ∧ n = len ∧ c = cap := by simpa using hcs
    rw [hk] at hi
    have hle : n ≤ m := by rw [hmm]; split <;> omega
    have hE : ∀ i, ∃ cs', i < n → (cs'.length = k ∧ W.cells? 0 (a.add (i * k)) k = some cs' ∧ DataW.trod enc P W 0 (fun _ => true) true n' e cs' = some (D i, Pl i)) := by
      intro i
      by_cases h : i < n
      · obtain ⟨cs', h1, h2⟩ := hi i (by omega)
        exact ⟨cs', fun _ => ⟨(World.cells?_some h1).2.1, h1, h2⟩⟩
      · exact ⟨[], fun h' => absurd h' h⟩
    obtain ⟨E, hE'⟩ := Classical.axiomOfChoice hE
    have hx1 : d = .slice ((List.range n).map D) ((List.range (m - n)).map fun j => D (n + j)) := congrArg Prod.fst hx
    have hnil : d = .nil → n = 0 := by
      intro hd
      rw [hx1] at hd
      cases hd
    refine ⟨some a, n, c, n', E, D, Pl, rfl, ⟨flatE_len (fun i hi => (hE' i hi).1), some a, c, rfl, hl, hm, fun hn => ?_⟩, .inr ⟨_, hx1⟩, hnil, fun i hi => ⟨(hE' i hi).1, (hE' i hi).2.2⟩⟩
    have hcell : ∀ i r u, i < n → r < k → (E i)[r]? = some u → W.cell? (a.add (i * k + r)) = some u := by
      intro i r u hin hr hu
      have := (World.cells?_some (hE' i hin).2.1).2.2 r hr
      rw [Go.Deep.add_add] at this
      rw [this, hu]
    obtain ⟨b, off, spot⟩ := a
    have h0 : ∃ u, W.cell? ⟨b, off, spot⟩ = some u := by
      have hl0 := (hE' 0 hn).1
      have := hcell 0 0 ((E 0)[0]'(by omega)) hn hk0 (List.getElem?_eq_getElem (by omega))
      exact ⟨_, by simpa [Addr.add] using this⟩
    obtain ⟨u0, hu0⟩ := h0
    have hspot : spot = none := by simpa using World.cell?_spot hu0
    subst hspot
    refine ⟨b, off, rfl, ?_, fun j u hu => ?_⟩
    · exact World.block_lt_of_cell? W _ hu0
    · obtain ⟨i, r, hi1, hr, rfl, hu'⟩ := flatE_get (fun i hi => (hE' i hi).1) j u hu
      have := hcell i r u hi1 hr hu'
      rw [Go.WideShapes.add_plain] at this
      exact this
theorem trod_float {t : TypeId} {k : FloatKind} {W : World} {base : Nat} {sp : Nat → Bool} {held : Bool} {n : Nat} {v : Value} {y : DataW H × List MemPlace} (ht : P.underlying t = some (.float k)) (h : DataW.trod enc P W base sp held n t [v] = some y) :
    ∃ b, v = .float k b ∧ y.1 = .lit (.float k b) ∧ (Lit.float k b).wf = true := by
  cases n with
  | zero => simp [DataW.trod] at h
  | succ n =>
    simp only [DataW.trod, ht] at h
    cases v <;> simp at h
    obtain ⟨⟨rfl, hw⟩, rfl⟩ := h
    exact ⟨_, rfl, rfl, hw⟩
end
end Go.Proofs.YtphapjbfaomblaaDoor
/- Arguments that are runs: opened. -/
namespace Go.Proofs.YtphapjbfaomblaaDoor
open Go Go.RowKit Go.ChangeShapes Go.WideShapes
theorem co28 : Tryd.prog.cellsOf 28 = 7 := by kernel_rfl
theorem co9 : Tryd.prog.cellsOf 9 = 1 := by kernel_rfl
theorem len7 {α : Type} : ∀ {l : List α}, l.length = 7 → ∃ a b c d e f g, l = [a, b, c, d, e, f, g]
  | [a, b, c, d, e, f, g], _ => ⟨a, b, c, d, e, f, g, rfl⟩
section
variable {H : Type} {enc : TypeId × Value → H} {W : World} {base : Nat} {sp : Nat → Bool} {held : Bool}
theorem trod3 {n : Nat} {cs : List Value} {y : DataW H × List MemPlace} (h : DataW.trod enc Tryd.prog W base sp held n 3 cs = some y) : ∃ a, cs = [.int .i64 a] ∧ I64 a := by
  cases n with
  | zero => simp [DataW.trod] at h
  | succ n =>
    rw [DataW.trod_step] at h
    unfold DataW.trodStep at h
    simp only [Tryd.underlying3] at h
    match cs, h with
    | [.int q a], h =>
      simp at h
      obtain ⟨⟨rfl, hw⟩, _⟩ := h
      exact ⟨a, rfl, (wf64 _).1 hw⟩
theorem trod24 {n : Nat} {cs : List Value} {y : DataW H × List MemPlace} (h : DataW.trod enc Tryd.prog W base sp held n 24 cs = some y) : ∃ s : Stamp, cs = stC s := by
  cases n with
  | zero => simp [DataW.trod] at h
  | succ n =>
    rw [DataW.trod_step] at h
    unfold DataW.trodStep at h
    simp only [Tryd.underlying24] at h
    split at h
    · rename_i hl
      rw [co24] at hl
      obtain ⟨c0, c1, rfl⟩ := len2 hl
      simp [co3, Option.bind_eq_some_iff] at h
      obtain ⟨_, _, h0, _, ⟨_, _, h1, _⟩, _⟩ := h
      obtain ⟨a, ha, wa⟩ := trod3 h0
      obtain ⟨b, hb, wb⟩ := trod3 h1
      cases ha; cases hb
      exact ⟨⟨a, b, wa, wb⟩, rfl⟩
    · cases h
theorem trod26 {n : Nat} {cs : List Value} {y : DataW H × List MemPlace} (h : DataW.trod enc Tryd.prog W base sp held n 26 cs = some y) : ∃ x : Id, cs = idC x := by
  cases n with
  | zero => simp [DataW.trod] at h
  | succ n =>
    rw [DataW.trod_step] at h
    unfold DataW.trodStep at h
    simp only [Tryd.underlying26] at h
    split at h
    · rename_i hl
      rw [co26] at hl
      obtain ⟨c0, c1, c2, rfl⟩ := len3 hl
      simp [co3, co24, Option.bind_eq_some_iff] at h
      obtain ⟨_, _, h0, _, ⟨_, _, h1, _⟩, _⟩ := h
      obtain ⟨s, hs⟩ := trod24 h0
      obtain ⟨b, hb, wb⟩ := trod3 h1
      cases hs; cases hb
      exact ⟨⟨s, b, wb⟩, rfl⟩
    · cases h
theorem trod9 {n : Nat} {cs : List Value} {y : DataW H × List MemPlace} (h : DataW.trod enc Tryd.prog W base sp held n 9 cs = some y) : ∃ s : ByteArray, cs = [.string s] ∧ s.size ≤ maxLen := by
  obtain ⟨s, h1, _, hs⟩ := DataW.trod_string Tryd.underlying9 h
  exact ⟨s, h1, hs⟩
theorem trod28 {n : Nat} {cs : List Value} {y : DataW H × List MemPlace} (h : DataW.trod enc Tryd.prog W base sp held n 28 cs = some y) : ∃ r : Rn, cs = rnC r ∧ r.tx.size ≤ maxLen := by
  cases n with
  | zero => simp [DataW.trod] at h
  | succ n =>
    rw [DataW.trod_step] at h
    unfold DataW.trodStep at h
    simp only [Tryd.underlying28] at h
    split at h
    · rename_i hl
      rw [co28] at hl
      obtain ⟨c0, c1, c2, c3, c4, c5, c6, rfl⟩ := len7 hl
      simp [co26, co9, Option.bind_eq_some_iff] at h
      obtain ⟨_, _, h0, _, ⟨_, _, h1, _, ⟨_, _, h2, _⟩, _⟩, _⟩ := h
      obtain ⟨x, hx⟩ := trod26 h0
      obtain ⟨y, hy⟩ := trod26 h1
      obtain ⟨s, hs, hsz⟩ := trod9 h2
      cases hx; cases hy; cases hs
      exact ⟨⟨x, y, s⟩, rfl, hsz⟩
    · cases h
/-- cells, element by element, are the cells of a list -/
theorem list_of {α : Type} {f : α → List Value} : ∀ (n : Nat) (E : Nat → List Value), (∀ i, i < n → ∃ x, E i = f x) → ∃ L : List α, L.length = n ∧ (List.range n).flatMap E = L.flatMap f
  | 0, _, _ => ⟨[], rfl, by simp⟩
  | n + 1, E, h => by
    obtain ⟨L, hl, hL⟩ := list_of n E (fun i hi => h i (by omega))
    obtain ⟨x, hx⟩ := h n (by omega)
    exact ⟨L ++ [x], by simp [hl], by rw [List.range_succ, List.flatMap_append, List.flatMap_append, hL]; simp [hx]⟩
set_option maxRecDepth 1000000 in
theorem open_runs {v : Value} {d : DataW H} {ps : List MemPlace} (hval : Value.okWide Tryd.prog W .any base 22 v) (h : DataW.Trod enc Tryd.prog W 0 (fun _ => true) true 22 v d ps) :
    ∃ (A : Option Addr) (n c : Nat) (L : List Rn), v = .slice A n c ∧ Rd W W.heap.size 7 (.slice A n c) n (L.flatMap rnC) := by
  obtain ⟨A, n, c, m, E, D, Pl, rfl, hR, _, _, hE⟩ := open_rd (k := 7) Tryd.underlying22 co28 (by decide) hval h
  obtain ⟨L, _, hL⟩ := list_of (f := rnC) n E (fun i hi => (trod28 (hE i hi).2).imp fun _ h => h.1)
  exact ⟨A, n, c, L, rfl, hL ▸ hR⟩
set_option maxRecDepth 1000000 in
theorem open_run {v : Value} {d : DataW H} {ps : List MemPlace} (hval : Value.okWide Tryd.prog W .any base 28 v) (h : DataW.Trod enc Tryd.prog W 0 sp held 28 v d ps) : ∃ r : Rn, v = rnV r ∧ r.tx.size ≤ 9223372036854775807 := by
  obtain ⟨cs, rfl, hs⟩ := okWide_struct Tryd.underlying28 hval
  obtain ⟨n, hn⟩ := h
  obtain ⟨x, hx, hb⟩ := trod28 hn
  unfold maxLen at hb
  exact ⟨x, congrArg Value.agg (Array.toList_inj.1 hx), by omega⟩
end
end Go.Proofs.YtphapjbfaomblaaDoor
