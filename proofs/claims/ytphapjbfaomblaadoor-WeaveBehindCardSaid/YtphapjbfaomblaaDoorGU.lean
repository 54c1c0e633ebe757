/- Runs that grow one behind the other: their elements are all unlike, each behind one ahead, or the beginning. Plain. -/
import Derived.Test.YtphapjbfaomblaaDoorGP
namespace Go.Proofs.YtphapjbfaomblaaDoor
open Go
structure Pick where
  be : Nat
  si : Nat
  re : Nat
  hb : be < 256
  hs : si < 256
  hr : re < 256
def pickC (p : Pick) : List Value := [.int .u8 p.be, .int .u8 p.si, .int .u8 p.re]
def zeroP : Pick := ⟨0, 0, 0, by decide, by decide, by decide⟩
def gS (i : Nat) (p : Pick) : Stamp := ⟨((i % 16 / 2 + 1 : Nat) : Int), ((i % 2 * 4 + 1 + p.re % 4 : Nat) : Int), by unfold I64; omega, by unfold I64; omega⟩
def gId (i : Nat) (p : Pick) (k : Nat) : Id := ⟨gS i p, ((k % 8 : Nat) : Int), by unfold I64; omega⟩
def gN (p : Pick) : Nat := 1 + p.si % 4
def gB (i k : Nat) : UInt8 := UInt8.ofNat (97 + (i % 4 + k) % 8)
def gT (i m : Nat) : List UInt8 := (List.range' 0 m).map (gB i)
def gIds (i : Nat) (p : Pick) : List Id := (List.range' 0 (gN p)).map (gId i p)
def idsAt (L : List Pick) : Nat → List Id
  | 0 => [zeroI]
  | k + 1 => idsAt L k ++ gIds k (L.getD k zeroP)
def runAt (L : List Pick) (k : Nat) : Rn := ⟨(idsAt L k).getD ((L.getD k zeroP).be % (idsAt L k).length) zeroI, gId k (L.getD k zeroP) 0, ofL (gT k (gN (L.getD k zeroP)))⟩
def runsAt (L : List Pick) : Nat → List Rn
  | 0 => []
  | k + 1 => runsAt L k ++ [runAt L k]
theorem runsAt_len (L : List Pick) : ∀ k, (runsAt L k).length = k
  | 0 => rfl
  | k + 1 => by rw [runsAt, List.length_append, runsAt_len L k]; rfl
theorem runsAt_get (L : List Pick) : ∀ (k i : Nat) (h : i < (runsAt L k).length), (runsAt L k)[i] = runAt L i
  | 0, i, h => by simp [runsAt] at h
  | k + 1, i, h => by
    have hl := runsAt_len L k
    simp only [runsAt]
    by_cases hi : i < (runsAt L k).length
    · rw [List.getElem_append_left hi]; exact runsAt_get L k i hi
    · have : i = k := by simp [runsAt] at h; omega
      subst this
      rw [List.getElem_append_right (by omega)]
      simp [hl]
theorem idsAt_pos (L : List Pick) : ∀ k, 0 < (idsAt L k).length
  | 0 => by simp [idsAt]
  | k + 1 => by have := idsAt_pos L k; rw [idsAt, List.length_append]; omega
theorem gIds_len (i : Nat) (p : Pick) : (gIds i p).length = gN p := by simp [gIds]
theorem idsAt_le (L : List Pick) : ∀ k, (idsAt L k).length ≤ 1 + 4 * k
  | 0 => by simp [idsAt]
  | k + 1 => by have := idsAt_le L k; rw [idsAt, List.length_append, gIds_len]; unfold gN; omega
theorem gT_len (i m : Nat) : (gT i m).length = m := by simp [gT]
/-! elements -/
def gE (i : Nat) (p : Pick) : Id → Nat → Nat → List El
  | _, _, 0 => []
  | af, k, m + 1 => ⟨gId i p k, af, ofL [gB i k]⟩ :: gE i p (gId i p k) (k + 1) m
theorem gB_ascii (i k : Nat) : (gB i k).toNat < 128 := by
  unfold gB
  rw [UInt8.toNat_ofNat']
  omega
theorem gT_pcs (i m : Nat) : pcs (gT i m) = (List.range' 0 m).map (fun k => [gB i k]) := by
  have h : AllP ((List.range' 0 m).map (fun k => [gB i k])) := fun q hq => by
    obtain ⟨k, _, rfl⟩ := List.mem_map.1 hq
    exact isP_ascii (gB_ascii i k)
  have e : gT i m = ((List.range' 0 m).map (fun k => [gB i k])).flatten := by
    unfold gT
    induction (List.range' 0 m) with
    | nil => rfl
    | cons a l ih => rw [List.map_cons, List.map_cons, List.flatten_cons, ih]; rfl
  rw [e]
  exact pcs_of h
theorem nextI_g (i : Nat) (p : Pick) {k : Nat} (hk : k < 7) : nextI (gId i p k) = gId i p (k + 1) := by
  unfold nextI gId
  have h1 : k % 8 = k := by omega
  have h2 : (k + 1) % 8 = k + 1 := by omega
  have h3 : ¬ ((k : Nat) : Int) = 9223372036854775807 := by omega
  simp only [h1, h2, if_neg h3, Id.mk.injEq, true_and]
  omega
theorem flatOf_g (i : Nat) (p : Pick) : ∀ (m k : Nat) (af : Id), k + m ≤ 7 → flatOf af (gId i p k) ((List.range' k m).map (fun k => [gB i k])) = gE i p af k m
  | 0, _, _, _ => rfl
  | m + 1, k, af, h => by
    rw [List.range'_succ, List.map_cons, flatOf, gE, nextI_g i p (by omega), flatOf_g i p m (k + 1) _ (by omega)]
theorem ofL_toList' (l : List UInt8) : (ofL l).data.toList = l := rfl
noncomputable def flatAt (L : List Pick) (k : Nat) : List El := flat (runsAt L k)
theorem flatAt_succ (L : List Pick) (k : Nat) : flatAt L (k + 1) = flatAt L k ++ gE k (L.getD k zeroP) (runAt L k).af 0 (gN (L.getD k zeroP)) := by
  unfold flatAt
  rw [runsAt, flat_snoc]
  congr 1
  have h : gN (L.getD k zeroP) ≤ 4 := by unfold gN; omega
  rw [show (runAt L k).tx.data.toList = gT k (gN (L.getD k zeroP)) from rfl, gT_pcs]
  exact flatOf_g k _ _ 0 _ (by omega)
theorem gE_ids (i : Nat) (p : Pick) : ∀ (m k : Nat) (af : Id), (gE i p af k m).map El.id = (List.range' k m).map (gId i p)
  | 0, _, _ => rfl
  | m + 1, k, af => by rw [gE, List.map_cons, gE_ids i p m (k + 1) _, List.range'_succ, List.map_cons]
theorem gE_len (i : Nat) (p : Pick) (m k : Nat) (af : Id) : (gE i p af k m).length = m := by
  have := congrArg List.length (gE_ids i p m k af)
  simpa using this
theorem idsAt_flat (L : List Pick) : ∀ k, idsAt L k = zeroI :: (flatAt L k).map El.id
  | 0 => rfl
  | k + 1 => by
    rw [idsAt, idsAt_flat L k, flatAt_succ, List.map_append, gE_ids, List.cons_append]
    rfl
/-- each behind one ahead, or the beginning -/
inductive GoodL : List El → Prop
  | nil : GoodL []
  | snoc (F : List El) (e : El) : GoodL F → e.af ∈ zeroI :: F.map El.id → GoodL (F ++ [e])
theorem good_gE (i : Nat) (p : Pick) : ∀ (m k : Nat) (af : Id) (F : List El), GoodL F → af ∈ zeroI :: F.map El.id → GoodL (F ++ gE i p af k m)
  | 0, _, _, F, h, _ => by rw [gE, List.append_nil]; exact h
  | m + 1, k, af, F, h, ha => by
    rw [gE, List.append_cons]
    exact good_gE i p m (k + 1) _ _ (.snoc F _ h ha) (by simp)
theorem good_at (L : List Pick) : ∀ k, GoodL (flatAt L k)
  | 0 => .nil
  | k + 1 => by
    rw [flatAt_succ]
    refine good_gE _ _ _ _ _ _ (good_at L k) ?_
    rw [← idsAt_flat]
    have hp := idsAt_pos L k
    have hm : (L.getD k zeroP).be % (idsAt L k).length < (idsAt L k).length := Nat.mod_lt _ hp
    show (idsAt L k).getD _ zeroI ∈ _
    rw [List.getD_eq_getElem?_getD, List.getElem?_eq_getElem hm]
    exact List.getElem_mem hm
theorem good_get {F : List El} (h : GoodL F) : ∀ i (hi : i < F.length), F[i].af = zeroI ∨ ∃ j, ∃ (h' : j < i), (F[j]'(by omega)).id = F[i].af := by
  induction h with
  | nil => intro i hi; simp at hi
  | snoc F e _ ha ih =>
    intro i hi
    by_cases h1 : i < F.length
    · rw [List.getElem_append_left h1]
      rcases ih i h1 with h2 | ⟨j, hj, h2⟩
      · exact .inl h2
      · exact .inr ⟨j, hj, by rw [List.getElem_append_left (by omega)]; exact h2⟩
    · have h2 : i = F.length := by simp at hi; omega
      subst h2
      simp only [List.getElem_append_right (Nat.le_refl _), Nat.sub_self, List.getElem_cons_zero]
      rcases List.mem_cons.1 ha with h3 | h3
      · exact .inl h3
      · obtain ⟨x, hx, h4⟩ := List.mem_map.1 h3
        obtain ⟨j, hj, rfl⟩ := List.getElem_of_mem hx
        exact .inr ⟨j, hj, by rw [List.getElem_append_left hj]; exact h4⟩
/-! the order of names -/
theorem gId_lt_run (i j : Nat) (p q : Pick) (s t : Nat) (h : i < j) (hj : j < 16) : (gId i p s).Lt (gId j q t) := by
  refine .inl ?_
  unfold gId gS Stamp.Lt
  dsimp only
  have h1 : i % 16 = i := by omega
  have h2 : j % 16 = j := by omega
  rw [h1, h2]
  omega
theorem gId_lt (i : Nat) (p : Pick) (s t : Nat) (h : s < t) (ht : t < 8) : (gId i p s).Lt (gId i p t) := by
  refine .inr ⟨rfl, ?_⟩
  unfold gId
  dsimp only
  omega
theorem zero_lt_g (i : Nat) (p : Pick) (s : Nat) : zeroI.Lt (gId i p s) := by
  refine .inl (.inl ?_)
  unfold gId gS zeroI
  dsimp only
  omega
theorem idsAt_form (L : List Pick) : ∀ k, ∀ x ∈ idsAt L k, x = zeroI ∨ ∃ j s, j < k ∧ x = gId j (L.getD j zeroP) s
  | 0, x, h => by simp [idsAt] at h; exact .inl h
  | k + 1, x, h => by
    rw [idsAt] at h
    rcases List.mem_append.1 h with h | h
    · rcases idsAt_form L k x h with h | ⟨j, s, hj, h⟩
      · exact .inl h
      · exact .inr ⟨j, s, by omega, h⟩
    · obtain ⟨s, _, rfl⟩ := List.mem_map.1 h
      exact .inr ⟨k, s, by omega, rfl⟩
theorem idsAt_rise (L : List Pick) : ∀ k, k ≤ 15 → (idsAt L k).Pairwise Id.Lt
  | 0, _ => by simp [idsAt]
  | k + 1, hk => by
    rw [idsAt]
    refine List.pairwise_append.2 ⟨idsAt_rise L k (by omega), ?_, fun a ha b hb => ?_⟩
    · unfold gIds
      rw [List.pairwise_map]
      have : gN (L.getD k zeroP) ≤ 4 := by unfold gN; omega
      refine (List.pairwise_lt_range' (s := 0) (n := gN (L.getD k zeroP))).imp_of_mem ?_
      intro a b ha hb hab
      have := List.mem_range'_1.1 hb
      exact gId_lt _ _ _ _ hab (by omega)
    · obtain ⟨t, _, rfl⟩ := List.mem_map.1 hb
      rcases idsAt_form L k a ha with rfl | ⟨j, s, hj, rfl⟩
      · exact zero_lt_g _ _ _
      · exact gId_lt_run _ _ _ _ _ _ hj (by omega)
theorem flatAt_rise (L : List Pick) {k : Nat} (hk : k ≤ 15) : (flatAt L k).Pairwise (fun a b => a.id.Lt b.id) ∧ ∀ e ∈ flatAt L k, zeroI.Lt e.id := by
  have h := idsAt_rise L k hk
  rw [idsAt_flat, List.pairwise_cons, List.pairwise_map] at h
  exact ⟨h.2, fun e he => h.1 _ (List.mem_map.2 ⟨e, he, rfl⟩)⟩
theorem flatAt_unlike (L : List Pick) {k : Nat} (hk : k ≤ 15) : UnlikeK El.id (flatAt L k) := by
  refine (flatAt_rise L hk).1.imp ?_
  intro a b h e
  rw [e] at h
  exact idSTO.irrefl _ h
theorem flatAt_nodup (L : List Pick) {k : Nat} (hk : k ≤ 15) : (flatAt L k).Nodup := by
  refine (flatAt_rise L hk).1.imp ?_
  intro a b h e
  rw [e] at h
  exact idSTO.irrefl _ h
/-- all that there are count, in whatever order -/
theorem counts_grown (L : List Pick) {k : Nat} (hk : k ≤ 15) {F : List El} (hp : (flatAt L k).Perm F) : Counts F = fun e => e ∈ flatAt L k := by
  funext e
  refine propext ?_
  unfold Counts
  rw [((flatAt_unlike L hk).perm hp).first, ← hp.mem_iff]
  exact ⟨fun h => h.1, fun h => ⟨h, fun e0 => idSTO.irrefl zeroI (e0 ▸ (flatAt_rise L hk).2 e h)⟩⟩
theorem grown_same (L : List Pick) {k : Nat} (hk : k ≤ 15) {F : List El} (hp : (flatAt L k).Perm F) {O1 O2 : List Nd} (h1 : Ord (flatAt L k) O1) (h2 : Ord F O2) : O1 = O2 := by
  unfold Ord at h1 h2
  rw [counts_grown L hk hp] at h2
  rw [counts_grown L hk (List.Perm.refl _)] at h1
  exact order_unique idSTO h1 h2
theorem grown_len (L : List Pick) {k : Nat} (hk : k ≤ 15) {O : List Nd} (h : Ord (flatAt L k) O) : O.length = (flatAt L k).length :=
  order_whole idSTO (counts_names _) h (flatAt_nodup L hk) (fun e => by rw [counts_grown L hk (List.Perm.refl _)]) (good_get (good_at L k))
theorem grown_inc (L : List Pick) {k : Nat} (hk : k ≤ 15) : ∀ e, Counts (flatAt L k) e → e.af ≠ zeroI → e.af.Lt e.id := by
  intro e he hz
  rw [counts_grown L hk (List.Perm.refl _)] at he
  obtain ⟨i, hi, rfl⟩ := List.getElem_of_mem he
  rcases good_get (good_at L k) i hi with h | ⟨j, hj, h⟩
  · exact absurd h hz
  · rw [← h]
    exact List.pairwise_iff_getElem.1 (flatAt_rise L hk).1 j i (by omega) hi hj
/-- each element's node, and the path to what it stands behind -/
theorem grown_node (L : List Pick) {k : Nat} (hk : k ≤ 15) {O : List Nd} (h : Ord (flatAt L k) O) {e : El} (he : e ∈ flatAt L k) : ∃ q, IsPath El.id El.af zeroI (Counts (flatAt L k)) q e.af ∧ (q ++ [e.id], e) ∈ O := by
  obtain ⟨i, hi, rfl⟩ := List.getElem_of_mem he
  obtain ⟨q, hq⟩ := all_paths (E := Counts (flatAt L k)) (fun e he => by rw [counts_grown L hk (List.Perm.refl _)]; exact he) (good_get (good_at L k)) i hi
  exact ⟨q, hq, (h.2 _).2 ⟨by rw [counts_grown L hk (List.Perm.refl _)]; exact List.getElem_mem hi, q, hq, rfl⟩⟩
/-- each element is one byte -/
theorem gE_pc (i : Nat) (p : Pick) : ∀ (m k : Nat) (af : Id), ∀ e ∈ gE i p af k m, e.pc.size = 1
  | 0, _, _, e, h => by simp [gE] at h
  | m + 1, k, af, e, h => by
    rw [gE] at h
    rcases List.mem_cons.1 h with rfl | h
    · rfl
    · exact gE_pc i p m (k + 1) _ e h
theorem flatAt_pc (L : List Pick) : ∀ k, ∀ e ∈ flatAt L k, e.pc.size = 1
  | 0, e, h => by simp [flatAt, runsAt, flat] at h
  | k + 1, e, h => by
    rw [flatAt_succ] at h
    rcases List.mem_append.1 h with h | h
    · exact flatAt_pc L k e h
    · exact gE_pc _ _ _ _ _ e h
theorem flatAt_len (L : List Pick) : ∀ k, (flatAt L k).length = ((runsAt L k).map (fun r => r.tx.size)).sum
  | 0 => rfl
  | k + 1 => by
    rw [flatAt_succ, List.length_append, gE_len, flatAt_len L k, runsAt, List.map_append, List.sum_append]
    congr 1
    show _ = (ofL (gT k (gN (L.getD k zeroP)))).size + 0
    have h : (ofL (gT k (gN (L.getD k zeroP)))).data.toList.length = (gT k (gN (L.getD k zeroP))).length := rfl
    rw [gT_len] at h
    have := Lib.size_eq (ofL (gT k (gN (L.getD k zeroP))))
    omega
theorem txt_one : ∀ (M : List El), (∀ e ∈ M, e.pc.size = 1) → (txt M).length = M.length
  | [], _ => rfl
  | e :: M, h => by
    have h1 := txt_one M (fun x hx => h x (List.mem_cons_of_mem _ hx))
    have h2 := h e (by simp)
    have h3 : e.pc.data.toList.length = e.pc.size := (Lib.size_eq e.pc).symm
    simp only [txt, List.map_cons, List.flatten_cons, List.length_append, List.length_cons] at h1 ⊢
    omega
theorem grown_txt (L : List Pick) {k : Nat} (hk : k ≤ 15) {O : List Nd} (h : Ord (flatAt L k) O) : (txt (els O)).length = (flatAt L k).length := by
  rw [txt_one (els O) (fun e he => flatAt_pc L k e (order_els h e he))]
  rw [← grown_len L hk h]
  simp [els]
end Go.Proofs.YtphapjbfaomblaaDoor
