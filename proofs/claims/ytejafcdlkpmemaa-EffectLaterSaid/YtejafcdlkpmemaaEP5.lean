/- Chosen groups: numbered, each undoing one ahead; turned round; one and two more behind. Plain. -/
import Derived.Test.YtejafcdlkpmemaaFB
namespace Go.Proofs.Ytejafcdlkpmemaa
def cZip (L : List Nat) (n : Nat) : List Head := zipH (cNames n) (cUndo L n)
theorem cZip_len (L : List Nat) (n : Nat) : (cZip L n).length = n := by rw [cZip, zipH_len, cNames_len, cUndo_len, Nat.min_self]
theorem cZip_get {L : List Nat} {n i : Nat} (h : i < n) : (cZip L n)[i]'(by rw [cZip_len]; exact h) = ⟨cN i, cU L i⟩ := by simp [cZip, zipH, cNames, cUndo]
theorem cN_T {i : Nat} (h : i ≤ 1000) : (cN i).T = (i : Int) + 1 := by show ((min i 1000 : Nat) : Int) + 1 = _; omega
theorem cU_T {L : List Nat} {i : Nat} (h : i ≤ 1000) : (cU L i).T ≤ (i : Int) := by
  unfold cU
  split
  · rename_i h1
    rw [cN_T (by omega)]
    omega
  · show (0 : Int) ≤ _; omega
theorem cLow {L : List Nat} {n : Nat} (hn : n ≤ 1000) : Low (cZip L n) := by
  intro i hi
  rw [cZip_len] at hi
  rw [cZip_get hi]
  exact ⟨cN_T (by omega), cU_T (by omega)⟩
theorem cN_inj {i j : Nat} (hi : i ≤ 1000) (hj : j ≤ 1000) (h : cN i = cN j) : i = j := by
  have := congrArg Stamp.T h
  rw [cN_T hi, cN_T hj] at this
  omega
/-- the rows turned round are the pairs turned round -/
theorem zip_rev (a b : List Stamp) (h : a.length = b.length) : zipH a.reverse b.reverse = (zipH a b).reverse := by
  unfold zipH
  apply List.ext_getElem
  · simp [h]
  · intro i h1 h2
    simp at h1 h2
    simp [h]
theorem c_on_rev {L : List Nat} {n : Nat} (hn : n ≤ 1000) {X Y : List Stamp} (h1 : OnIs (cZip L n) X) (h2 : OnIs (zipH (cNames n).reverse (cUndo L n).reverse) Y) : X = Y := by
  rw [zip_rev _ _ (by rw [cNames_len, cUndo_len])] at h2
  exact OnIs.perm (cLow hn).unlike (List.reverse_perm _).symm h1 h2
theorem c_on {L : List Nat} {n : Nat} (hn : n ≤ 1000) {X : List Stamp} (h : OnIs (cZip L n) X) : X = onL (cZip L n) := h.same ⟨_, headsOf_self (cLow hn).rises, rfl⟩
theorem c_rises {L : List Nat} {n : Nat} (hn : n ≤ 1000) {X : List Stamp} (h : OnIs (cZip L n) X) : X.Pairwise Stamp.Lt := by
  rw [c_on hn h]; exact onL_rises (cLow hn).rises
/-- on, just if undone by none that is on -/
theorem c_iff {L : List Nat} {n : Nat} (hn : n ≤ 1000) {X : List Stamp} (h : OnIs (cZip L n) X) {i : Nat} (hi : i < n) : cN i ∈ X ↔ ¬ ∃ k, k < n ∧ cU L k = cN i ∧ cN k ∈ X := by
  rw [c_on hn h]
  have hm : (⟨cN i, cU L i⟩ : Head) ∈ cZip L n := by rw [← cZip_get hi]; exact List.getElem_mem _
  have := (cLow (L := L) hn).on_iff hm
  rw [this]
  constructor
  · rintro h1 ⟨k, hk, e, ho⟩
    exact h1 ⟨⟨cN k, cU L k⟩, by rw [← cZip_get hk]; exact List.getElem_mem _, e, ho⟩
  · rintro h1 ⟨g, hg, e, ho⟩
    obtain ⟨k, hk, rfl⟩ := List.getElem_of_mem hg
    rw [cZip_len] at hk
    rw [cZip_get hk] at e ho
    exact h1 ⟨k, hk, e, ho⟩
/-- the undone among the first so many -/
def cUndone (L : List Nat) (X : List Stamp) (s : Stamp) (j : Nat) : Bool := (List.range j).any (fun k => decide (cU L k = s) && decide (cN k ∈ X))
theorem cUndone_succ (L : List Nat) (X : List Stamp) (s : Stamp) (j : Nat) : cUndone L X s (j + 1) = (cUndone L X s j || (decide (cU L j = s) && decide (cN j ∈ X))) := by
  unfold cUndone
  rw [List.range_succ, List.any_append]
  simp
theorem c_undone {L : List Nat} {n : Nat} (hn : n ≤ 1000) {X : List Stamp} (h : OnIs (cZip L n) X) {i : Nat} (hi : i < n) : decide (cN i ∈ X) = !cUndone L X (cN i) n := by
  rw [Bool.eq_iff_iff, decide_eq_true_iff, c_iff hn h hi]
  unfold cUndone
  simp only [Bool.not_eq_true', ← Bool.not_eq_true, List.any_eq_true, List.mem_range, Bool.and_eq_true, decide_eq_true_eq]
/-- one and two more behind all -/
def oneS : Stamp := ⟨1000, 1, by decide, by decide⟩
def twoS : Stamp := ⟨1001, 1, by decide, by decide⟩
theorem zip_snoc {a b : List Stamp} (h : a.length = b.length) (x y : Stamp) : zipH (a ++ [x]) (b ++ [y]) = zipH a b ++ [⟨x, y⟩] := by
  unfold zipH
  rw [List.zipWith_append h]
  rfl
theorem c_lt {L : List Nat} {n : Nat} (hn : n ≤ 40) {g : Head} (h : g ∈ cZip L n) : g.nm.T ≤ 40 := by
  obtain ⟨k, hk, rfl⟩ := List.getElem_of_mem h
  rw [cZip_len] at hk
  rw [cZip_get hk, cN_T (by omega)]
  omega
theorem rises_more {H : List Head} (h : H.Pairwise (fun x y => x.nm.Lt y.nm)) {x : Head} (hx : ∀ g ∈ H, g.nm.T < x.nm.T) : (H ++ [x]).Pairwise (fun x y => x.nm.Lt y.nm) :=
  List.pairwise_append.2 ⟨h, by simp, fun a ha b hb => by rw [List.mem_singleton.1 hb]; exact .inl (hx a ha)⟩
/-- .. who undoes what is on puts it off, and is on itself -/
theorem later_one {L : List Nat} {n : Nat} (hn : n ≤ 40) {X : List Stamp} {y : Stamp} (hX : OnIs (cZip L n) X) (hy : y ∈ X) {Z : List Stamp} (hZ : OnIs (zipH (cNames n ++ [oneS]) (cUndo L n ++ [y])) Z) : y ∉ Z ∧ oneS ∈ Z := by
  rw [zip_snoc (by rw [cNames_len, cUndo_len])] at hZ
  have hr := rises_more (cLow (L := L) (n := n) (by omega)).rises (x := ⟨oneS, y⟩) (fun g hg => by have := c_lt hn hg; show g.nm.T < 1000; omega)
  have e := hZ.same ⟨_, headsOf_self hr, rfl⟩
  rw [e]
  have hyn : oneS ≠ y := by
    rintro rfl
    rw [c_on (by omega) hX] at hy
    obtain ⟨g, hg, e1⟩ := (mem_onL _).1 hy
    have := c_lt hn (List.mem_reverse.1 (goOn_mem hg))
    rw [e1] at this
    have h2 : oneS.T = 1000 := rfl
    omega
  exact ⟨onL_off rfl hyn, onL_one⟩
/-- .. and undone in turn, all is as it was -/
theorem later_two {L : List Nat} {n : Nat} (hn : n ≤ 40) {X : List Stamp} {y : Stamp} (hX : OnIs (cZip L n) X) {W : List Stamp} (hW : OnIs (zipH (cNames n ++ [oneS] ++ [twoS]) (cUndo L n ++ [y] ++ [oneS])) W) : W = X ++ [twoS] := by
  rw [zip_snoc (by simp [cNames_len, cUndo_len]), zip_snoc (by rw [cNames_len, cUndo_len])] at hW
  have hr := rises_more (cLow (L := L) (n := n) (by omega)).rises (x := ⟨oneS, y⟩) (fun g hg => by have := c_lt hn hg; show g.nm.T < 1000; omega)
  have hr2 := rises_more hr (x := ⟨twoS, oneS⟩) (fun g hg => by
    rcases List.mem_append.1 hg with hg | hg
    · have := c_lt hn hg; show g.nm.T < 1001; omega
    · rw [List.mem_singleton.1 hg]; show (1000 : Int) < 1001; decide)
  have e := hW.same ⟨_, headsOf_self hr2, rfl⟩
  rw [e, c_on (by omega) hX, List.append_assoc]
  exact onL_two rfl (fun g hg e1 => by
    have := c_lt hn hg
    have h2 : oneS.T = 1000 := rfl
    have h3 : oneS = g.nm := e1
    rw [← h3] at this
    omega)
theorem c_nil {L : List Nat} {n : Nat} (hn : n ≤ 1000) (h : OnIs (cZip L n) []) : n = 0 := by
  have := c_on hn h
  have := onL_nil this.symm
  have := congrArg List.length this
  rw [cZip_len] at this
  exact this
end Go.Proofs.Ytejafcdlkpmemaa
