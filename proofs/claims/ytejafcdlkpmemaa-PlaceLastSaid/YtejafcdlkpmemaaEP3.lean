/- Which groups are on: one answer for all orders; who is on. Plain. -/
import Derived.Test.YtejafcdlkpmemaaEP2
namespace Go.Proofs.Ytejafcdlkpmemaa
def HeadsOf (l H : List Head) : Prop := H.Pairwise (fun x y => x.nm.Lt y.nm) ∧ ∀ h, h ∈ H ↔ First l h
theorem headsOf_same {l H M : List Head} (h : HeadsOf l H) (m : HeadsOf l M) : H = M :=
  sorted_same (lt := fun x y : Head => x.nm.Lt y.nm) (fun a => stampSTO.irrefl a.nm) (fun a b c => stampSTO.trans a.nm b.nm c.nm) h.1 m.1 (fun x => (h.2 x).trans (m.2 x).symm)
def onL (H : List Head) : List Stamp := ((goOn [] H.reverse).map Head.nm).reverse
def OnIs (l : List Head) (L : List Stamp) : Prop := ∃ H, HeadsOf l H ∧ L = onL H
theorem OnIs.same {l : List Head} {L M : List Stamp} (h : OnIs l L) (m : OnIs l M) : L = M := by
  obtain ⟨H, h1, rfl⟩ := h
  obtain ⟨H', h2, rfl⟩ := m
  rw [headsOf_same h1 h2]
/-- unlike names: each is the first of its name -/
def Unlike (l : List Head) : Prop := l.Pairwise (fun a b => a.nm ≠ b.nm)
theorem Unlike.eq {l : List Head} (h : Unlike l) {a b : Head} (ha : a ∈ l) (hb : b ∈ l) (e : a.nm = b.nm) : a = b := by
  unfold Unlike at h
  induction l with
  | nil => cases ha
  | cons x l ih =>
    obtain ⟨h1, h2⟩ := List.pairwise_cons.1 h
    rcases List.mem_cons.1 ha with ha1 | ha1
    · rcases List.mem_cons.1 hb with hb1 | hb1
      · exact ha1.trans hb1.symm
      · exact absurd (ha1 ▸ e) (h1 b hb1)
    · rcases List.mem_cons.1 hb with hb1 | hb1
      · exact absurd (hb1 ▸ e.symm) (h1 a ha1)
      · exact ih h2 ha1 hb1
theorem rises_unlike {l : List Head} (h : l.Pairwise (fun x y => x.nm.Lt y.nm)) : Unlike l := by
  unfold Unlike
  refine h.imp ?_
  intro a b hab e
  rw [e] at hab
  exact stampSTO.irrefl b.nm hab
theorem Unlike.first {l : List Head} (u : Unlike l) (h : Head) : First l h ↔ h ∈ l := by
  refine ⟨first_mem, fun hm => ?_⟩
  obtain ⟨g, hg, e⟩ := first_exists hm
  rw [← u.eq (first_mem hg) hm e]
  exact hg
theorem Unlike.perm {l m : List Head} (u : Unlike l) (p : l.Perm m) : Unlike m := (p.pairwise_iff (fun {_ _} h e => h e.symm)).1 u
theorem headsOf_perm {l m H : List Head} (u : Unlike l) (p : l.Perm m) (h : HeadsOf l H) : HeadsOf m H :=
  ⟨h.1, fun x => by rw [h.2 x, u.first x, (u.perm p).first x, p.mem_iff]⟩
theorem OnIs.perm {l m : List Head} (u : Unlike l) (p : l.Perm m) {L M : List Stamp} (h : OnIs l L) (k : OnIs m M) : L = M := by
  obtain ⟨H, h1, rfl⟩ := h
  exact OnIs.same ⟨H, headsOf_perm u p h1, rfl⟩ k
theorem headsOf_self {l : List Head} (h : l.Pairwise (fun x y => x.nm.Lt y.nm)) : HeadsOf l l :=
  ⟨h, fun x => (Unlike.first (rises_unlike h) x).symm⟩
theorem goOn_sublist (acc l : List Head) : ∃ m, goOn acc l = acc ++ m ∧ m.Sublist l := by
  induction l generalizing acc with
  | nil => exact ⟨[], by simp [goOn], List.Sublist.refl _⟩
  | cons a l ih =>
    rw [goOn]
    split
    · obtain ⟨m, h1, h2⟩ := ih acc
      exact ⟨m, h1, h2.cons a⟩
    · obtain ⟨m, h1, h2⟩ := ih (acc ++ [a])
      exact ⟨a :: m, by simpa using h1, h2.cons_cons a⟩
theorem onL_sublist (H : List Head) : (onL H).Sublist (H.map Head.nm) := by
  obtain ⟨m, h1, h2⟩ := goOn_sublist [] H.reverse
  unfold onL
  rw [h1, List.nil_append]
  have := (h2.map Head.nm).reverse
  simpa using this
theorem onL_rises {H : List Head} (h : H.Pairwise (fun x y => x.nm.Lt y.nm)) : (onL H).Pairwise Stamp.Lt :=
  List.Pairwise.sublist (onL_sublist H) (List.pairwise_map.2 h)
/-- each undoes what comes behind it alone -/
def Down (S : List Head) : Prop := S.Pairwise (fun a b => a.nm ≠ b.nm ∧ b.un ≠ a.nm) ∧ ∀ a ∈ S, a.un ≠ a.nm
theorem list_rev_ind {α : Type} {p : List α → Prop} (h0 : p []) (h1 : ∀ l x, p l → p (l ++ [x])) (l : List α) : p l := by
  have : ∀ n (l : List α), l.length = n → p l := by
    intro n
    induction n with
    | zero => intro l h; rw [List.eq_nil_of_length_eq_zero h]; exact h0
    | succ n ih =>
      intro l h
      rcases List.eq_nil_or_concat l with rfl | ⟨m, x, rfl⟩
      · exact h0
      · rw [List.concat_eq_append] at h ⊢
        exact h1 m x (ih m (by simpa using h))
  exact this _ l rfl
theorem goOn_iff : ∀ (S : List Head), Down S → ∀ h ∈ S, h ∈ goOn [] S ↔ ∀ g ∈ goOn [] S, g.un ≠ h.nm := by
  refine list_rev_ind (fun _ h hh => by cases hh) (fun S x ih hD h hh => ?_)
  obtain ⟨hp, hs⟩ := hD
  obtain ⟨p1, p2, p3⟩ := List.pairwise_append.1 hp
  have hDS : Down S := ⟨p1, fun a ha => hs a (List.mem_append_left _ ha)⟩
  have hsub : ∀ g ∈ goOn [] S, g ∈ S := fun g hg => by
    rcases goOn_sub [] S g hg with h' | h'
    · cases h'
    · exact h'
  have hx : ∀ g ∈ S, g.nm ≠ x.nm ∧ x.un ≠ g.nm := fun g hg => p3 g hg x (by simp)
  rw [goOn_snoc]
  split
  · rename_i hany
    obtain ⟨g, hg, he⟩ := List.any_eq_true.1 hany
    have he : g.un = x.nm := by simpa using he
    rcases List.mem_append.1 hh with hh | hh
    · exact ih hDS h hh
    · obtain rfl := List.mem_singleton.1 hh
      constructor
      · intro hm; exact absurd rfl (hx h (hsub h hm)).1
      · intro hm; exact absurd he (hm g hg)
  · rename_i hany
    have hno : ∀ g ∈ goOn [] S, g.un ≠ x.nm := fun g hg e => hany (List.any_eq_true.2 ⟨g, hg, by simpa using e⟩)
    rcases List.mem_append.1 hh with hh | hh
    · have hne : h ≠ x := fun e => (hx h hh).1 (by rw [e])
      have := ih hDS h hh
      constructor
      · intro hm g hg
        rcases List.mem_append.1 hm with hm | hm
        · rcases List.mem_append.1 hg with hg | hg
          · exact this.1 hm g hg
          · rw [List.mem_singleton.1 hg]; exact (hx h hh).2
        · exact absurd (List.mem_singleton.1 hm) hne
      · intro hm
        exact List.mem_append_left _ (this.2 (fun g hg => hm g (List.mem_append_left _ hg)))
    · obtain rfl := List.mem_singleton.1 hh
      constructor
      · intro _ g hg
        rcases List.mem_append.1 hg with hg | hg
        · exact hno g hg
        · rw [List.mem_singleton.1 hg]; exact hs h (by simp)
      · intro _; simp
/-- names numbered from 1; each undoes one ahead of it, or none -/
def Low (l : List Head) : Prop := ∀ i, (h : i < l.length) → l[i].nm.T = (i : Int) + 1 ∧ l[i].un.T ≤ (i : Int)
theorem Low.rises {l : List Head} (h : Low l) : l.Pairwise (fun x y => x.nm.Lt y.nm) := by
  rw [List.pairwise_iff_getElem]
  intro i j hi hj hij
  refine .inl ?_
  rw [(h i hi).1, (h j hj).1]
  omega
theorem Low.down {l : List Head} (h : Low l) : Down l.reverse := by
  constructor
  · rw [List.pairwise_reverse, List.pairwise_iff_getElem]
    intro i j hi hj hij
    have h1 := h i hi
    have h2 := h j hj
    constructor
    · intro e
      have : l[j].nm.T = l[i].nm.T := by rw [e]
      omega
    · intro e
      have : l[i].un.T = l[j].nm.T := by rw [e]
      omega
  · intro a ha e
    obtain ⟨i, hi, rfl⟩ := List.getElem_of_mem (List.mem_reverse.1 ha)
    have h1 := h i hi
    have : l[i].un.T = l[i].nm.T := by rw [e]
    omega
theorem mem_onL {H : List Head} (s : Stamp) : s ∈ onL H ↔ ∃ g ∈ goOn [] H.reverse, g.nm = s := by
  unfold onL
  rw [List.mem_reverse, List.mem_map]
theorem Low.unlike {l : List Head} (h : Low l) : Unlike l := rises_unlike h.rises
theorem goOn_mem {S : List Head} {g : Head} (h : g ∈ goOn [] S) : g ∈ S := by
  rcases goOn_sub [] S g h with h' | h'
  · cases h'
  · exact h'
theorem mem_onL_nm {l : List Head} (h : Low l) {g : Head} (hg : g ∈ l) : g.nm ∈ onL l ↔ g ∈ goOn [] l.reverse := by
  rw [mem_onL]
  constructor
  · rintro ⟨k, hk, e⟩
    rw [← h.unlike.eq (List.mem_reverse.1 (goOn_mem hk)) hg e]
    exact hk
  · intro hk; exact ⟨g, hk, rfl⟩
/-- who is undone by nobody that is on is on -/
theorem Low.on_iff {l : List Head} (h : Low l) {x : Head} (hx : x ∈ l) : x.nm ∈ onL l ↔ ¬ ∃ g ∈ l, g.un = x.nm ∧ g.nm ∈ onL l := by
  rw [mem_onL_nm h hx, goOn_iff _ h.down x (List.mem_reverse.2 hx)]
  constructor
  · rintro h1 ⟨g, hg, e, ho⟩
    exact h1 g ((mem_onL_nm h hg).1 ho) e
  · intro h1 g hg e
    have hgl := List.mem_reverse.1 (goOn_mem hg)
    exact h1 ⟨g, hgl, e, (mem_onL_nm h hgl).2 hg⟩
theorem goOn_acc (x : Head) (acc l : List Head) (h : ∀ g ∈ l, x.un ≠ g.nm) : goOn (x :: acc) l = x :: goOn acc l := by
  induction l generalizing acc with
  | nil => rfl
  | cons a l ih =>
    have ha : decide (x.un = a.nm) = false := decide_eq_false (h a (by simp))
    have hl := fun acc => ih acc (fun g hg => h g (List.mem_cons_of_mem _ hg))
    rw [goOn, goOn, List.any_cons, ha, Bool.false_or, hl]
    split
    · rfl
    · rw [List.cons_append, hl]
theorem onL_two {H : List Head} {one two : Head} (h1 : two.un = one.nm) (h2 : ∀ g ∈ H, two.un ≠ g.nm) : onL (H ++ [one, two]) = onL H ++ [two.nm] := by
  unfold onL
  have : (H ++ [one, two]).reverse = two :: one :: H.reverse := by simp
  rw [this, goOn]
  simp only [List.any_nil, Bool.false_eq_true, if_false, List.nil_append]
  rw [goOn]
  simp only [List.any_cons, List.any_nil, Bool.or_false, decide_eq_true_eq, if_pos h1]
  rw [goOn_acc two [] H.reverse (fun g hg => h2 g (List.mem_reverse.1 hg))]
  simp
theorem onL_one {H : List Head} {one : Head} : one.nm ∈ onL (H ++ [one]) := by
  rw [mem_onL]
  have : (H ++ [one]).reverse = one :: H.reverse := by simp
  rw [this, goOn]
  simp only [List.any_nil, Bool.false_eq_true, if_false, List.nil_append]
  obtain ⟨m, h1, _⟩ := goOn_sublist [one] H.reverse
  exact ⟨one, by rw [h1]; simp, rfl⟩
theorem onL_off {H : List Head} {one : Head} {y : Stamp} (h1 : one.un = y) (h2 : one.nm ≠ y) : y ∉ onL (H ++ [one]) := by
  rw [mem_onL]
  have : (H ++ [one]).reverse = one :: H.reverse := by simp
  rw [this, goOn]
  simp only [List.any_nil, Bool.false_eq_true, if_false, List.nil_append]
  have key : ∀ (l acc : List Head), one ∈ acc → (∀ g ∈ acc, g.nm ≠ y) → ∀ g ∈ goOn acc l, g.nm ≠ y := by
    intro l
    induction l with
    | nil => intro acc _ h g hg; exact h g hg
    | cons a l ih =>
      intro acc ho h g hg
      rw [goOn] at hg
      split at hg
      · exact ih acc ho h g hg
      · rename_i hany
        refine ih (acc ++ [a]) (by simp [ho]) (fun k hk => ?_) g hg
        rcases List.mem_append.1 hk with hk | hk
        · exact h k hk
        · rw [List.mem_singleton.1 hk]
          intro e
          exact hany (List.any_eq_true.2 ⟨one, ho, by simp [h1, e]⟩)
  rintro ⟨g, hg, e⟩
  exact key _ [one] (by simp) (fun k hk => by rw [List.mem_singleton.1 hk]; exact h2) g hg e
theorem onL_nil {H : List Head} (h : onL H = []) : H = [] := by
  rcases List.eq_nil_or_concat H with rfl | ⟨m, x, rfl⟩
  · rfl
  · rw [List.concat_eq_append] at h
    have := onL_one (H := m) (one := x)
    rw [h] at this
    cases this
end Go.Proofs.Ytejafcdlkpmemaa
