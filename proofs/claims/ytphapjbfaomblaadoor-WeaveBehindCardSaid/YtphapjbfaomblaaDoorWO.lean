/- The order of paths: all that stands behind one comes at once behind it, the newest first. Plain. -/
import Derived.Test.YtphapjbfaomblaaDoorP
namespace Go.Proofs.YtphapjbfaomblaaDoor
/-! the order of paths -/
section
variable {α : Type} (lt : α → α → Prop)
/-- ahead of: a path that goes on is behind; of two that part the newer one is ahead -/
def PLt : List α → List α → Prop
  | [], [] => False
  | [], _ :: _ => True
  | _ :: _, [] => False
  | a :: p, b :: q => lt b a ∨ a = b ∧ PLt p q
/-- ahead of, with all that goes on from it -/
def SLt : List α → List α → Prop
  | a :: p, b :: q => lt b a ∨ a = b ∧ SLt p q
  | _, _ => False
variable {lt}
theorem plt_irrefl (O : STO lt) : ∀ p, ¬ PLt lt p p
  | [] => fun h => h
  | a :: p => fun h => h.elim (O.irrefl a) (fun h => plt_irrefl O p h.2)
theorem plt_trans (O : STO lt) : ∀ p q r, PLt lt p q → PLt lt q r → PLt lt p r
  | [], [], _, h, _ => h.elim
  | [], _ :: _, [], _, k => k.elim
  | [], _ :: _, _ :: _, _, _ => trivial
  | _ :: _, [], _, h, _ => h.elim
  | _ :: _, _ :: _, [], _, k => k.elim
  | a :: p, b :: q, c :: r, h, k => by
    rcases h with h | ⟨rfl, h⟩ <;> rcases k with k | ⟨rfl, k⟩
    · exact .inl (O.trans _ _ _ k h)
    · exact .inl h
    · exact .inl k
    · exact .inr ⟨rfl, plt_trans O p q r h k⟩
theorem plt_total (O : STO lt) : ∀ p q, PLt lt p q ∨ p = q ∨ PLt lt q p
  | [], [] => .inr (.inl rfl)
  | [], _ :: _ => .inl trivial
  | _ :: _, [] => .inr (.inr trivial)
  | a :: p, b :: q => by
    rcases O.total a b with h | rfl | h
    · exact .inr (.inr (.inl h))
    · rcases plt_total O p q with h | rfl | h
      · exact .inl (.inr ⟨rfl, h⟩)
      · exact .inr (.inl rfl)
      · exact .inr (.inr (.inr ⟨rfl, h⟩))
    · exact .inl (.inl h)
theorem pathSTO (O : STO lt) : STO (PLt lt) := ⟨plt_irrefl O, plt_trans O, plt_total O⟩
theorem plt_more : ∀ (p : List α) (c : α) (r : List α), PLt lt p (p ++ c :: r)
  | [], _, _ => trivial
  | _ :: p, c, r => .inr ⟨rfl, plt_more p c r⟩
theorem slt_plt : ∀ {p q : List α}, SLt lt p q → PLt lt p q
  | [], _, h => h.elim
  | _ :: _, [], h => h.elim
  | _ :: _, _ :: _, h => h.imp id (fun h => ⟨h.1, slt_plt h.2⟩)
theorem slt_more : ∀ {p q : List α} (r s : List α), SLt lt p q → SLt lt (p ++ r) (q ++ s)
  | [], _, _, _, h => h.elim
  | _ :: _, [], _, _, h => h.elim
  | _ :: _, _ :: _, r, s, h => h.imp id (fun h => ⟨h.1, slt_more r s h.2⟩)
theorem slt_kids {a b : α} (h : lt b a) : ∀ p : List α, SLt lt (p ++ [a]) (p ++ [b])
  | [] => .inl h
  | _ :: p => .inr ⟨rfl, slt_kids h p⟩
theorem plt_right : ∀ {p q : List α} (r : List α), PLt lt p q → PLt lt p (q ++ r)
  | [], [], _, h => h.elim
  | [], _ :: _, _, _ => trivial
  | _ :: _, [], _, h => h.elim
  | _ :: _, _ :: _, r, h => h.imp id (fun h => ⟨h.1, plt_right r h.2⟩)
/-- what stands between one and what stands behind it: goes on from it, by a newer one -/
theorem plt_between (O : STO lt) : ∀ {q s : List α} {e : α}, PLt lt q s → PLt lt s (q ++ [e]) → ∃ c r, s = q ++ c :: r ∧ lt e c
  | [], [], _, h, _ => h.elim
  | [], c :: r, e, _, k => by
    rcases k with k | ⟨rfl, k⟩
    · exact ⟨c, r, rfl, k⟩
    · cases r <;> exact k.elim
  | _ :: _, [], _, h, _ => h.elim
  | a :: q, b :: s, e, h, k => by
    rcases h with h | ⟨rfl, h⟩
    · rcases k with k | ⟨rfl, k⟩
      · exact absurd k (O.asymm h)
      · exact absurd h (O.irrefl _)
    · rcases k with k | ⟨_, k⟩
      · exact absurd k (O.irrefl _)
      · obtain ⟨c, r, rfl, hc⟩ := plt_between O h k
        exact ⟨c, r, rfl, hc⟩
end
/-! elements, each behind another one or behind the beginning -/
section
variable {α ε : Type} (idf af : ε → α) (z : α) (E : ε → Prop)
inductive IsPath : List α → α → Prop
  | root : IsPath [] z
  | step (p : List α) (e : ε) (x y : α) : IsPath p y → E e → af e = y → idf e = x → IsPath (p ++ [x]) x
def IsNode (n : List α × ε) : Prop := E n.2 ∧ ∃ q, IsPath idf af z E q (af n.2) ∧ n.1 = q ++ [idf n.2]
structure Names : Prop where
  uniq : ∀ e f, E e → E f → idf e = idf f → e = f
  nz : ∀ e, E e → idf e ≠ z
variable {idf af z E}
theorem path_snoc {p : List α} {x : α} (h : IsPath idf af z E p x) : (p = [] ∧ x = z) ∨ ∃ q e, p = q ++ [x] ∧ IsPath idf af z E q (af e) ∧ E e ∧ idf e = x := by
  cases h with
  | root => exact .inl ⟨rfl, rfl⟩
  | step p e x y h1 h2 h3 h4 => exact .inr ⟨p, e, rfl, h3 ▸ h1, h2, h4⟩
theorem path_unique (N : Names idf z E) {p : List α} {x : α} (h : IsPath idf af z E p x) : ∀ {q}, IsPath idf af z E q x → p = q := by
  induction h with
  | root =>
    intro q k
    rcases path_snoc k with ⟨h1, _⟩ | ⟨_, f, _, _, h2, h3⟩
    · exact h1.symm
    · exact absurd h3 (N.nz f h2)
  | step p e x y h1 h2 h3 h4 ih =>
    intro q k
    rcases path_snoc k with ⟨_, h5⟩ | ⟨q', f, rfl, h6, h7, h8⟩
    · exact absurd (h4.trans h5) (N.nz e h2)
    · obtain rfl := N.uniq e f h2 h7 (h4.trans h8.symm)
      rw [ih (h3 ▸ h6)]
theorem node_path {n : List α × ε} (h : IsNode idf af z E n) : IsPath idf af z E n.1 (idf n.2) := by
  obtain ⟨h1, q, h2, h3⟩ := h
  rw [h3]
  exact .step q n.2 _ _ h2 h1 rfl rfl
theorem node_unique (N : Names idf z E) {n m : List α × ε} (h : IsNode idf af z E n) (k : IsNode idf af z E m) (e : idf n.2 = idf m.2) : n = m := by
  have h1 := N.uniq _ _ h.1 k.1 e
  have h2 := path_unique N (node_path h) (e ▸ node_path k)
  exact Prod.ext h2 h1
/-- what is ahead on a path is a node, too -/
theorem path_cut {p : List α} {x : α} (h : IsPath idf af z E p x) : ∀ {q r : List α} {c : α}, p = q ++ c :: r → ∃ e y, E e ∧ idf e = c ∧ af e = y ∧ IsPath idf af z E q y := by
  induction h with
  | root => intro q r c h; cases q <;> cases h
  | step p e x y h1 h2 h3 h4 ih =>
    intro q r c h
    rcases List.eq_nil_or_concat r with rfl | ⟨r', b, rfl⟩
    · have h : p ++ [x] = q ++ [c] := h
      obtain ⟨rfl, h⟩ := List.append_inj' h rfl
      obtain rfl : x = c := by simpa using h
      exact ⟨e, y, h2, h4, h3, h1⟩
    · have h : p ++ [x] = (q ++ c :: r') ++ [b] := by rw [h]; simp
      obtain ⟨h, _⟩ := List.append_inj' h rfl
      exact ih h
/-- the walk's state: what is out, and what waits, the next one first -/
structure Weaving (lt : α → α → Prop) (idf af : ε → α) (z : α) (E : ε → Prop) (out wait : List (List α × ε)) : Prop where
  so : (out ++ wait).Pairwise (fun u v => PLt lt u.1 v.1)
  sw : wait.Pairwise (fun u v => SLt lt u.1 v.1)
  nodes : ∀ n ∈ out ++ wait, IsNode idf af z E n
  all : ∀ n, IsNode idf af z E n → n ∈ out ∨ ∃ v ∈ wait, v.1 <+: n.1
def kids (idf : ε → α) (B : α → List ε) (p : List α) (x : α) : List (List α × ε) := (B x).reverse.map (fun e => (p ++ [idf e], e))
def BehindOf (lt : α → α → Prop) (idf af : ε → α) (E : ε → Prop) (B : α → List ε) : Prop := ∀ x, (B x).Pairwise (fun e f => lt (idf e) (idf f)) ∧ ∀ e, e ∈ B x ↔ E e ∧ af e = x
variable {lt : α → α → Prop} {B : α → List ε}
theorem mem_kids (hB : BehindOf lt idf af E B) {p : List α} {x : α} {n : List α × ε} : n ∈ kids idf B p x ↔ E n.2 ∧ af n.2 = x ∧ n.1 = p ++ [idf n.2] := by
  unfold kids
  rw [List.mem_map]
  constructor
  · rintro ⟨e, he, rfl⟩
    have := (hB x).2 e
    rw [List.mem_reverse] at he
    exact ⟨(this.1 he).1, (this.1 he).2, rfl⟩
  · rintro ⟨h1, h2, h3⟩
    exact ⟨n.2, List.mem_reverse.2 (((hB x).2 _).2 ⟨h1, h2⟩), Prod.ext h3.symm rfl⟩
theorem kids_sorted (hB : BehindOf lt idf af E B) (p : List α) (x : α) : (kids idf B p x).Pairwise (fun u v => SLt lt u.1 v.1) := by
  unfold kids
  rw [List.pairwise_map, List.pairwise_reverse]
  refine (hB x).1.imp ?_
  intro e f h
  exact slt_kids h p
theorem kids_all (hB : BehindOf lt idf af E B) {p : List α} {x : α} (hp : IsPath idf af z E p x) (N : Names idf z E) {n : List α × ε} (hn : IsNode idf af z E n) (hpn : p <+: n.1) : p = n.1 ∨ ∃ v ∈ kids idf B p x, v.1 <+: n.1 := by
  obtain ⟨r, hr⟩ := hpn
  cases r with
  | nil => exact .inl (by rw [← hr, List.append_nil])
  | cons c r =>
    right
    obtain ⟨e, y, h1, h2, h3, h4⟩ := path_cut (node_path hn) hr.symm
    have : y = x := by
      rcases path_snoc hp with ⟨rfl, rfl⟩ | ⟨q, f, rfl, _, h6, h7⟩
      · rcases path_snoc h4 with ⟨_, h⟩ | ⟨q, _, h, _⟩
        · exact h
        · exact absurd h (by simp)
      · rcases path_snoc h4 with ⟨h, _⟩ | ⟨q', _, h, _⟩
        · exact absurd h (by simp)
        · obtain ⟨_, h⟩ := List.append_inj' h rfl
          simpa using h.symm
    subst this
    refine ⟨(p ++ [c], e), (mem_kids hB).2 ⟨h1, h3, by rw [h2]⟩, r, ?_⟩
    rw [← hr]
    simp
theorem weave_start (hB : BehindOf lt idf af E B) (N : Names idf z E) : Weaving lt idf af z E [] (kids idf B [] z) where
  so := (kids_sorted hB [] z).imp slt_plt
  sw := kids_sorted hB [] z
  nodes := fun n hn => by
    obtain ⟨h1, h2, h3⟩ := (mem_kids hB).1 (by simpa using hn)
    exact ⟨h1, [], h2 ▸ .root, h3⟩
  all := fun n hn => .inr (by
    rcases kids_all hB .root N hn (List.nil_prefix) with h | h
    · obtain ⟨_, q, _, h3⟩ := hn
      rw [← h] at h3
      exact absurd h3 (by simp)
    · exact h)
theorem weave_step (hB : BehindOf lt idf af E B) (N : Names idf z E) {out rest : List (List α × ε)} {x : List α × ε} (h : Weaving lt idf af z E out (x :: rest)) :
    Weaving lt idf af z E (out ++ [x]) (kids idf B x.1 (idf x.2) ++ rest) := by
  have hx : IsNode idf af z E x := h.nodes x (by simp)
  have hxp := node_path hx
  obtain ⟨w1, w2⟩ := List.pairwise_cons.1 h.sw
  obtain ⟨o1, o2, o3⟩ := List.pairwise_append.1 h.so
  have hk : ∀ v ∈ kids idf B x.1 (idf x.2), v.1 = x.1 ++ [idf v.2] := fun v hv => ((mem_kids hB).1 hv).2.2
  have sw : (kids idf B x.1 (idf x.2) ++ rest).Pairwise (fun u v => SLt lt u.1 v.1) := by
    refine List.pairwise_append.2 ⟨kids_sorted hB _ _, w2, fun u hu v hv => ?_⟩
    rw [hk u hu]
    have := slt_more [idf u.2] [] (w1 v hv)
    rwa [List.append_nil] at this
  refine ⟨?_, sw, ?_, ?_⟩
  · rw [List.append_assoc, List.singleton_append]
    refine List.pairwise_append.2 ⟨o1, List.pairwise_cons.2 ⟨fun v hv => ?_, sw.imp slt_plt⟩, fun u hu v hv => ?_⟩
    · rcases List.mem_append.1 hv with hv | hv
      · rw [hk v hv]; exact plt_more _ _ _
      · exact slt_plt (w1 v hv)
    · rcases List.mem_cons.1 hv with rfl | hv
      · exact o3 u hu v (by simp)
      · rcases List.mem_append.1 hv with hv | hv
        · rw [hk v hv]; exact plt_right _ (o3 u hu x (by simp))
        · exact o3 u hu v (List.mem_cons_of_mem _ hv)
  · intro n hn
    simp only [List.mem_append, List.mem_singleton] at hn
    rcases hn with (hn | rfl) | hn | hn
    · exact h.nodes n (by simp [hn])
    · exact hx
    · obtain ⟨h1, h2, h3⟩ := (mem_kids hB).1 hn
      exact ⟨h1, x.1, h2 ▸ hxp, h3⟩
    · exact h.nodes n (by simp [hn])
  · intro n hn
    rcases h.all n hn with h1 | ⟨v, hv, hp⟩
    · exact .inl (by simp [h1])
    · rcases List.mem_cons.1 hv with rfl | hv
      · rcases kids_all hB hxp N hn hp with h1 | ⟨u, hu, hq⟩
        · left
          have : v = n := by
            refine node_unique N hx hn ?_
            have e := node_path hn
            rw [← h1] at e
            rcases path_snoc hxp with ⟨h2, _⟩ | ⟨q, _, h2, _⟩
            · obtain ⟨_, q, _, h3⟩ := hx
              exact absurd (h2.symm.trans h3) (by simp)
            · rcases path_snoc e with ⟨h3, _⟩ | ⟨q', _, h3, _⟩
              · rw [h2] at h3; exact absurd h3 (by simp)
              · rw [h2] at h3
                obtain ⟨_, h4⟩ := List.append_inj' h3 rfl
                simpa using h4
          simp [this]
        · exact .inr ⟨u, by simp [hu], hq⟩
      · exact .inr ⟨v, by simp [hv], hp⟩
/-- the order: all nodes, as the paths stand -/
def OrderOf (lt : α → α → Prop) (idf af : ε → α) (z : α) (E : ε → Prop) (O : List (List α × ε)) : Prop := O.Pairwise (fun u v => PLt lt u.1 v.1) ∧ ∀ n, n ∈ O ↔ IsNode idf af z E n
theorem weave_end {out : List (List α × ε)} (h : Weaving lt idf af z E out []) : OrderOf lt idf af z E out :=
  ⟨by simpa using h.so, fun n => ⟨fun hn => h.nodes n (by simpa using hn), fun hn => (h.all n hn).elim id (fun ⟨_, h, _⟩ => by cases h)⟩⟩
theorem pigeon' {β : Type} : ∀ {l M : List β}, l.Nodup → (∀ x ∈ l, x ∈ M) → l.length ≤ M.length
  | [], _, _, _ => Nat.zero_le _
  | a :: l, M, h, hs => by
    obtain ⟨h1, h2⟩ := List.nodup_cons.1 h
    obtain ⟨s, t, rfl⟩ := List.append_of_mem (hs a (by simp))
    have := pigeon' (M := s ++ t) h2 (fun x hx => by
      have hm := hs x (List.mem_cons_of_mem _ hx)
      simp only [List.mem_append, List.mem_cons] at hm ⊢
      rcases hm with hm | rfl | hm
      · exact .inl hm
      · exact absurd hx h1
      · exact .inr hm)
    simp only [List.length_cons, List.length_append] at this ⊢
    omega
theorem ids_nodup (O : STO lt) (N : Names idf z E) {l : List (List α × ε)} (h : l.Pairwise (fun u v => PLt lt u.1 v.1)) (hn : ∀ n ∈ l, IsNode idf af z E n) : (l.map (fun n => idf n.2)).Nodup := by
  unfold List.Nodup
  rw [List.pairwise_map]
  refine h.imp_of_mem ?_
  intro u v hu hv hlt e
  rw [node_unique N (hn u hu) (hn v hv) e] at hlt
  exact plt_irrefl O _ hlt
theorem nodes_le (O : STO lt) (N : Names idf z E) {l : List (List α × ε)} (h : l.Pairwise (fun u v => PLt lt u.1 v.1)) (hn : ∀ n ∈ l, IsNode idf af z E n) {L : List ε} (hL : ∀ e, E e → e ∈ L) : l.length ≤ L.length := by
  have h1 := ids_nodup O N h hn
  have h2 : (l.map (fun n => n.2)).Nodup := by
    unfold List.Nodup at h1 ⊢
    rw [List.pairwise_map] at h1 ⊢
    exact h1.imp (fun h e => h (by rw [e]))
  have := pigeon' h2 (M := L) (fun e he => by
    obtain ⟨n, hn', rfl⟩ := List.mem_map.1 he
    exact hL _ (hn n hn').1)
  simpa using this
theorem order_unique (O : STO lt) {L M : List (List α × ε)} (h : OrderOf lt idf af z E L) (k : OrderOf lt idf af z E M) : L = M := by
  have key : ∀ {L M : List (List α × ε)}, L.Pairwise (fun u v => PLt lt u.1 v.1) → M.Pairwise (fun u v => PLt lt u.1 v.1) → (∀ x, x ∈ L ↔ x ∈ M) → L = M := by
    intro L
    induction L with
    | nil =>
      intro M _ _ h
      cases M with
      | nil => rfl
      | cons b M => have := (h b).2 (by simp); simp at this
    | cons a L ih =>
      intro M h1 h2 h
      cases M with
      | nil => have := (h a).1 (by simp); simp at this
      | cons b M =>
        obtain ⟨a1, a2⟩ := List.pairwise_cons.1 h1
        obtain ⟨b1, b2⟩ := List.pairwise_cons.1 h2
        have e : a = b := by
          rcases List.mem_cons.1 ((h a).1 (by simp)) with e | ha
          · exact e
          · rcases List.mem_cons.1 ((h b).2 (by simp)) with e | hb
            · exact e.symm
            · exact absurd (plt_trans O _ _ _ (a1 b hb) (b1 a ha)) (plt_irrefl O _)
        subst e
        rw [ih a2 b2 fun x => ?_]
        constructor
        · intro hx
          rcases List.mem_cons.1 ((h x).1 (by simp [hx])) with e | h'
          · subst e; exact absurd (a1 x hx) (plt_irrefl O _)
          · exact h'
        · intro hx
          rcases List.mem_cons.1 ((h x).2 (by simp [hx])) with e | h'
          · subst e; exact absurd (b1 x hx) (plt_irrefl O _)
          · exact h'
  exact key h.1 k.1 (fun x => (h.2 x).trans (k.2 x).symm)
/-- places stand as the paths stand -/
theorem order_idx (O : STO lt) {L : List (List α × ε)} (h : L.Pairwise (fun u v => PLt lt u.1 v.1)) {i j : Nat} (hi : i < L.length) (hj : j < L.length) (hr : PLt lt L[i].1 L[j].1) : i < j := by
  rcases Nat.lt_trichotomy i j with h1 | h1 | h1
  · exact h1
  · subst h1; exact absurd hr (plt_irrefl O _)
  · have := List.pairwise_iff_getElem.1 h j i hj hi h1
    exact absurd (plt_trans O _ _ _ hr this) (plt_irrefl O _)
/-- what is there with less is there with more -/
theorem node_mono {E' : ε → Prop} (h : ∀ e, E e → E' e) {n : List α × ε} (hn : IsNode idf af z E n) : IsNode idf af z E' n := by
  have : ∀ {p x}, IsPath idf af z E p x → IsPath idf af z E' p x := by
    intro p x hp
    induction hp with
    | root => exact .root
    | step p e x y _ h2 h3 h4 ih => exact .step p e x y ih (h e h2) h3 h4
  obtain ⟨h1, q, h2, h3⟩ := hn
  exact ⟨h _ h1, q, this h2, h3⟩
theorem path_rise (O : STO lt) (N : Names idf z E) (inc : ∀ e, E e → af e ≠ z → lt (af e) (idf e)) {p : List α} {x : α} (h : IsPath idf af z E p x) : ∀ {q r : List α} {c : α}, p = q ++ c :: r → c = x ∨ lt c x := by
  induction h with
  | root => intro q r c h; cases q <;> cases h
  | step p e x y h1 h2 h3 h4 ih =>
    intro q r c h
    rcases List.eq_nil_or_concat r with rfl | ⟨r', b, rfl⟩
    · have h : p ++ [x] = q ++ [c] := h
      obtain ⟨_, h⟩ := List.append_inj' h rfl
      exact .inl (by simpa using h.symm)
    · have h : p ++ [x] = (q ++ c :: r') ++ [b] := by rw [h]; simp
      obtain ⟨h, _⟩ := List.append_inj' h rfl
      have hy : y ≠ z := by
        rcases path_snoc h1 with ⟨h5, _⟩ | ⟨_, f, _, _, h6, h7⟩
        · rw [h5] at h; exact absurd h (by simp)
        · exact h7 ▸ N.nz f h6
      have hl : lt y x := by rw [← h3, ← h4]; exact inc e h2 (h3 ▸ hy)
      rcases ih h with rfl | h5
      · exact .inr hl
      · exact .inr (O.trans _ _ _ h5 hl)
/-- between one and what it stands behind are only newer ones -/
theorem between_newer (O : STO lt) (N : Names idf z E) (inc : ∀ e, E e → af e ≠ z → lt (af e) (idf e)) {m : List α × ε} (hm : IsNode idf af z E m) {q : List α} {x : α} (h1 : PLt lt q m.1) (h2 : PLt lt m.1 (q ++ [x])) : lt x (idf m.2) := by
  obtain ⟨c, r, hc, hl⟩ := plt_between O h1 h2
  rcases path_rise O N inc (node_path hm) hc with rfl | h
  · exact hl
  · exact O.trans _ _ _ hl h
/-- what stands behind the beginning, or behind one ahead, is in the order -/
theorem all_paths {l : List ε} (hE : ∀ e ∈ l, E e) (hl : ∀ i (h : i < l.length), af l[i] = z ∨ ∃ j, ∃ (h' : j < i), idf (l[j]'(by omega)) = af l[i]) : ∀ i (h : i < l.length), ∃ q, IsPath idf af z E q (af l[i]) := by
  intro i
  induction i using Nat.strongRecOn with
  | ind i ih =>
    intro h
    rcases hl i h with h1 | ⟨j, hj, h1⟩
    · exact ⟨[], h1 ▸ .root⟩
    · obtain ⟨q, hq⟩ := ih j hj (by omega)
      exact ⟨q ++ [af l[i]], .step q _ _ _ hq (hE _ (List.getElem_mem _)) rfl h1⟩
theorem order_whole (O : STO lt) (N : Names idf z E) {L : List (List α × ε)} (h : OrderOf lt idf af z E L) {l : List ε} (hn : l.Nodup) (hE : ∀ e, E e ↔ e ∈ l) (hl : ∀ i (h : i < l.length), af l[i] = z ∨ ∃ j, ∃ (h' : j < i), idf (l[j]'(by omega)) = af l[i]) : L.length = l.length := by
  have h1 := nodes_le O N h.1 (fun n hn => (h.2 n).1 hn) (L := l) (fun e he => (hE e).1 he)
  have h2 := pigeon' hn (M := L.map (fun n => n.2)) (fun e he => by
    obtain ⟨i, hi, rfl⟩ := List.getElem_of_mem he
    obtain ⟨q, hq⟩ := all_paths (fun e he => (hE e).2 he) hl i hi
    exact List.mem_map.2 ⟨(q ++ [idf l[i]], l[i]), (h.2 _).2 ⟨(hE _).2 he, q, hq, rfl⟩, rfl⟩)
  rw [List.length_map] at h2
  omega
end
end Go.Proofs.YtphapjbfaomblaaDoor
