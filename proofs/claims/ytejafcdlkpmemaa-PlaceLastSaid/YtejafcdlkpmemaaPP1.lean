/- Where nodes are, by what is told one after the other; no circles. Plain. -/
import Derived.Test.YtejafcdlkpmemaaEP
namespace Go.Proofs.Ytejafcdlkpmemaa
structure Place where
  nd : Id
  pa : Id
  nm : ByteArray
  dir : Bool
deriving DecidableEq
structure Told where
  at_ : Id
  p : Place
deriving DecidableEq
/-! the first of each key -/
section
variable {α κ : Type} [DecidableEq κ]
def FirstK (key : α → κ) (l : List α) (h : α) : Prop := l.find? (fun g => decide (key g = key h)) = some h
variable {key : α → κ}
theorem firstK_mem {l : List α} {h : α} (f : FirstK key l h) : h ∈ l := List.mem_of_find?_eq_some f
theorem firstK_same {l : List α} {g h : α} (f : FirstK key l g) (k : FirstK key l h) (e : key g = key h) : g = h := by
  unfold FirstK at f k
  rw [e] at f
  exact Option.some.inj (f.symm.trans k)
theorem firstK_snoc (l : List α) (x h : α) : FirstK key (l ++ [x]) h ↔ FirstK key l h ∨ h = x ∧ ∀ g ∈ l, key g ≠ key x := by
  unfold FirstK
  rw [List.find?_append]
  cases e : l.find? (fun g => decide (key g = key h)) with
  | some y =>
    simp only [Option.some_or, Option.some.injEq]
    refine ⟨fun h1 => .inl h1, fun h1 => ?_⟩
    rcases h1 with h1 | ⟨rfl, h2⟩
    · exact h1
    · have hy := List.find?_some e
      exact absurd (by simpa using hy) (h2 y (List.mem_of_find?_eq_some e))
  | none =>
    rw [List.find?_eq_none] at e
    simp only [Option.none_or, reduceCtorEq, false_or]
    by_cases hx : key x = key h
    · simp only [List.find?_cons, hx, decide_true, Option.some.injEq]
      constructor
      · rintro rfl
        exact ⟨rfl, fun g hg => by simpa using e g hg⟩
      · rintro ⟨rfl, _⟩
        rfl
    · simp only [List.find?_cons, hx, decide_false, List.find?_nil, reduceCtorEq, false_iff]
      rintro ⟨rfl, _⟩
      exact hx rfl
theorem firstK_exists {l : List α} {g : α} (hg : g ∈ l) : ∃ h, FirstK key l h ∧ key h = key g := by
  cases e : l.find? (fun k => decide (key k = key g)) with
  | some y =>
    have hy : key y = key g := by have := List.find?_some e; simpa using this
    exact ⟨y, by unfold FirstK; rw [hy]; exact e, hy⟩
  | none =>
    rw [List.find?_eq_none] at e
    exact absurd (decide_eq_true rfl) (e g hg)
def UnlikeK (key : α → κ) (l : List α) : Prop := l.Pairwise (fun a b => key a ≠ key b)
omit [DecidableEq κ] in
theorem UnlikeK.eq {l : List α} (h : UnlikeK key l) {a b : α} (ha : a ∈ l) (hb : b ∈ l) (e : key a = key b) : a = b := by
  unfold UnlikeK at h
  induction l with
  | nil => cases ha
  | cons x l ih =>
    obtain ⟨h1, h2⟩ := List.pairwise_cons.1 h
    rcases List.mem_cons.1 ha with ha1 | ha1
    · rcases List.mem_cons.1 hb with hb1 | hb1
      · exact ha1.trans hb1.symm
      · exact absurd (ha1 ▸ e) (h1 b hb1)
    · rcases List.mem_cons.1 hb with hb1 | hb1
      · exact absurd (hb1 ▸ e.symm) (h1 a ha1)
      · exact ih h2 ha1 hb1
theorem UnlikeK.first {l : List α} (u : UnlikeK key l) (h : α) : FirstK key l h ↔ h ∈ l := by
  refine ⟨firstK_mem, fun hm => ?_⟩
  obtain ⟨g, hg, e⟩ := firstK_exists (key := key) hm
  rw [← u.eq (firstK_mem hg) hm e]
  exact hg
omit [DecidableEq κ] in
theorem UnlikeK.perm {l m : List α} (u : UnlikeK key l) (p : l.Perm m) : UnlikeK key m := (p.pairwise_iff (fun {_ _} h e => h e.symm)).1 u
end
/-! what is told, in order -/
def ToldOf (l T : List Told) : Prop := T.Pairwise (fun x y => x.at_.Lt y.at_) ∧ ∀ h, h ∈ T ↔ FirstK Told.at_ l h
theorem toldOf_same {l H M : List Told} (h : ToldOf l H) (m : ToldOf l M) : H = M :=
  sorted_same (lt := fun x y : Told => x.at_.Lt y.at_) (fun a => idSTO.irrefl a.at_) (fun a b c => idSTO.trans a.at_ b.at_ c.at_) h.1 m.1 (fun x => (h.2 x).trans (m.2 x).symm)
theorem toldOf_perm {l m H : List Told} (u : UnlikeK Told.at_ l) (p : l.Perm m) (h : ToldOf l H) : ToldOf m H :=
  ⟨h.1, fun x => by rw [h.2 x, u.first x, (u.perm p).first x, p.mem_iff]⟩
/-! places by their nodes -/
def pfind (L : List Place) (x : Id) : Option Place := L.find? (fun p => decide (p.nd = x))
def withinGo (L : List Place) : Nat → Id → Id → Bool
  | 0, _, _ => true
  | n + 1, x, up => if x = up then true else match pfind L x with
    | none => false
    | some p => withinGo L n p.pa up
def zeroI : Id := ⟨⟨0, 0, by decide, by decide⟩, 0, by decide⟩
def insertP (p : Place) : List Place → List Place
  | [] => [p]
  | q :: L => if p.nd = q.nd then { p with dir := q.dir } :: L else if p.nd.cmp q.nd < 0 then p :: q :: L else q :: insertP p L
def pstep (L : List Place) (p : Place) : List Place := if p.nd = zeroI ∨ withinGo L (L.length + 1) p.pa p.nd = true then L else insertP p L
def replayL (T : List Told) : List Place := T.foldl (fun L t => pstep L t.p) []
theorem replayL_snoc (T : List Told) (t : Told) : replayL (T ++ [t]) = pstep (replayL T) t.p := by simp [replayL]
def Rises (L : List Place) : Prop := L.Pairwise (fun a b => a.nd.Lt b.nd)
theorem pfind_nd {L : List Place} {x : Id} {p : Place} (h : pfind L x = some p) : p.nd = x := by have := List.find?_some h; simpa using this
theorem pfind_mem {L : List Place} {x : Id} {p : Place} (h : pfind L x = some p) : p ∈ L := List.mem_of_find?_eq_some h
theorem Rises.unlike {L : List Place} (h : Rises L) : UnlikeK Place.nd L := by
  unfold UnlikeK
  unfold Rises at h
  refine h.imp ?_
  intro a b hab e
  rw [e] at hab
  exact idSTO.irrefl b.nd hab
theorem Rises.find {L : List Place} (h : Rises L) (p : Place) : pfind L p.nd = some p ↔ p ∈ L :=
  UnlikeK.first (key := Place.nd) h.unlike p
theorem pfind_none {L : List Place} {x : Id} : pfind L x = none ↔ ∀ p ∈ L, p.nd ≠ x := by
  unfold pfind
  rw [List.find?_eq_none]
  constructor
  · intro h p hp e; exact h p hp (by simpa using e)
  · intro h p hp e; exact h p hp (by simpa using e)
/-- rows that rise and hold the same are one -/
theorem rises_same {L M : List Place} (h : Rises L) (m : Rises M) (e : ∀ x, pfind L x = pfind M x) : L = M :=
  sorted_same (lt := fun x y : Place => x.nd.Lt y.nd) (fun a => idSTO.irrefl a.nd) (fun a b c => idSTO.trans a.nd b.nd c.nd) h m (fun x => by rw [← h.find, ← m.find, e])
theorem insertP_mem {p : Place} : ∀ {L : List Place} {q : Place}, q ∈ insertP p L → q.nd = p.nd ∨ q ∈ L
  | [], q, h => by simp only [insertP, List.mem_singleton] at h; exact .inl (by rw [h])
  | a :: L, q, h => by
    rw [insertP] at h
    split at h
    · rename_i e
      rcases List.mem_cons.1 h with rfl | h
      · exact .inl rfl
      · exact .inr (List.mem_cons_of_mem _ h)
    · split at h
      · rcases List.mem_cons.1 h with rfl | h
        · exact .inl rfl
        · exact .inr h
      · rcases List.mem_cons.1 h with rfl | h
        · exact .inr (by simp)
        · exact (insertP_mem h).imp id (List.mem_cons_of_mem _)
theorem insertP_rises {p : Place} : ∀ {L : List Place}, Rises L → Rises (insertP p L)
  | [], _ => List.pairwise_singleton _ _
  | a :: L, h => by
    obtain ⟨h1, h2⟩ := List.pairwise_cons.1 h
    rw [insertP]
    split
    · rename_i e
      exact List.pairwise_cons.2 ⟨fun b hb => (show p.nd.Lt b.nd from e ▸ h1 b hb), h2⟩
    · rename_i e
      split
      · rename_i hc
        have hc := (icmp_id_neg _ _).1 hc
        refine List.pairwise_cons.2 ⟨fun b hb => ?_, h⟩
        rcases List.mem_cons.1 hb with rfl | hb
        · exact hc
        · exact idSTO.trans _ _ _ hc (h1 b hb)
      · rename_i hc
        have hlt : a.nd.Lt p.nd := by
          rcases idSTO.total a.nd p.nd with t | t | t
          · exact t
          · exact absurd t.symm e
          · exact absurd ((icmp_id_neg _ _).2 t) hc
        refine List.pairwise_cons.2 ⟨fun b hb => ?_, insertP_rises h2⟩
        rcases insertP_mem hb with e' | hb
        · exact e' ▸ hlt
        · exact h1 b hb
def putDir (f : Option Place) (p : Place) : Place := match f with
  | some q => { p with dir := q.dir }
  | none => p
theorem insertP_find {p : Place} : ∀ {L : List Place}, Rises L → ∀ x, pfind (insertP p L) x = if x = p.nd then some (putDir (pfind L p.nd) p) else pfind L x
  | [], _, x => by
    unfold insertP pfind
    by_cases h : x = p.nd
    · simp [h, putDir]
    · rw [if_neg h]; simp [Ne.symm h]
  | a :: L, h, x => by
    obtain ⟨h1, h2⟩ := List.pairwise_cons.1 h
    have ih := insertP_find (p := p) h2
    have hcons : ∀ (b : Place) (M : List Place) (y : Id), pfind (b :: M) y = if b.nd = y then some b else pfind M y := by
      intro b M y
      unfold pfind
      rw [List.find?_cons]
      by_cases e : b.nd = y <;> simp [e]
    rw [insertP]
    split
    · rename_i e
      rw [hcons]
      by_cases hx : x = p.nd
      · subst hx; rw [if_pos rfl, if_pos rfl, hcons, if_pos e.symm]; rfl
      · rw [if_neg (show ¬ p.nd = x from Ne.symm hx), if_neg hx, hcons, if_neg (fun e' : a.nd = x => hx (e'.symm.trans e.symm))]
    · rename_i e
      split
      · rename_i hc
        have hc := (icmp_id_neg _ _).1 hc
        have hno : pfind (a :: L) p.nd = none := pfind_none.2 (fun q hq e' => by
          rcases List.mem_cons.1 hq with hq1 | hq1
          · exact e (hq1 ▸ e'.symm)
          · have h3 := idSTO.trans _ _ _ hc (h1 q hq1)
            rw [e'] at h3
            exact idSTO.irrefl _ h3)
        rw [hcons, hno]
        by_cases hx : x = p.nd
        · subst hx; rw [if_pos rfl, if_pos rfl]; rfl
        · rw [if_neg (Ne.symm hx), if_neg hx]
      · rw [hcons, ih, hcons a L p.nd, if_neg (Ne.symm e), hcons]
        by_cases hx : x = p.nd
        · subst hx; rw [if_pos rfl, if_pos rfl, if_neg (Ne.symm e)]
        · rw [if_neg hx, if_neg hx]
theorem insertP_len {p : Place} : ∀ {L : List Place}, Rises L → (insertP p L).length = if pfind L p.nd = none then L.length + 1 else L.length
  | [], _ => by simp [insertP, pfind]
  | a :: L, h => by
    obtain ⟨h1, h2⟩ := List.pairwise_cons.1 h
    have ih := insertP_len (p := p) h2
    rw [insertP]
    split
    · rename_i e
      rw [if_neg (fun h' => pfind_none.1 h' a (by simp) e.symm)]
      rfl
    · rename_i e
      split
      · rename_i hc
        have hc := (icmp_id_neg _ _).1 hc
        have hno : pfind (a :: L) p.nd = none := pfind_none.2 (fun q hq e' => by
          rcases List.mem_cons.1 hq with hq1 | hq1
          · exact e (hq1 ▸ e'.symm)
          · have h3 := idSTO.trans _ _ _ hc (h1 q hq1)
            rw [e'] at h3
            exact idSTO.irrefl _ h3)
        rw [if_pos hno]
        rfl
      · rw [List.length_cons, ih]
        have : pfind (a :: L) p.nd = none ↔ pfind L p.nd = none := by
          rw [pfind_none, pfind_none]
          constructor
          · intro h' q hq; exact h' q (List.mem_cons_of_mem _ hq)
          · intro h' q hq
            rcases List.mem_cons.1 hq with rfl | hq
            · exact Ne.symm e
            · exact h' q hq
        by_cases hn : pfind L p.nd = none
        · rw [if_pos hn, if_pos (this.2 hn), List.length_cons]
        · rw [if_neg hn, if_neg (fun h' => hn (this.1 h')), List.length_cons]
theorem pstep_rises {L : List Place} (h : Rises L) (p : Place) : Rises (pstep L p) := by
  unfold pstep
  split
  · exact h
  · exact insertP_rises h
theorem replayL_rises (T : List Told) : Rises (replayL T) := by
  unfold replayL
  have : ∀ (T : List Told) (L : List Place), Rises L → Rises (T.foldl (fun L t => pstep L t.p) L) := by
    intro T
    induction T with
    | nil => intro L h; exact h
    | cons t T ih => intro L h; exact ih _ (pstep_rises h t.p)
  exact this T [] List.Pairwise.nil
/-! no circles -/
def EndsBy (L : List Place) : Nat → Id → Prop
  | 0, x => pfind L x = none
  | n + 1, x => ∃ p, pfind L x = some p ∧ EndsBy L n p.pa
def Free (L : List Place) (up : Id) : Nat → Id → Prop
  | 0, x => x ≠ up ∧ pfind L x = none
  | n + 1, x => x ≠ up ∧ ∃ p, pfind L x = some p ∧ Free L up n p.pa
theorem within_free {L : List Place} {up : Id} : ∀ {m : Nat} {x : Id}, withinGo L m x up = false ↔ ∃ n, n < m ∧ Free L up n x
  | 0, x => by simp [withinGo]
  | m + 1, x => by
    rw [withinGo]
    by_cases hx : x = up
    · rw [if_pos hx]
      constructor
      · intro h; cases h
      · rintro ⟨n, _, hf⟩
        cases n <;> exact absurd hx hf.1
    · rw [if_neg hx]
      cases e : pfind L x with
      | none =>
        refine ⟨fun _ => ⟨0, by omega, hx, e⟩, fun _ => rfl⟩
      | some p =>
        simp only
        rw [within_free (m := m)]
        constructor
        · rintro ⟨n, hn, hf⟩
          exact ⟨n + 1, by omega, hx, p, e, hf⟩
        · rintro ⟨n, hn, hf⟩
          cases n with
          | zero => rw [hf.2] at e; cases e
          | succ n =>
            obtain ⟨_, q, hq, hf⟩ := hf
            rw [hq] at e
            cases e
            exact ⟨n, by omega, hf⟩
theorem EndsBy.unique {L : List Place} : ∀ {n m : Nat} {x : Id}, EndsBy L n x → EndsBy L m x → n = m
  | 0, 0, _, _, _ => rfl
  | 0, m + 1, x, h, ⟨p, hp, _⟩ => by rw [show pfind L x = none from h] at hp; cases hp
  | n + 1, 0, x, ⟨p, hp, _⟩, h => by rw [show pfind L x = none from h] at hp; cases hp
  | n + 1, m + 1, x, ⟨p, hp, h⟩, ⟨q, hq, k⟩ => by
    rw [hp] at hq; cases hq
    rw [EndsBy.unique h k]
def Acyc (L : List Place) : Prop := ∀ x, ∃ n, EndsBy L n x
theorem ends_free {L : List Place} {up : Id} {k : Nat} (hu : EndsBy L k up) : ∀ {n : Nat} {x : Id}, EndsBy L n x → n < k → Free L up n x
  | 0, x, h, hk => ⟨fun e => by have := EndsBy.unique hu (e ▸ h : EndsBy L 0 up); omega, h⟩
  | n + 1, x, ⟨p, hp, h⟩, hk => ⟨fun e => by have := EndsBy.unique hu (e ▸ (⟨p, hp, h⟩ : EndsBy L (n + 1) x) : EndsBy L (n + 1) up); omega, p, hp, ends_free hu h (by omega)⟩
theorem pigeon {α : Type} : ∀ {l M : List α}, l.Nodup → (∀ x ∈ l, x ∈ M) → l.length ≤ M.length
  | [], _, _, _ => Nat.zero_le _
  | a :: l, M, h, hs => by
    obtain ⟨h1, h2⟩ := List.nodup_cons.1 h
    obtain ⟨s, t, rfl⟩ := List.append_of_mem (hs a (by simp))
    have := pigeon (M := s ++ t) h2 (fun x hx => by
      have hm := hs x (List.mem_cons_of_mem _ hx)
      simp only [List.mem_append, List.mem_cons] at hm ⊢
      rcases hm with hm | rfl | hm
      · exact .inl hm
      · exact absurd hx h1
      · exact .inr hm)
    simp only [List.length_cons, List.length_append] at this ⊢
    omega
theorem ends_short {L : List Place} : ∀ {n : Nat} {x : Id}, EndsBy L n x → ∃ l : List Place, l.length = n ∧ l.Nodup ∧ ∀ q ∈ l, q ∈ L ∧ ∃ i, i ≤ n ∧ EndsBy L i q.nd
  | 0, x, _ => ⟨[], rfl, List.nodup_nil, fun _ h => by cases h⟩
  | n + 1, x, ⟨p, hp, h⟩ => by
    obtain ⟨l, h1, h2, h3⟩ := ends_short h
    refine ⟨p :: l, by simp [h1], List.nodup_cons.2 ⟨fun hm => ?_, h2⟩, fun q hq => ?_⟩
    · obtain ⟨_, i, hi, he⟩ := h3 p hm
      have := EndsBy.unique he (pfind_nd hp ▸ (⟨p, hp, h⟩ : EndsBy L (n + 1) x) : EndsBy L (n + 1) p.nd)
      omega
    · rcases List.mem_cons.1 hq with rfl | hq
      · exact ⟨pfind_mem hp, n + 1, Nat.le_refl _, pfind_nd hp ▸ ⟨q, hp, h⟩⟩
      · obtain ⟨a, i, hi, he⟩ := h3 q hq
        exact ⟨a, i, by omega, he⟩
theorem ends_le {L : List Place} {n : Nat} {x : Id} (h : EndsBy L n x) : n ≤ L.length := by
  obtain ⟨l, h1, h2, h3⟩ := ends_short h
  rw [← h1]
  exact pigeon h2 (fun q hq => (h3 q hq).1)
/-- no node's parent is within it -/
theorem acyc_within {L : List Place} (hr : Rises L) (ha : Acyc L) {p : Place} (hp : p ∈ L) : withinGo L (L.length + 1) p.pa p.nd = false := by
  obtain ⟨n, hn⟩ := ha p.pa
  have hf : pfind L p.nd = some p := (hr.find p).2 hp
  have hk : EndsBy L (n + 1) p.nd := ⟨p, hf, hn⟩
  exact within_free.2 ⟨n, by have := ends_le hk; omega, ends_free hk hn (by omega)⟩
theorem free_other {L M : List Place} {up : Id} (h : ∀ x, x ≠ up → pfind M x = pfind L x) : ∀ {n : Nat} {x : Id}, Free L up n x → EndsBy M n x
  | 0, x, ⟨h1, h2⟩ => (h x h1).trans h2
  | _ + 1, x, ⟨h1, p, hp, hf⟩ => ⟨p, (h x h1).trans hp, free_other h hf⟩
theorem putDir_pa (f : Option Place) (p : Place) : (putDir f p).pa = p.pa := by cases f <;> rfl
theorem putDir_nd (f : Option Place) (p : Place) : (putDir f p).nd = p.nd := by cases f <;> rfl
theorem acyc_step {L : List Place} (hr : Rises L) (ha : Acyc L) (p : Place) : Acyc (pstep L p) := by
  unfold pstep
  split
  · exact ha
  · rename_i hno
    have hw : withinGo L (L.length + 1) p.pa p.nd = false := by
      cases e : withinGo L (L.length + 1) p.pa p.nd
      · rfl
      · exact absurd (.inr e) hno
    obtain ⟨n0, _, hf⟩ := within_free.1 hw
    have hfind := insertP_find (p := p) hr
    have hother : ∀ x, x ≠ p.nd → pfind (insertP p L) x = pfind L x := fun x hx => by rw [hfind, if_neg hx]
    have h0 : EndsBy (insertP p L) n0 p.pa := free_other hother hf
    have h1 : EndsBy (insertP p L) (n0 + 1) p.nd := ⟨_, by rw [hfind, if_pos rfl], by rw [putDir_pa]; exact h0⟩
    have key : ∀ n x, EndsBy L n x → ∃ m, EndsBy (insertP p L) m x := by
      intro n
      induction n with
      | zero =>
        intro x hx
        by_cases e : x = p.nd
        · exact ⟨_, e ▸ h1⟩
        · exact ⟨0, (hother x e).trans hx⟩
      | succ n ih =>
        rintro x ⟨q, hq, hx⟩
        by_cases e : x = p.nd
        · exact ⟨_, e ▸ h1⟩
        · obtain ⟨m, hm⟩ := ih q.pa hx
          exact ⟨m + 1, q, (hother x e).trans hq, hm⟩
    intro x
    obtain ⟨n, hn⟩ := ha x
    exact key n x hn
theorem nozero_step {L : List Place} (h : ∀ p ∈ L, p.nd ≠ zeroI) (p : Place) : ∀ q ∈ pstep L p, q.nd ≠ zeroI := by
  unfold pstep
  split
  · exact h
  · rename_i hno
    intro q hq
    rcases insertP_mem hq with e | hq
    · rw [e]; exact fun e' => hno (.inl e')
    · exact h q hq
theorem replayL_good (T : List Told) : Acyc (replayL T) ∧ ∀ p ∈ replayL T, p.nd ≠ zeroI := by
  unfold replayL
  have : ∀ (T : List Told) (L : List Place), Rises L → Acyc L → (∀ p ∈ L, p.nd ≠ zeroI) → Acyc (T.foldl (fun L t => pstep L t.p) L) ∧ ∀ p ∈ T.foldl (fun L t => pstep L t.p) L, p.nd ≠ zeroI := by
    intro T
    induction T with
    | nil => intro L _ h1 h2; exact ⟨h1, h2⟩
    | cons t T ih => intro L h h1 h2; exact ih _ (pstep_rises h t.p) (acyc_step h h1 t.p) (nozero_step h2 t.p)
  exact this T [] List.Pairwise.nil (fun x => ⟨0, rfl⟩) (fun _ h => by cases h)
end Go.Proofs.Ytejafcdlkpmemaa
