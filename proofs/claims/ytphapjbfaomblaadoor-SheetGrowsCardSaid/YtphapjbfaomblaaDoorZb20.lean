/- Texts of this seat, one behind the other: JN, JO, JP. -/
import Derived.Test.YtphapjbfaomblaaDoorZb15
import Derived.Test.YtphapjbfaomblaaDoorZb17
import Derived.Test.YtphapjbfaomblaaDoorZb19
/- The sheet, plain: what show after show makes of a row. -/
namespace Go.Proofs.YtphapjbfaomblaaDoor
open Go Go.RowKit Go.Maps Go.ChangeMaps
theorem names_pair (l : List Id) (f : Id → Bool) : namesR (l.map (fun y => (y, f y))) = l := by
  unfold namesR
  rw [List.map_map]
  exact (List.map_congr_left fun _ _ => rfl).trans (List.map_id l)
theorem nodup_at {l : List Id} (hn : l.Nodup) {i j : Nat} (hi : i < l.length) (hj : j < l.length) (e : l[i] = l[j]) : i = j := by
  rcases Nat.lt_trichotomy i j with h | h | h
  · exact absurd e (List.pairwise_iff_getElem.1 hn i j hi hj h)
  · exact h
  · exact absurd e.symm (List.pairwise_iff_getElem.1 hn j i hj hi h)
theorem showR_map {l : List Id} (hn : l.Nodup) (f : Id → Bool) {x : Id} (hx : x ∈ l) (b : Bool) : showR (l.map (fun y => (y, f y))) x b = l.map (fun y => (y, if y = x then b else f y)) := by
  obtain ⟨k, hk, rfl⟩ := List.getElem_of_mem hx
  have hix : ixR (l.map (fun y => (y, f y))) l[k] = k := ixR_eq (by simpa using hk) (by simp) (fun j hj e => by
    simp only [List.getElem_map] at e
    have := nodup_at hn _ _ e
    omega)
  unfold showR
  rw [hix]
  apply List.ext_getElem
  · simp
  · intro i h1 h2
    rw [List.getElem_set]
    simp only [List.getElem_map]
    by_cases hi : k = i
    · subst hi
      simp
    · rw [if_neg hi, if_neg (fun e => hi (nodup_at hn _ _ e).symm)]
theorem shown_map {l : List Id} (hn : l.Nodup) (on : Stamp → Int) (g : Id → Bool) : ∀ (L : List En) (f : Id → Bool), (∀ e ∈ L, e.id ∈ l ∧ seenV on e = g e.id) →
    shown on (l.map (fun y => (y, f y))) L = l.map (fun y => (y, if y ∈ L.map En.id then g y else f y))
  | [], f, _ => by simp [shown]
  | e :: L, f, h => by
    obtain ⟨h1, h2⟩ := h e (List.mem_cons_self ..)
    show shown on (showR (l.map (fun y => (y, f y))) e.id (seenV on e)) L = _
    rw [showR_map hn f h1, shown_map hn on g L _ (fun a ha => h a (List.mem_cons_of_mem _ ha))]
    refine List.map_congr_left fun y _ => ?_
    rw [List.map_cons, h2]
    by_cases hy : y ∈ L.map En.id
    · rw [if_pos hy, if_pos (List.mem_cons_of_mem _ hy)]
    · rw [if_neg hy]
      by_cases he : y = e.id
      · rw [if_pos he, if_pos (by rw [he]; exact List.mem_cons_self ..), he]
      · rw [if_neg he, if_neg (fun h => (List.mem_cons.1 h).elim he hy)]
def seenI (on : Stamp → Int) (gn : Id → Int) (y : Id) : Bool := decide (0 < on y.s) && decide (gn y ≤ 0)
def idsO (O : List Nd) : List Id := O.map (fun nd => nd.2.id)
def rowV (O : List Nd) (on : Stamp → Int) (gn : Id → Int) : Row Id := (idsO O).map (fun y => (y, seenI on gn y))
theorem rowV_names (O : List Nd) (on : Stamp → Int) (gn : Id → Int) : namesR (rowV O on gn) = idsO O := names_pair _ _
theorem rowV_len (O : List Nd) (on : Stamp → Int) (gn : Id → Int) : (rowV O on gn).length = O.length := by simp [rowV, idsO]
def gnT (gn : Id → Int) (x : Id) (d : Int) : Id → Int := fun y => if y = x then gn x + d else gn y
theorem shown_row {O : List Nd} {Es : List En} {on : Stamp → Int} {gn : Id → Int} (hn : (idsO O).Nodup) (hE : ∀ y ∈ idsO O, ∃ e ∈ Es, e.id = y) (hEO : ∀ e ∈ Es, e.id ∈ idsO O) (hg : ∀ e ∈ Es, e.gn = gn e.id) (s : Stamp) (d : Int) :
    shown (onT on s d) (rowV O on gn) (atS Es s) = rowV O (onT on s d) gn := by
  unfold rowV
  rw [shown_map hn (onT on s d) (seenI (onT on s d) gn) (atS Es s) _ (fun e he => by
    have h1 := (List.mem_filter.1 he).1
    exact ⟨hEO e h1, by unfold seenV seenI; rw [hg e h1]⟩)]
  refine List.map_congr_left fun y hy => ?_
  by_cases hm : y ∈ (atS Es s).map En.id
  · rw [if_pos hm]
  · rw [if_neg hm]
    obtain ⟨e, he, rfl⟩ := hE y hy
    have hs : e.id.s ≠ s := fun h => hm (List.mem_map.2 ⟨e, List.mem_filter.2 ⟨he, decide_eq_true h⟩, rfl⟩)
    unfold seenI onT
    rw [if_neg hs]
theorem show_row {O : List Nd} {on : Stamp → Int} {gn : Id → Int} (hn : (idsO O).Nodup) {x : Id} (hx : x ∈ idsO O) (d : Int) {b : Bool} (hb : b = seenI on (gnT gn x d) x) : showR (rowV O on gn) x b = rowV O on (gnT gn x d) := by
  unfold rowV
  rw [showR_map hn _ hx]
  refine List.map_congr_left fun y _ => ?_
  by_cases h : y = x
  · rw [if_pos h, hb, h]
  · rw [if_neg h]
    unfold seenI gnT
    rw [if_neg h]
theorem put_row (O : List Nd) (on : Stamp → Int) (gn : Id → Int) (k : Nat) (nd : Nd) {q : Bool} (hq : q = seenI on gn nd.2.id) : putR (rowV O on gn) k nd.2.id q = rowV (O.take k ++ nd :: O.drop k) on gn := by
  unfold putR rowV idsO
  rw [hq]
  simp [List.map_take, List.map_drop]
end Go.Proofs.YtphapjbfaomblaaDoor
/- A sheet as its callers see it. -/
namespace Go.Proofs.YtphapjbfaomblaaDoor
open Go Go.RowKit Go.Maps Go.ChangeMaps
structure ShtP (Es : List En) (O : List Nd) (on : Stamp → Int) (gn : Id → Int) (c : Nat) : Prop where
  ord : OrdE Es O
  dp : ∀ nd ∈ O, ∀ e ∈ Es, e.id = nd.2.id → e.dp = nd.1.length
  gnE : ∀ e ∈ Es, e.gn = gn e.id
  gn0 : ∀ x, (∀ e ∈ Es, e.id ≠ x) → gn x = 0
  nz : ∀ e ∈ Es, e.id ≠ zeroI
  clo : ∀ e ∈ Es, e.af = zeroI ∨ ∃ f ∈ Es, f.id = e.af
  all : ∀ e ∈ Es, ∃ nd ∈ O, nd.2 = elOf e
  len : Es.length ≤ c ∧ O.length ≤ c
  dpb : ∀ e ∈ Es, e.dp ≤ c
  onb : ∀ s, -(c : Int) ≤ on s ∧ on s ≤ c
  gnb : ∀ x, -(c : Int) ≤ gn x ∧ gn x ≤ c
/-- a sheet laid since w0, and blocks of the caller's that it does not hold -/
def Sht (w0 : World) (P : Nat → Prop) (p : Loc) (c : Nat) (F : List El) (O : List Nd) (on : Stamp → Int) (gn : Id → Int) (w : World) : Prop :=
  ∃ Fs Es n m n2 D Dr hd Dn, ShtIs w p Fs Es on (rowV O on gn) n m n2 D Dr hd Dn ∧ ShtP Es O on gn c ∧ Es.map elOf = F ∧ (n ≤ c ∧ m ≤ c ∧ n2 ≤ c) ∧ (∀ k, sfoot p Fs Es hd k → w0.heap.size ≤ k) ∧ (∀ k, P k → k < w.heap.size ∧ ¬ sfoot p Fs Es hd k) ∧ Below w0.heap.size w0 w
section
variable {w0 w w' : World} {P P' : Nat → Prop} {p : Loc} {c : Nat} {F : List El} {O : List Nd} {on : Stamp → Int} {gn : Id → Int}
abbrev Tch (w0 : World) (P : Nat → Prop) (w w' : World) : Prop := Touch (fun k => w0.heap.size ≤ k ∧ ¬ P k) w w'
theorem Sht.out (h : Sht w0 P p c F O on gn w) : Below w0.heap.size w0 w := by
  obtain ⟨_, _, _, _, _, _, _, _, _, _, _, _, _, _, _, h⟩ := h
  exact h
/-- the caller turns its own blocks, and lays new ones -/
theorem Sht.go (h : Sht w0 P p c F O on gn w) (t : Touch (fun k => P k ∧ w0.heap.size ≤ k) w w') (hP : ∀ k, P' k → P k ∨ (w.heap.size ≤ k ∧ k < w'.heap.size)) : Sht w0 P' p c F O on gn w' := by
  obtain ⟨Fs, Es, n, m, n2, D, Dr, hd, Dn, h1, h2, h3, h4, h5, h6, h7⟩ := h
  refine ⟨Fs, Es, n, m, n2, D, Dr, hd, Dn, h1.touch t (fun k hk hF => (h6 k hF.1).2 hk), h2, h3, h4, h5, fun k hk => ?_, h7.trans (t.below h7.size (fun x hx hF => by omega))⟩
  rcases hP k hk with h | h
  · exact ⟨Nat.lt_of_lt_of_le (h6 k h).1 t.size, (h6 k h).2⟩
  · exact ⟨h.2, fun hs => by have := h1.lt hs; omega⟩
theorem Sht.below (h : Sht w0 P p c F O on gn w) (hb : Below w.heap.size w w') : Sht w0 P p c F O on gn w' := h.go (Below.touch hb _) (fun _ h => .inl h)
theorem Sht.more (h : Sht w0 P p c F O on gn w) {c' : Nat} (hc : c ≤ c') : Sht w0 P p c' F O on gn w := by
  obtain ⟨Fs, Es, n, m, n2, D, Dr, hd, Dn, h1, h2, h3, h4, h5, h6, h7⟩ := h
  exact ⟨Fs, Es, n, m, n2, D, Dr, hd, Dn, h1, { h2 with len := ⟨Nat.le_trans h2.len.1 hc, Nat.le_trans h2.len.2 hc⟩, dpb := fun e he => Nat.le_trans (h2.dpb e he) hc, onb := fun s => by have := h2.onb s; omega, gnb := fun s => by have := h2.gnb s; omega }, h3, ⟨Nat.le_trans h4.1 hc, Nat.le_trans h4.2.1 hc, Nat.le_trans h4.2.2 hc⟩, h5, h6, h7⟩
theorem shelf_nodup {w : World} {Fs : Nat → Prop} {sb : Nat} {R : Row Id} (h : ShelfAt w Fs sb R) : (namesR R).Nodup := by
  obtain ⟨_, _, _, _, _, _, hT, _⟩ := h
  exact hT.nodup
theorem ShtP.inO {Es : List En} (h : ShtP Es O on gn c) {e : En} (he : e ∈ Es) : e.id ∈ idsO O := by
  obtain ⟨nd, hnd, h1⟩ := h.all e he
  exact List.mem_map.2 ⟨nd, hnd, by rw [h1]; rfl⟩
theorem ShtP.ofO {Es : List En} (h : ShtP Es O on gn c) {y : Id} (hy : y ∈ idsO O) : ∃ e ∈ Es, e.id = y := by
  obtain ⟨nd, hnd, rfl⟩ := List.mem_map.1 hy
  obtain ⟨e, he, h1⟩ := List.mem_map.1 ((h.ord.2 nd).1 hnd).1
  exact ⟨e, he, by rw [← h1]; rfl⟩
theorem Sht.set (h : Sht w0 P p c F O on gn w) (s : Stamp) (q : Bool) (hc : c ≤ 4000) :
    Calls Tryd.prog 25 #[.pointer (some ⟨p.sh, 0, none⟩), stV s, .bool q] w fun r w' => (∃ v, r = .returned v) ∧ Sht w0 P p (c + 1) F O (onT on s (if q then 1 else -1)) gn w' ∧ Tch w0 P w w' := by
  obtain ⟨Fs, Es, n, m, n2, D, Dr, hd, Dn, h1, h2, h3, h4, h5, h6, h7⟩ := h
  have hb := h2.onb s
  refine (set_any h1 s q (fun e he => by rw [rowV_names]; exact h2.inO he) (by rw [rowV_len]; have := h2.len.2; omega) (by have := h2.len.1; omega) (by omega) (by omega)).mono ?_
  rintro r w' ⟨hr, ⟨Dn', hs⟩, ht⟩
  have hn : (idsO O).Nodup := by rw [← rowV_names O on gn]; exact shelf_nodup h1.shelf
  rw [shown_row hn (fun y hy => h2.ofO hy) (fun e he => h2.inO he) h2.gnE] at hs
  have hF : ∀ k, (Fs k ∨ k = p.mn) → sfoot p Fs Es hd k := fun k hk => hk.elim (fun h => .inr (.inr (.inr (.inr (.inl h))))) (fun h => .inr (.inr (.inr (.inl h))))
  refine ⟨hr, ⟨Fs, Es, n, m, n2 + 1, D, Dr, hd, Dn', hs, { h2 with len := ⟨by have := h2.len.1; omega, by have := h2.len.2; omega⟩, dpb := fun e he => by have := h2.dpb e he; omega, onb := fun t => ?_, gnb := fun t => by have := h2.gnb t; omega }, h3, ⟨by omega, by omega, by omega⟩, h5, fun k hk => ⟨Nat.lt_of_lt_of_le (h6 k hk).1 ht.size, (h6 k hk).2⟩, h7.trans (ht.below h7.size (fun k hk hk2 => by have := h5 k (hF k hk2); omega))⟩, ht.mono (fun k _ hk => ⟨h5 k (hF k hk), fun hp => (h6 k hp).2 (hF k hk)⟩)⟩
  have := h2.onb t
  unfold onT
  split
  · split <;> omega
  · omega
theorem Sht.len (h : Sht w0 P p c F O on gn w) : Calls Tryd.prog 31 #[.pointer (some ⟨p.sh, 0, none⟩)] w fun r w' => r = .returned (.int .i64 (cntR (rowV O on gn) : Nat)) ∧ w' = w := by
  obtain ⟨Fs, Es, n, m, n2, D, Dr, hd, Dn, h1, _⟩ := h
  exact len_any h1
theorem Sht.at (h : Sht w0 P p c F O on gn w) (hc : c ≤ 5000) (k : Int) : Calls Tryd.prog 34 #[.pointer (some ⟨p.sh, 0, none⟩), .int .i64 k] w fun r w' => r = .returned (.tuple #[idV (findV (rowV O on gn) k).1, .int .i64 (findV (rowV O on gn) k).2]) ∧ Below w.heap.size w w' := by
  obtain ⟨Fs, Es, n, m, n2, D, Dr, hd, Dn, h1, h2, _⟩ := h
  exact shAt_any h1 (by rw [rowV_len]; have := h2.len.2; omega) k
theorem Sht.behind (h : Sht w0 P p c F O on gn w) (hc : c ≤ 5000) (k : Int) (hk : k ≤ 1000000) : Calls Tryd.prog 35 #[.pointer (some ⟨p.sh, 0, none⟩), .int .i64 k] w fun r w' => r = .returned (.tuple #[idV (behV (rowV O on gn) k).1, .int .i64 (behV (rowV O on gn) k).2]) ∧ Below w.heap.size w w' := by
  obtain ⟨Fs, Es, n, m, n2, D, Dr, hd, Dn, h1, h2, _⟩ := h
  exact shBehind_any h1 (by rw [rowV_len]; have := h2.len.2; omega) k hk
theorem Sht.take (h : Sht w0 P p c F O on gn w) (x : Id) (q : Bool) (hc : c ≤ 4000) :
    Calls Tryd.prog 27 #[.pointer (some ⟨p.sh, 0, none⟩), idV x, .bool q] w fun r w' => r = .returned (.int .i64 (if x ∈ F.map El.id then 0 else 111)) ∧
      Sht w0 P p (c + 1) F O on (if x ∈ F.map El.id then gnT gn x (if q then 1 else -1) else gn) w' ∧ Tch w0 P w w' := by
  have hS := h
  obtain ⟨Fs, Es, n, m, n2, D, Dr, hd, Dn, h1, h2, h3, h4, h5, h6, h7⟩ := h
  by_cases hx : x ∈ F.map El.id
  · rw [if_pos hx, if_pos hx]
    obtain ⟨e, he, rfl⟩ : ∃ e ∈ Es, e.id = x := by
      rw [← h3, List.map_map] at hx
      obtain ⟨e, he, h⟩ := List.mem_map.1 hx
      exact ⟨e, he, h⟩
    have hgb := h2.gnb e.id
    have hge := h2.gnE e he
    refine (take_any h1 he (by rw [rowV_names]; exact h2.inO he) (by rw [rowV_len]; have := h2.len.2; omega) (by rw [hge]; omega) q).mono ?_
    rintro r w' ⟨rfl, hs, ht⟩
    have hn : (idsO O).Nodup := by rw [← rowV_names O on gn]; exact shelf_nodup h1.shelf
    rw [show_row hn (h2.inO he) (if q then 1 else -1) (by unfold seenV seenI gnT; rw [if_pos rfl, hge])] at hs
    have hF : ∀ k, (Fs k ∨ k = e.ad) → sfoot p Fs Es hd k := fun k hk => hk.elim (fun h => .inr (.inr (.inr (.inr (.inl h))))) (fun h => .inr (.inr (.inr (.inr (.inr (.inl ⟨e, he, h⟩))))))
    have hmem : ∀ a ∈ gone1 Es e.id (e.gn + if q then 1 else -1), ∃ a0 ∈ Es, a.ad = a0.ad ∧ a.id = a0.id ∧ a.af = a0.af ∧ a.dp = a0.dp ∧ a.gn = gnT gn e.id (if q then 1 else -1) a.id := fun a ha => by
      obtain ⟨a0, ha0, rfl⟩ := List.mem_map.1 ha
      refine ⟨a0, ha0, ?_⟩
      by_cases hid : a0.id = e.id
      · rw [if_pos hid]
        refine ⟨rfl, rfl, rfl, rfl, ?_⟩
        unfold gnT
        rw [if_pos hid, hge]
      · rw [if_neg hid]
        refine ⟨rfl, rfl, rfl, rfl, ?_⟩
        unfold gnT
        rw [if_neg hid]
        exact h2.gnE a0 ha0
    have helO : (gone1 Es e.id (e.gn + if q then 1 else -1)).map elOf = Es.map elOf := by
      unfold gone1
      rw [List.map_map]
      refine List.map_congr_left fun a _ => ?_
      show elOf (if a.id = e.id then { a with gn := e.gn + if q then 1 else -1 } else a) = elOf a
      split <;> rfl
    have hidm : ∀ x, (∃ a ∈ Es, a.id = x) → ∃ a ∈ gone1 Es e.id (e.gn + if q then 1 else -1), a.id = x := fun x ⟨a, ha, h⟩ => by
      have := gone1_ids Es e.id (e.gn + if q then 1 else -1)
      have hm : x ∈ Es.map En.id := List.mem_map.2 ⟨a, ha, h⟩
      rw [← this] at hm
      obtain ⟨b, hb, hh⟩ := List.mem_map.1 hm
      exact ⟨b, hb, hh⟩
    refine ⟨rfl, ⟨Fs, _, n, m, n2, D, Dr, hd, Dn, hs, ?_, by rw [helO]; exact h3, ⟨by omega, by omega, by omega⟩, ?_, ?_, h7.trans (ht.below h7.size (fun k hk hk2 => by have := h5 k (hF k hk2); omega))⟩, ht.mono (fun k _ hk => ⟨h5 k (hF k hk), fun hp => (h6 k hp).2 (hF k hk)⟩)⟩
    · exact {
        ord := by unfold OrdE; rw [helO]; exact h2.ord
        dp := fun nd hnd a ha hid => by obtain ⟨a0, ha0, e1, e2, e3, e4, e5⟩ := hmem a ha; rw [e4]; exact h2.dp nd hnd a0 ha0 (e2 ▸ hid)
        gnE := fun a ha => (hmem a ha).choose_spec.2.2.2.2.2
        gn0 := fun x hx => by
          unfold gnT
          rw [if_neg (fun h => by obtain ⟨b, hb, hh⟩ := hidm x ⟨e, he, h.symm⟩; exact hx b hb hh)]
          exact h2.gn0 x (fun a ha h => by obtain ⟨b, hb, hh⟩ := hidm x ⟨a, ha, h⟩; exact hx b hb hh)
        nz := fun a ha => by obtain ⟨a0, ha0, e1, e2, _⟩ := hmem a ha; rw [e2]; exact h2.nz a0 ha0
        clo := fun a ha => by obtain ⟨a0, ha0, e1, e2, e3, _⟩ := hmem a ha; rw [e3]; exact (h2.clo a0 ha0).imp id (hidm _)
        all := fun a ha => by
          have : elOf a ∈ Es.map elOf := by rw [← helO]; exact List.mem_map.2 ⟨a, ha, rfl⟩
          obtain ⟨a0, ha0, h⟩ := List.mem_map.1 this
          rw [← h]
          exact h2.all a0 ha0
        len := ⟨by have := h2.len.1; simp [gone1]; omega, by have := h2.len.2; omega⟩
        dpb := fun a ha => by obtain ⟨a0, ha0, e1, e2, e3, e4, e5⟩ := hmem a ha; rw [e4]; have := h2.dpb a0 ha0; omega
        onb := fun s => by have := h2.onb s; omega
        gnb := fun s => by
          have := h2.gnb s
          unfold gnT
          split
          · split <;> omega
          · omega }
    · exact fun k hk => h5 k (by
        rcases hk with hk | hk | hk | hk | hk | ⟨a, ha, hk⟩ | hk
        · exact .inl hk
        · exact .inr (.inl hk)
        · exact .inr (.inr (.inl hk))
        · exact .inr (.inr (.inr (.inl hk)))
        · exact .inr (.inr (.inr (.inr (.inl hk))))
        · obtain ⟨a0, ha0, e1, _⟩ := hmem a ha
          exact .inr (.inr (.inr (.inr (.inr (.inl ⟨a0, ha0, hk.trans e1⟩)))))
        · exact .inr (.inr (.inr (.inr (.inr (.inr hk))))))
    · exact fun k hk => ⟨Nat.lt_of_lt_of_le (h6 k hk).1 ht.size, fun hs => (h6 k hk).2 (by
        rcases hs with hk | hk | hk | hk | hk | ⟨a, ha, hk⟩ | hk
        · exact .inl hk
        · exact .inr (.inl hk)
        · exact .inr (.inr (.inl hk))
        · exact .inr (.inr (.inr (.inl hk)))
        · exact .inr (.inr (.inr (.inr (.inl hk))))
        · obtain ⟨a0, ha0, e1, _⟩ := hmem a ha
          exact .inr (.inr (.inr (.inr (.inr (.inl ⟨a0, ha0, hk.trans e1⟩)))))
        · exact .inr (.inr (.inr (.inr (.inr (.inr hk))))))⟩
  · rw [if_neg hx, if_neg hx]
    refine (take_none h1 x (fun e he h => hx (by rw [← h3, List.map_map]; exact List.mem_map.2 ⟨e, he, h⟩)) q).mono ?_
    rintro r w' ⟨rfl, hb⟩
    exact ⟨rfl, (hS.below hb).more (Nat.le_succ c), Below.touch hb _⟩
end
end Go.Proofs.YtphapjbfaomblaaDoor
/- A sheet as its callers see it: New, Text, put. -/
namespace Go.Proofs.YtphapjbfaomblaaDoor
open Go Go.RowKit Go.Maps Go.ChangeMaps
section
variable {w0 w w' : World} {P P' : Nat → Prop} {p : Loc} {c : Nat} {F : List El} {O : List Nd} {on : Stamp → Int} {gn : Id → Int}
theorem Sht.new (hb0 : Below w0.heap.size w0 w) (hP : ∀ k, P k → k < w.heap.size) : Calls Tryd.prog 22 #[] w fun e w' => ∃ p, e = .returned (.pointer (some ⟨Loc.sh p, 0, none⟩)) ∧ Sht w0 P p 0 [] [] (fun _ => 0) (fun _ => 0) w' ∧ Below w.heap.size w w' := by
  refine (sheet_new w).mono ?_
  rintro e w' ⟨p, Fs, rfl, h1, h2, h3⟩
  refine ⟨p, rfl, ⟨Fs, [], 0, 0, 0, _, _, _, _, h1, ?_, rfl, ⟨Nat.le_refl _, Nat.le_refl _, Nat.le_refl _⟩, fun k hk => Nat.le_trans hb0.size (h2 k hk), fun k hk => ⟨Nat.lt_of_lt_of_le (hP k hk) h3.size, fun hs => by have := h2 k hs; have := hP k hk; omega⟩, hb0.trans (h3.mono hb0.size)⟩, h3⟩
  exact {
    ord := ⟨List.Pairwise.nil, fun nd => ⟨(fun h => (by cases h)), (fun h => (by have := h.1; simp at this))⟩⟩
    dp := fun nd hnd => by cases hnd
    gnE := fun e he => by cases he
    gn0 := fun _ _ => rfl
    nz := fun e he => by cases he
    clo := fun e he => by cases he
    all := fun e he => by cases he
    len := ⟨Nat.le_refl _, Nat.le_refl _⟩
    dpb := fun e he => by cases he
    onb := fun _ => ⟨by omega, by omega⟩
    gnb := fun _ => ⟨by omega, by omega⟩ }
/-- what is seen of a sheet -/
def seenO (O : List Nd) (on : Stamp → Int) (gn : Id → Int) : List El := (O.map (·.2)).filter (fun e => seenI on gn e.id)
theorem listR_true (O : List Nd) (on : Stamp → Int) (gn : Id → Int) : listR (rowV O on gn) true = (seenO O on gn).map El.id := by
  unfold listR rowV seenO idsO namesR
  induction O with
  | nil => rfl
  | cons nd O ih =>
    simp only [List.map_cons, List.filter_cons, Bool.not_true, Bool.or_false] at ih ⊢
    cases h : seenI on gn nd.2.id
    · simpa using ih
    · simp only [if_true, List.map_cons]
      rw [ih]
theorem cnt_row (O : List Nd) (on : Stamp → Int) (gn : Id → Int) : cntR (rowV O on gn) = (seenO O on gn).length := by
  unfold cntR rowV seenO idsO
  rw [List.countP_map, List.countP_map, ← List.countP_eq_length_filter, List.countP_map]
  rfl
theorem Sht.text (h : Sht w0 P p c F O on gn w) (hc : c ≤ 5000) (hx : (txt (seenO O on gn)).length ≤ 1000000000) : Calls Tryd.prog 29 #[.pointer (some ⟨p.sh, 0, none⟩)] w fun r w' => r = .returned (.string (ofL (txt (seenO O on gn)))) ∧ Below w.heap.size w w' := by
  obtain ⟨Fs, Es, n, m, n2, D, Dr, hd, Dn, h1, h2, h3, h4, h5, h6, h7⟩ := h
  have hE : ∀ a ∈ seenO O on gn, ∃ e ∈ Es, elOf e = a := fun a ha => by
    obtain ⟨nd, hnd, rfl⟩ := List.mem_map.1 (List.mem_filter.1 ha).1
    exact List.mem_map.1 ((h2.ord.2 nd).1 hnd).1
  have hp : ptx Es (listR (rowV O on gn) true) = txt (seenO O on gn) := by
    rw [listR_true]
    unfold ptx txt
    rw [List.map_map]
    congr 1
    refine List.map_congr_left fun a ha => ?_
    obtain ⟨e, he, rfl⟩ := hE a ha
    exact pieceV_at h1.uniq he
  have := text_any h1 (by rw [rowV_len]; have := h2.len.2; omega) (fun x hx => by
    rw [listR_true] at hx
    obtain ⟨a, ha, rfl⟩ := List.mem_map.1 hx
    obtain ⟨e, he, rfl⟩ := hE a ha
    exact ⟨e, he, rfl⟩) (by rw [hp]; exact hx)
  rw [hp] at this
  exact this
theorem Sht.put (h : Sht w0 P p c F O on gn w) (x af : Id) (pc : ByteArray) (hc : c ≤ 4000) (hx : x ∉ F.map El.id) (hxz : x ≠ zeroI) (haf : af = zeroI ∨ af ∈ F.map El.id) :
    Calls Tryd.prog 48 #[.pointer (some ⟨p.sh, 0, none⟩), idV x, idV af, .string pc] w fun r w' => (∃ v, r = .returned v) ∧ (∃ O', Sht w0 P p (c + 1) (F ++ [⟨x, af, pc⟩]) O' on gn w') ∧ Tch w0 P w w' := by
  obtain ⟨Fs, Es, n, m, n2, D, Dr, hd, Dn, h1, h2, h3, h4, h5, h6, h7⟩ := h
  have hidF : ∀ y, y ∈ F.map El.id ↔ ∃ e ∈ Es, e.id = y := fun y => by
    rw [← h3, List.map_map]
    exact List.mem_map
  have hxn : ∀ e ∈ Es, e.id ≠ x := fun e he h => hx ((hidF x).2 ⟨e, he, h⟩)
  have hpt : ∃ pth, ((af = zeroI ∧ pth = []) ∨ ∃ hj : ixR (rowV O on gn) af < O.length, O[ixR (rowV O on gn) af].2.id = af ∧ pth = O[ixR (rowV O on gn) af].1) ∧ IsPath El.id El.af zeroI (fun e => e ∈ Es.map elOf) pth af := by
    rcases haf with haf | haf
    · exact ⟨[], .inl ⟨haf, rfl⟩, by rw [haf]; exact .root⟩
    · obtain ⟨e, he, rfl⟩ := (hidF af).1 haf
      have hm : e.id ∈ namesR (rowV O on gn) := by rw [rowV_names]; exact h2.inO he
      have hj : ixR (rowV O on gn) e.id < O.length := by have := ixR_lt.2 hm; rwa [rowV_len] at this
      have hid : O[ixR (rowV O on gn) e.id].2.id = e.id := by
        have h9 := ixR_get (ixR_lt.2 hm)
        simpa [rowV, idsO] using h9
      refine ⟨_, .inr ⟨hj, hid, rfl⟩, ?_⟩
      have := node_path ((h2.ord.2 _).1 (List.getElem_mem hj))
      rw [hid] at this
      exact this
  obtain ⟨pth, hp0, hpa⟩ := hpt
  have hl1 := h2.len.1
  have hl2 := h2.len.2
  refine (shPut_any h1 x af pc hxn h2.nz h2.ord (by rw [rowV_names]; rfl) h2.dp hp0 (by rw [rowV_len]; omega) (by omega) (fun e he => by have := h2.dpb e he; omega) (by omega) (by omega)).mono ?_
  rintro r w' ⟨hr, k, ad, Fs', D', Dr', hd', q, hk, hs, hq, ht, hft⟩
  have hgx : gn x = 0 := h2.gn0 x hxn
  have hq2 : q = seenI on gn x := by rw [hq]; unfold seenI; rw [hgx]; simp
  have hrow := put_row O on gn k (pth ++ [x], ⟨x, af, pc⟩) (q := q) hq2
  dsimp only at hrow
  rw [hrow] at hs
  have hdpl : pth.length ≤ c := by
    rcases hp0 with ⟨_, h⟩ | ⟨hj, hid, h⟩
    · rw [h]; exact Nat.zero_le _
    · obtain ⟨e, he, h9⟩ := h2.ofO (List.mem_map.2 ⟨_, List.getElem_mem hj, rfl⟩)
      rw [h, ← h2.dp _ (List.getElem_mem hj) e he h9]
      exact h2.dpb e he
  have hNew : NewOne El.id El.af zeroI (fun e => e ∈ Es.map elOf) ⟨x, af, pc⟩ := {
    fresh := fun e he h => by
      obtain ⟨e0, he0, rfl⟩ := List.mem_map.1 he
      exact hxn e0 he0 h
    nz := hxz
    behind := haf.imp id (fun h => by
      obtain ⟨e, he, h9⟩ := (hidF af).1 h
      exact ⟨elOf e, List.mem_map.2 ⟨e, he, rfl⟩, h9⟩)
    closed := fun e he => by
      obtain ⟨e0, he0, rfl⟩ := List.mem_map.1 he
      exact (h2.clo e0 he0).imp id (fun ⟨f, hf, h⟩ => ⟨elOf f, List.mem_map.2 ⟨f, hf, rfl⟩, h⟩) }
  have hN : Names El.id zeroI (fun e => e ∈ Es.map elOf) := ⟨fun e f he hf h => by
      obtain ⟨e0, he0, rfl⟩ := List.mem_map.1 he
      obtain ⟨f0, hf0, rfl⟩ := List.mem_map.1 hf
      rw [en_one h1.uniq he0 hf0 h], fun e he => by
      obtain ⟨e0, he0, rfl⟩ := List.mem_map.1 he
      exact h2.nz e0 he0⟩
  have hO' := put_order h2.ord hNew hpa hN hk
  have hpred : (fun e : El => e ∈ Es.map elOf ∨ e = ⟨x, af, pc⟩) = fun e => e ∈ (Es ++ [(⟨ad, x, af, pc, pth.length + 1, 0⟩ : En)]).map elOf := by
    funext e
    rw [List.map_append, List.mem_append]
    simp [elOf]
  rw [hpred] at hO'
  have hmO : ∀ nd, nd ∈ O.take k ++ (pth ++ [x], (⟨x, af, pc⟩ : El)) :: O.drop k ↔ nd ∈ O ∨ nd = (pth ++ [x], ⟨x, af, pc⟩) := fun nd => by
    have : nd ∈ O ↔ nd ∈ O.take k ∨ nd ∈ O.drop k := by rw [← List.mem_append, List.take_append_drop]
    rw [List.mem_append, List.mem_cons, this]
    constructor
    · rintro (h | h | h)
      · exact .inl (.inl h)
      · exact .inr h
      · exact .inl (.inr h)
    · rintro ((h | h) | h)
      · exact .inl h
      · exact .inr (.inr h)
      · exact .inr (.inl h)
  have hsf : ∀ j, sfoot p Fs Es hd j → w0.heap.size ≤ j ∧ ¬ P j := fun j hj => ⟨h5 j hj, fun hp => (h6 j hp).2 hj⟩
  refine ⟨hr, ⟨_, Fs', _, n + 1, m + 1, n2, D', Dr', hd', Dn, hs, ?_, by rw [List.map_append, h3]; rfl, ⟨by omega, by omega, by omega⟩, fun j hj => ?_, fun j hj => ⟨Nat.lt_of_lt_of_le (h6 j hj).1 ht.size, fun hsj => ?_⟩, h7.trans (ht.below h7.size (fun j hj hj2 => by have := h5 j hj2; omega))⟩, ht.mono (fun j _ hj => hsf j hj)⟩
  · exact {
      ord := hO'
      dp := fun nd hnd e he hid => by
        rcases (hmO nd).1 hnd with h | rfl
        · rcases List.mem_append.1 he with h' | h'
          · exact h2.dp nd h e h' hid
          · rw [List.mem_singleton.1 h'] at hid
            obtain ⟨a, ha, h9⟩ := h2.ofO (List.mem_map.2 ⟨nd, h, rfl⟩)
            exact absurd (h9.trans hid.symm) (hxn a ha)
        · rcases List.mem_append.1 he with h' | h'
          · exact absurd hid (hxn e h')
          · rw [List.mem_singleton.1 h']
            simp
      gnE := fun e he => by
        rcases List.mem_append.1 he with h' | h'
        · exact h2.gnE e h'
        · rw [List.mem_singleton.1 h']; exact hgx.symm
      gn0 := fun y hy => h2.gn0 y (fun e he => hy e (List.mem_append_left _ he))
      nz := fun e he => by
        rcases List.mem_append.1 he with h' | h'
        · exact h2.nz e h'
        · rw [List.mem_singleton.1 h']; exact hxz
      clo := fun e he => by
        rcases List.mem_append.1 he with h' | h'
        · exact (h2.clo e h').imp id (fun ⟨f, hf, h⟩ => ⟨f, List.mem_append_left _ hf, h⟩)
        · rw [List.mem_singleton.1 h']
          exact haf.imp id (fun h => by
            obtain ⟨f, hf, h9⟩ := (hidF af).1 h
            exact ⟨f, List.mem_append_left _ hf, h9⟩)
      all := fun e he => by
        rcases List.mem_append.1 he with h' | h'
        · obtain ⟨nd, hnd, h9⟩ := h2.all e h'
          exact ⟨nd, (hmO nd).2 (.inl hnd), h9⟩
        · rw [List.mem_singleton.1 h']
          exact ⟨_, (hmO _).2 (.inr rfl), rfl⟩
      len := ⟨by simp; omega, by have := hk.1; simp; omega⟩
      dpb := fun e he => by
        rcases List.mem_append.1 he with h' | h'
        · have := h2.dpb e h'; omega
        · rw [List.mem_singleton.1 h']; dsimp only; omega
      onb := fun s => by have := h2.onb s; omega
      gnb := fun s => by have := h2.gnb s; omega }
  · rcases hft j hj with h | h
    · exact h5 j h
    · exact Nat.le_trans h7.size h
  · rcases hft j hsj with h | h
    · exact (h6 j hj).2 h
    · have := (h6 j hj).1; omega
end
end Go.Proofs.YtphapjbfaomblaaDoor
