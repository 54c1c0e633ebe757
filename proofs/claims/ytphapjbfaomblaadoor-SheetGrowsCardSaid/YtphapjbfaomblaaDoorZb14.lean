/- Texts of this seat, one behind the other: JC, JD, JE, JF. -/
import Derived.Test.YtphapjbfaomblaaDoorZb13
/- A sheet in memory: its shelf, its elements, its three maps; what a write to one of them leaves. -/
namespace Go.Proofs.YtphapjbfaomblaaDoor
open Go Go.RowKit Go.Maps Go.ChangeMaps
structure En where
  ad : Nat
  id : Id
  af : Id
  pc : ByteArray
  dp : Nat
  gn : Int
def enCs (e : En) : Array Value := #[.string e.pc, .int .i64 e.af.s.T, .int .i64 e.af.s.R, .int .i64 e.af.I, .int .i64 (e.dp : Int), .int .i64 e.gn]
def elF (Es : List En) (x : Id) : Option (Option Nat) := (Es.find? (fun e => decide (e.id = x))).map (fun e => some e.ad)
def ofs (Es : List En) (s : Stamp) : List Id := (Es.filter (fun e => decide (e.id.s = s))).map En.id
structure Loc where
  sh : Nat
  rb : Nat
  ma : Nat
  mo : Nat
  mn : Nat
structure ShtIs (w : World) (p : Loc) (Fs : Nat → Prop) (Es : List En) (on : Stamp → Int) (R : Row Id) (n m n2 : Nat) (D : DataW (Option Nat)) (Dr : DataW Hd) (hd : Stamp → Hd) (Dn : DataW HH) : Prop where
  cell : w.heap[p.sh]? = some (.cells #[.pointer (some ⟨p.rb, 0, none⟩), .map (some p.ma), .map (some p.mo), .map (some p.mn)] 91 (0, 0))
  shelf : ShelfAt w Fs p.rb R
  all : w.ownsMap Tryd.prog 26 (objElem ptV) p.ma n D
  fm : FMap idK (elF Es) D
  els : ∀ e ∈ Es, w.heap[e.ad]? = some (.cells (enCs e) 102 (0, 0))
  ads : Es.Pairwise (fun a b => a.ad ≠ b.ad)
  of : SRows w 0 p.mo m Dr hd (ofs Es)
  onm : w.ownsMap Tryd.prog 24 (plainElem (H := HH) Tryd.prog 3) p.mn n2 Dn
  ct : ∀ s, Dn.atKey (stK s) (.lit (.int .i64 0)) = .lit (.int .i64 (on s))
  maps : p.ma ≠ p.mo ∧ p.ma ≠ p.mn ∧ p.mo ≠ p.mn
  apart : ∀ k, Fs k → k ≠ p.sh ∧ k ≠ p.ma ∧ k ≠ p.mo ∧ k ≠ p.mn ∧ (∀ e ∈ Es, k ≠ e.ad) ∧ ∀ s, (hdV (hd s)).ownBlock ≠ some k
  uniq : Es.Pairwise (fun a b => a.id ≠ b.id)
/-- a sheet's blocks -/
def sfoot (p : Loc) (Fs : Nat → Prop) (Es : List En) (hd : Stamp → Hd) (k : Nat) : Prop := k = p.sh ∨ k = p.ma ∨ k = p.mo ∨ k = p.mn ∨ Fs k ∨ (∃ e ∈ Es, k = e.ad) ∨ ∃ s, (hdV (hd s)).ownBlock = some k
section
variable {w w' : World} {p : Loc} {Fs Fs' : Nat → Prop} {Es : List En} {on : Stamp → Int} {R R' : Row Id} {n m n2 : Nat} {D : DataW (Option Nat)} {Dr : DataW Hd} {hd : Stamp → Hd} {Dn : DataW HH}
theorem ShtIs.lt (h : ShtIs w p Fs Es on R n m n2 D Dr hd Dn) {k : Nat} (hk : sfoot p Fs Es hd k) : k < w.heap.size := by
  have hmap : ∀ {k}, (∃ es c, w.heap[k]? = some (.map es c)) → k < w.heap.size := fun ⟨es, c, h⟩ => (Array.getElem?_eq_some_iff.1 h).1
  rcases hk with rfl | rfl | rfl | rfl | hk | ⟨e, he, rfl⟩ | ⟨s, hk⟩
  · exact kind_lt (kind_cell h.cell)
  · obtain ⟨es, c, h1, _⟩ := h.all; exact hmap ⟨es, c, h1⟩
  · exact hmap h.of.isMap
  · obtain ⟨es, c, h1, _⟩ := h.onm; exact hmap ⟨es, c, h1⟩
  · obtain ⟨_, _, _, _, _, _, _, _, h4, _⟩ := h.shelf; exact h4 k hk
  · exact kind_lt (kind_cell (h.els e he))
  · exact own_lt (h.of.rows s) k hk
theorem ShtIs.touch {F : Nat → Prop} (h : ShtIs w p Fs Es on R n m n2 D Dr hd Dn) (t : Touch F w w') (hF : ∀ k, sfoot p Fs Es hd k → ¬ F k) : ShtIs w' p Fs Es on R n m n2 D Dr hd Dn where
  cell := block_touch h.cell t (hF _ (.inl rfl))
  shelf := h.shelf.touch t (fun k hk => hF k (.inr (.inr (.inr (.inr (.inl hk))))))
  all := map_touch h.all t (hF _ (.inr (.inl rfl)))
  fm := h.fm
  els := fun e he => block_touch (h.els e he) t (hF _ (.inr (.inr (.inr (.inr (.inr (.inl ⟨e, he, rfl⟩)))))))
  ads := h.ads
  of := h.of.touch t (hF _ (.inr (.inr (.inl rfl)))) (fun s g hg => hF g (.inr (.inr (.inr (.inr (.inr (.inr ⟨s, hg⟩)))))))
  onm := map_touch h.onm t (hF _ (.inr (.inr (.inr (.inl rfl)))))
  ct := h.ct
  maps := h.maps
  apart := h.apart
  uniq := h.uniq
theorem ShtIs.below (h : ShtIs w p Fs Es on R n m n2 D Dr hd Dn) (hb : Below w.heap.size w w') : ShtIs w' p Fs Es on R n m n2 D Dr hd Dn :=
  h.touch (Below.touch hb (fun _ => False)) (fun _ _ h => h)
/-- the shelf is written -/
theorem ShtIs.row (h : ShtIs w p Fs Es on R n m n2 D Dr hd Dn) (t : Touch Fs w w') (hs : ShelfAt w' Fs' p.rb R') (hF : ∀ k, Fs' k → Fs k ∨ w.heap.size ≤ k) : ShtIs w' p Fs' Es on R' n m n2 D Dr hd Dn where
  cell := block_touch h.cell t (fun hk => (h.apart _ hk).1 rfl)
  shelf := hs
  all := map_touch h.all t (fun hk => (h.apart _ hk).2.1 rfl)
  fm := h.fm
  els := fun e he => block_touch (h.els e he) t (fun hk => (h.apart _ hk).2.2.2.2.1 e he rfl)
  ads := h.ads
  of := h.of.touch t (fun hk => (h.apart _ hk).2.2.1 rfl) (fun s g hg hk => (h.apart _ hk).2.2.2.2.2 s hg)
  onm := map_touch h.onm t (fun hk => (h.apart _ hk).2.2.2.1 rfl)
  ct := h.ct
  maps := h.maps
  apart := fun k hk => by
    rcases hF k hk with h1 | h1
    · exact h.apart k h1
    · have hne : ∀ j, sfoot p Fs Es hd j → k ≠ j := fun j hj e => by have := h.lt hj; omega
      exact ⟨hne _ (.inl rfl), hne _ (.inr (.inl rfl)), hne _ (.inr (.inr (.inl rfl))), hne _ (.inr (.inr (.inr (.inl rfl)))), fun e he => hne _ (.inr (.inr (.inr (.inr (.inr (.inl ⟨e, he, rfl⟩)))))), fun s hs => hne k (.inr (.inr (.inr (.inr (.inr (.inr ⟨s, hs⟩)))))) rfl⟩
  uniq := h.uniq
/-- the counts of stamps are written -/
theorem ShtIs.turnOn {on' : Stamp → Int} {n2' : Nat} {Dn' : DataW HH} (h : ShtIs w p Fs Es on R n m n2 D Dr hd Dn) (t : Touch (fun k => k = p.mn) w w') (hm : w'.ownsMap Tryd.prog 24 (plainElem (H := HH) Tryd.prog 3) p.mn n2' Dn') (hc : ∀ s, Dn'.atKey (stK s) (.lit (.int .i64 0)) = .lit (.int .i64 (on' s))) : ShtIs w' p Fs Es on' R n m n2' D Dr hd Dn' where
  cell := block_touch h.cell t (ne_kind (kind_cell h.cell) (kind_map h.onm) (by decide))
  shelf := h.shelf.touch t (fun k hk e => (h.apart k hk).2.2.2.1 e)
  all := map_touch h.all t h.maps.2.1
  fm := h.fm
  els := fun e he => block_touch (h.els e he) t (ne_kind (kind_cell (h.els e he)) (kind_map h.onm) (by decide))
  ads := h.ads
  of := h.of.touch t h.maps.2.2 (fun s g hg => ne_kind (kind_row (h.of.rows s) hg) (kind_map h.onm) (by decide))
  onm := hm
  ct := hc
  maps := h.maps
  apart := h.apart
  uniq := h.uniq
end
/-- one element's count of goings is another one -/
def gone1 (Es : List En) (x : Id) (g : Int) : List En := Es.map (fun e => if e.id = x then { e with gn := g } else e)
theorem gone1_ids (Es : List En) (x : Id) (g : Int) : (gone1 Es x g).map En.id = Es.map En.id := by
  unfold gone1
  rw [List.map_map]
  refine List.map_congr_left fun e _ => ?_
  show (if e.id = x then { e with gn := g } else e).id = e.id
  split <;> rfl
theorem gone1_find (Es : List En) (x : Id) (g : Int) (y : Id) : (gone1 Es x g).find? (fun e => decide (e.id = y)) = (Es.find? (fun e => decide (e.id = y))).map (fun e => if e.id = x then { e with gn := g } else e) := by
  unfold gone1
  have hf : ((fun e : En => decide (e.id = y)) ∘ fun e => if e.id = x then { e with gn := g } else e) = fun e => decide (e.id = y) := by
    funext e
    show decide ((if e.id = x then { e with gn := g } else e).id = y) = decide (e.id = y)
    split <;> rfl
  rw [List.find?_map, hf]
theorem gone1_elF (Es : List En) (x : Id) (g : Int) : elF (gone1 Es x g) = elF Es := by
  funext y
  unfold elF
  rw [gone1_find, Option.map_map]
  congr 1
  funext e
  show some (if e.id = x then { e with gn := g } else e).ad = some e.ad
  split <;> rfl
theorem gone1_ofs (Es : List En) (x : Id) (g : Int) : ofs (gone1 Es x g) = ofs Es := by
  funext s
  unfold ofs gone1
  rw [List.filter_map, List.map_map]
  have hf : ((fun e : En => decide (e.id.s = s)) ∘ fun e => if e.id = x then { e with gn := g } else e) = fun e => decide (e.id.s = s) := by
    funext e
    show decide ((if e.id = x then { e with gn := g } else e).id.s = s) = decide (e.id.s = s)
    split <;> rfl
  rw [hf]
  refine List.map_congr_left fun e _ => ?_
  show (if e.id = x then { e with gn := g } else e).id = e.id
  split <;> rfl
theorem gone1_mem {Es : List En} {x : Id} {g : Int} {e : En} (h : e ∈ gone1 Es x g) : ∃ e0 ∈ Es, e.ad = e0.ad ∧ e.id = e0.id := by
  obtain ⟨e0, h0, rfl⟩ := List.mem_map.1 h
  refine ⟨e0, h0, ?_, ?_⟩ <;> split <;> rfl
theorem en_one {Es : List En} (h : Es.Pairwise (fun a b => a.id ≠ b.id)) {a b : En} (ha : a ∈ Es) (hb : b ∈ Es) (e : a.id = b.id) : a = b := by
  induction Es with
  | nil => cases ha
  | cons x l ih =>
    obtain ⟨h1, h2⟩ := List.pairwise_cons.1 h
    rcases List.mem_cons.1 ha with ha1 | ha1 <;> rcases List.mem_cons.1 hb with hb1 | hb1
    · exact ha1.trans hb1.symm
    · exact absurd (ha1 ▸ e) (h1 b hb1)
    · exact absurd (hb1 ▸ e.symm) (h1 a ha1)
    · exact ih h2 ha1 hb1
theorem ad_one {Es : List En} (h : Es.Pairwise (fun a b => a.ad ≠ b.ad)) {a b : En} (ha : a ∈ Es) (hb : b ∈ Es) (e : a.ad = b.ad) : a = b := by
  induction Es with
  | nil => cases ha
  | cons x l ih =>
    obtain ⟨h1, h2⟩ := List.pairwise_cons.1 h
    rcases List.mem_cons.1 ha with ha1 | ha1 <;> rcases List.mem_cons.1 hb with hb1 | hb1
    · exact ha1.trans hb1.symm
    · exact absurd (ha1 ▸ e) (h1 b hb1)
    · exact absurd (hb1 ▸ e.symm) (h1 a ha1)
    · exact ih h2 ha1 hb1
section
variable {w : World} {p : Loc} {Fs : Nat → Prop} {Es : List En} {on : Stamp → Int} {R : Row Id} {n m n2 : Nat} {D : DataW (Option Nat)} {Dr : DataW Hd} {hd : Stamp → Hd} {Dn : DataW HH}
/-- an element's count of goings is written -/
theorem ShtIs.gone (h : ShtIs w p Fs Es on R n m n2 D Dr hd Dn) {e : En} (he : e ∈ Es) (g : Int) : ShtIs (w.setCell ⟨e.ad, 5, none⟩ (.int .i64 g)) p Fs (gone1 Es e.id g) on R n m n2 D Dr hd Dn := by
  have hk := kind_cell (h.els e he)
  have t : Touch (fun k => k = e.ad) w (w.setCell ⟨e.ad, 5, none⟩ (.int .i64 g)) := (Touch.refl (fun k => k = e.ad) w).setCell (p := ⟨e.ad, 5, none⟩) (fun _ => rfl) _
  refine ⟨block_touch h.cell t (ne_kind (kind_cell h.cell) hk (by decide)), h.shelf.touch t (fun k hF e1 => (h.apart k hF).2.2.2.2.1 e he e1), map_touch h.all t (ne_kind (kind_map h.all) hk (by decide)), by rw [gone1_elF]; exact h.fm, fun a ha => ?_, ?_, ?_, map_touch h.onm t (ne_kind (kind_map h.onm) hk (by decide)), h.ct, h.maps, fun k hF => ?_, ?_⟩
  · obtain ⟨a0, ha0, rfl⟩ := List.mem_map.1 ha
    by_cases hx : a0.id = e.id
    · obtain rfl := en_one h.uniq ha0 he hx
      rw [if_pos rfl]
      have := h.els a0 ha0
      simp [World.setCell, Array.getElem?_modify, this, enCs]
    · rw [if_neg hx]
      exact block_touch (h.els a0 ha0) t (fun e1 => hx (by rw [ad_one h.ads ha0 he e1]))
  · unfold gone1
    rw [List.pairwise_map]
    refine h.ads.imp ?_
    intro a b hab
    show (if a.id = e.id then { a with gn := g } else a).ad ≠ (if b.id = e.id then { b with gn := g } else b).ad
    split <;> split <;> exact hab
  · rw [gone1_ofs]
    refine h.of.touch t (fun e1 => ?_) (fun s k hg => ne_kind (kind_row (h.of.rows s) hg) hk (by decide))
    obtain ⟨es, c, h1⟩ := h.of.isMap
    have h2 := h.els e he
    rw [← e1, h1] at h2
    cases h2
  · obtain ⟨h1, h2, h3, h4, h5, h6⟩ := h.apart k hF
    refine ⟨h1, h2, h3, h4, fun a ha => ?_, h6⟩
    obtain ⟨a0, ha0, e1, _⟩ := gone1_mem ha
    rw [e1]
    exact h5 a0 ha0
  · unfold gone1
    rw [List.pairwise_map]
    refine h.uniq.imp ?_
    intro a b hab
    show (if a.id = e.id then { a with gn := g } else a).id ≠ (if b.id = e.id then { b with gn := g } else b).id
    split <;> split <;> exact hab
theorem zero129 (u : World) : (zeroValue 100).run Tryd.prog u = .ok (ptV none) u := Tryd.zeroValue100 u
/-- the map of elements, looked up -/
theorem ShtIs.look (h : ShtIs w p Fs Es on R n m n2 D Dr hd Dn) (x : Id) : (Instr.lookup 88 (.map (some p.ma)) (idV x) false).run Tryd.prog w = .ok (ptV ((elF Es x).getD none)) w := by
  obtain ⟨v, ps, h1, h2⟩ := h.all.lookup keyed26 Tryd.underlying88 (zero129 w) (objElem_mk ptV_inj none) (ok26.val x)
  obtain ⟨a, rfl, h3⟩ := objElem_inv h2
  have h4 : D.atKey (idK x) (.held none) = .held a := congrArg Prod.fst h3
  rw [h.fm x] at h4
  have ha : a = (elF Es x).getD none := by
    cases e : elF Es x with
    | none => rw [e] at h4; cases h4; rfl
    | some y => rw [e] at h4; cases h4; rfl
  rw [h1, ha]
/-- the map of counts, looked up -/
theorem ShtIs.count (h : ShtIs w p Fs Es on R n m n2 D Dr hd Dn) (s : Stamp) : (Instr.lookup 80 (.map (some p.mn)) (stV s) false).run Tryd.prog w = .ok (.int .i64 (on s)) w := by
  obtain ⟨c, h1, h2, _⟩ := h.onm.lookup_int keyed24 Tryd.underlying80 Tryd.underlying3 (zero3 w) (key24 s)
  have h3 := h.ct s
  rw [h2] at h3
  have : c = on s := by simpa using h3
  rw [h1, this]
end
theorem elF_some {Es : List En} (h : Es.Pairwise (fun a b => a.id ≠ b.id)) {e : En} (he : e ∈ Es) : elF Es e.id = some (some e.ad) := by
  unfold elF
  cases hf : Es.find? (fun a => decide (a.id = e.id)) with
  | none =>
    rw [List.find?_eq_none] at hf
    exact absurd (decide_eq_true rfl) (hf e he)
  | some a =>
    have h1 := List.find?_some hf
    have h2 := List.mem_of_find?_eq_some hf
    rw [en_one h h2 he (by simpa using h1)]
    rfl
theorem elF_none {Es : List En} {x : Id} (h : ∀ e ∈ Es, e.id ≠ x) : elF Es x = none := by
  unfold elF
  rw [List.find?_eq_none.2 (fun e he => by simpa using h e he)]
  rfl
end Go.Proofs.YtphapjbfaomblaaDoor
/- The sheet: seen, deep, Len, At. -/
namespace Go.Proofs.YtphapjbfaomblaaDoor
open Go Go.RowKit Go.Maps Go.ChangeMaps
def seenV (on : Stamp → Int) (e : En) : Bool := decide (0 < on e.id.s) && decide (e.gn ≤ 0)
section
variable {w : World} {p : Loc} {Fs : Nat → Prop} {Es : List En} {on : Stamp → Int} {R : Row Id} {n m n2 : Nat} {D : DataW (Option Nat)} {Dr : DataW Hd} {hd : Stamp → Hd} {Dn : DataW HH}
/-- the cells of the sheet's own block, and of an element -/
theorem ShtIs.shc (h : ShtIs w p Fs Es on R n m n2 D Dr hd Dn) : w.cell? ⟨p.sh, 0, none⟩ = some (.pointer (some ⟨p.rb, 0, none⟩)) ∧ w.cell? ⟨p.sh, 1, none⟩ = some (.map (some p.ma)) ∧ w.cell? ⟨p.sh, 2, none⟩ = some (.map (some p.mo)) ∧ w.cell? ⟨p.sh, 3, none⟩ = some (.map (some p.mn)) :=
  ⟨cell_of_row _ _ 0 _ _ _ h.cell, cell_of_row _ _ 1 _ _ _ h.cell, cell_of_row _ _ 2 _ _ _ h.cell, cell_of_row _ _ 3 _ _ _ h.cell⟩
theorem ShtIs.enc (h : ShtIs w p Fs Es on R n m n2 D Dr hd Dn) {e : En} (he : e ∈ Es) : w.cell? ⟨e.ad, 0, none⟩ = some (.string e.pc) ∧ w.cell? ⟨e.ad, 4, none⟩ = some (.int .i64 (e.dp : Int)) ∧ w.cell? ⟨e.ad, 5, none⟩ = some (.int .i64 e.gn) ∧ ∀ i, w.frozen? ⟨e.ad, i, none⟩ = false :=
  ⟨cell_of_row _ _ 0 _ _ _ (h.els e he), cell_of_row _ _ 4 _ _ _ (h.els e he), cell_of_row _ _ 5 _ _ _ (h.els e he), fun i => by simp [World.frozen?, h.els e he]⟩
set_option maxRecDepth 100000 in
set_option maxHeartbeats 4000000 in
theorem seenS_any (h : ShtIs w p Fs Es on R n m n2 D Dr hd Dn) {e : En} (he : e ∈ Es) :
    Calls Tryd.prog 70 #[.pointer (some ⟨p.sh, 0, none⟩), idV e.id] w fun r w' => r = .returned (.bool (seenV on e)) ∧ Below w.heap.size w w' := by
  obtain ⟨W0, hW0⟩ : ∃ W, w.alloc (.cells #[.int .i64 e.id.s.T, .int .i64 e.id.s.R, .int .i64 e.id.I] 26) = W := ⟨_, rfl⟩
  have hb0 : Below w.heap.size w W0 := by rw [← hW0]; exact (Below.refl _ w).alloc (Nat.le_refl _) _
  have hx0 : W0.heap[w.heap.size]? = some (.cells #[.int .i64 e.id.s.T, .int .i64 e.id.s.R, .int .i64 e.id.I] 26 (0, 0)) := by rw [← hW0]; exact heap_alloc_new w _
  have h0 := h.below hb0
  obtain ⟨bx, hbx⟩ : ∃ z, w.heap.size = z := ⟨_, rfl⟩
  rw [hbx] at hx0
  have g0 : W0.cell? ⟨bx, 0, none⟩ = some (.int .i64 e.id.s.T) := cell_of_row _ _ 0 _ _ _ hx0
  have g1 : W0.cell? ⟨bx, 1, none⟩ = some (.int .i64 e.id.s.R) := cell_of_row _ _ 1 _ _ _ hx0
  have g2 : W0.cell? ⟨bx, 2, none⟩ = some (.int .i64 e.id.I) := cell_of_row _ _ 2 _ _ _ hx0
  obtain ⟨_, c1, _, c3⟩ := h0.shc
  obtain ⟨_, _, a5, _⟩ := h0.enc he
  have hl1 := h0.look e.id
  have hl2 := (h0.below (Below.refl _ W0).drew).look e.id
  have hc1 := h0.count e.id.s
  have hc2 := (h0.below (Below.refl _ W0).drew).count e.id.s
  rw [elF_some h.uniq he] at hl1 hl2
  simp only [Option.getD_some, ptV] at hl1 hl2
  unfold idV at hl1 hl2
  unfold stV at hc1 hc2
  have HW0 := Lib.hid hW0
  have HBX := Lib.hid hbx
  have HB0 := Lib.hid hb0
  obtain ⟨c, hc⟩ : ∃ c, on e.id.s = c := ⟨_, rfl⟩
  obtain ⟨gn, hgn⟩ : ∃ g, e.gn = g := ⟨_, rfl⟩
  have HV := Lib.hid (show seenV on e = (decide (0 < c) && decide (gn ≤ 0)) by unfold seenV; rw [hc, hgn])
  rw [hc] at hc1 hc2
  rw [hgn] at a5
  clear h h0 hW0 hb0 hx0 hbx hc hgn
  unfold idV
  by_cases hcp : 0 < c
  · go_enter Tryd.func70, Tryd.ntmps70
    go_wp2
    rw [HW0.out, HBX.out]
    go_region
    go_wp2
    go_ret
    rw [HV.out]
    exact ⟨by simp [hcp], HB0.out.drew⟩
  · have hcd : decide (0 < c) = false := decide_eq_false hcp
    go_enter Tryd.func70, Tryd.ntmps70
    go_wp2
    rw [HW0.out, HBX.out]
    go_region
    go_wp2
    go_ret
    rw [HV.out]
    exact ⟨by rw [hcd]; rfl, HB0.out.drew⟩
theorem len_any (h : ShtIs w p Fs Es on R n m n2 D Dr hd Dn) : Calls Tryd.prog 31 #[.pointer (some ⟨p.sh, 0, none⟩)] w fun r w' => r = .returned (.int .i64 (cntR R : Nat)) ∧ w' = w := by
  obtain ⟨c0, _, _, _⟩ := h.shc
  have HC := Lib.hid (count_at h.shelf)
  clear h
  go_enter Tryd.func31, Tryd.ntmps31
  go_wp2_with (go_at_call 55; refine HC.out.mono ?_; rintro e w1 ⟨rfl, rfl⟩)
  go_ret
  exact ⟨rfl, rfl⟩
set_option maxRecDepth 100000 in
set_option maxHeartbeats 2000000 in
theorem shAt_any (h : ShtIs w p Fs Es on R n m n2 D Dr hd Dn) (hl : R.length ≤ 100000) (k : Int) : Calls Tryd.prog 34 #[.pointer (some ⟨p.sh, 0, none⟩), .int .i64 k] w fun r w' => r = .returned (.tuple #[idV (findV R k).1, .int .i64 (findV R k).2]) ∧ Below w.heap.size w w' := by
  obtain ⟨W0, hW0⟩ : ∃ W, w.alloc (.cells #[.int .i64 0, .int .i64 0, .int .i64 0] 26) = W := ⟨_, rfl⟩
  have hb0 : Below w.heap.size w W0 := by rw [← hW0]; exact (Below.refl _ w).alloc (Nat.le_refl _) _
  have hx0 : W0.heap[w.heap.size]? = some (.cells #[.int .i64 0, .int .i64 0, .int .i64 0] 26 (0, 0)) := by rw [← hW0]; exact heap_alloc_new w _
  have h0 := h.below hb0
  obtain ⟨c0, _, _, _⟩ := h0.shc
  have c0w : (w.alloc (.cells #[.int .i64 0, .int .i64 0, .int .i64 0] 26)).cell? ⟨p.sh, 0, none⟩ = some (.pointer (some ⟨p.rb, 0, none⟩)) := by rw [hW0]; exact c0
  have HF := Lib.hid (find_at h0.shelf hl k)
  have hsz : w.heap.size < W0.heap.size := (Array.getElem?_eq_some_iff.1 hx0).1
  have HX0 := Lib.hid (fun W (hW : Below W0.heap.size W0 W) => (hW.block w.heap.size hsz).trans hx0)
  have HW0 := Lib.hid hW0
  have HB0 := Lib.hid hb0
  obtain ⟨y, f, hv⟩ : ∃ y f, findV R k = (y, f) := ⟨_, _, rfl⟩
  unfold FindPost at HF
  rw [hv] at HF
  rw [hv]
  dsimp only at HF
  unfold idV at HF
  clear h h0 hW0 hb0 hx0 hv c0
  go_enter Tryd.func34, Tryd.ntmps34
  go_wp2_with (go_at_call 58; rw [HW0.out]; refine HF.out.mono ?_; rintro e w1 ⟨rfl, hb1⟩; have hh := HX0.out w1 hb1; have x0 : w1.cell? ⟨w.heap.size, 0, none⟩ = some (.int .i64 0) := cell_of_row _ _ 0 _ _ _ hh; have x1 : w1.cell? ⟨w.heap.size, 1, none⟩ = some (.int .i64 0) := cell_of_row _ _ 1 _ _ _ hh; have x2 : w1.cell? ⟨w.heap.size, 2, none⟩ = some (.int .i64 0) := cell_of_row _ _ 2 _ _ _ hh; have xf : ∀ i, w1.frozen? ⟨w.heap.size, i, none⟩ = false := (fun i => by simp [World.frozen?, hh]); have HH := Lib.hid hh; have HB1 := Lib.hid (HB0.out.trans (hb1.mono HB0.out.size)); clear hh hb1)
  refine bodyPost_ret (results_cell_row1 rfl _ _ w.heap.size 26 #[.int .i64 y.s.T, .int .i64 y.s.R, .int .i64 y.I] (0, 0) _ rfl (set3_heapS HH.out) Tryd.underlying26 rfl (by kernel_rfl)) rfl ?_
  exact ⟨rfl, ((HB1.out.setCell (p := ⟨w.heap.size, 0, none⟩) (Nat.le_refl _) _).setCell (p := ⟨w.heap.size, 1, none⟩) (Nat.le_refl _) _).setCell (p := ⟨w.heap.size, 2, none⟩) (Nat.le_refl _) _⟩
def deepV (Es : List En) (x : Id) : Nat := match Es.find? (fun e => decide (e.id = x)) with
  | some e => e.dp
  | none => 0
theorem deepV_at {Es : List En} (h : Es.Pairwise (fun a b => a.id ≠ b.id)) {e : En} (he : e ∈ Es) : deepV Es e.id = e.dp := by
  unfold deepV
  cases hf : Es.find? (fun a => decide (a.id = e.id)) with
  | none =>
    rw [List.find?_eq_none] at hf
    exact absurd (decide_eq_true rfl) (hf e he)
  | some a => rw [en_one h (List.mem_of_find?_eq_some hf) he (by simpa using List.find?_some hf)]
set_option maxRecDepth 100000 in
set_option maxHeartbeats 4000000 in
theorem deep_any (h : ShtIs w p Fs Es on R n m n2 D Dr hd Dn) (x : Id) (hx : x = zeroI ∨ ∃ e ∈ Es, e.id = x) (hnz : ∀ e ∈ Es, e.id ≠ zeroI) :
    Calls Tryd.prog 66 #[.pointer (some ⟨p.sh, 0, none⟩), idV x] w fun r w' => r = .returned (.int .i64 (deepV Es x : Nat)) ∧ Below w.heap.size w w' := by
  obtain ⟨W0, hW0⟩ : ∃ W, w.alloc (.cells #[.int .i64 x.s.T, .int .i64 x.s.R, .int .i64 x.I] 26) = W := ⟨_, rfl⟩
  have hb0 : Below w.heap.size w W0 := by rw [← hW0]; exact (Below.refl _ w).alloc (Nat.le_refl _) _
  have hx0 : W0.heap[w.heap.size]? = some (.cells #[.int .i64 x.s.T, .int .i64 x.s.R, .int .i64 x.I] 26 (0, 0)) := by rw [← hW0]; exact heap_alloc_new w _
  have h0 := h.below hb0
  obtain ⟨bx, hbx⟩ : ∃ z, w.heap.size = z := ⟨_, rfl⟩
  rw [hbx] at hx0
  have g0 : W0.cell? ⟨bx, 0, none⟩ = some (.int .i64 x.s.T) := cell_of_row _ _ 0 _ _ _ hx0
  have g1 : W0.cell? ⟨bx, 1, none⟩ = some (.int .i64 x.s.R) := cell_of_row _ _ 1 _ _ _ hx0
  have g2 : W0.cell? ⟨bx, 2, none⟩ = some (.int .i64 x.I) := cell_of_row _ _ 2 _ _ _ hx0
  obtain ⟨_, c1, _, _⟩ := h0.shc
  have hl1 := h0.look x
  have hl2 := (h0.below (Below.refl _ W0).drew).look x
  have hE := eq3_iff x zeroI
  have hq := eql26
  have hgd := gd26
  have HW0 := Lib.hid hW0
  have HBX := Lib.hid hbx
  have HB0 := Lib.hid hb0
  by_cases hz : x = zeroI
  · subst hz
    have HV := Lib.hid (show deepV Es zeroI = 0 from by
      unfold deepV
      rw [List.find?_eq_none.2 (fun e he => by simpa using hnz e he)])
    clear h h0 hW0 hb0 hx0 hbx hl1 hl2 c1 hx hnz hE hq hgd
    unfold idV
    go_enter Tryd.func66, Tryd.ntmps66
    go_wp2
    go_ret
    rw [HV.out]
    exact ⟨rfl, HW0.out ▸ HB0.out⟩
  · obtain ⟨e, he, rfl⟩ := hx.resolve_left hz
    rw [decide_eq_false hz] at hE
    obtain ⟨_, a4, _, _⟩ := h0.enc he
    rw [elF_some h.uniq he] at hl1 hl2
    simp only [Option.getD_some, ptV] at hl1 hl2
    unfold idV at hl1 hl2
    have HV := Lib.hid (deepV_at h.uniq he)
    have hE2 : eq3 e.id.s.T e.id.s.R e.id.I 0 0 0 = false := hE
    clear h h0 hW0 hb0 hx0 hbx hx hnz hz hE
    unfold idV
    go_enter Tryd.func66, Tryd.ntmps66
    go_wp2
    rw [HW0.out, HBX.out]
    go_region
    go_wp2
    go_ret
    rw [HV.out]
    exact ⟨rfl, HB0.out.drew⟩
end
end Go.Proofs.YtphapjbfaomblaaDoor
/- The sheet: show. -/
namespace Go.Proofs.YtphapjbfaomblaaDoor
open Go Go.RowKit Go.Maps Go.ChangeMaps
section
variable {w : World} {p : Loc} {Fs : Nat → Prop} {Es : List En} {on : Stamp → Int} {R : Row Id} {n m n2 : Nat} {D : DataW (Option Nat)} {Dr : DataW Hd} {hd : Stamp → Hd} {Dn : DataW HH}
set_option maxRecDepth 100000 in
set_option maxHeartbeats 4000000 in
theorem shw_any (h : ShtIs w p Fs Es on R n m n2 D Dr hd Dn) {e : En} (he : e ∈ Es) (hR : e.id ∈ namesR R) (hl : R.length ≤ 100000) :
    Calls Tryd.prog 51 #[.pointer (some ⟨p.sh, 0, none⟩), idV e.id] w fun r w' => (∃ v, r = .returned v) ∧ ShtIs w' p Fs Es on (showR R e.id (seenV on e)) n m n2 D Dr hd Dn ∧ Touch Fs w w' := by
  obtain ⟨W0, hW0⟩ : ∃ W, w.alloc (.cells #[.int .i64 e.id.s.T, .int .i64 e.id.s.R, .int .i64 e.id.I] 26) = W := ⟨_, rfl⟩
  have hb0 : Below w.heap.size w W0 := by rw [← hW0]; exact (Below.refl _ w).alloc (Nat.le_refl _) _
  have hx0 : W0.heap[w.heap.size]? = some (.cells #[.int .i64 e.id.s.T, .int .i64 e.id.s.R, .int .i64 e.id.I] 26 (0, 0)) := by rw [← hW0]; exact heap_alloc_new w _
  have h0 := h.below hb0
  have hFx : ∀ k, Fs k → k < w.heap.size := fun k hk => h.lt (.inr (.inr (.inr (.inr (.inl hk)))))
  obtain ⟨bx, hbx⟩ : ∃ z, w.heap.size = z := ⟨_, rfl⟩
  rw [hbx] at hx0 hFx
  have hbxl : bx < W0.heap.size := (Array.getElem?_eq_some_iff.1 hx0).1
  have hpl : p.sh < W0.heap.size := kind_lt (kind_cell h0.cell)
  obtain ⟨c0, _, _, _⟩ := h0.shc
  have HS := Lib.hid (fun W (t : Touch Fs W0 W) => (show (W.cell? ⟨bx, 0, none⟩ = some (.int .i64 e.id.s.T) ∧ W.cell? ⟨bx, 1, none⟩ = some (.int .i64 e.id.s.R) ∧ W.cell? ⟨bx, 2, none⟩ = some (.int .i64 e.id.I)) ∧ W.cell? ⟨p.sh, 0, none⟩ = some (.pointer (some ⟨p.rb, 0, none⟩)) from by
    have hx := block_touch hx0 t (fun hF => Nat.lt_irrefl _ (hFx _ hF))
    have hc := block_touch h0.cell t (fun hF => (h0.apart _ hF).1 rfl)
    exact ⟨⟨cell_of_row _ _ 0 _ _ _ hx, cell_of_row _ _ 1 _ _ _ hx, cell_of_row _ _ 2 _ _ _ hx⟩, cell_of_row _ _ 0 _ _ _ hc⟩))
  have HSEEN := Lib.hid (fun W (hW : Below W0.heap.size W0 W) => seenS_any (h0.below hW) he)
  have HSHOW := Lib.hid (fun W (hW : Below W0.heap.size W0 W) => show_any (h0.below hW).shelf hl e.id (seenV on e))
  have HROW := Lib.hid (fun W W' (hW : Below W0.heap.size W0 W) (t : Touch Fs W W') (hs : ShelfAt W' Fs p.rb (showR R e.id (seenV on e))) => (h0.below hW).row t hs (fun k hk => .inl hk))
  unfold idV at HSEEN HSHOW
  have HW0 := Lib.hid hW0
  have HBX := Lib.hid hbx
  have HB0 := Lib.hid hb0
  have HR := Lib.hid hR
  have g0 := (HS.out W0 (Touch.refl _ _)).1.1
  have g1 := (HS.out W0 (Touch.refl _ _)).1.2.1
  have g2 := (HS.out W0 (Touch.refl _ _)).1.2.2
  obtain ⟨bb, hbb⟩ : ∃ b, seenV on e = b := ⟨_, rfl⟩
  rw [hbb] at HSEEN HSHOW HROW ⊢
  have k1 : Below W0.heap.size W0 W0.drew := (Below.refl _ W0).drew
  have t1 : Touch Fs W0 W0.drew := Below.touch k1 _
  clear h h0 hW0 hb0 hx0 hbx hbb hR hFx
  unfold idV
  go_enter Tryd.func51, Tryd.ntmps51
  go_wp2
  rw [HW0.out, HBX.out]
  go_region_held3 (fun W => (W.cell? ⟨bx, 0, none⟩ = some (.int .i64 e.id.s.T) ∧ W.cell? ⟨bx, 1, none⟩ = some (.int .i64 e.id.s.R) ∧ W.cell? ⟨bx, 2, none⟩ = some (.int .i64 e.id.I)) ∧ W.cell? ⟨p.sh, 0, none⟩ = some (.pointer (some ⟨p.rb, 0, none⟩)))
    (first | exact HS.out _ (by assumption) | go_keep)
    (first
      | (go_at_call 70; refine (HSEEN.out _ k1).mono ?_; rintro e w5 ⟨rfl, hg5⟩; have k2 := k1.trans (hg5.mono k1.size); have t2 : Touch Fs W0 w5 := Below.touch k2 _; clear hg5)
      | (go_at_call 72; refine (HSHOW.out _ k2).mono ?_; rintro e w6 ⟨rfl, hs6, ht6⟩; rw [if_pos HR.out] at hs6; have t3 : Touch Fs W0 w6 := t2.trans ht6 (fun _ _ h => h)))
  go_wp2
  go_end0
  exact ⟨⟨_, rfl⟩, HROW.out _ _ k2 ht6 hs6, (Below.touch HB0.out Fs).trans t3 (fun _ _ h => h)⟩
end
end Go.Proofs.YtphapjbfaomblaaDoor
/- The sheet: Take. -/
namespace Go.Proofs.YtphapjbfaomblaaDoor
open Go Go.RowKit Go.Maps Go.ChangeMaps
section
variable {w : World} {p : Loc} {Fs : Nat → Prop} {Es : List En} {on : Stamp → Int} {R : Row Id} {n m n2 : Nat} {D : DataW (Option Nat)} {Dr : DataW Hd} {hd : Stamp → Hd} {Dn : DataW HH}
theorem gone1_in {Es : List En} {e : En} (he : e ∈ Es) (g : Int) : ({ e with gn := g } : En) ∈ gone1 Es e.id g := by
  refine List.mem_map.2 ⟨e, he, ?_⟩
  rw [if_pos rfl]
set_option maxRecDepth 100000 in
set_option maxHeartbeats 4000000 in
theorem take_none (h : ShtIs w p Fs Es on R n m n2 D Dr hd Dn) (x : Id) (hx : ∀ e ∈ Es, e.id ≠ x) (q : Bool) :
    Calls Tryd.prog 27 #[.pointer (some ⟨p.sh, 0, none⟩), idV x, .bool q] w fun r w' => r = .returned (.int .i64 111) ∧ Below w.heap.size w w' := by
  obtain ⟨W0, hW0⟩ : ∃ W, w.alloc (.cells #[.int .i64 x.s.T, .int .i64 x.s.R, .int .i64 x.I] 26) = W := ⟨_, rfl⟩
  have hb0 : Below w.heap.size w W0 := by rw [← hW0]; exact (Below.refl _ w).alloc (Nat.le_refl _) _
  have hx0 : W0.heap[w.heap.size]? = some (.cells #[.int .i64 x.s.T, .int .i64 x.s.R, .int .i64 x.I] 26 (0, 0)) := by rw [← hW0]; exact heap_alloc_new w _
  have h0 := h.below hb0
  obtain ⟨bx, hbx⟩ : ∃ z, w.heap.size = z := ⟨_, rfl⟩
  rw [hbx] at hx0
  have g0 : W0.cell? ⟨bx, 0, none⟩ = some (.int .i64 x.s.T) := cell_of_row _ _ 0 _ _ _ hx0
  have g1 : W0.cell? ⟨bx, 1, none⟩ = some (.int .i64 x.s.R) := cell_of_row _ _ 1 _ _ _ hx0
  have g2 : W0.cell? ⟨bx, 2, none⟩ = some (.int .i64 x.I) := cell_of_row _ _ 2 _ _ _ hx0
  obtain ⟨_, c1, _, _⟩ := h0.shc
  have hl1 := h0.look x
  have hl2 := (h0.below (Below.refl _ W0).drew).look x
  rw [elF_none hx] at hl1 hl2
  simp only [Option.getD_none, ptV] at hl1 hl2
  unfold idV at hl1 hl2
  have HW0 := Lib.hid hW0
  have HBX := Lib.hid hbx
  have HB0 := Lib.hid hb0
  clear h h0 hW0 hb0 hx0 hbx hx
  unfold idV
  go_enter Tryd.func27, Tryd.ntmps27
  go_wp2
  rw [HW0.out, HBX.out]
  go_region
  go_wp2
  go_ret
  exact ⟨rfl, HB0.out.drew⟩
set_option maxRecDepth 100000 in
set_option maxHeartbeats 4000000 in
theorem take_any (h : ShtIs w p Fs Es on R n m n2 D Dr hd Dn) {e : En} (he : e ∈ Es) (hR : e.id ∈ namesR R) (hl : R.length ≤ 100000) (hg : -1000000 ≤ e.gn ∧ e.gn ≤ 1000000) (q : Bool) :
    Calls Tryd.prog 27 #[.pointer (some ⟨p.sh, 0, none⟩), idV e.id, .bool q] w fun r w' => r = .returned (.int .i64 0) ∧
      ShtIs w' p Fs (gone1 Es e.id (e.gn + if q then 1 else -1)) on (showR R e.id (seenV on { e with gn := e.gn + if q then 1 else -1 })) n m n2 D Dr hd Dn ∧ Touch (fun k => Fs k ∨ k = e.ad) w w' := by
  obtain ⟨W0, hW0⟩ : ∃ W, w.alloc (.cells #[.int .i64 e.id.s.T, .int .i64 e.id.s.R, .int .i64 e.id.I] 26) = W := ⟨_, rfl⟩
  have hb0 : Below w.heap.size w W0 := by rw [← hW0]; exact (Below.refl _ w).alloc (Nat.le_refl _) _
  have hx0 : W0.heap[w.heap.size]? = some (.cells #[.int .i64 e.id.s.T, .int .i64 e.id.s.R, .int .i64 e.id.I] 26 (0, 0)) := by rw [← hW0]; exact heap_alloc_new w _
  have h0 := h.below hb0
  have hae : e.ad < w.heap.size := kind_lt (kind_cell (h.els e he))
  obtain ⟨bx, hbx⟩ : ∃ z, w.heap.size = z := ⟨_, rfl⟩
  rw [hbx] at hx0 hae
  have g0 : W0.cell? ⟨bx, 0, none⟩ = some (.int .i64 e.id.s.T) := cell_of_row _ _ 0 _ _ _ hx0
  have g1 : W0.cell? ⟨bx, 1, none⟩ = some (.int .i64 e.id.s.R) := cell_of_row _ _ 1 _ _ _ hx0
  have g2 : W0.cell? ⟨bx, 2, none⟩ = some (.int .i64 e.id.I) := cell_of_row _ _ 2 _ _ _ hx0
  obtain ⟨_, c1, _, _⟩ := h0.shc
  obtain ⟨_, _, a5, af⟩ := h0.enc he
  have hl1 := h0.look e.id
  have hl2 := (h0.below (Below.refl _ W0).drew).look e.id
  rw [elF_some h.uniq he] at hl1 hl2
  simp only [Option.getD_some, ptV] at hl1 hl2
  unfold idV at hl1 hl2
  obtain ⟨g', hg'⟩ : ∃ g' : Int, e.gn + (if q then 1 else -1) = g' := ⟨_, rfl⟩
  rw [hg']
  obtain ⟨bb, hbb⟩ : ∃ b, seenV on { e with gn := g' } = b := ⟨_, rfl⟩
  rw [hbb]
  have HSHW := Lib.hid (fun W (hW : Below W0.heap.size W0 W) => shw_any ((h0.below hW).gone he g') (gone1_in he g') hR hl)
  unfold idV at HSHW
  dsimp only at HSHW
  rw [hbb] at HSHW
  have HFs := Lib.hid (fun k (hk : Fs k) => h.lt (.inr (.inr (.inr (.inr (.inl hk))))))
  obtain ⟨gn, hgn⟩ : ∃ g, e.gn = g := ⟨_, rfl⟩
  obtain ⟨ad, had⟩ : ∃ g, e.ad = g := ⟨_, rfl⟩
  rw [hgn] at a5 hg'
  rw [had] at a5 af hl1 hl2 HSHW hae
  have hne : ¬ bx = ad := by omega
  have hne2 : ¬ ad = bx := by omega
  have HBND := Lib.hid (hgn ▸ hg)
  have HAD := Lib.hid had
  have HW0 := Lib.hid hW0
  have HBX := Lib.hid hbx
  have HB0 := Lib.hid hb0
  clear h h0 hW0 hb0 hx0 hbx hgn hg had hbb hR he hae
  unfold idV
  cases q
  · have hw : IntKind.i64.wrap (gn - 1) = g' := by have := HBND.out; rw [IntWalk.i64_in _ (by omega)]; simp at hg'; omega
    have HG := Lib.hid hg'
    clear hg'
    go_enter Tryd.func27, Tryd.ntmps27
    go_wp2
    rw [HW0.out, HBX.out]
    go_region
    go_wp2_with (go_at_call 51; refine (HSHW.out _ (Below.refl _ W0).drew).mono ?_; rintro r w6 ⟨⟨_, rfl⟩, hs6, ht6⟩)
    go_ret
    rw [HAD.out]
    refine ⟨rfl, hs6, ?_⟩
    have t1 : Touch (fun k => Fs k ∨ k = ad) W0 (W0.drew.setCell ⟨ad, 5, none⟩ (.int .i64 g')) := ((Touch.refl _ W0).drew).setCell (fun _ => .inr rfl) _
    exact (Below.touch HB0.out _).trans (t1.trans (ht6.mono (fun _ _ hk => .inl hk)) (fun _ _ h => h)) (fun _ _ h => h)
  · have hw : IntKind.i64.wrap (gn + 1) = g' := by have := HBND.out; rw [IntWalk.i64_in _ (by omega)]; simpa using hg'
    have HG := Lib.hid hg'
    clear hg'
    go_enter Tryd.func27, Tryd.ntmps27
    go_wp2
    rw [HW0.out, HBX.out]
    go_region
    go_wp2_with (go_at_call 51; refine (HSHW.out _ (Below.refl _ W0).drew).mono ?_; rintro r w6 ⟨⟨_, rfl⟩, hs6, ht6⟩)
    go_ret
    rw [HAD.out]
    refine ⟨rfl, hs6, ?_⟩
    have t1 : Touch (fun k => Fs k ∨ k = ad) W0 (W0.drew.setCell ⟨ad, 5, none⟩ (.int .i64 g')) := ((Touch.refl _ W0).drew).setCell (fun _ => .inr rfl) _
    exact (Below.touch HB0.out _).trans (t1.trans (ht6.mono (fun _ _ hk => .inl hk)) (fun _ _ h => h)) (fun _ _ h => h)
end
end Go.Proofs.YtphapjbfaomblaaDoor
