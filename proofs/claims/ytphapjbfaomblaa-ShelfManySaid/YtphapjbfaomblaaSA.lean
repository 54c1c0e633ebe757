/- A shelf in memory: its blocks, their rows, its map; what a write to one of them leaves. -/
import Derived.Test.YtphapjbfaomblaaIN
import Derived.Test.YtphapjbfaomblaaSP
import Derived.Test.YtphapjbfaomblaaEG
import Derived.Test.YtphapjbfaomblaaEM
import Derived.Test.YtphapjbfaomblaaFT
import Derived.Test.YtphapjbfaomblaaB
namespace Go.Proofs.Ytphapjbfaomblaa
open Go Go.RowKit Go.Maps
/-! blocks of unlike kinds are unlike -/
def kindOf (w : World) (k : Nat) : Option (Option TypeId) := match w.heap[k]? with
  | some (.cells _ t _) => some (some t)
  | some _ => some none
  | none => none
theorem kind_cell {w : World} {k : Nat} {cs : Array Value} {t : TypeId} {fr : Nat × Nat} (h : w.heap[k]? = some (.cells cs t fr)) : kindOf w k = some (some t) := by unfold kindOf; rw [h]
theorem kind_row {w : World} {base : Nat} {e : TypeId} {K n : Nat} {v : Value} {xs : List Value} (h : w.ownsRow base e K v n xs) {g : Nat} (hg : v.ownBlock = some g) : kindOf w g = some (some e) := by
  rcases h.2 with ⟨rfl, _⟩ | ⟨g', cap, cur, rfl, _, hh, _⟩
  · cases hg
  · cases hg
    exact kind_cell hh
theorem kind_map {H : Type} {P : Program} {w : World} {k : TypeId} {R : Value → Option (DataW H × List MemPlace)} {m n : Nat} {D : DataW H} (h : w.ownsMap P k R m n D) : kindOf w m = some none := by
  obtain ⟨es, clock, h1, _⟩ := h
  unfold kindOf
  rw [h1]
theorem ne_kind {w : World} {a b : Nat} {x y : Option (Option TypeId)} (h1 : kindOf w a = x) (h2 : kindOf w b = y) (hne : x ≠ y) : a ≠ b := fun e => hne (by rw [← h1, ← h2, e])
theorem kind_lt {w : World} {k : Nat} {x : Option TypeId} (h : kindOf w k = some x) : k < w.heap.size := by
  unfold kindOf at h
  cases e : w.heap[k]? with
  | none => rw [e] at h; cases h
  | some o => exact (Array.getElem?_eq_some_iff.1 e).1
def Apart (v1 v2 : Value) : Prop := ∀ g, v1.ownBlock = some g → v2.ownBlock ≠ some g
theorem Apart.symm {v1 v2 : Value} (h : Apart v1 v2) : Apart v2 v1 := fun g h1 h2 => h g h2 h1
/-- the same block as ahead, or a new one -/
def SameOrNew (w : World) (v v' : Value) : Prop := v'.ownBlock = v.ownBlock ∨ ∀ g, v'.ownBlock = some g → w.heap.size ≤ g
theorem Apart.new {w : World} {v v' u : Value} (h : Apart u v) (hn : SameOrNew w v v') (hu : ∀ g, u.ownBlock = some g → g < w.heap.size) : Apart u v' := by
  intro g hg hg'
  rcases hn with h1 | h1
  · exact h g hg (h1 ▸ hg')
  · have := h1 g hg'
    have := hu g hg
    omega
theorem own_lt {w : World} {base : Nat} {e : TypeId} {K n : Nat} {v : Value} {xs : List Value} (h : w.ownsRow base e K v n xs) : ∀ g, v.ownBlock = some g → g < w.heap.size := fun g hg => (h.lt g hg).2
/-! a block of ids -/
structure Bl where
  ad : Nat
  vi : Value
  vs : Value
  n : Int
  R : Row Id
def ptV : Option Nat → Value
  | none => .pointer none
  | some b => .pointer (some ⟨b, 0, none⟩)
theorem ptV_inj {a b : Option Nat} (h : ptV a = ptV b) : a = b := by
  cases a <;> cases b <;> simp [ptV] at h ⊢
  exact h
structure BlIs (w : World) (b : Bl) : Prop where
  cell : w.heap[b.ad]? = some (.cells #[b.vi, b.vs, .int .i64 b.n] 63 (0, 0))
  ids : w.ownsRow 0 33 3 b.vi b.R.length ((namesR b.R).flatMap idC)
  sn : w.ownsRow 0 4 1 b.vs b.R.length ((seenR b.R).flatMap boC)
def blFoot (b : Bl) (k : Nat) : Prop := k = b.ad ∨ b.vi.ownBlock = some k ∨ b.vs.ownBlock = some k
structure ShIs (w : World) (sb mp : Nat) (vb : Value) (Bs : List Bl) (D : DataW (Option Nat)) (t : Int) : Prop where
  cell : w.heap[sb]? = some (.cells #[vb, .map (some mp), .int .i64 t] 57 (0, 0))
  row : w.ownsRow 0 58 1 vb Bs.length ((Bs.map Bl.ad).flatMap ptC)
  bl : ∀ b ∈ Bs, BlIs w b
  map : w.ownsMap Try.prog 33 (objElem ptV) mp (Maps.size D) D
  apart : Bs.Pairwise (fun a b => a.ad ≠ b.ad ∧ Apart a.vi b.vi ∧ Apart a.vs b.vs)
def foot (sb mp : Nat) (vb : Value) (Bs : List Bl) (k : Nat) : Prop := k = sb ∨ k = mp ∨ vb.ownBlock = some k ∨ ∃ b ∈ Bs, blFoot b k
section
variable {w w' : World} {sb mp : Nat} {vb : Value} {Bs pre post : List Bl} {b b' c : Bl} {D : DataW (Option Nat)} {t : Int}
theorem BlIs.touch {F : Nat → Prop} (h : BlIs w b) (tt : Touch F w w') (hF : ∀ k, blFoot b k → ¬ F k) : BlIs w' b :=
  ⟨block_touch h.cell tt (hF _ (.inl rfl)), own_touch h.ids tt (fun g hg => hF g (.inr (.inl hg))), own_touch h.sn tt (fun g hg => hF g (.inr (.inr hg)))⟩
theorem BlIs.lt (h : BlIs w b) {k : Nat} (hk : blFoot b k) : k < w.heap.size := by
  rcases hk with rfl | hk | hk
  · exact kind_lt (kind_cell h.cell)
  · exact own_lt h.ids k hk
  · exact own_lt h.sn k hk
theorem ShIs.lt (h : ShIs w sb mp vb Bs D t) {k : Nat} (hk : foot sb mp vb Bs k) : k < w.heap.size := by
  rcases hk with rfl | rfl | hk | ⟨b, hb, hk⟩
  · exact kind_lt (kind_cell h.cell)
  · exact kind_lt (kind_map h.map)
  · exact own_lt h.row k hk
  · exact (h.bl b hb).lt hk
theorem ShIs.touch {F : Nat → Prop} (h : ShIs w sb mp vb Bs D t) (tt : Touch F w w') (hF : ∀ k, foot sb mp vb Bs k → ¬ F k) : ShIs w' sb mp vb Bs D t :=
  ⟨block_touch h.cell tt (hF _ (.inl rfl)), own_touch h.row tt (fun g hg => hF g (.inr (.inr (.inl hg)))), fun b hb => (h.bl b hb).touch tt (fun k hk => hF k (.inr (.inr (.inr ⟨b, hb, hk⟩)))), map_touch h.map tt (hF _ (.inr (.inl rfl))), h.apart⟩
theorem ShIs.below (h : ShIs w sb mp vb Bs D t) (hb : Below w.heap.size w w') : ShIs w' sb mp vb Bs D t :=
  h.touch (Below.touch hb (fun _ => False)) (fun _ _ h => h)
theorem zero58 (u : World) : (zeroValue 58).run Try.prog u = .ok (ptV none) u := Try.zeroValue58 u
def inF (Bs : List Bl) (x : Id) : Option (Option Nat) := (Bs.find? (fun b => decide (x ∈ namesR b.R))).map (fun b => some b.ad)
theorem ShIs.look (h : ShIs w sb mp vb Bs D t) {f : Id → Option (Option Nat)} (hF : FMap idK f D) (x : Id) : (Instr.lookup 54 (.map (some mp)) (idV x) false).run Try.prog w = .ok (ptV ((f x).getD none)) w := by
  obtain ⟨v, ps, h1, h2⟩ := h.map.lookup keyed26 Try.underlying54 (zero58 w) (objElem_mk ptV_inj none) (ok26.val x)
  obtain ⟨a, rfl, h3⟩ := objElem_inv h2
  have h4 : D.atKey (idK x) (.held none) = .held a := congrArg Prod.fst h3
  rw [hF x] at h4
  have ha : a = (f x).getD none := by
    cases e : f x with
    | none => rw [e] at h4; cases h4; rfl
    | some y => rw [e] at h4; cases h4; rfl
  rw [h1, ha]
/-- what a block's own blocks are not -/
theorem ShIs.blNot (h : ShIs w sb mp vb (pre ++ b :: post) D t) {k : Nat} (hk : blFoot b k) : k ≠ sb ∧ k ≠ mp ∧ vb.ownBlock ≠ some k ∧ ∀ c ∈ pre ++ post, ¬ blFoot c k := by
  have hb := h.bl b (by simp)
  have hkind : kindOf w k = some (some 63) ∧ k = b.ad ∨ kindOf w k = some (some 33) ∧ b.vi.ownBlock = some k ∨ kindOf w k = some (some 4) ∧ b.vs.ownBlock = some k := by
    rcases hk with rfl | hk | hk
    · exact .inl ⟨kind_cell hb.cell, rfl⟩
    · exact .inr (.inl ⟨kind_row hb.ids hk, hk⟩)
    · exact .inr (.inr ⟨kind_row hb.sn hk, hk⟩)
  have hap : ∀ c ∈ pre ++ post, c.ad ≠ b.ad ∧ Apart c.vi b.vi ∧ Apart c.vs b.vs := fun c hc => by
    have hp := List.pairwise_append.1 h.apart
    have hp2 := List.pairwise_cons.1 hp.2.1
    rcases List.mem_append.1 hc with hc | hc
    · exact hp.2.2 c hc b (by simp)
    · obtain ⟨h1, h2, h3⟩ := hp2.1 c hc
      exact ⟨fun e => h1 e.symm, h2.symm, h3.symm⟩
  have hks := kind_cell h.cell
  have hkm := kind_map h.map
  refine ⟨fun e => ?_, fun e => ?_, fun e => ?_, fun c hc hcf => ?_⟩
  · rw [← e] at hks
    rcases hkind with ⟨h1, _⟩ | ⟨h1, _⟩ | ⟨h1, _⟩ <;> (rw [h1] at hks; revert hks; decide)
  · rw [← e] at hkm
    rcases hkind with ⟨h1, _⟩ | ⟨h1, _⟩ | ⟨h1, _⟩ <;> (rw [h1] at hkm; revert hkm; decide)
  · have hkr := kind_row h.row e
    rcases hkind with ⟨h1, _⟩ | ⟨h1, _⟩ | ⟨h1, _⟩ <;> (rw [h1] at hkr; revert hkr; decide)
  · have hc' := h.bl c (by rcases List.mem_append.1 hc with hc | hc <;> simp [hc])
    obtain ⟨a1, a2, a3⟩ := hap c hc
    have hcd := kind_cell hc'.cell
    rcases hcf with e | e | e
    · rw [← e] at hcd
      rcases hkind with ⟨_, h2⟩ | ⟨h1, _⟩ | ⟨h1, _⟩
      · exact a1 (e.symm.trans h2)
      · rw [h1] at hcd; revert hcd; decide
      · rw [h1] at hcd; revert hcd; decide
    · have hkr := kind_row hc'.ids e
      rcases hkind with ⟨h1, _⟩ | ⟨_, h2⟩ | ⟨h1, _⟩
      · rw [h1] at hkr; revert hkr; decide
      · exact a2 k e h2
      · rw [h1] at hkr; revert hkr; decide
    · have hkr := kind_row hc'.sn e
      rcases hkind with ⟨h1, _⟩ | ⟨h1, _⟩ | ⟨_, h2⟩
      · rw [h1] at hkr; revert hkr; decide
      · rw [h1] at hkr; revert hkr; decide
      · exact a3 k e h2
/-- a block is rewritten -/
theorem ShIs.change (h : ShIs w sb mp vb (pre ++ b :: post) D t) (tt : Touch (blFoot b) w w') (hb' : BlIs w' b') (had : b'.ad = b.ad) (hvi : SameOrNew w b.vi b'.vi) (hvs : SameOrNew w b.vs b'.vs) : ShIs w' sb mp vb (pre ++ b' :: post) D t := by
  have hn := fun k (hk : blFoot b k) => h.blNot hk
  have hp := List.pairwise_append.1 h.apart
  have hp2 := List.pairwise_cons.1 hp.2.1
  have hlt : ∀ c ∈ pre ++ post, (∀ g, c.vi.ownBlock = some g → g < w.heap.size) ∧ (∀ g, c.vs.ownBlock = some g → g < w.heap.size) := fun c hc => by
    have hc' := h.bl c (by rcases List.mem_append.1 hc with hc | hc <;> simp [hc])
    exact ⟨own_lt hc'.ids, own_lt hc'.sn⟩
  refine ⟨block_touch h.cell tt (fun hk => (hn _ hk).1 rfl), ?_, fun c hc => ?_, map_touch h.map tt (fun hk => (hn _ hk).2.1 rfl), ?_⟩
  · have := own_touch h.row tt (fun g hg hk => (hn _ hk).2.2.1 hg)
    simpa [had] using this
  · rcases List.mem_append.1 hc with hc | hc
    · exact (h.bl c (by simp [hc])).touch tt (fun k hk hk' => (hn k hk').2.2.2 c (by simp [hc]) hk)
    · rcases List.mem_cons.1 hc with rfl | hc
      · exact hb'
      · exact (h.bl c (by simp [hc])).touch tt (fun k hk hk' => (hn k hk').2.2.2 c (by simp [hc]) hk)
  · refine List.pairwise_append.2 ⟨hp.1, List.pairwise_cons.2 ⟨fun c hc => ?_, hp2.2⟩, fun c hc d hd => ?_⟩
    · obtain ⟨h1, h2, h3⟩ := hp2.1 c hc
      obtain ⟨l1, l2⟩ := hlt c (by simp [hc])
      exact ⟨by rw [had]; exact h1, (h2.symm.new hvi l1).symm, (h3.symm.new hvs l2).symm⟩
    · rcases List.mem_cons.1 hd with rfl | hd
      · obtain ⟨h1, h2, h3⟩ := hp.2.2 c hc b (by simp)
        obtain ⟨l1, l2⟩ := hlt c (by simp [hc])
        exact ⟨by rw [had]; exact h1, h2.new hvi l1, h3.new hvs l2⟩
      · exact hp.2.2 c hc d (by simp [hd])
/-- a block comes in, the row of blocks is rewritten -/
theorem ShIs.insert {vb' : Value} (h : ShIs w sb mp vb (pre ++ post) D t) (hc : BlIs w c) (hca : ∀ d ∈ pre ++ post, c.ad ≠ d.ad ∧ Apart c.vi d.vi ∧ Apart c.vs d.vs)
    (tt : Touch (fun k => k = sb ∨ vb.ownBlock = some k) w w') (hcell : w'.heap[sb]? = some (.cells #[vb', .map (some mp), .int .i64 t] 57 (0, 0))) (hrow : w'.ownsRow 0 58 1 vb' (pre.length + 1 + post.length) (((pre ++ c :: post).map Bl.ad).flatMap ptC)) : ShIs w' sb mp vb' (pre ++ c :: post) D t := by
  have hks := kind_cell h.cell
  have hbl : ∀ d, BlIs w d → ∀ k, blFoot d k → ¬ (k = sb ∨ vb.ownBlock = some k) := fun d hd k hk e => by
    have hkind : kindOf w k = some (some 63) ∨ kindOf w k = some (some 33) ∨ kindOf w k = some (some 4) := by
      rcases hk with rfl | hk | hk
      · exact .inl (kind_cell hd.cell)
      · exact .inr (.inl (kind_row hd.ids hk))
      · exact .inr (.inr (kind_row hd.sn hk))
    rcases e with e | e
    · rw [← e] at hks
      rcases hkind with h1 | h1 | h1 <;> (rw [h1] at hks; revert hks; decide)
    · have hkr := kind_row h.row e
      rcases hkind with h1 | h1 | h1 <;> (rw [h1] at hkr; revert hkr; decide)
  have hp := List.pairwise_append.1 h.apart
  refine ⟨hcell, by simpa [Nat.add_assoc, Nat.add_comm, Nat.add_left_comm] using hrow, fun d hd => ?_, map_touch h.map tt (fun e => ?_), ?_⟩
  · rcases List.mem_append.1 hd with hd | hd
    · have := h.bl d (by simp [hd])
      exact this.touch tt (hbl d this)
    · rcases List.mem_cons.1 hd with rfl | hd
      · exact hc.touch tt (hbl _ hc)
      · have := h.bl d (by simp [hd])
        exact this.touch tt (hbl d this)
  · have hkm := kind_map h.map
    rcases e with e | e
    · rw [← e] at hks; rw [hkm] at hks; revert hks; decide
    · have hkr := kind_row h.row e
      rw [hkm] at hkr; revert hkr; decide
  · refine List.pairwise_append.2 ⟨hp.1, List.pairwise_cons.2 ⟨fun d hd => hca d (by simp [hd]), hp.2.1⟩, fun d hd e he => ?_⟩
    rcases List.mem_cons.1 he with rfl | he
    · obtain ⟨h1, h2, h3⟩ := hca d (by simp [hd])
      exact ⟨fun e => h1 e.symm, h2.symm, h3.symm⟩
    · exact hp.2.2 d hd e he
/-- the map is rewritten -/
theorem ShIs.remap {D' : DataW (Option Nat)} (h : ShIs w sb mp vb Bs D t) (tt : Touch (fun k => k = mp) w w') (hm : w'.ownsMap Try.prog 33 (objElem ptV) mp (Maps.size D') D') : ShIs w' sb mp vb Bs D' t := by
  have hkm := kind_map h.map
  refine ⟨block_touch h.cell tt (ne_kind (kind_cell h.cell) hkm (by decide)), own_touch h.row tt (fun g hg => ne_kind (kind_row h.row hg) hkm (by decide)), fun b hb => (h.bl b hb).touch tt (fun k hk => ?_), hm, h.apart⟩
  rcases hk with rfl | hk | hk
  · exact ne_kind (kind_cell (h.bl b hb).cell) hkm (by decide)
  · exact ne_kind (kind_row (h.bl b hb).ids hk) hkm (by decide)
  · exact ne_kind (kind_row (h.bl b hb).sn hk) hkm (by decide)
/-- its count is rewritten -/
theorem ShIs.recount {t' : Int} (h : ShIs w sb mp vb Bs D t) (tt : Touch (fun k => k = sb) w w') (hc : w'.heap[sb]? = some (.cells #[vb, .map (some mp), .int .i64 t'] 57 (0, 0))) : ShIs w' sb mp vb Bs D t' := by
  have hks := kind_cell h.cell
  refine ⟨hc, own_touch h.row tt (fun g hg => ne_kind (kind_row h.row hg) hks (by decide)), fun b hb => (h.bl b hb).touch tt (fun k hk => ?_), map_touch h.map tt (ne_kind (kind_map h.map) hks (by decide)), h.apart⟩
  rcases hk with rfl | hk | hk
  · exact ne_kind (kind_cell (h.bl b hb).cell) hks (by decide)
  · exact ne_kind (kind_row (h.bl b hb).ids hk) hks (by decide)
  · exact ne_kind (kind_row (h.bl b hb).sn hk) hks (by decide)
end
/-! in order: what the blocks say is the row, and the map leads to each one's block -/
def rowOf (Bs : List Bl) : Row Id := Bs.flatMap Bl.R
theorem rowOf_app (A B : List Bl) : rowOf (A ++ B) = rowOf A ++ rowOf B := by simp [rowOf]
theorem rowOf_cons (a : Bl) (B : List Bl) : rowOf (a :: B) = a.R ++ rowOf B := by simp [rowOf]
structure Tidy (Bs : List Bl) (D : DataW (Option Nat)) (t : Int) (R : Row Id) : Prop where
  row : rowOf Bs = R
  nodup : (namesR R).Nodup
  cnt : ∀ b ∈ Bs, b.n = cntR b.R
  all : t = cntR R
  size : Maps.size D = R.length
  fm : FMap idK (inF Bs) D
def ShelfAt (w : World) (F : Nat → Prop) (sb : Nat) (R : Row Id) : Prop :=
  ∃ mp vb Bs D t, ShIs w sb mp vb Bs D t ∧ Tidy Bs D t R ∧ (∀ k, foot sb mp vb Bs k → F k) ∧ (∀ k, F k → k < w.heap.size) ∧ Bs.length ≤ 2 * R.length
theorem ShelfAt.touch {w w' : World} {F G : Nat → Prop} {sb : Nat} {R : Row Id} (h : ShelfAt w F sb R) (tt : Touch G w w') (hG : ∀ k, F k → ¬ G k) : ShelfAt w' F sb R := by
  obtain ⟨mp, vb, Bs, D, t, h1, h2, h3, h4, h5⟩ := h
  exact ⟨mp, vb, Bs, D, t, h1.touch tt (fun k hk => hG k (h3 k hk)), h2, h3, fun k hk => Nat.lt_of_lt_of_le (h4 k hk) tt.size, h5⟩
theorem ShelfAt.below {w w' : World} {F : Nat → Prop} {sb : Nat} {R : Row Id} (h : ShelfAt w F sb R) (hb : Below w.heap.size w w') : ShelfAt w' F sb R :=
  h.touch (Below.touch hb (fun _ => False)) (fun _ _ h => h)
end Go.Proofs.Ytphapjbfaomblaa
