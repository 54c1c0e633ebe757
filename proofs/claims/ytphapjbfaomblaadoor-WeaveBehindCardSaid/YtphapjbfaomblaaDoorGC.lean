/- What is gathered, in memory: the steps. -/
import Derived.Test.YtphapjbfaomblaaDoorGB
import Derived.Test.YtphapjbfaomblaaDoorW5
import Derived.Carry
namespace Go.Proofs.YtphapjbfaomblaaDoor
open Go Go.RowKit Go.Maps
abbrev HH := Unit
theorem zero3 (u : World) : (zeroValue 3).run Tryd.prog u = .ok (.int .i64 0) u := Tryd.zeroValue3 u
theorem plain3 (a : Int) (ha : I64 a) : plainElem (H := HH) Tryd.prog 3 (.int .i64 a) = some (.lit (.int .i64 a), []) := plainElem_int Tryd.underlying3 ((wf64 a).2 ha)
structure GM (F G : List El) (w wr : World) (bm bh m m2 : Nat) (D : DataW Hd) (D2 : DataW HH) (hd : Id → Hd) (B : Id → List El) : Prop where
  le : m ≤ F.length
  le2 : m2 ≤ G.length + 1
  rows : MRows wr w.heap.size bm m D hd B
  gat : Gathered F B
  hm : wr.ownsMap Tryd.prog 26 (plainElem (H := HH) Tryd.prog 3) bh m2 D2
  ct : ∀ s, D2.atKey (idK s) (.lit (.int .i64 0)) = .lit (.int .i64 (had G s : Nat))
  lo : w.heap.size ≤ bm ∧ w.heap.size ≤ bh ∧ bm ≠ bh
  bel : Below w.heap.size w wr
section
variable {F G : List El} {w wr wr' : World} {bm bh m m2 : Nat} {D : DataW Hd} {D2 : DataW HH} {hd : Id → Hd} {B : Id → List El}
theorem GM.keep (h : GM F G w wr bm bh m m2 D D2 hd B) {S : Nat → Prop} (t : Touch S wr wr') (hS : ∀ k, S k → w.heap.size ≤ k ∧ ∃ cur ty fr, wr.heap[k]? = some (.cells cur ty fr) ∧ ty ≠ 84) : GM F G w wr' bm bh m m2 D D2 hd B where
  le := h.le
  le2 := h.le2
  rows := h.rows.touch t (fun hs => by
      obtain ⟨_, cur, ty, fr, h1, _⟩ := hS _ hs
      obtain ⟨es, c, h2⟩ := h.rows.isMap
      rw [h1] at h2
      cases h2) (fun x g hg hs => by
      obtain ⟨_, cur, ty, fr, h1, h3⟩ := hS _ hs
      obtain ⟨cur2, h2⟩ := h.rows.cells hg
      rw [h1] at h2
      cases h2
      exact h3 rfl)
  gat := h.gat
  hm := map_touch h.hm t (fun hs => by
      obtain ⟨_, cur, ty, fr, h1, _⟩ := hS _ hs
      obtain ⟨es, c, h2, _⟩ := h.hm
      rw [h1] at h2
      cases h2)
  ct := h.ct
  lo := h.lo
  bel := h.bel.trans (t.below h.bel.size (fun x hx hs => by have := (hS x hs).1; omega))
theorem GM.grow (h : GM F G w wr bm bh m m2 D D2 hd B) (hb : Below wr.heap.size wr wr') : GM F G w wr' bm bh m m2 D D2 hd B :=
  h.keep (Below.touch hb (fun _ => False)) (fun _ h => h.elim)
theorem GM.count (h : GM F G w wr bm bh m m2 D D2 hd B) (x : Id) : (Instr.lookup 81 (.map (some bh)) (idV x) false).run Tryd.prog wr = .ok (.int .i64 (had G x : Nat)) wr := by
  obtain ⟨c, h1, h2, _⟩ := h.hm.lookup_int keyed26 Tryd.underlying81 Tryd.underlying3 (zero3 wr) (key26 x)
  have h3 := h.ct x
  rw [h2] at h3
  have : c = (had G x : Nat) := by simpa using h3
  rw [h1, this]
/-- 'had[x]++' -/
theorem GM.tick (h : GM F G w wr bm bh m m2 D D2 hd B) (e : El) (hl : G.length ≤ 1000000) :
    ∃ st w1 w2, (Instr.mapEntry 81 (.map (some bh)) (idV e.id)).run Tryd.prog wr = .ok (.tuple #[.int .i64 (had G e.id : Nat), goInt st]) w1 ∧ (Instr.lookup 81 (.map (some bh)) (idV e.id) false).run Tryd.prog w1 = .ok (.int .i64 (had G e.id : Nat)) w1 ∧
      (Instr.entryStore 81 (.map (some bh)) (goInt st) (.int .i64 ((had G e.id : Nat) + 1))).run Tryd.prog w1 = .ok () w2 ∧ wr.grownBy w2 (some bh) ∧ ∃ D3, GM F (G ++ [e]) w w2 bm bh m (m2 + 1) D D3 hd B := by
  have hle := had_le G e.id
  have hm2 := h.le2
  have hw : I64 (((had G e.id : Nat) : Int) + 1) := by unfold I64; omega
  obtain ⟨v0, st, w1, w2, e1, e2, e3, e4, hM, hg⟩ := own_entry (val := .int .i64 (((had G e.id : Nat) : Int) + 1)) h.hm law26 Tryd.underlying81 (fun u => zero3 u) (by unfold maxLen; omega) (key26 e.id) (plain3 _ hw)
  have hv : v0 = .int .i64 (had G e.id : Nat) := by
    rw [h.count e.id] at e1
    cases e1
    rfl
  subst hv
  refine ⟨st, w1, w2, e2, e3, e4, hg, D2.put (idK e.id) (.lit (.int .i64 (((had G e.id : Nat) : Int) + 1))), ?_⟩
  have hbm : ∀ x g, (hdV (hd x)).ownBlock = some g → g ≠ bh := by
    rintro x g hx rfl
    obtain ⟨cur, h1⟩ := h.rows.cells hx
    obtain ⟨es, c, h2, _⟩ := h.hm
    rw [h1] at h2
    cases h2
  exact {
    le := h.le
    le2 := by simp; omega
    rows := h.rows.touch (Touch.grown (F := fun k => k = bh) (Touch.refl _ _) hg (fun k hk _ => by cases hk; rfl)) h.lo.2.2 (fun x g hx => hbm x g hx)
    gat := h.gat
    hm := hM
    ct := fun s => by
      rw [had_snoc]
      by_cases hs : e.id = s
      · subst hs
        rw [Maps.atKey_put_same h.hm.isMap (keyed26.key (key26 e.id)), if_pos rfl]
        simp
      · rw [Maps.atKey_put_other (fun e' => hs (idK_inj e').symm), h.ct s, if_neg hs]
        simp
    lo := h.lo
    bel := h.bel.grown hg h.bel.size (fun k hk => by cases hk; exact h.lo.2.1) }
theorem GM.seen {e : El} (h : GM F (F ++ [e]) w wr bm bh m m2 D D2 hd B) (hx : had F e.id ≠ 0) : GM (F ++ [e]) (F ++ [e]) w wr bm bh m m2 D D2 hd B :=
  { h with le := by have := h.le; simp; omega, gat := gathered_had h.gat hx }
/-- 'behind[after] = append(behind[after], x)': the store, behind the append -/
theorem GM.new {e : El} (h : GM F (F ++ [e]) w wr bm bh m m2 D D2 hd B) (hx : had F e.id = 0) {u u2 : World} {g cap : Nat} (ht : Touch (fun k => k = bm ∨ (hdV (hd e.af)).ownBlock = some k) wr u)
    (hown : u.ownsRow w.heap.size 84 4 (hdV (some (g, (B e.af).length + 1, cap))) ((B e.af).length + 1) ((B e.af).flatMap elC ++ elC e)) (hat : (hdV (hd e.af)).ownBlock = some g ∨ wr.heap.size ≤ g)
    (hmap : u2.ownsMap Tryd.prog 26 (objElem hdV) bm (m + 1) (D.put (idK e.af) (.held (some (g, (B e.af).length + 1, cap))))) (hg2 : u.grownBy u2 (some bm)) :
    ∃ D' hd' B', GM (F ++ [e]) (F ++ [e]) w u2 bm bh (m + 1) m2 D' D2 hd' B' := by
  have hne : ∀ x k, (hdV (hd x)).ownBlock = some k → k ≠ bh := by
    rintro x k hx rfl
    obtain ⟨cur, h1⟩ := h.rows.cells hx
    obtain ⟨es, c, h2, _⟩ := h.hm
    rw [h1] at h2
    cases h2
  have hgm : g ≠ bm := by
    rintro rfl
    rcases hat with hat | hat
    · exact h.rows.ne hat rfl
    · have := h.rows.map.lt; omega
  have t2 : Touch (fun k => k = bm ∨ (hdV (hd e.af)).ownBlock = some k) wr u2 := ht.grown hg2 (fun k hk _ => by cases hk; exact .inl rfl)
  have hlB : ((B e.af) ++ [e]).length = (B e.af).length + 1 := by simp
  refine ⟨_, _, _, { le := ?_, le2 := h.le2, rows := h.rows.put (x := e.af) (a := some (g, (B e.af).length + 1, cap)) (l := B e.af ++ [e]) hmap (by simp) ?_ ?_ ?_, gat := ?_, hm := ?_, ct := h.ct, lo := h.lo, bel := ?_ }⟩
  · have := h.le; simp; omega
  · rw [hlB, List.flatMap_append, List.flatMap_singleton]
    exact hown.kept hg2 (.inr (by simp [hdV, Value.ownBlock]; exact hgm))
  · intro y hy
    refine own_touch (h.rows.rows y) t2 (fun k hk => ?_)
    rintro (rfl | h')
    · exact h.rows.ne hk rfl
    · exact h.rows.apart y e.af hy k hk h'
  · intro y hy k hk
    have hkg : k = g := by simpa [hdV, Value.ownBlock] using hk.symm
    subst hkg
    intro h'
    rcases hat with hat | hat
    · exact h.rows.apart y e.af hy k h' hat
    · obtain ⟨cur, h1⟩ := h.rows.cells h'
      have := (Array.getElem?_eq_some_iff.1 h1).1
      omega
  · have := gathered_new h.gat hx
    refine fun y => ?_
    have := this y
    by_cases e' : y = e.af
    · simp only [if_pos e'] at this ⊢; rw [e'] at this ⊢; exact this
    · simp only [if_neg e'] at this ⊢; exact this
  · refine map_touch h.hm t2 ?_
    rintro (h' | h')
    · exact h.lo.2.2 h'.symm
    · exact hne _ _ h' rfl
  · refine h.bel.trans (t2.below h.bel.size (fun x hx hs => ?_))
    rcases hs with rfl | hs
    · have := h.lo.1; omega
    · have := ((h.rows.rows e.af).lt x hs).1; omega
end
theorem split_pcs (tx : ByteArray) (w : World) (hl : tx.size ≤ 1000000000) (hT : Tabs w) :
    Calls Tryd.prog 65 #[.string tx] w fun e w' => ∃ v er, e = .returned (.tuple #[v, .int .i64 er]) ∧ w'.ownsRow w.heap.size 9 1 v (pcs tx.data.toList).length ((pcs tx.data.toList).map str) ∧ Below w.heap.size w w' := by
  have hs : tx = ofL tx.data.toList := (ofL_data tx).symm
  have hln : tx.data.toList.length = tx.size := (Lib.size_eq tx).symm
  rcases hv : Lib.validD tx.data.toList with _ | _
  · rw [hs]
    refine (split_bad tx.data.toList hv w (by omega) hT).mono ?_
    rintro e w' ⟨rfl, hb⟩
    rw [ofL_toList, pcs_bad hv]
    exact ⟨_, _, rfl, World.ownsRow_nil _ _ _ _, hb⟩
  · obtain ⟨ps, hps, he⟩ := pieces_of_valid hv
    rw [hs, he]
    refine (split_valid ps hps w (by rw [← he]; omega) hT).mono ?_
    rintro e w' ⟨v, rfl, ho, hb⟩
    rw [ofL_toList, pcs_of hps]
    exact ⟨_, _, rfl, ho, hb⟩
theorem wrap_next (x : Id) : IntKind.i64.wrap (x.I + 1) = (nextI x).I := by
  have := x.hI
  unfold I64 at this
  unfold nextI
  dsimp only
  split
  · rename_i h; rw [h]; rfl
  · exact IntWalk.i64_in _ (by omega)
end Go.Proofs.YtphapjbfaomblaaDoor
