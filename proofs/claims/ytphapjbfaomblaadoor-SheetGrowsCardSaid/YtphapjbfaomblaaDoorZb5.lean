/- Texts of this seat, one behind the other: W5, GC. -/
import Derived.Test.YtphapjbfaomblaaDoorChecked
import Derived.Test.YtphapjbfaomblaaDoorZb4
import Derived.WalkSmall
import Derived.Test.YtphapjbfaomblaaDoorZb3
import Derived.Carry
/- The walks of the program's pieces of a text, and of how many there are. -/
namespace Go.Proofs.YtphapjbfaomblaaDoor
open Go.RowKit
def Tabs (w : World) : Prop := Lib.Utf8Tabs (Tryd.lays196_ren.g 3) (Tryd.lays196_ren.g 4) w
theorem Tabs.below {w w' : World} (h : Tabs w) (hb : Below w.heap.size w w') : Tabs w' := Utf8Tabs_below h hb
theorem valid_any (l : List UInt8) (w : World) (hl : l.length ≤ 1000000000) (hT : Tabs w) :
    Calls Tryd.prog 76 #[.string (ofL l)] w fun e w' => e = .returned (.bool (Lib.validD l)) ∧ Below w.heap.size w w' := by
  have h := Tryd.utf8_ValidString (ofL l) w (by rw [ofL_size]; omega) hT
  rw [ofL_toList] at h
  exact h
/-- the k-th piece is what 'range' hands over there -/
theorem next_piece {ps qs : List (List UInt8)} {p : List UInt8} (hp : isP p) (s : ByteArray) (hs : s = ofL ((ps.flatten ++ p) ++ qs.flatten)) :
    ps.flatten.length < s.size ∧ (Utf8.decode s ps.flatten.length).1 = (Lib.decodeL p).1 ∧ (Utf8.decode s ps.flatten.length).2 = p.length := by
  have e : Lib.decodeL p = Utf8.decode s ps.flatten.length := by
    rw [← Lib.decodeL_drop, hs, ofL_toList, List.append_assoc, List.drop_left, hp.app]
  rw [← e]
  refine ⟨?_, rfl, hp.2.2⟩
  rw [hs, ofL_size, List.length_append, List.length_append]
  have := hp.pos
  omega
theorem iter_pos {w : World} {k pos : Nat} {s : ByteArray} (h : w.heap[k]? = some (.stringIter s pos)) : w.iterPos k = pos := by
  unfold World.iterPos
  rw [h]
theorem grown_iter {w w' : World} {row : Option Nat} {k pos : Nat} {s : ByteArray} (h : w.heap[k]? = some (.stringIter s pos)) (hg : w.grownBy w' row) (hne : row ≠ some k) : w'.heap[k]? = some (.stringIter s pos) :=
  (hg.block k (Array.getElem?_eq_some_iff.1 h).1 (Ne.symm hne)).trans h
theorem alloc_iter {w : World} {k pos : Nat} {s : ByteArray} (h : w.heap[k]? = some (.stringIter s pos)) (o : Obj) : (w.alloc o).heap[k]? = some (.stringIter s pos) :=
  (Below.heap_alloc w o k (Array.getElem?_eq_some_iff.1 h).1).trans h
theorem flat_split (ps : List (List UInt8)) (k : Nat) (h : k < ps.length) : ps.flatten = ((ps.take k).flatten ++ ps[k]) ++ (ps.drop (k + 1)).flatten := by
  rw [← flatten_take_succ ps k h, ← List.flatten_append, List.take_append_drop]
def SplitV (ps : List (List UInt8)) (w : World) (K : Nat) (v : Value) (wr : World) : Prop :=
  ∃ k, k ≤ ps.length ∧ wr.heap[K]? = some (.stringIter (ofL ps.flatten) (ps.take k).flatten.length) ∧ wr.ownsRow w.heap.size 9 1 v k ((ps.take k).map str) ∧ Below w.heap.size w wr ∧ w.heap.size ≤ K
set_option maxRecDepth 100000 in
set_option maxHeartbeats 400000 in
theorem split_valid (ps : List (List UInt8)) (hps : AllP ps) (w : World) (hl : ps.flatten.length ≤ 1000000000) (hT : Tabs w) :
    Calls Tryd.prog 65 #[.string (ofL ps.flatten)] w fun e w' => ∃ v, e = .returned (.tuple #[v, .int .i64 0]) ∧ w'.ownsRow w.heap.size 9 1 v ps.length (ps.map str) ∧ Below w.heap.size w w' := by
  obtain ⟨i0, hi, hz0, hz1, hz2⟩ := info_parts infoStr
  have cV := valid_any ps.flatten w hl hT
  rw [valid_flatten ps hps] at cV
  have CV := Lib.hid cV
  clear cV
  go_enter Tryd.func65, Tryd.ntmps65
  go_wp2_with (go_at_call 76; refine (CV.out).mono ?_; rintro e w1 ⟨rfl, hb1⟩)
  go_loopw [4] (fun v wr => SplitV ps w (w1.heap.size + 1) v wr) (fun _ wr => (ofL ps.flatten).size - wr.iterPos (w1.heap.size + 1))
  case atStart =>
    refine ⟨0, Nat.zero_le _, ?_, ?_, ?_, ?_⟩
    · have := World.iter_heap (w1.alloc (Obj.cells #[] 9)) (ofL ps.flatten) 0
      simpa using this
    · exact (World.ownsRow_made w1 #[] 0 hb1.size (Nat.zero_le _) rfl).alloc _
    · exact (hb1.alloc hb1.size _).alloc (by have := hb1.size; simp; omega) _
    · have := hb1.size; omega
  case round =>
    obtain ⟨k, hk, hit, hown, hbw, hK⟩ := hrel
    obtain ⟨K, hKK⟩ : ∃ K, w1.heap.size + 1 = K := ⟨_, rfl⟩
    rw [hKK] at hit hK ⊢
    clear CV hb1 hKK
    obtain ⟨s, hs⟩ : ∃ s, ofL ps.flatten = s := ⟨_, rfl⟩
    rw [hs] at hit ⊢
    by_cases hlt : k < ps.length
    · have hp : isP ps[k] := hps _ (List.getElem_mem hlt)
      obtain ⟨n1, n2, n3⟩ := next_piece hp s (ps := ps.take k) (qs := ps.drop (k + 1)) (by rw [← hs]; congr 1; exact flat_split ps k hlt)
      have hnx := fun ty => Lib.run_next_any_at (P := Tryd.prog) wr K s _ ty hit n1
      rw [n2, n3] at hnx
      have hen := encode_piece hp
      have hfl := flatten_take_succ ps k hlt
      have htk := List.take_succ_eq_append_getElem hlt
      obtain ⟨q, hq⟩ : ∃ q, ps[k] = q := ⟨_, rfl⟩
      rw [hq] at hnx hen hfl hp htk
      obtain ⟨c, hc⟩ : ∃ c, (Lib.decodeL q).1 = c := ⟨_, rfl⟩
      rw [hc] at hnx hen
      obtain ⟨pos, hpos⟩ : ∃ pos, (ps.take k).flatten.length = pos := ⟨_, rfl⟩
      rw [hpos] at hnx hit n1
      have hit2 := Lib.iterAt_heap wr K s pos (pos + q.length) hit
      have hown2 := own_iterAt hown hit (pos + q.length)
      have hbw2 := below_iterAt hbw hK s (pos + q.length)
      have hq0 := hp.pos
      have HFL := Lib.hid (show (ps.take (k + 1)).flatten.length = pos + q.length by rw [hfl, List.length_append, hpos])
      have HTK := Lib.hid htk
      have HIT := Lib.hid hit
      have HIT2 := Lib.hid hit2
      have HS := Lib.hid hs
      have hkl := length_le_flatten ps hps
      clear n2 n3 hq hc hpos hit2 hfl htk hs hown hbw hit
      go_wp2_with (at_builtin; refine wpList_append_own _ rfl _ _ 92 rfl w.heap.size 9 i0 (.string ⟨#[]⟩) 1 16 Tryd.underlying92 hi hz0 hz1 hz2 rfl (by decide) _ _ _ rfl (hown2.alloc _) ⟨(wr.iterAt K s (pos + q.length)).heap.size, 0, none⟩ 1 1 [str q] rfl rfl ?c1 ?c2 ?c3 ?c4 ?c5 ?_)
      case c1 => exact cell_one_new _ _ _
      case c2 => intro u hu; rcases List.mem_singleton.1 hu with rfl; rfl
      case c3 => simp only [maxLen]; omega
      case c4 => omega
      case c5 => have := hbw2.size; simp; omega
      intro v' w2 hown' hgrow _
      have hit3 := grown_iter (alloc_iter HIT2.out _) hgrow (own_ne_iter hown2 HIT2.out)
      have hbw3 : Below w.heap.size w w2 := (hbw2.alloc hbw2.size _).grown hgrow (by have := hbw2.size; simp; omega) (fun k hk => (hown2.lt k hk).1)
      clear hgrow
      go_wp2
      go_roundw
      case rel => exact ⟨k + 1, by omega, by rw [HFL.out, HS.out]; exact hit3, by rw [HTK.out, List.map_append, List.map_take]; exact hown', hbw3, hK⟩
      case measure => rw [iter_pos hit3, iter_pos HIT.out]; omega
    · have hke : ps.take k = ps := List.take_of_length_le (by omega)
      have hn := fun ty => Lib.run_next_end_at (P := Tryd.prog) wr K s _ ty hit (by rw [hke, ← hs, ofL_size]; omega)
      rw [hke] at hown
      have hk2 : k = ps.length := by omega
      subst hk2
      have HOWN := Lib.hid hown
      clear hke hs hown
      go_wp2
      go_ret2
      exact ⟨_, rfl, HOWN.out, hbw⟩
set_option maxRecDepth 100000 in
set_option maxHeartbeats 400000 in
theorem split_bad (l : List UInt8) (hv : Lib.validD l = false) (w : World) (hl : l.length ≤ 1000000000) (hT : Tabs w) :
    Calls Tryd.prog 65 #[.string (ofL l)] w fun e w' => e = .returned (.tuple #[.slice none 0 0, .int .i64 60]) ∧ Below w.heap.size w w' := by
  have cV := valid_any l w hl hT
  rw [hv] at cV
  have CV := Lib.hid cV
  clear cV hv
  go_enter Tryd.func65, Tryd.ntmps65
  go_wp2_with (go_at_call 76; refine (CV.out).mono ?_; rintro e w1 ⟨rfl, hb1⟩)
  go_ret2
  exact ⟨rfl, hb1⟩
end Go.Proofs.YtphapjbfaomblaaDoor
/- What is gathered, in memory: the steps. -/
namespace Go.Proofs.YtphapjbfaomblaaDoor
open Go Go.RowKit Go.Maps
abbrev HH := Unit
theorem zero3 (u : World) : (zeroValue 3).run Tryd.prog u = .ok (.int .i64 0) u := Tryd.zeroValue3 u
theorem plain3 (a : Int) (ha : I64 a) : plainElem (H := HH) Tryd.prog 3 (.int .i64 a) = some (.lit (.int .i64 a), []) := plainElem_int Tryd.underlying3 ((wf64 a).2 ha)
structure GM (F G : List El) (w wr : World) (bm bh m m2 : Nat) (D : DataW Hd) (D2 : DataW HH) (hd : Id → Hd) (B : Id → List El) : Prop where
  le : m ≤ F.length
  le2 : m2 ≤ G.length + 1
  rows : MRows wr w.heap.size bm m D hd B
  gat : Gathered F B
  hm : wr.ownsMap Tryd.prog 26 (plainElem (H := HH) Tryd.prog 3) bh m2 D2
  ct : ∀ s, D2.atKey (idK s) (.lit (.int .i64 0)) = .lit (.int .i64 (had G s : Nat))
  lo : w.heap.size ≤ bm ∧ w.heap.size ≤ bh ∧ bm ≠ bh
  bel : Below w.heap.size w wr
section
variable {F G : List El} {w wr wr' : World} {bm bh m m2 : Nat} {D : DataW Hd} {D2 : DataW HH} {hd : Id → Hd} {B : Id → List El}
theorem GM.keep (h : GM F G w wr bm bh m m2 D D2 hd B) {S : Nat → Prop} (t : Touch S wr wr') (hS : ∀ k, S k → w.heap.size ≤ k ∧ ∃ cur ty fr, wr.heap[k]? = some (.cells cur ty fr) ∧ ty ≠ 84) : GM F G w wr' bm bh m m2 D D2 hd B where
  le := h.le
  le2 := h.le2
  rows := h.rows.touch t (fun hs => by
      obtain ⟨_, cur, ty, fr, h1, _⟩ := hS _ hs
      obtain ⟨es, c, h2⟩ := h.rows.isMap
      rw [h1] at h2
      cases h2) (fun x g hg hs => by
      obtain ⟨_, cur, ty, fr, h1, h3⟩ := hS _ hs
      obtain ⟨cur2, h2⟩ := h.rows.cells hg
      rw [h1] at h2
      cases h2
      exact h3 rfl)
  gat := h.gat
  hm := map_touch h.hm t (fun hs => by
      obtain ⟨_, cur, ty, fr, h1, _⟩ := hS _ hs
      obtain ⟨es, c, h2, _⟩ := h.hm
      rw [h1] at h2
      cases h2)
  ct := h.ct
  lo := h.lo
  bel := h.bel.trans (t.below h.bel.size (fun x hx hs => by have := (hS x hs).1; omega))
theorem GM.grow (h : GM F G w wr bm bh m m2 D D2 hd B) (hb : Below wr.heap.size wr wr') : GM F G w wr' bm bh m m2 D D2 hd B :=
  h.keep (Below.touch hb (fun _ => False)) (fun _ h => h.elim)
theorem GM.count (h : GM F G w wr bm bh m m2 D D2 hd B) (x : Id) : (Instr.lookup 81 (.map (some bh)) (idV x) false).run Tryd.prog wr = .ok (.int .i64 (had G x : Nat)) wr := by
  obtain ⟨c, h1, h2, _⟩ := h.hm.lookup_int keyed26 Tryd.underlying81 Tryd.underlying3 (zero3 wr) (key26 x)
  have h3 := h.ct x
  rw [h2] at h3
  have : c = (had G x : Nat) := by simpa using h3
  rw [h1, this]
/-- 'had[x]++' -/
theorem GM.tick (h : GM F G w wr bm bh m m2 D D2 hd B) (e : El) (hl : G.length ≤ 1000000) :
    ∃ st w1 w2, (Instr.mapEntry 81 (.map (some bh)) (idV e.id)).run Tryd.prog wr = .ok (.tuple #[.int .i64 (had G e.id : Nat), goInt st]) w1 ∧ (Instr.lookup 81 (.map (some bh)) (idV e.id) false).run Tryd.prog w1 = .ok (.int .i64 (had G e.id : Nat)) w1 ∧
      (Instr.entryStore 81 (.map (some bh)) (goInt st) (.int .i64 ((had G e.id : Nat) + 1))).run Tryd.prog w1 = .ok () w2 ∧ wr.grownBy w2 (some bh) ∧ ∃ D3, GM F (G ++ [e]) w w2 bm bh m (m2 + 1) D D3 hd B := by
  have hle := had_le G e.id
  have hm2 := h.le2
  have hw : I64 (((had G e.id : Nat) : Int) + 1) := by unfold I64; omega
  obtain ⟨v0, st, w1, w2, e1, e2, e3, e4, hM, hg⟩ := own_entry (val := .int .i64 (((had G e.id : Nat) : Int) + 1)) h.hm law26 Tryd.underlying81 (fun u => zero3 u) (by unfold maxLen; omega) (key26 e.id) (plain3 _ hw)
  have hv : v0 = .int .i64 (had G e.id : Nat) := by
    rw [h.count e.id] at e1
    cases e1
    rfl
  subst hv
  refine ⟨st, w1, w2, e2, e3, e4, hg, D2.put (idK e.id) (.lit (.int .i64 (((had G e.id : Nat) : Int) + 1))), ?_⟩
  have hbm : ∀ x g, (hdV (hd x)).ownBlock = some g → g ≠ bh := by
    rintro x g hx rfl
    obtain ⟨cur, h1⟩ := h.rows.cells hx
    obtain ⟨es, c, h2, _⟩ := h.hm
    rw [h1] at h2
    cases h2
  exact {
    le := h.le
    le2 := by simp; omega
    rows := h.rows.touch (Touch.grown (F := fun k => k = bh) (Touch.refl _ _) hg (fun k hk _ => by cases hk; rfl)) h.lo.2.2 (fun x g hx => hbm x g hx)
    gat := h.gat
    hm := hM
    ct := fun s => by
      rw [had_snoc]
      by_cases hs : e.id = s
      · subst hs
        rw [Maps.atKey_put_same h.hm.isMap (keyed26.key (key26 e.id)), if_pos rfl]
        simp
      · rw [Maps.atKey_put_other (fun e' => hs (idK_inj e').symm), h.ct s, if_neg hs]
        simp
    lo := h.lo
    bel := h.bel.grown hg h.bel.size (fun k hk => by cases hk; exact h.lo.2.1) }
theorem GM.seen {e : El} (h : GM F (F ++ [e]) w wr bm bh m m2 D D2 hd B) (hx : had F e.id ≠ 0) : GM (F ++ [e]) (F ++ [e]) w wr bm bh m m2 D D2 hd B :=
  { h with le := by have := h.le; simp; omega, gat := gathered_had h.gat hx }
/-- 'behind[after] = append(behind[after], x)': the store, behind the append -/
theorem GM.new {e : El} (h : GM F (F ++ [e]) w wr bm bh m m2 D D2 hd B) (hx : had F e.id = 0) {u u2 : World} {g cap : Nat} (ht : Touch (fun k => k = bm ∨ (hdV (hd e.af)).ownBlock = some k) wr u)
    (hown : u.ownsRow w.heap.size 84 4 (hdV (some (g, (B e.af).length + 1, cap))) ((B e.af).length + 1) ((B e.af).flatMap elC ++ elC e)) (hat : (hdV (hd e.af)).ownBlock = some g ∨ wr.heap.size ≤ g)
    (hmap : u2.ownsMap Tryd.prog 26 (objElem hdV) bm (m + 1) (D.put (idK e.af) (.held (some (g, (B e.af).length + 1, cap))))) (hg2 : u.grownBy u2 (some bm)) :
    ∃ D' hd' B', GM (F ++ [e]) (F ++ [e]) w u2 bm bh (m + 1) m2 D' D2 hd' B' := by
  have hne : ∀ x k, (hdV (hd x)).ownBlock = some k → k ≠ bh := by
    rintro x k hx rfl
    obtain ⟨cur, h1⟩ := h.rows.cells hx
    obtain ⟨es, c, h2, _⟩ := h.hm
    rw [h1] at h2
    cases h2
  have hgm : g ≠ bm := by
    rintro rfl
    rcases hat with hat | hat
    · exact h.rows.ne hat rfl
    · have := h.rows.map.lt; omega
  have t2 : Touch (fun k => k = bm ∨ (hdV (hd e.af)).ownBlock = some k) wr u2 := ht.grown hg2 (fun k hk _ => by cases hk; exact .inl rfl)
  have hlB : ((B e.af) ++ [e]).length = (B e.af).length + 1 := by simp
  refine ⟨_, _, _, { le := ?_, le2 := h.le2, rows := h.rows.put (x := e.af) (a := some (g, (B e.af).length + 1, cap)) (l := B e.af ++ [e]) hmap (by simp) ?_ ?_ ?_, gat := ?_, hm := ?_, ct := h.ct, lo := h.lo, bel := ?_ }⟩
  · have := h.le; simp; omega
  · rw [hlB, List.flatMap_append, List.flatMap_singleton]
    exact hown.kept hg2 (.inr (by simp [hdV, Value.ownBlock]; exact hgm))
  · intro y hy
    refine own_touch (h.rows.rows y) t2 (fun k hk => ?_)
    rintro (rfl | h')
    · exact h.rows.ne hk rfl
    · exact h.rows.apart y e.af hy k hk h'
  · intro y hy k hk
    have hkg : k = g := by simpa [hdV, Value.ownBlock] using hk.symm
    subst hkg
    intro h'
    rcases hat with hat | hat
    · exact h.rows.apart y e.af hy k h' hat
    · obtain ⟨cur, h1⟩ := h.rows.cells h'
      have := (Array.getElem?_eq_some_iff.1 h1).1
      omega
  · have := gathered_new h.gat hx
    refine fun y => ?_
    have := this y
    by_cases e' : y = e.af
    · simp only [if_pos e'] at this ⊢; rw [e'] at this ⊢; exact this
    · simp only [if_neg e'] at this ⊢; exact this
  · refine map_touch h.hm t2 ?_
    rintro (h' | h')
    · exact h.lo.2.2 h'.symm
    · exact hne _ _ h' rfl
  · refine h.bel.trans (t2.below h.bel.size (fun x hx hs => ?_))
    rcases hs with rfl | hs
    · have := h.lo.1; omega
    · have := ((h.rows.rows e.af).lt x hs).1; omega
end
theorem split_pcs (tx : ByteArray) (w : World) (hl : tx.size ≤ 1000000000) (hT : Tabs w) :
    Calls Tryd.prog 65 #[.string tx] w fun e w' => ∃ v er, e = .returned (.tuple #[v, .int .i64 er]) ∧ w'.ownsRow w.heap.size 9 1 v (pcs tx.data.toList).length ((pcs tx.data.toList).map str) ∧ Below w.heap.size w w' := by
  have hs : tx = ofL tx.data.toList := (ofL_data tx).symm
  have hln : tx.data.toList.length = tx.size := (Lib.size_eq tx).symm
  rcases hv : Lib.validD tx.data.toList with _ | _
  · rw [hs]
    refine (split_bad tx.data.toList hv w (by omega) hT).mono ?_
    rintro e w' ⟨rfl, hb⟩
    rw [ofL_toList, pcs_bad hv]
    exact ⟨_, _, rfl, World.ownsRow_nil _ _ _ _, hb⟩
  · obtain ⟨ps, hps, he⟩ := pieces_of_valid hv
    rw [hs, he]
    refine (split_valid ps hps w (by rw [← he]; omega) hT).mono ?_
    rintro e w' ⟨v, rfl, ho, hb⟩
    rw [ofL_toList, pcs_of hps]
    exact ⟨_, _, rfl, ho, hb⟩
theorem wrap_next (x : Id) : IntKind.i64.wrap (x.I + 1) = (nextI x).I := by
  have := x.hI
  unfold I64 at this
  unfold nextI
  dsimp only
  split
  · rename_i h; rw [h]; rfl
  · exact IntWalk.i64_in _ (by omega)
end Go.Proofs.YtphapjbfaomblaaDoor
