/- Places: their cells; the program's within. -/
import Derived.Test.YtejafcdlkpmemaaPP1
import Derived.Test.YtejafcdlkpmemaaEG
import Derived.Test.YtejafcdlkpmemaaB
import Derived.Test.YtejafcdlkpmemaaR
import Derived.WalkMore
namespace Go.Proofs.Ytejafcdlkpmemaa
open Go Go.RowKit Go.Maps Go.Shelf
def plC (p : Place) : List Value := [.int .i64 p.nd.s.T, .int .i64 p.nd.s.R, .int .i64 p.nd.I, .int .i64 p.pa.s.T, .int .i64 p.pa.s.R, .int .i64 p.pa.I, .string p.nm, .bool p.dir]
def plV (p : Place) : Value := .agg #[.int .i64 p.nd.s.T, .int .i64 p.nd.s.R, .int .i64 p.nd.I, .int .i64 p.pa.s.T, .int .i64 p.pa.s.R, .int .i64 p.pa.I, .string p.nm, .bool p.dir]
def toC (t : Told) : List Value := [.int .i64 t.at_.s.T, .int .i64 t.at_.s.R, .int .i64 t.at_.I, .int .i64 t.p.nd.s.T, .int .i64 t.p.nd.s.R, .int .i64 t.p.nd.I, .int .i64 t.p.pa.s.T, .int .i64 t.p.pa.s.R, .int .i64 t.p.pa.I, .string t.p.nm, .bool t.p.dir]
theorem plC_one (x : Place) : ∀ u ∈ plC x, u.oneCell' = true := by
  intro u hu
  simp [plC] at hu
  rcases hu with rfl | rfl | rfl | rfl | rfl | rfl | rfl | rfl <;> rfl
theorem toC_one (x : Told) : ∀ u ∈ toC x, u.oneCell' = true := by
  intro u hu
  simp [toC] at hu
  rcases hu with rfl | rfl | rfl | rfl | rfl | rfl | rfl | rfl | rfl | rfl | rfl <;> rfl
theorem plV_inj {a b : Place} (h : plV a = plV b) : a = b := by
  obtain ⟨⟨⟨a1, a2, _, _⟩, a3, _⟩, ⟨⟨a4, a5, _, _⟩, a6, _⟩, a7, a8⟩ := a
  obtain ⟨⟨⟨b1, b2, _, _⟩, b3, _⟩, ⟨⟨b4, b5, _, _⟩, b6, _⟩, b7, b8⟩ := b
  simpa [plV, and_assoc] using h
def zeroP : Place := ⟨zeroI, zeroI, ⟨#[]⟩, false⟩
/-- within, by a function of the nodes -/
def withinF (f : Id → Option Place) : Nat → Id → Id → Bool
  | 0, _, _ => true
  | n + 1, x, up => if x = up then true else match f x with
    | none => false
    | some p => withinF f n p.pa up
theorem withinGo_eq (L : List Place) : ∀ (n : Nat) (x up : Id), withinGo L n x up = withinF (pfind L) n x up
  | 0, _, _ => rfl
  | n + 1, x, up => by
    rw [withinGo, withinF]
    cases pfind L x with
    | none => rfl
    | some p => simp only [withinGo_eq L n]
theorem set3_heap {w : World} {g : Nat} {a b c v u z : Value} {t : TypeId} {fr : Nat × Nat} (h : w.heap[g]? = some (.cells #[a, b, c] t fr)) : (((w.setCell ⟨g, 0, none⟩ v).setCell ⟨g, 1, none⟩ u).setCell ⟨g, 2, none⟩ z).heap[g]? = some (.cells #[v, u, z] t fr) := by
  simp [World.setCell, Array.getElem?_modify, h]
theorem set3_other {w : World} {g k : Nat} {v u z : Value} (h : k ≠ g) : (((w.setCell ⟨g, 0, none⟩ v).setCell ⟨g, 1, none⟩ u).setCell ⟨g, 2, none⟩ z).heap[k]? = w.heap[k]? := by
  rw [Below.heap_setCell _ _ _ _ h, Below.heap_setCell _ _ _ _ h, Below.heap_setCell _ _ _ _ h]
theorem eq3_id (a b : Id) : eq3 a.s.T a.s.R a.I b.s.T b.s.R b.I = decide (a = b) := by
  by_cases h : a = b
  · subst h; simp [eq3]
  · rw [decide_eq_false h]
    unfold eq3
    by_cases h1 : a.s.T = b.s.T
    · by_cases h2 : a.s.R = b.s.R
      · have h3 : a.I ≠ b.I := fun h3 => h (Id.ext' (Stamp.ext' h1 h2) h3)
        simp [h3]
      · simp [h2]
    · simp [h1]
def PlMap (f : Id → Option Place) (w : World) (b n : Nat) (D : DataW Place) : Prop := w.ownsMap Try.prog 26 (objElem plV) b n D ∧ FMap idK f D
theorem PlMap.below {f : Id → Option Place} {w w' : World} {b n : Nat} {D : DataW Place} (h : PlMap f w b n D) (hb : Below w.heap.size w w') : PlMap f w' b n D :=
  ⟨h.1.kept (row := none) ⟨hb.os, hb.tape, hb.output, hb.size, fun k hk _ => hb.block k hk⟩ (by simp), h.2⟩
def WiRel (f : Id → Option Place) (n : Nat) (R : Bool) (up : Id) (Bx Bu : Nat) (w : World) (i : Value) (wr : World) : Prop :=
  ∃ (k : Nat) (y : Id), k ≤ n ∧ i = .int .i64 k ∧ withinF f (n - k) y up = R ∧ wr.heap[Bx]? = some (.cells #[.int .i64 y.s.T, .int .i64 y.s.R, .int .i64 y.I] 26 (0, 0)) ∧ wr.heap[Bu]? = some (.cells #[.int .i64 up.s.T, .int .i64 up.s.R, .int .i64 up.I] 26 (0, 0)) ∧ Below w.heap.size w wr
set_option maxHeartbeats 4000000 in
theorem within_any (f : Id → Option Place) (x up : Id) (n b m : Nat) (D : DataW Place) (w : World) (hM : PlMap f w b m D) (hn : n ≤ 100000) :
    Calls Try.prog 60 #[.map (some b), idV x, idV up, .int .i64 (n : Int)] w fun e w' => e = .returned (.bool (withinF f n x up)) ∧ Below w.heap.size w w' := by
  have HM := Lib.hid (fun W (hW : Below w.heap.size w W) => hM.below hW)
  clear hM
  unfold idV
  go_enter Try.func60, Try.ntmps60
  go_wp2
  go_step3
  go_wp2
  go_step3
  go_wp2
  obtain ⟨w0, hw0⟩ : ∃ W, (w.alloc (.cells #[.int .i64 x.s.T, .int .i64 x.s.R, .int .i64 x.I] 26)).alloc (.cells #[.int .i64 up.s.T, .int .i64 up.s.R, .int .i64 up.I] 26) = W := ⟨_, rfl⟩
  have hg0 : Grows w w0 := by rw [← hw0]; exact ((Grows.refl w).alloc _).alloc _
  have hx0 : w0.heap[w.heap.size]? = some (.cells #[.int .i64 x.s.T, .int .i64 x.s.R, .int .i64 x.I] 26 (0, 0)) := by rw [← hw0]; exact (Below.heap_alloc _ _ _ (by simp)).trans (heap_alloc_new w _)
  have hu0 : w0.heap[w.heap.size + 1]? = some (.cells #[.int .i64 up.s.T, .int .i64 up.s.R, .int .i64 up.I] 26 (0, 0)) := by
    rw [← hw0]
    have := heap_alloc_new (w.alloc (.cells #[.int .i64 x.s.T, .int .i64 x.s.R, .int .i64 x.I] 26)) (.cells #[.int .i64 up.s.T, .int .i64 up.s.R, .int .i64 up.I] 26)
    rwa [World.size_alloc] at this
  rw [hw0]
  obtain ⟨Bx, hBx⟩ : ∃ k, w.heap.size = k := ⟨_, rfl⟩
  obtain ⟨Bu, hBu⟩ : ∃ k, w.heap.size + 1 = k := ⟨_, rfl⟩
  rw [hBu] at hu0 ⊢
  rw [hBx] at hx0 ⊢
  have hb0 := hg0.below
  have HBB := Lib.hid (show Bx = w.heap.size ∧ Bu = w.heap.size + 1 by omega)
  obtain ⟨R, hRe⟩ : ∃ R, withinF f n x up = R := ⟨_, rfl⟩
  have HRe := Lib.hid hRe
  clear hw0 hg0 hBx hBu hRe
  go_loopw [12] (fun i wr => WiRel f n R up Bx Bu w i wr) (fun i _ => n - (intOf i).toNat)
  case atStart => exact ⟨0, x, Nat.zero_le _, rfl, HRe.out, hx0, hu0, hb0⟩
  case round =>
    clear hx0 hu0 hb0
    obtain ⟨k, y, hk, rfl, hgo, hxr, hur, hBw⟩ := hrel
    have HX := Lib.hid hxr
    have HU := Lib.hid hur
    have hxl := (Array.getElem?_eq_some_iff.1 hxr).1
    have hul := (Array.getElem?_eq_some_iff.1 hur).1
    have hne : Bx ≠ Bu := by have := HBB.out; omega
    have e0 : wr.cell? ⟨Bx, 0, none⟩ = some (.int .i64 y.s.T) := cell_of_row _ _ 0 _ _ _ hxr
    have e1 : wr.cell? ⟨Bx, 1, none⟩ = some (.int .i64 y.s.R) := cell_of_row _ _ 1 _ _ _ hxr
    have e2 : wr.cell? ⟨Bx, 2, none⟩ = some (.int .i64 y.I) := cell_of_row _ _ 2 _ _ _ hxr
    have f0 : wr.cell? ⟨Bu, 0, none⟩ = some (.int .i64 up.s.T) := cell_of_row _ _ 0 _ _ _ hur
    have f1 : wr.cell? ⟨Bu, 1, none⟩ = some (.int .i64 up.s.R) := cell_of_row _ _ 1 _ _ _ hur
    have f2 : wr.cell? ⟨Bu, 2, none⟩ = some (.int .i64 up.I) := cell_of_row _ _ 2 _ _ _ hur
    have z0 : ∀ i, wr.frozen? ⟨Bx, i, none⟩ = false := fun i => by simp [World.frozen?, hxr]
    by_cases hlt : k < n
    · obtain ⟨m', hm'⟩ : ∃ m', n - k = m' + 1 := ⟨n - k - 1, by omega⟩
      rw [hm', withinF] at hgo
      have hpm := HM.out wr hBw
      have hlk := obj_look_ok ok26 plV_inj hpm.1 Try.underlying104 zeroP (Try.zeroValue71 _) hpm.2 y
      have hq := eql26
      have hgd := gd26
      have hE := eq3_id y up
      unfold idV at hlk
      clear hxr hur hpm
      by_cases hyu : y = up
      · rw [if_pos hyu] at hgo
        rw [decide_eq_true hyu] at hE
        have HGo := Lib.hid hgo
        obtain ⟨p, hp⟩ : ∃ p, (f y).getD zeroP = p := ⟨_, rfl⟩
        obtain ⟨ok, hok⟩ : ∃ ok, (f y).isSome = ok := ⟨_, rfl⟩
        rw [hp, hok] at hlk
        unfold plV at hlk
        clear hyu hgo hp hok
        go_wp2
        rw [Exit.noGoto_ret]
        go_ret
        exact ⟨ret_b (by rw [HRe.out]; exact HGo.out), hBw.alloc (by have := hBw.size; omega) _⟩
      · rw [if_neg hyu] at hgo
        rw [decide_eq_false hyu] at hE
        clear hyu
        cases hf : f y with
        | none =>
          rw [hf] at hgo hlk
          simp only [Option.isSome_none, Option.getD_none] at hlk
          simp only at hgo
          have HGo := Lib.hid hgo
          unfold plV at hlk
          clear hgo hf
          go_wp2
          rw [Exit.noGoto_ret]
          go_ret
          exact ⟨ret_b (by rw [HRe.out]; exact HGo.out), hBw.alloc (by have := hBw.size; omega) _⟩
        | some p =>
          rw [hf] at hgo hlk
          simp only [Option.isSome_some, Option.getD_some] at hlk
          simp only at hgo
          have HGo := Lib.hid hgo
          unfold plV at hlk
          clear hgo hf
          go_wp2
          have q := HBB.out
          have hle : w.heap.size ≤ Bx := by omega
          have hb3 := ((hBw.setCell (p := ⟨Bx, 0, none⟩) hle (.int .i64 p.pa.s.T)).setCell (p := ⟨Bx, 1, none⟩) hle (.int .i64 p.pa.s.R)).setCell (p := ⟨Bx, 2, none⟩) hle (.int .i64 p.pa.I)
          refine ⟨⟨k + 1, p.pa, by omega, by go_num, ?_, ?_, ?_, hb3.alloc hb3.size _⟩, by simp [intOf]; omega⟩
          · rw [show n - (k + 1) = m' by omega]; exact HGo.out
          · exact (Below.heap_alloc _ _ Bx (by simpa [World.setCell] using hxl)).trans (set3_heap HX.out)
          · exact (Below.heap_alloc _ _ Bu (by simpa [World.setCell] using hul)).trans ((set3_other hne.symm).trans HU.out)
    · obtain rfl : k = n := by omega
      rw [Nat.sub_self, withinF] at hgo
      have HGo := Lib.hid hgo
      clear hgo
      go_wp2
      rw [Exit.noGoto_ret]
      go_ret
      exact ⟨ret_b (by rw [HRe.out]; exact HGo.out), hBw⟩
end Go.Proofs.Ytejafcdlkpmemaa
