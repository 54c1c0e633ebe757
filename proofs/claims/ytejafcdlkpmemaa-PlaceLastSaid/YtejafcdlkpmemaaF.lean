/- The program's Of: the stamps of a node's dots that count, gathered from a map and sorted. -/
import Derived.Test.YtejafcdlkpmemaaE
import Derived.Test.YtejafcdlkpmemaaD
import Derived.Test.YtejafcdlkpmemaaS
import Derived.RangeFuncSeq
namespace Go.Proofs.Ytejafcdlkpmemaa
open Go Go.RowKit Go.Maps
theorem own_ne_walk {w : World} {base : Nat} {e : TypeId} {K n : Nat} {v : Value} {xs : List Value} (h : w.ownsRow base e K v n xs) {b : Nat} {o : Obj} (hb : w.heap[b]? = some o) (hw : o.isWalk = true) : some b ≠ v.ownBlock := by
  rcases h.2 with ⟨rfl, _⟩ | ⟨g, cap, cur, rfl, _, hg, _⟩
  · simp [Value.ownBlock]
  · intro he
    have : b = g := by simpa [Value.ownBlock] using he
    subst this
    rw [hg] at hb
    cases hb
    cases hw
theorem map_walk {H : Type} {P : Program} {k : TypeId} {R : Value → Option (DataW H × List MemPlace)} {w : World} {b n : Nat} {D : DataW H} (h : w.ownsMap P k R b n D) : ∃ o, w.heap[b]? = some o ∧ o.isWalk = true := by
  obtain ⟨es, clock, hb, _⟩ := h
  exact ⟨_, hb, rfl⟩
theorem own_empty {w : World} {base : Nat} {e : TypeId} {K g : Nat} (hb : base ≤ g) (hg : w.heap[g]? = some (.cells #[] e (0, 0))) : w.ownsRow base e K (.slice (some ⟨g, 0, none⟩) 0 0) 0 [] :=
  ⟨by simp, .inr ⟨g, 0, #[], rfl, hb, hg, Nat.le_refl _, Nat.zero_le _, by simp, by simp⟩⟩
theorem STO.strict {α : Type} {lt : α → α → Prop} (O : STO lt) : ∀ {L : List α}, L.Pairwise (fun a b => ¬ lt b a) → L.Nodup → L.Pairwise lt
  | [], _, _ => List.Pairwise.nil
  | a :: L, h, hn => by
    rw [List.pairwise_cons] at h
    rw [List.nodup_cons] at hn
    refine List.pairwise_cons.2 ⟨fun b hb => ?_, O.strict h.2 hn.2⟩
    rcases O.total a b with t | t | t
    · exact t
    · subst t; exact absurd hb hn.1
    · exact absurd t (h.1 b hb)
theorem cell_old {w : World} {b i : Nat} {v : Value} (o : Obj) (hb : b < w.heap.size) (h : w.cell? ⟨b, i, none⟩ = some v) : (w.alloc o).cell? ⟨b, i, none⟩ = some v :=
  (((Grows.refl w).alloc o).below.cell (p := ⟨b, i, none⟩) hb).trans h
def pick (x : Id) (ss : List Dot) : List Stamp := (ss.filter fun d => decide (d.n = x)).map Dot.b
theorem pick_snoc_yes (x : Id) (ss : List Dot) (d : Dot) (h : d.n = x) : pick x (ss ++ [d]) = pick x ss ++ [d.b] := by simp [pick, h]
theorem pick_snoc_no (x : Id) (ss : List Dot) (d : Dot) (h : ¬ d.n = x) : pick x (ss ++ [d]) = pick x ss := by simp [pick, h]
theorem pick_nodup (x : Id) {ss : List Dot} (h : ss.Nodup) : (pick x ss).Nodup := by
  unfold pick
  refine List.pairwise_map.2 ((h.filter _).imp_of_mem ?_)
  intro a b ha hb hne e
  have ha := (List.mem_filter.1 ha).2
  have hb := (List.mem_filter.1 hb).2
  simp only [decide_eq_true_eq] at ha hb
  apply hne
  obtain ⟨an, ab⟩ := a
  obtain ⟨bn, bb⟩ := b
  simp only at ha hb e
  rw [ha, hb, e]
theorem mem_pick (x : Id) (ss : List Dot) (y : Stamp) : y ∈ pick x ss ↔ ∃ d ∈ ss, d.n = x ∧ d.b = y := by
  simp [pick, and_assoc]
theorem pick_le (x : Id) (ss : List Dot) : (pick x ss).length ≤ ss.length := by
  unfold pick
  rw [List.length_map]
  exact List.length_filter_le _ _
def LOfRel (D : DataW HH) (x : Id) (w1 : World) (bm r nn : Nat) (out : Value) (wr : World) : Prop :=
  ∃ (left : Lit → Bool) (cnt : Nat) (ss : List Dot), wr.ranges Try.prog 41 (unitElem (H := HH)) bm r nn D left cnt ∧ ss.length + cnt ≤ nn ∧ Come dotK D left ss ∧ wr.ownsRow w1.heap.size 24 2 out (pick x ss).length ((pick x ss).flatMap stC) ∧ Below w1.heap.size w1 wr
set_option maxRecDepth 100000 in
set_option maxHeartbeats 2000000 in
theorem of_any (have_ gone : List Dot) (x : Id) (A A' : Option Addr) (n c n' c' B : Nat) (w : World) (hR : Rd w B 5 (.slice A n c) n (have_.flatMap dotC)) (hR' : Rd w B 5 (.slice A' n' c') n' (gone.flatMap dotC)) (hB : B ≤ w.heap.size) (hn : n ≤ 100000) :
    Calls Try.prog 23 #[.slice A n c, .slice A' n' c', idV x] w (OfPost have_ gone x w) := by
  obtain rfl := len_of dotC 5 (fun _ => rfl) (by decide) hR.1
  have HR0 := Lib.hid hR
  have HR0' := Lib.hid hR'
  clear hR hR'
  obtain ⟨i0, hi, hz0, hz1, hz2⟩ := info_parts info24
  unfold idV
  go_enter Try.func23, Try.ntmps23
  go_wp2_with fail
  obtain ⟨w1, hw1⟩ : ∃ W, w.alloc (.cells #[.int .i64 x.s.T, .int .i64 x.s.R, .int .i64 x.I] 26) = W := ⟨_, rfl⟩
  have hb0 : Below w.heap.size w w1 := by rw [← hw1]; exact ((Grows.refl w).alloc _).below
  have hbx : w1.heap[w.heap.size]? = some (.cells #[.int .i64 x.s.T, .int .i64 x.s.R, .int .i64 x.I] 26 (0, 0)) := by rw [← hw1]; exact heap_alloc_new w _
  have hsz : w.heap.size + 1 = w1.heap.size := by rw [← hw1, World.size_alloc]
  rw [hw1, hsz]
  clear hw1
  obtain ⟨W1, hW1⟩ : ∃ W, w1.alloc (.cells #[] 24) = W := ⟨_, rfl⟩
  have hb1 : Below w1.heap.size w1 W1 := by rw [← hW1]; exact ((Grows.refl w1).alloc _).below
  have he1 : W1.heap[w1.heap.size]? = some (.cells #[] 24 (0, 0)) := by rw [← hW1]; exact heap_alloc_new w1 _
  have hs1 : w1.heap.size + 1 = W1.heap.size := by rw [← hW1, World.size_alloc]
  rw [hW1]
  clear hW1
  have hR1 := (HR0.out.below' hb0 hB).below' hb1 (by omega)
  have hR1' := (HR0'.out.below' hb0 hB).below' hb1 (by omega)
  refine (counting_any have_ gone A A' have_.length c n' c' B W1 hR1 hR1' (by omega) hn).mono ?_
  rintro e W2 ⟨rfl, ⟨D, hown, hD⟩, hb2⟩
  have hlow : w1.heap.size ≤ W1.heap.size := by omega
  have hb12 : Below w1.heap.size w1 W2 := hb1.trans (hb2.mono hlow)
  have he2 : W2.heap[w1.heap.size]? = some (.cells #[] 24 (0, 0)) := (hb2.block _ (by omega)).trans he1
  have hO2 := Lib.hid (own_empty (base := w1.heap.size) (K := 2) (Nat.le_refl _) he2)
  have HD := Lib.hid hD
  have HB0 := Lib.hid hb0
  have HBX := Lib.hid hbx
  have hxw : w.heap.size < w1.heap.size := by omega
  obtain ⟨bx, hbxe⟩ : ∃ bx, w.heap.size = bx := ⟨_, rfl⟩
  have HBXE := Lib.hid hbxe
  obtain ⟨bm, hbm⟩ : ∃ b, W1.heap.size = b := ⟨_, rfl⟩
  have hbmw : w1.heap.size < bm := by omega
  have HSZ := Lib.hid hown.size_le
  rw [hbxe] at hxw HBX ⊢
  rw [hbm] at hown ⊢
  clear hD hb0 hbx hsz hb1 he1 hs1 hR1 hR1' hb2 hlow he2 hbxe hbm HR0 HR0'
  go_wp2_with (at_range; refine wpList_range_own _ rfl _ 76 rfl 41 78 keyed41 Try.underlying76 unitElem bm have_.length D rfl hown ?_; intro W3 hrg0 hg0 hs0)
  go_frame
  have hb13 : Below w1.heap.size w1 W3 := hb12.grown hg0 hb12.size (fun j hj => by cases hj)
  have hO3 := Lib.hid (hO2.out.kept hg0 (.inr (by simp [Value.ownBlock])))
  obtain ⟨r, hr⟩ : ∃ r, W2.heap.size = r := ⟨_, rfl⟩
  have hrw : w1.heap.size ≤ r := by have := hb12.size; omega
  rw [hr] at hrg0 ⊢
  clear hg0 hs0 hb12 hO2 hown hr
  go_loopw [7] (fun out wr => LOfRel D x w1 bm r have_.length out wr) (fun _ wr => wr.rangeLeft bm r)
  case atStart =>
    refine ⟨_, _, [], hrg0, ?_, Come.start _ D, hO3.out, hb13⟩
    simpa using HSZ.out
  case round =>
    clear hrg0 hO3 hb13
    obtain ⟨left, cnt, ss, hrg, hcs, hC, hO, hb⟩ := hrel
    obtain ⟨Av, cv, rfl, hLc, hcm2⟩ := (Rd.of_own hO).form
    have HO := Lib.hid hO
    have HC := Lib.hid hC
    have HRG := Lib.hid hrg
    obtain ⟨wo, rfl⟩ : ∃ wo : World, wo = wr := ⟨_, rfl⟩
    have hple := pick_le x ss
    have hbxo : wo.heap[bx]? = some (.cells #[.int .i64 x.s.T, .int .i64 x.s.R, .int .i64 x.I] 26 (0, 0)) := (hb.block _ hxw).trans HBX.out
    clear hO hC
    go_wp2_with (at_next; refine wpList_next_ranges _ rfl _ rfl 41 keyed41 unitElem dotV (fun _ : Unit => .agg #[]) (fun key kl hk => by obtain ⟨a, h, _⟩ := key41_inv hk; exact ⟨a, h⟩) (fun v y hv => ⟨(), (unitElem_inv hv).1⟩) bm r have_.length _ _ _ rfl hrg ?_ ?_)
    · intro hc0 hl0
      have HL := Lib.hid hl0
      clear hrg HRG hcm2 hbxo hl0
      go_wp2_with fail
      refine (sortSt_own (pick x ss) _ w1.heap.size wo HO.out (by omega)).mono ?_
      rintro e w' ⟨rfl, ys, hperm, hsort, hown', hb'⟩
      have HO' := Lib.hid hown'
      have HS := Lib.hid hsort
      have HP := Lib.hid hperm
      have hb2 := hb.trans hb'
      obtain ⟨hl1, hl2⟩ : ys.length = (pick x ss).length ∧ True := ⟨hperm.length_eq, trivial⟩
      have HL1 := Lib.hid hl1
      clear hown' hsort hperm hb hb' HO hl1 hl2
      go_wp2
      go_ret
      have hnd : ys.Nodup := HP.out.nodup_iff.2 (pick_nodup x HC.out.1)
      have hlw : w.heap.size ≤ w1.heap.size := HB0.out.size
      refine ⟨_, ys, rfl, ?_, stampSTO.strict (HS.out.imp fun {a b} h1 h2 => absurd ((scmp_neg b a).2 h2) (by omega)) hnd, ?_, HB0.out.trans (hb2.mono hlw)⟩
      · exact own_base HO'.out hlw
      · intro y
        rw [HP.out.mem_iff, mem_pick]
        unfold ofMem
        constructor
        · rintro ⟨d, hd, h1, h2⟩
          have h3 := (HD.out d).1 ((HC.out.2 d).1 hd).1
          exact ⟨d, by rw [List.take_length]; exact h3.1, h1, h3.2, h2⟩
        · rintro ⟨d, hd, h1, h3, h2⟩
          rw [List.take_length] at hd
          exact ⟨d, (HC.out.2 d).2 ⟨(HD.out d).2 ⟨hd, h3⟩, HL.out _⟩, h1, h2⟩
    · intro d kl y yp w2 cnt2 hkey hlk hv hat hrg2 hlt hg2 hs2 hen
      obtain ⟨d', e1, rfl⟩ := key41_inv hkey
      obtain rfl := dotV_inj e1
      obtain ⟨oi, hoi, hoiw⟩ := hrg.iter_walk
      have hb2 : Below w1.heap.size w1 w2 := hb.grown hg2 hb.size (fun j hj => by cases hj; exact hrw)
      have hO2 := Lib.hid (HO.out.kept hg2 (.inr (own_ne_walk HO.out hoi hoiw).symm))
      have HC2 := Lib.hid (HC.out.step ok41 hlk hat)
      have HRG2 := Lib.hid hrg2
      have hx2 : w2.heap[bx]? = some (.cells #[.int .i64 x.s.T, .int .i64 x.s.R, .int .i64 x.I] 26 (0, 0)) := (hb2.block _ hxw).trans HBX.out
      have hxl : bx < w2.heap.size := (Array.getElem?_eq_some_iff.1 hx2).1
      have x0 : ∀ o, (w2.alloc o).cell? ⟨bx, 0, none⟩ = some (.int .i64 x.s.T) := fun o => (cell_old o hxl (cell_of_row _ _ 0 _ _ _ hx2))
      have x1 : ∀ o, (w2.alloc o).cell? ⟨bx, 1, none⟩ = some (.int .i64 x.s.R) := fun o => (cell_old o hxl (cell_of_row _ _ 1 _ _ _ hx2))
      have x2 : ∀ o, (w2.alloc o).cell? ⟨bx, 2, none⟩ = some (.int .i64 x.I) := fun o => (cell_old o hxl (cell_of_row _ _ 2 _ _ _ hx2))
      have HLT := Lib.hid hlt
      have hcs2 : (ss ++ [d]).length + cnt2 ≤ have_.length := by simp; omega
      have hE := eq3_iff d.n x
      have hq := eql26
      have hgd := gd26
      clear hkey hlk hv hat hrg2 hrg hg2 hs2 e1 hoi hoiw hbxo HO HC hb
      unfold dotV at hen ⊢
      by_cases hx : d.n = x
      · rw [decide_eq_true hx] at hE
        have HP := Lib.hid (pick_snoc_yes x ss d hx)
        clear hx
        go_wp2_with (at_builtin; refine wpList_append_own _ rfl _ _ 32 rfl w1.heap.size 24 i0 _ 2 16 Try.underlying32 hi hz0 hz1 hz2 rfl (by decide) _ _ _ rfl ((hO2.out.alloc _).alloc _) ⟨w2.heap.size + 1, 0, none⟩ 1 1 (stC d.b) rfl rfl ?qc2 (stC_one1 d.b) ?qc4 ?qc5 ?qc6 ?_)
        case qc2 =>
          have := cells_new (w2.alloc (.cells #[.int .i64 d.n.s.T, .int .i64 d.n.s.R, .int .i64 d.n.I, .int .i64 d.b.T, .int .i64 d.b.R] 41)) (stC d.b) 24
          rw [World.size_alloc] at this
          exact this
        case qc4 => unfold maxLen; omega
        case qc5 => omega
        case qc6 => have := hb2.size; simp; omega
        intro v' W4 hown hgrow _
        obtain ⟨g, cap, rfl, hgB, hgc, hgm, ho4⟩ := own_snoc hown
        have hO2n : (some bm ≠ (Value.slice Av (pick x ss).length cv).ownBlock ∧ some r ≠ (Value.slice Av (pick x ss).length cv).ownBlock) := by
          obtain ⟨o1, h1, h2⟩ := map_walk HRG2.out.owns
          obtain ⟨o2, h3, h4⟩ := HRG2.out.iter_walk
          exact ⟨own_ne_walk hO2.out h1 h2, own_ne_walk hO2.out h3 h4⟩
        have hrg4 := ((HRG2.out.alloc (.cells #[.int .i64 d.n.s.T, .int .i64 d.n.s.R, .int .i64 d.n.I, .int .i64 d.b.T, .int .i64 d.b.R] 41)).alloc (.cells #[.int .i64 d.b.T, .int .i64 d.b.R] 24)).kept hgrow hO2n.1 hO2n.2
        have hb4 : Below w1.heap.size w1 W4 := ((hb2.alloc hb2.size _).alloc (by have := hb2.size; simp; omega) _).grown hgrow (by have := hb2.size; simp; omega) (fun j hj => by
          rcases (hO2.out).lt j hj with ⟨h1, _⟩
          exact h1)
        have HRG4 := Lib.hid hrg4
        have HO4 := Lib.hid (HP.out ▸ ho4)
        have hpl : (pick x ss).length + 1 = (pick x (ss ++ [d])).length := by rw [HP.out]; simp
        rw [hpl] at HO4 ⊢
        clear hgrow hown ho4 hrg4 hO2n x0 x1 x2 hx2 hpl
        go_wp2
        go_roundw
        case rel => exact ⟨_, cnt2, _, HRG4.out, hcs2, HC2.out, HO4.out, hb4⟩
        case measure => rw [HRG4.out.left_eq, HRG.out.left_eq]; exact HLT.out
      · rw [decide_eq_false hx] at hE
        have HP := Lib.hid (pick_snoc_no x ss d hx)
        clear hx
        go_wp2
        go_roundw
        case rel => exact ⟨_, cnt2, _, HRG2.out.alloc _, hcs2, HC2.out, by rw [HP.out]; exact hO2.out.alloc _, hb2.alloc hb2.size _⟩
        case measure => rw [(HRG2.out.alloc _).left_eq, HRG.out.left_eq]; exact HLT.out
end Go.Proofs.Ytejafcdlkpmemaa
