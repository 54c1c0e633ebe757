/- The document's sorted: what is told, the first of each time, rising. -/
import Derived.Test.YtejafcdlkpmemaaPC
import Derived.Test.YtejafcdlkpmemaaEJ
import Derived.BigRegion
import Derived.IntWalk
namespace Go.Proofs.Ytejafcdlkpmemaa
open Go Go.RowKit
def RisT (L : List Told) : Prop := (L.map Told.at_).Pairwise Id.Lt
theorem risT_put {P S : List Told} {x : Told} (h : RisT (P ++ S)) (hx : ∀ g ∈ P ++ S, g.at_ ≠ x.at_) (hS : ∀ y ∈ S, x.at_.Lt y.at_) (hP : ∀ z, P.getLast? = some z → ¬ x.at_.Lt z.at_) : RisT (P ++ x :: S) := by
  unfold RisT at *
  rw [List.map_append] at h
  rw [List.map_append, List.map_cons]
  refine sorted_put idSTO h ?_ ?_ ?_
  · intro hm
    rw [← List.map_append, List.mem_map] at hm
    obtain ⟨g, hg, e⟩ := hm
    exact hx g hg e
  · intro y hy
    obtain ⟨g, hg, rfl⟩ := List.mem_map.1 hy
    exact hS g hg
  · intro z hz
    rw [List.getLast?_map] at hz
    obtain ⟨g, hg, rfl⟩ := Option.map_eq_some_iff.1 hz
    exact hP g hg
def hadT (L : List Told) (s : Id) : Bool := L.any (fun g => decide (g.at_ = s))
theorem hadT_false {L : List Told} {s : Id} (h : hadT L s = false) : ∀ g ∈ L, g.at_ ≠ s := fun g hg e => by
  have := List.any_eq_false.1 h g hg
  simp [e] at this
theorem hadT_true {L : List Told} {s : Id} (h : hadT L s = true) : ∃ g ∈ L, g.at_ = s := by
  obtain ⟨g, hg, e⟩ := List.any_eq_true.1 h
  exact ⟨g, hg, by simpa using e⟩
theorem hadT_succ {L : List Told} {j : Nat} (h : j < L.length) (s : Id) : hadT (L.take (j + 1)) s = (hadT (L.take j) s || decide (L[j].at_ = s)) := by
  unfold hadT
  rw [List.take_succ_eq_append_getElem h, List.any_append]
  simp
def SortRelT (l : List Told) (w : World) (out i : Value) (wr : World) : Prop :=
  ∃ k : Nat, k ≤ l.length ∧ i = .int .i64 k ∧ ∃ L : List Told, wr.ownsRow w.heap.size 116 11 out L.length (L.flatMap toC) ∧ RisT L ∧ (∀ h, h ∈ L ↔ FirstK Told.at_ (l.take k) h) ∧ L.length ≤ k ∧ Below w.heap.size w wr
def SortPostT (l : List Told) (w : World) (e : Ending) (w' : World) : Prop :=
  ∃ (v : Value) (L : List Told), e = .returned v ∧ w'.ownsRow w.heap.size 116 11 v L.length (L.flatMap toC) ∧ RisT L ∧ (∀ h, h ∈ L ↔ FirstK Told.at_ l h) ∧ L.length ≤ l.length ∧ Below w.heap.size w w'
def HadRelT (L : List Told) (s : Id) (wo : World) (had i : Value) (wr : World) : Prop :=
  ∃ j : Nat, j ≤ L.length ∧ i = .int .i64 j ∧ had = .bool (hadT (L.take j) s) ∧ ∃ q, wr = wo.drewN q
def InsRelT (L : List Told) (x : Told) (n : Nat) (w : World) (v : Value) (i : Value) (wr : World) : Prop :=
  ∃ P S, L = P ++ S ∧ i = .int .i64 (P.length : Nat) ∧ (∀ y ∈ S, x.at_.Lt y.at_) ∧ wr.ownsRow w.heap.size 116 11 v n ((P ++ x :: S).flatMap toC) ∧ Below w.heap.size w wr
def swapT (w : World) (g j : Nat) (y x : Told) : World :=
  ((((((((((((((((((((((w.setCell ⟨g, j * 11 + 11, none⟩ (.int .i64 y.at_.s.T)).setCell ⟨g, j * 11 + 11 + 1, none⟩ (.int .i64 y.at_.s.R)).setCell ⟨g, j * 11 + 11 + 2, none⟩ (.int .i64 y.at_.I)).setCell ⟨g, j * 11 + 11 + 3, none⟩ (.int .i64 y.p.nd.s.T)).setCell ⟨g, j * 11 + 11 + 4, none⟩ (.int .i64 y.p.nd.s.R)).setCell ⟨g, j * 11 + 11 + 5, none⟩ (.int .i64 y.p.nd.I)).setCell ⟨g, j * 11 + 11 + 6, none⟩ (.int .i64 y.p.pa.s.T)).setCell ⟨g, j * 11 + 11 + 7, none⟩ (.int .i64 y.p.pa.s.R)).setCell ⟨g, j * 11 + 11 + 8, none⟩ (.int .i64 y.p.pa.I)).setCell ⟨g, j * 11 + 11 + 9, none⟩ (.string y.p.nm)).setCell ⟨g, j * 11 + 11 + 10, none⟩ (.bool y.p.dir)).setCell ⟨g, j * 11, none⟩ (.int .i64 x.at_.s.T)).setCell ⟨g, j * 11 + 1, none⟩ (.int .i64 x.at_.s.R)).setCell ⟨g, j * 11 + 2, none⟩ (.int .i64 x.at_.I)).setCell ⟨g, j * 11 + 3, none⟩ (.int .i64 x.p.nd.s.T)).setCell ⟨g, j * 11 + 4, none⟩ (.int .i64 x.p.nd.s.R)).setCell ⟨g, j * 11 + 5, none⟩ (.int .i64 x.p.nd.I)).setCell ⟨g, j * 11 + 6, none⟩ (.int .i64 x.p.pa.s.T)).setCell ⟨g, j * 11 + 7, none⟩ (.int .i64 x.p.pa.s.R)).setCell ⟨g, j * 11 + 8, none⟩ (.int .i64 x.p.pa.I)).setCell ⟨g, j * 11 + 9, none⟩ (.string x.p.nm)).setCell ⟨g, j * 11 + 10, none⟩ (.bool x.p.dir)).drew
theorem swapT_eq (w : World) (g j : Nat) (y x : Told) : swapT w g j y x = ((w.setCells g (j * 11 + 11) (toC y)).setCells g (j * 11) (toC x)).drew := rfl
theorem swapT_own {w : World} {base : Nat} {n g cap j : Nat} {P S : List Told} {y x : Told} (hj : P.length = j) (h : w.ownsRow base 116 11 (.slice (some ⟨g, 0, none⟩) n cap) n ((P ++ y :: x :: S).flatMap toC)) (hn : 0 < n) :
    (swapT w g j y x).ownsRow base 116 11 (.slice (some ⟨g, 0, none⟩) n cap) n ((P ++ x :: y :: S).flatMap toC) := by
  have := own_swap (enc := toC) (k := 11) (fun _ => rfl) h hn
  rw [hj] at this
  rw [swapT_eq]
  exact own_drew this
theorem swapT_below {B : Nat} {a w : World} (h : Below B a w) {g : Nat} (hg : B ≤ g) (j : Nat) (y x : Told) : Below B a (swapT w g j y x) := by
  rw [swapT_eq]
  exact (setCells_below (setCells_below h hg _ _) hg _ _).drew
/-- the round's end: the new one stands where it belongs -/
theorem tsort_step {l : List Told} {k n : Nat} {w wr : World} {v : Value} {L P S : List Told} {x : Told} (hlt : k < l.length) (hx : ∀ h, FirstK Told.at_ (l.take (k + 1)) h ↔ FirstK Told.at_ (l.take k) h ∨ h = x ∧ ∀ g ∈ l.take k, g.at_ ≠ x.at_)
    (hS : RisT L) (hM : ∀ h, h ∈ L ↔ FirstK Told.at_ (l.take k) h) (hL : L.length ≤ k) (hn : L.length + 1 = n) (hni : ∀ g ∈ l.take k, g.at_ ≠ x.at_) (hLe : L = P ++ S) (hSl : ∀ y ∈ S, x.at_.Lt y.at_) (hP : ∀ z, P.getLast? = some z → ¬ x.at_.Lt z.at_)
    (ho : wr.ownsRow w.heap.size 116 11 v n ((P ++ x :: S).flatMap toC)) (hb : Below w.heap.size w wr) : SortRelT l w v (.int .i64 ((k : Int) + 1)) wr := by
  have hlen : (P ++ x :: S).length = n := by rw [← hn, hLe]; simp; omega
  refine ⟨k + 1, hlt, by rfl, P ++ x :: S, by rw [hlen]; exact ho, ?_, fun y => ?_, by omega, hb⟩
  · refine risT_put (hLe ▸ hS) (fun g hg => ?_) hSl hP
    exact hni g (firstK_mem ((hM g).1 (hLe ▸ hg)))
  · rw [mem_put, hx y, ← hLe, hM y]
    constructor
    · rintro (h | h)
      · exact .inr ⟨h, hni⟩
      · exact .inl h
    · rintro (h | ⟨h, _⟩)
      · exact .inr h
      · exact .inl h
theorem info116 : (Try.prog.info? 116).map (fun i => (i.zero, i.size, i.bytes)) = some (some (.agg #[.int .i64 0, .int .i64 0, .int .i64 0, .int .i64 0, .int .i64 0, .int .i64 0, .int .i64 0, .int .i64 0, .int .i64 0, .string ⟨#[]⟩, .bool false]), 11, 96) := by kernel_rfl
set_option maxRecDepth 100000 in
set_option maxHeartbeats 8000000 in
theorem rtsorted_any (aa : List Id) (bl : List Place) (A A' : Option Addr) (n c n' c' B : Nat) (w : World) (hR : Rd w B 3 (.slice A n c) n (aa.flatMap idC)) (hR' : Rd w B 8 (.slice A' n' c') n' (bl.flatMap plC)) (hB : B ≤ w.heap.size) (hn : n ≤ 100000) :
    Calls Try.prog 63 #[.slice A n c, .slice A' n' c'] w (SortPostT (zipT aa bl) w) := by
  obtain rfl := len_of idC 3 (fun _ => rfl) (by decide) hR.1
  obtain rfl := len_of plC 8 (fun _ => rfl) (by decide) hR'.1
  have HR := Lib.hid hR
  have HR' := Lib.hid hR'
  clear hR hR'
  obtain ⟨l, hl⟩ : ∃ l, zipT aa bl = l := ⟨_, rfl⟩
  have HLL := Lib.hid (show l.length = min aa.length bl.length by rw [← hl, zipT_len])
  have HLK := Lib.hid (show ∀ k (h : k < l.length) (h1 : k < aa.length) (h2 : k < bl.length), l[k] = ⟨aa[k], bl[k]⟩ from fun k h h1 h2 => by subst hl; simp [zipT])
  rw [hl]
  clear hl
  obtain ⟨i0, hi, hz0, hz1, hz2⟩ := info_parts info116
  go_enter Try.func63, Try.ntmps63
  go_wp2
  go_loopw [5, 6] (fun out i wr => SortRelT l w out i wr) (fun _ i _ => l.length - (intOf i).toNat)
  case atStart => exact ⟨0, Nat.zero_le _, rfl, [], World.ownsRow_nil _ _ _ _, List.Pairwise.nil, fun h => by simp [FirstK], Nat.le_refl _, Below.refl _ _⟩
  case round =>
    obtain ⟨k, hk, rfl, L, hO, hS, hM, hL, hb⟩ := hrel
    obtain ⟨Av, cv, rfl, hLc, hcm2⟩ := (Rd.of_own hO).form
    have HO := Lib.hid hO
    have HS := Lib.hid hS
    have HM := Lib.hid hM
    clear hO hS hM
    obtain ⟨wo, rfl⟩ : ∃ wo : World, wo = wr := ⟨_, rfl⟩
    by_cases hlt : k < l.length
    · have hka : k < aa.length := by have := HLL.out; omega
      have hkb : k < bl.length := by have := HLL.out; omega
      obtain ⟨ba, oa, rfl, hBa, hca⟩ := rd_at idC 3 (fun _ => rfl) (by decide) HR.out hka
      obtain ⟨bb, ob, rfl, hBb, hcb⟩ := rd_at plC 8 (fun _ => rfl) (by decide) HR'.out hkb
      have hbl : ba < w.heap.size := by omega
      have hbl' : bb < w.heap.size := by omega
      have hbc : ∀ j u, (idC aa[k])[j]? = some u → wo.cell? ⟨ba, oa + k * 3 + j, none⟩ = some u := fun j u hu => (hb.cell (p := ⟨ba, oa + k * 3 + j, none⟩) hbl).trans (hca j u hu)
      have hbc' : ∀ j u, (plC bl[k])[j]? = some u → wo.cell? ⟨bb, ob + k * 8 + j, none⟩ = some u := fun j u hu => (hb.cell (p := ⟨bb, ob + k * 8 + j, none⟩) hbl').trans (hcb j u hu)
      have hfs := firstK_snoc (key := Told.at_) (l.take k) l[k]
      rw [← List.take_succ_eq_append_getElem hlt] at hfs
      obtain ⟨x, hx⟩ : ∃ x, l[k] = x := ⟨_, rfl⟩
      have hx2 : x.at_ = aa[k] ∧ x.p = bl[k] := by rw [← hx, HLK.out k hlt hka hkb]; exact ⟨rfl, rfl⟩
      rw [hx] at hfs
      rw [← hx2.1] at hbc
      rw [← hx2.2] at hbc'
      have HFS := Lib.hid hfs
      clear hx hfs hx2
      have d0 : wo.cell? ⟨ba, oa + k * 3, none⟩ = some (.int .i64 x.at_.s.T) := hbc 0 _ rfl
      have d1 : wo.cell? ⟨ba, oa + k * 3 + 1, none⟩ = some (.int .i64 x.at_.s.R) := hbc 1 _ rfl
      have d2 : wo.cell? ⟨ba, oa + k * 3 + 2, none⟩ = some (.int .i64 x.at_.I) := hbc 2 _ rfl
      have d3 : wo.cell? ⟨bb, ob + k * 8, none⟩ = some (.int .i64 x.p.nd.s.T) := hbc' 0 _ rfl
      have d4 : wo.cell? ⟨bb, ob + k * 8 + 1, none⟩ = some (.int .i64 x.p.nd.s.R) := hbc' 1 _ rfl
      have d5 : wo.cell? ⟨bb, ob + k * 8 + 2, none⟩ = some (.int .i64 x.p.nd.I) := hbc' 2 _ rfl
      have d6 : wo.cell? ⟨bb, ob + k * 8 + 3, none⟩ = some (.int .i64 x.p.pa.s.T) := hbc' 3 _ rfl
      have d7 : wo.cell? ⟨bb, ob + k * 8 + 4, none⟩ = some (.int .i64 x.p.pa.s.R) := hbc' 4 _ rfl
      have d8 : wo.cell? ⟨bb, ob + k * 8 + 5, none⟩ = some (.int .i64 x.p.pa.I) := hbc' 5 _ rfl
      have d9 : wo.cell? ⟨bb, ob + k * 8 + 6, none⟩ = some (.string x.p.nm) := hbc' 6 _ rfl
      have d10 : wo.cell? ⟨bb, ob + k * 8 + 7, none⟩ = some (.bool x.p.dir) := hbc' 7 _ rfl
      clear hca hcb hbc hbc'
      have i1 : (0 : Int) ≤ (k : Int) := by omega
      have i2 : (k : Int) < (aa.length : Int) := by omega
      have i22 : (k : Int) < (bl.length : Int) := by omega
      go_wp2
      go_loopw [7, 8] (fun had i wr => HadRelT L x.at_ wo had i wr) (fun _ i _ => L.length - (intOf i).toNat)
      case atStart => exact ⟨0, Nat.zero_le _, rfl, rfl, 0, rfl⟩
      case round =>
        obtain ⟨j, hj, rfl, rfl, q, rfl⟩ := hrel
        by_cases hjl : j < L.length
        · obtain ⟨g, og, rfl, hBg, hcg⟩ := rd_at toC 11 (fun _ => rfl) (by decide) (Rd.of_own HO.out) hjl
          have e0 : wo.cell? ⟨g, og + j * 11, none⟩ = some (.int .i64 L[j].at_.s.T) := hcg 0 _ rfl
          have e1 : wo.cell? ⟨g, og + j * 11 + 1, none⟩ = some (.int .i64 L[j].at_.s.R) := hcg 1 _ rfl
          have e2 : wo.cell? ⟨g, og + j * 11 + 2, none⟩ = some (.int .i64 L[j].at_.I) := hcg 2 _ rfl
          have hE := eq3_id L[j].at_ x.at_
          have hN := hadT_succ hjl x.at_
          obtain ⟨y, hy⟩ : ∃ y, L[j] = y := ⟨_, rfl⟩
          rw [hy] at e0 e1 e2 hE hN
          have HN := Lib.hid hN
          have j1 : (0 : Int) ≤ (j : Int) := by omega
          have j2 : (j : Int) < (L.length : Int) := by omega
          have hq := eql26
          have hgd := gd26
          clear hcg hy hN
          rcases hh : hadT (L.take j) x.at_ with _ | _
          · rw [hh] at HN
            obtain ⟨bb, hbb⟩ : ∃ bb, decide (y.at_ = x.at_) = bb := ⟨_, rfl⟩
            rw [hbb] at hE HN
            clear hh hbb
            go_wp2
            go_quiet (fail)
            go_wp2
            go_roundw
            case rel => exact ⟨j + 1, by omega, by go_num, by rw [HN.out]; simp, q + nq, rfl⟩
            case measure => simp [intOf]; omega
          · rw [hh] at HN
            clear hh
            go_wp2
            go_quiet (fail)
            go_wp2
            go_roundw
            case rel => exact ⟨j + 1, by omega, by go_num, by rw [HN.out]; simp, q + nq, rfl⟩
            case measure => simp [intOf]; omega
        · obtain rfl : j = L.length := by omega
          rw [List.take_length]
          have hbq : Below w.heap.size w (wo.drewN q) := hb.trans (((Grows.refl wo).drewN q).below.mono hb.size)
          have hOq := Lib.hid (own_grows HO.out ((Grows.refl wo).drewN q).below)
          have q0 : (wo.drewN q).cell? ⟨ba, oa + k * 3, none⟩ = some (.int .i64 x.at_.s.T) := d0
          have q1 : (wo.drewN q).cell? ⟨ba, oa + k * 3 + 1, none⟩ = some (.int .i64 x.at_.s.R) := d1
          have q2 : (wo.drewN q).cell? ⟨ba, oa + k * 3 + 2, none⟩ = some (.int .i64 x.at_.I) := d2
          have q3 : (wo.drewN q).cell? ⟨bb, ob + k * 8, none⟩ = some (.int .i64 x.p.nd.s.T) := d3
          have q4 : (wo.drewN q).cell? ⟨bb, ob + k * 8 + 1, none⟩ = some (.int .i64 x.p.nd.s.R) := d4
          have q5 : (wo.drewN q).cell? ⟨bb, ob + k * 8 + 2, none⟩ = some (.int .i64 x.p.nd.I) := d5
          have q6 : (wo.drewN q).cell? ⟨bb, ob + k * 8 + 3, none⟩ = some (.int .i64 x.p.pa.s.T) := d6
          have q7 : (wo.drewN q).cell? ⟨bb, ob + k * 8 + 4, none⟩ = some (.int .i64 x.p.pa.s.R) := d7
          have q8 : (wo.drewN q).cell? ⟨bb, ob + k * 8 + 5, none⟩ = some (.int .i64 x.p.pa.I) := d8
          have q9 : (wo.drewN q).cell? ⟨bb, ob + k * 8 + 6, none⟩ = some (.string x.p.nm) := d9
          have q10 : (wo.drewN q).cell? ⟨bb, ob + k * 8 + 7, none⟩ = some (.bool x.p.dir) := d10
          generalize wo.drewN q = W3 at *
          clear d0 d1 d2 d3 d4 d5 d6 d7 d8 d9 d10 hb HO hcm2
          rcases hh : hadT L x.at_ with _ | _
          · have HNi := Lib.hid (show ∀ g ∈ l.take k, g.at_ ≠ x.at_ from fun g hg e => by
              obtain ⟨h, hf, he⟩ := firstK_exists (key := Told.at_) hg
              exact hadT_false hh h ((HM.out h).2 hf) (he.trans e))
            clear hh
            have HQ := Lib.hid (fun W' (hW : Below w.heap.size W3 W') => (show W'.cell? ⟨ba, oa + k * 3, none⟩ = some (.int .i64 x.at_.s.T) ∧ W'.cell? ⟨ba, oa + k * 3 + 1, none⟩ = some (.int .i64 x.at_.s.R) ∧ W'.cell? ⟨ba, oa + k * 3 + 2, none⟩ = some (.int .i64 x.at_.I) ∧ W'.cell? ⟨bb, ob + k * 8, none⟩ = some (.int .i64 x.p.nd.s.T) ∧ W'.cell? ⟨bb, ob + k * 8 + 1, none⟩ = some (.int .i64 x.p.nd.s.R) ∧ W'.cell? ⟨bb, ob + k * 8 + 2, none⟩ = some (.int .i64 x.p.nd.I) ∧ W'.cell? ⟨bb, ob + k * 8 + 3, none⟩ = some (.int .i64 x.p.pa.s.T) ∧ W'.cell? ⟨bb, ob + k * 8 + 4, none⟩ = some (.int .i64 x.p.pa.s.R) ∧ W'.cell? ⟨bb, ob + k * 8 + 5, none⟩ = some (.int .i64 x.p.pa.I) ∧ W'.cell? ⟨bb, ob + k * 8 + 6, none⟩ = some (.string x.p.nm) ∧ W'.cell? ⟨bb, ob + k * 8 + 7, none⟩ = some (.bool x.p.dir) from ⟨(hW.cell (p := ⟨ba, oa + k * 3, none⟩) hbl).trans q0, (hW.cell (p := ⟨ba, oa + k * 3 + 1, none⟩) hbl).trans q1, (hW.cell (p := ⟨ba, oa + k * 3 + 2, none⟩) hbl).trans q2, (hW.cell (p := ⟨bb, ob + k * 8, none⟩) hbl').trans q3, (hW.cell (p := ⟨bb, ob + k * 8 + 1, none⟩) hbl').trans q4, (hW.cell (p := ⟨bb, ob + k * 8 + 2, none⟩) hbl').trans q5, (hW.cell (p := ⟨bb, ob + k * 8 + 3, none⟩) hbl').trans q6, (hW.cell (p := ⟨bb, ob + k * 8 + 4, none⟩) hbl').trans q7, (hW.cell (p := ⟨bb, ob + k * 8 + 5, none⟩) hbl').trans q8, (hW.cell (p := ⟨bb, ob + k * 8 + 6, none⟩) hbl').trans q9, (hW.cell (p := ⟨bb, ob + k * 8 + 7, none⟩) hbl').trans q10⟩))
            have k1 : Below w.heap.size W3 W3.drew := (Below.refl _ W3).drew
            go_wp2
            go_region_held3 (fun w' => w'.cell? ⟨ba, oa + k * 3, none⟩ = some (.int .i64 x.at_.s.T) ∧ w'.cell? ⟨ba, oa + k * 3 + 1, none⟩ = some (.int .i64 x.at_.s.R) ∧ w'.cell? ⟨ba, oa + k * 3 + 2, none⟩ = some (.int .i64 x.at_.I) ∧ w'.cell? ⟨bb, ob + k * 8, none⟩ = some (.int .i64 x.p.nd.s.T) ∧ w'.cell? ⟨bb, ob + k * 8 + 1, none⟩ = some (.int .i64 x.p.nd.s.R) ∧ w'.cell? ⟨bb, ob + k * 8 + 2, none⟩ = some (.int .i64 x.p.nd.I) ∧ w'.cell? ⟨bb, ob + k * 8 + 3, none⟩ = some (.int .i64 x.p.pa.s.T) ∧ w'.cell? ⟨bb, ob + k * 8 + 4, none⟩ = some (.int .i64 x.p.pa.s.R) ∧ w'.cell? ⟨bb, ob + k * 8 + 5, none⟩ = some (.int .i64 x.p.pa.I) ∧ w'.cell? ⟨bb, ob + k * 8 + 6, none⟩ = some (.string x.p.nm) ∧ w'.cell? ⟨bb, ob + k * 8 + 7, none⟩ = some (.bool x.p.dir))
              (first | exact HQ.out _ (by assumption) | exact HQ.out _ (k1.alloc hbq.size _) | go_keep)
              ((refine step_append_lies _ (by rfl) _ _ _ (by rfl) w.heap.size 116 i0 _ 11 96 Try.underlying113 hi hz0 hz1 hz2 rfl (by omega) _ L.length _ (by rfl) ((own_drew hOq.out).alloc _) ⟨W3.heap.size, 0, none⟩ 1 1 (toC x) (by rfl) (by rfl) (cells_new W3.drew (toC x) 116) (toC_one _) (by omega) (by unfold maxLen; omega) (by omega) (by have := hbq.size; simp at this ⊢; omega) _ (by rfl) ?_
                intro g cap W4 hown hgrow hat0 hgl0
                have hb44 : Below w.heap.size W3 W4 := (k1.alloc hbq.size _).grown hgrow (by have := hbq.size; simp at this ⊢; omega) (fun j hj => (hOq.out.lt j hj).1)))
            clear k1 hat0 hgl0 hb44
            obtain ⟨g1, cap1, hge, hgB, hgc, hgm, ho4⟩ := own_snoc hown
            cases hge
            have hb4 : Below w.heap.size w W4 := ((hbq.drew).alloc hbq.size _).grown hgrow (by have := hbq.size; simp; omega) (fun j hj => by
              rcases (hOq.out).lt j hj with ⟨h1, _⟩
              exact h1)
            clear hown
            obtain ⟨n1, hn1⟩ : ∃ n1, L.length + 1 = n1 := ⟨_, rfl⟩
            have hn1L : L.length < n1 := by omega
            have hn1k : n1 ≤ k + 1 := by omega
            rw [hn1] at ho4 hgc ⊢
            have HN1 := Lib.hid hn1
            have HO4 := Lib.hid ho4
            unfold maxLen at hgm
            clear hgrow ho4 hOq hbq hn1 HQ q0 q1 q2 q3 q4 q5 q6 q7 q8 q9 q10
            go_wp2
            go_loopw [9] (fun i wr => InsRelT L x n1 w (.slice (some ⟨g, 0, none⟩) n1 cap) i wr) (fun i _ => (intOf i).toNat)
            case atStart => exact ⟨L, [], by simp, by have := HN1.out; congr 1; omega, by simp, HO4.out, hb4⟩
            case round =>
              obtain ⟨P, S, hLe, rfl, hSlt, hOr, hbr⟩ := hrel
              have HLe := Lib.hid hLe
              have HSl := Lib.hid hSlt
              have HOr := Lib.hid hOr
              have hgl : g < wr.heap.size := (hOr.lt g rfl).2
              clear hLe hSlt hOr hb4 HO4
              rcases list_snoc P with rfl | ⟨P', y, rfl⟩
              · go_wp2
                go_quiet (fail)
                go_wp2
                exact ⟨tsort_step hlt HFS.out HS.out HM.out hL HN1.out HNi.out HLe.out HSl.out (by simp) (own_grows HOr.out ((Grows.refl wr).drewN nq).below) (hbr.trans (((Grows.refl wr).drewN nq).below.mono hbr.size)), by simp [intOf]; omega⟩
              · obtain ⟨j, hj⟩ : ∃ j, P'.length = j := ⟨_, rfl⟩
                have hkj : ((P' ++ [y]).length : Int) = (j : Int) + 1 := by rw [List.length_append, hj]; rfl
                rw [hkj]
                have hM : (P' ++ [y]) ++ x :: S = P' ++ y :: x :: S := by simp
                rw [hM] at HOr
                have hjl : j + 1 < n1 := by have := congrArg List.length HLe.out; simp at this; omega
                have cy : ∀ r u, (toC y)[r]? = some u → wr.cell? ⟨g, j * 11 + r, none⟩ = some u := fun r u hu => (own_cell HOr.out _ u (hj ▸ flat_mid toC 11 (fun _ => rfl) P' (x :: S) y r u hu)).1
                have cx : ∀ r u, (toC x)[r]? = some u → wr.cell? ⟨g, (j + 1) * 11 + r, none⟩ = some u := fun r u hu => (own_cell HOr.out _ u (by
                  have := flat_mid toC 11 (fun _ => rfl) (P' ++ [y]) S x r u hu
                  rw [List.length_append, hj] at this
                  simpa using this)).1
                have hk3 : (j + 1) * 11 = j * 11 + 11 := by omega
                rw [hk3] at cx
                have HJ := Lib.hid hj
                have HC := Lib.hid (fun w => rcmpId_any x.at_ y.at_ w)
                unfold idV at HC
                obtain ⟨r, hr⟩ : ∃ r, x.at_.cmp y.at_ = r := ⟨_, rfl⟩
                rw [hr] at HC
                have HRR := Lib.hid hr
                clear hr
                have a0 : ∀ n os, (Sort.grow (wr.drewN n) os).cell? ⟨g, j * 11, none⟩ = some (.int .i64 y.at_.s.T) := fun n os => cell_grown hgl (cy 0 _ rfl) n os
                have a1 : ∀ n os, (Sort.grow (wr.drewN n) os).cell? ⟨g, j * 11 + 1, none⟩ = some (.int .i64 y.at_.s.R) := fun n os => cell_grown hgl (cy 1 _ rfl) n os
                have a2 : ∀ n os, (Sort.grow (wr.drewN n) os).cell? ⟨g, j * 11 + 2, none⟩ = some (.int .i64 y.at_.I) := fun n os => cell_grown hgl (cy 2 _ rfl) n os
                have a3 : ∀ n os, (Sort.grow (wr.drewN n) os).cell? ⟨g, j * 11 + 3, none⟩ = some (.int .i64 y.p.nd.s.T) := fun n os => cell_grown hgl (cy 3 _ rfl) n os
                have a4 : ∀ n os, (Sort.grow (wr.drewN n) os).cell? ⟨g, j * 11 + 4, none⟩ = some (.int .i64 y.p.nd.s.R) := fun n os => cell_grown hgl (cy 4 _ rfl) n os
                have a5 : ∀ n os, (Sort.grow (wr.drewN n) os).cell? ⟨g, j * 11 + 5, none⟩ = some (.int .i64 y.p.nd.I) := fun n os => cell_grown hgl (cy 5 _ rfl) n os
                have a6 : ∀ n os, (Sort.grow (wr.drewN n) os).cell? ⟨g, j * 11 + 6, none⟩ = some (.int .i64 y.p.pa.s.T) := fun n os => cell_grown hgl (cy 6 _ rfl) n os
                have a7 : ∀ n os, (Sort.grow (wr.drewN n) os).cell? ⟨g, j * 11 + 7, none⟩ = some (.int .i64 y.p.pa.s.R) := fun n os => cell_grown hgl (cy 7 _ rfl) n os
                have a8 : ∀ n os, (Sort.grow (wr.drewN n) os).cell? ⟨g, j * 11 + 8, none⟩ = some (.int .i64 y.p.pa.I) := fun n os => cell_grown hgl (cy 8 _ rfl) n os
                have a9 : ∀ n os, (Sort.grow (wr.drewN n) os).cell? ⟨g, j * 11 + 9, none⟩ = some (.string y.p.nm) := fun n os => cell_grown hgl (cy 9 _ rfl) n os
                have a10 : ∀ n os, (Sort.grow (wr.drewN n) os).cell? ⟨g, j * 11 + 10, none⟩ = some (.bool y.p.dir) := fun n os => cell_grown hgl (cy 10 _ rfl) n os
                have b0 : ∀ n os, (Sort.grow (wr.drewN n) os).cell? ⟨g, j * 11 + 11, none⟩ = some (.int .i64 x.at_.s.T) := fun n os => cell_grown hgl (cx 0 _ rfl) n os
                have b1 : ∀ n os, (Sort.grow (wr.drewN n) os).cell? ⟨g, j * 11 + 12, none⟩ = some (.int .i64 x.at_.s.R) := fun n os => cell_grown hgl (cx 1 _ rfl) n os
                have b2 : ∀ n os, (Sort.grow (wr.drewN n) os).cell? ⟨g, j * 11 + 13, none⟩ = some (.int .i64 x.at_.I) := fun n os => cell_grown hgl (cx 2 _ rfl) n os
                have b3 : ∀ n os, (Sort.grow (wr.drewN n) os).cell? ⟨g, j * 11 + 14, none⟩ = some (.int .i64 x.p.nd.s.T) := fun n os => cell_grown hgl (cx 3 _ rfl) n os
                have b4 : ∀ n os, (Sort.grow (wr.drewN n) os).cell? ⟨g, j * 11 + 15, none⟩ = some (.int .i64 x.p.nd.s.R) := fun n os => cell_grown hgl (cx 4 _ rfl) n os
                have b5 : ∀ n os, (Sort.grow (wr.drewN n) os).cell? ⟨g, j * 11 + 16, none⟩ = some (.int .i64 x.p.nd.I) := fun n os => cell_grown hgl (cx 5 _ rfl) n os
                have b6 : ∀ n os, (Sort.grow (wr.drewN n) os).cell? ⟨g, j * 11 + 17, none⟩ = some (.int .i64 x.p.pa.s.T) := fun n os => cell_grown hgl (cx 6 _ rfl) n os
                have b7 : ∀ n os, (Sort.grow (wr.drewN n) os).cell? ⟨g, j * 11 + 18, none⟩ = some (.int .i64 x.p.pa.s.R) := fun n os => cell_grown hgl (cx 7 _ rfl) n os
                have b8 : ∀ n os, (Sort.grow (wr.drewN n) os).cell? ⟨g, j * 11 + 19, none⟩ = some (.int .i64 x.p.pa.I) := fun n os => cell_grown hgl (cx 8 _ rfl) n os
                have b9 : ∀ n os, (Sort.grow (wr.drewN n) os).cell? ⟨g, j * 11 + 20, none⟩ = some (.string x.p.nm) := fun n os => cell_grown hgl (cx 9 _ rfl) n os
                have b10 : ∀ n os, (Sort.grow (wr.drewN n) os).cell? ⟨g, j * 11 + 21, none⟩ = some (.bool x.p.dir) := fun n os => cell_grown hgl (cx 10 _ rfl) n os
                have i3 : (0 : Int) ≤ (j : Int) + 1 := by omega
                have i4 : (j : Int) + 1 < (n1 : Int) := by omega
                have i5 : (0 : Int) ≤ (j : Int) := by omega
                have i6 : (j : Int) < (n1 : Int) := by omega
                have hw : IntKind.i64.wrap (j : Int) = j := IntWalk.i64_in _ (by omega)
                clear hj hkj hM cx cy
                rcases hc : decide (r < 0) with _ | _
                · have HCn := Lib.hid hc
                  go_wp2
                  refine region_grown (by kernel_rfl) (by kernel_rfl) ?_
                  repeat (quiet_step ((go_at_call 51; exact grown_of_grows (HC.out _))))
                  refine wpQuiet_nil ?_
                  rintro W ⟨⟨nq, osq⟩, hW⟩
                  have hgW : Grows wr W := ⟨nq, osq, hW⟩
                  have hbW := hbr.trans (hgW.below.mono hbr.size)
                  have HOW := Lib.hid (own_grows HOr.out hgW.below)
                  clear hW hgW hbr a0 a1 a2 a3 a4 a5 a6 a7 a8 a9 a10 b0 b1 b2 b3 b4 b5 b6 b7 b8 b9 b10
                  go_wp2
                  exact ⟨tsort_step (P := P' ++ [y]) (S := S) hlt HFS.out HS.out HM.out hL HN1.out HNi.out HLe.out HSl.out (by
                    intro z hz
                    have : y = z := by simpa using hz
                    subst this
                    intro h
                    have h2 := (icmp_id_neg _ _).2 h
                    rw [HRR.out] at h2
                    have := HCn.out
                    simp at this
                    omega) (by simpa using HOW.out) hbW, by simp [intOf]; omega⟩
                · have HCn := Lib.hid hc
                  go_wp2
                  refine region_grown (by kernel_rfl) (by kernel_rfl) ?_
                  repeat (quiet_step ((go_at_call 51; exact grown_of_grows (HC.out _))))
                  refine wpQuiet_nil ?_
                  rintro W ⟨⟨nq, osq⟩, hW⟩
                  have hgW : Grows wr W := ⟨nq, osq, hW⟩
                  have hbW := hbr.trans (hgW.below.mono hbr.size)
                  have hoW := own_grows HOr.out hgW.below
                  have A0 : W.cell? ⟨g, j * 11, none⟩ = some (.int .i64 y.at_.s.T) := hW ▸ a0 nq osq
                  have A1 : W.cell? ⟨g, j * 11 + 1, none⟩ = some (.int .i64 y.at_.s.R) := hW ▸ a1 nq osq
                  have A2 : W.cell? ⟨g, j * 11 + 2, none⟩ = some (.int .i64 y.at_.I) := hW ▸ a2 nq osq
                  have A3 : W.cell? ⟨g, j * 11 + 3, none⟩ = some (.int .i64 y.p.nd.s.T) := hW ▸ a3 nq osq
                  have A4 : W.cell? ⟨g, j * 11 + 4, none⟩ = some (.int .i64 y.p.nd.s.R) := hW ▸ a4 nq osq
                  have A5 : W.cell? ⟨g, j * 11 + 5, none⟩ = some (.int .i64 y.p.nd.I) := hW ▸ a5 nq osq
                  have A6 : W.cell? ⟨g, j * 11 + 6, none⟩ = some (.int .i64 y.p.pa.s.T) := hW ▸ a6 nq osq
                  have A7 : W.cell? ⟨g, j * 11 + 7, none⟩ = some (.int .i64 y.p.pa.s.R) := hW ▸ a7 nq osq
                  have A8 : W.cell? ⟨g, j * 11 + 8, none⟩ = some (.int .i64 y.p.pa.I) := hW ▸ a8 nq osq
                  have A9 : W.cell? ⟨g, j * 11 + 9, none⟩ = some (.string y.p.nm) := hW ▸ a9 nq osq
                  have A10 : W.cell? ⟨g, j * 11 + 10, none⟩ = some (.bool y.p.dir) := hW ▸ a10 nq osq
                  have B0 : W.cell? ⟨g, j * 11 + 11, none⟩ = some (.int .i64 x.at_.s.T) := hW ▸ b0 nq osq
                  have B1 : W.cell? ⟨g, j * 11 + 12, none⟩ = some (.int .i64 x.at_.s.R) := hW ▸ b1 nq osq
                  have B2 : W.cell? ⟨g, j * 11 + 13, none⟩ = some (.int .i64 x.at_.I) := hW ▸ b2 nq osq
                  have B3 : W.cell? ⟨g, j * 11 + 14, none⟩ = some (.int .i64 x.p.nd.s.T) := hW ▸ b3 nq osq
                  have B4 : W.cell? ⟨g, j * 11 + 15, none⟩ = some (.int .i64 x.p.nd.s.R) := hW ▸ b4 nq osq
                  have B5 : W.cell? ⟨g, j * 11 + 16, none⟩ = some (.int .i64 x.p.nd.I) := hW ▸ b5 nq osq
                  have B6 : W.cell? ⟨g, j * 11 + 17, none⟩ = some (.int .i64 x.p.pa.s.T) := hW ▸ b6 nq osq
                  have B7 : W.cell? ⟨g, j * 11 + 18, none⟩ = some (.int .i64 x.p.pa.s.R) := hW ▸ b7 nq osq
                  have B8 : W.cell? ⟨g, j * 11 + 19, none⟩ = some (.int .i64 x.p.pa.I) := hW ▸ b8 nq osq
                  have B9 : W.cell? ⟨g, j * 11 + 20, none⟩ = some (.string x.p.nm) := hW ▸ b9 nq osq
                  have B10 : W.cell? ⟨g, j * 11 + 21, none⟩ = some (.bool x.p.dir) := hW ▸ b10 nq osq
                  have hfz : ∀ i, W.frozen? ⟨g, i, none⟩ = false := own_frozen hoW (by omega)
                  have HOW := Lib.hid hoW
                  clear hW hgW hbr hoW a0 a1 a2 a3 a4 a5 a6 a7 a8 a9 a10 b0 b1 b2 b3 b4 b5 b6 b7 b8 b9 b10
                  go_wp2
                  go_region
                  have HSW := Lib.hid (swapT_own HJ.out HOW.out (by omega))
                  have HBW := Lib.hid (swapT_below hbW hgB j y x)
                  change Exit.inBlock _ _ _ _ (swapT W g j y x)
                  generalize swapT W g j y x = W5 at *
                  clear A0 A1 A2 A3 A4 A5 A6 A7 A8 A9 A10 B0 B1 B2 B3 B4 B5 B6 B7 B8 B9 B10 hfz HOW hbW
                  go_wp2
                  go_roundw
                  case rel =>
                    refine ⟨P', y :: S, ?_, ?_, ?_, ?_, ?_⟩
                    · rw [HLe.out]; simp
                    · rw [HJ.out]
                    · intro z hz
                      rcases List.mem_cons.1 hz with rfl | hz
                      · exact (icmp_id_neg _ _).1 (by rw [HRR.out]; have := HCn.out; simpa using this)
                      · exact HSl.out z hz
                    · exact HSW.out
                    · exact HBW.out
                  case measure => simp [intOf]
          · obtain ⟨g0, hg0, he0⟩ := hadT_true hh
            have HNi := Lib.hid (show ¬ ∀ g ∈ l.take k, g.at_ ≠ x.at_ from fun h => h g0 (firstK_mem ((HM.out g0).1 hg0)) he0)
            clear hh hg0 he0
            go_wp2
            go_roundw
            case rel => exact ⟨k + 1, by omega, by go_num, L, hOq.out, HS.out, fun h => by
              rw [HFS.out h, HM.out h]
              exact ⟨.inl, fun h1 => h1.elim id fun h2 => absurd h2.2 HNi.out⟩, by omega, hbq⟩
            case measure => simp [intOf]; omega
    · have hke : k = l.length := by omega
      subst hke
      have HFin := Lib.hid (show SortPostT l w (.returned (.slice Av L.length cv)) wo from ⟨_, L, rfl, HO.out, HS.out, fun h => by rw [HM.out h, List.take_length], hL, hb⟩)
      have hmin := HLL.out
      by_cases hka : l.length < aa.length
      · have i2 : (l.length : Int) < (aa.length : Int) := by omega
        have i3 : ¬ (l.length : Int) < (bl.length : Int) := by omega
        clear hmin
        go_wp2
        go_ret
        exact HFin.out
      · have i2 : ¬ (l.length : Int) < (aa.length : Int) := by omega
        clear hmin
        go_wp2
        go_ret
        exact HFin.out
end Go.Proofs.Ytejafcdlkpmemaa
