/- The dots that count, as a map. -/
import Derived.Test.YtejafcdlkpmemaaM
import Derived.Test.YtejafcdlkpmemaaC
namespace Go.Proofs.Ytejafcdlkpmemaa
open Go Go.RowKit Go.Maps
abbrev HH := Unit
def DotMap (P : Dot → Prop) (w : World) (b n : Nat) (D : DataW HH) : Prop := w.ownsMap Try.prog 41 (unitElem (H := HH)) b n D ∧ ∀ d, has D (dotK d) = true ↔ P d
theorem DotMap.below {P : Dot → Prop} {w w' : World} {b n : Nat} {D : DataW HH} (h : DotMap P w b n D) (hb : Below w.heap.size w w') : DotMap P w' b n D :=
  ⟨h.1.kept (row := none) ⟨hb.os, hb.tape, hb.output, hb.size, fun k hk _ => hb.block k hk⟩ (by simp), h.2⟩
def CountRel (have_ : List Dot) (w : World) (i : Value) (wr : World) : Prop :=
  ∃ k : Nat, k ≤ have_.length ∧ i = .int .i64 k ∧ ∃ D, DotMap (fun d => d ∈ have_.take k) wr w.heap.size k D ∧ Below w.heap.size w wr
def CountRel2 (have_ gone : List Dot) (w : World) (i : Value) (wr : World) : Prop :=
  ∃ k : Nat, k ≤ gone.length ∧ i = .int .i64 k ∧ ∃ D, DotMap (fun d => d ∈ have_ ∧ d ∉ gone.take k) wr w.heap.size have_.length D ∧ Below w.heap.size w wr
set_option maxRecDepth 100000 in
set_option maxHeartbeats 1000000 in
theorem counting_any (have_ gone : List Dot) (A A' : Option Addr) (n c n' c' B : Nat) (w : World) (hR : Rd w B 5 (.slice A n c) n (have_.flatMap dotC)) (hR' : Rd w B 5 (.slice A' n' c') n' (gone.flatMap dotC)) (hB : B ≤ w.heap.size) (hn : n ≤ 100000) :
    Calls Try.prog 46 #[.slice A n c, .slice A' n' c'] w fun e w' => e = .returned (.map (some w.heap.size)) ∧ (∃ D, DotMap (fun d => d ∈ have_ ∧ d ∉ gone) w' w.heap.size have_.length D) ∧ Below w.heap.size w w' := by
  obtain ⟨_, hnc, hcm⟩ := hR.len
  obtain ⟨_, hnc', hcm'⟩ := hR'.len
  unfold maxLen at hcm hcm'
  obtain rfl := len_of dotC 5 (fun _ => rfl) (by decide) hR.1
  obtain rfl := len_of dotC 5 (fun _ => rfl) (by decide) hR'.1
  have HR := Lib.hid hR
  have HR' := Lib.hid hR'
  clear hR hR'
  have hmm := @run_makeMap Try.prog
  go_enter Try.func46, Try.ntmps46
  go_wp2
  go_loopw [13] (fun i wr => CountRel have_ w i wr) (fun i _ => have_.length - (intOf i).toNat)
  case atStart =>
    refine ⟨0, Nat.zero_le _, rfl, .map [], ⟨World.ownsMap_made w _ _ _, fun d => by simp [has]⟩, (Below.refl _ w).alloc (Nat.le_refl _) _⟩
  case round =>
    obtain ⟨k, hk, rfl, D, ⟨hown, hD⟩, hb⟩ := hrel
    have HO := Lib.hid hown
    have HD := Lib.hid hD
    clear hown hD
    obtain ⟨wo, rfl⟩ : ∃ wo : World, wo = wr := ⟨_, rfl⟩
    by_cases hlt : k < have_.length
    · obtain ⟨b, o, rfl, hB', hcell⟩ := rd_at dotC 5 (fun _ => rfl) (by decide) HR.out hlt
      have hbl : b < w.heap.size := by omega
      have hbc : ∀ j u, (dotC have_[k])[j]? = some u → wo.cell? ⟨b, o + k * 5 + j, none⟩ = some u := fun j u hu => (hb.cell (p := ⟨b, o + k * 5 + j, none⟩) hbl).trans (hcell j u hu)
      have HT := Lib.hid (fun x => mem_take_succ hlt x)
      obtain ⟨d, hd⟩ : ∃ d, have_[k] = d := ⟨_, rfl⟩
      rw [hd] at hbc HT
      clear hd
      have d0 : wo.cell? ⟨b, o + k * 5, none⟩ = some (.int .i64 d.n.s.T) := hbc 0 _ rfl
      have d1 : wo.cell? ⟨b, o + k * 5 + 1, none⟩ = some (.int .i64 d.n.s.R) := hbc 1 _ rfl
      have d2 : wo.cell? ⟨b, o + k * 5 + 2, none⟩ = some (.int .i64 d.n.I) := hbc 2 _ rfl
      have d3 : wo.cell? ⟨b, o + k * 5 + 3, none⟩ = some (.int .i64 d.b.T) := hbc 3 _ rfl
      have d4 : wo.cell? ⟨b, o + k * 5 + 4, none⟩ = some (.int .i64 d.b.R) := hbc 4 _ rfl
      clear hcell hbc
      go_wp2_with (at_mapUpdate; refine wpList_mapUpdate_own _ rfl _ _ _ 76 rfl 41 78 keyed41 Try.underlying76 unitElem w.heap.size k D rfl (HO.out.alloc _) (by unfold maxLen; omega) (dotV d) (.agg #[]) (dotK d) rfl rfl (key41 d) (.agg []) [] unitElem_mk ?_; intro w1 hown1 hgrow1)
      have hb1 : Below w.heap.size w w1 := (hb.alloc hb.size _).grown hgrow1 (by have := hb.size; simp; omega) (fun j hj => by cases hj; exact Nat.le_refl _)
      have HO1 := Lib.hid hown1
      clear hown1 hgrow1 d0 d1 d2 d3 d4
      go_wp2
      go_roundw
      case rel =>
        refine ⟨k + 1, hlt, by go_num, _, ⟨HO1.out, fun x => ?_⟩, hb1⟩
        show _ ↔ x ∈ have_.take (k + 1)
        have h1 : has D (dotK x) = true ↔ x ∈ have_.take k := HD.out x
        rw [ok41.has_put HO.out.isMap, HT.out x, ← h1]
        simp [or_comm]
      case measure => simp [intOf]; omega
    · have hke : k = have_.length := by omega
      subst hke
      go_wp2
      go_loopw [23] (fun i wr => CountRel2 have_ gone w i wr) (fun i _ => gone.length - (intOf i).toNat)
      case atStart =>
        refine ⟨0, Nat.zero_le _, rfl, D, ⟨HO.out, fun d => by
          have h1 : has D (dotK d) = true ↔ d ∈ have_.take have_.length := HD.out d
          rw [h1]; simp⟩, hb⟩
      case round =>
        clear HO HD hb
        obtain ⟨k, hk, rfl, D, ⟨hown, hD⟩, hb⟩ := hrel
        have HO := Lib.hid hown
        have HD := Lib.hid hD
        clear hown hD
        obtain ⟨wo, rfl⟩ : ∃ wo : World, wo = wr := ⟨_, rfl⟩
        by_cases hlt : k < gone.length
        · obtain ⟨b, o, rfl, hB', hcell⟩ := rd_at dotC 5 (fun _ => rfl) (by decide) HR'.out hlt
          have hbl : b < w.heap.size := by omega
          have hbc : ∀ j u, (dotC gone[k])[j]? = some u → wo.cell? ⟨b, o + k * 5 + j, none⟩ = some u := fun j u hu => (hb.cell (p := ⟨b, o + k * 5 + j, none⟩) hbl).trans (hcell j u hu)
          have HT := Lib.hid (fun x => mem_take_succ hlt x)
          obtain ⟨d, hd⟩ : ∃ d, gone[k] = d := ⟨_, rfl⟩
          rw [hd] at hbc HT
          clear hd
          have d0 : wo.cell? ⟨b, o + k * 5, none⟩ = some (.int .i64 d.n.s.T) := hbc 0 _ rfl
          have d1 : wo.cell? ⟨b, o + k * 5 + 1, none⟩ = some (.int .i64 d.n.s.R) := hbc 1 _ rfl
          have d2 : wo.cell? ⟨b, o + k * 5 + 2, none⟩ = some (.int .i64 d.n.I) := hbc 2 _ rfl
          have d3 : wo.cell? ⟨b, o + k * 5 + 3, none⟩ = some (.int .i64 d.b.T) := hbc 3 _ rfl
          have d4 : wo.cell? ⟨b, o + k * 5 + 4, none⟩ = some (.int .i64 d.b.R) := hbc 4 _ rfl
          clear hcell hbc
          go_wp2_with (at_delete; refine wpList_delete_own _ rfl _ _ 76 41 rfl 78 keyed41 Try.underlying76 unitElem w.heap.size have_.length D rfl (HO.out.alloc _) (dotV d) (dotK d) rfl (key41 d) ?_; intro w1 hown1 hturn1)
          have hb1 : Below w.heap.size w w1 := (hb.alloc hb.size _).grown hturn1.grown (by have := hb.size; simp; omega) (fun j hj => by cases hj; exact Nat.le_refl _)
          have HO1 := Lib.hid hown1
          clear hown1 hturn1 d0 d1 d2 d3 d4
          go_wp2
          go_roundw
          case rel =>
            refine ⟨k + 1, hlt, by go_num, _, ⟨HO1.out, fun x => ?_⟩, hb1⟩
            show _ ↔ x ∈ have_ ∧ x ∉ gone.take (k + 1)
            rw [ok41.has_del]
            have h1 : has D (dotK x) = true ↔ x ∈ have_ ∧ x ∉ gone.take k := HD.out x
            have h2 := HT.out x
            simp only [Bool.and_eq_true, Bool.not_eq_true', decide_eq_false_iff_not, h1, h2]
            constructor
            · rintro ⟨a, b, c⟩; exact ⟨b, fun h => h.elim c a⟩
            · rintro ⟨a, b⟩; exact ⟨fun h => b (.inr h), a, fun h => b (.inl h)⟩
          case measure => simp [intOf]; omega
        · have hke : k = gone.length := by omega
          subst hke
          go_wp2
          go_ret
          exact ⟨rfl, ⟨D, HO.out, fun d => by
            have h1 : has D (dotK d) = true ↔ d ∈ have_ ∧ d ∉ gone.take gone.length := HD.out d
            rw [h1]; simp⟩, hb⟩
end Go.Proofs.Ytejafcdlkpmemaa
