/- Small numbers as dots. -/
import Derived.Test.YtejafcdlkpmemaaI
import Derived.Deep.AppendLies
namespace Go.Proofs.Ytejafcdlkpmemaa
open Go Go.RowKit Go.Maps Go.Shelf
structure Bit where
  n : Nat
  b : Nat
  hn : n < 256
  hb : b < 256
def bitC (x : Bit) : List Value := [.int .u8 x.n, .int .u8 x.b]
theorem i64_small {n : Nat} (h : n < 1000) : I64 (n : Int) := by unfold I64; omega
def bitDot (x : Bit) : Dot := ⟨nid ((1 + x.n % 5 : Nat) : Int) (i64_small (by omega)), ⟨((1 + x.b % 6 : Nat) : Int), 2, i64_small (by omega), by decide⟩⟩
def DotsRel (l : List Bit) (w : World) (out i : Value) (wr : World) : Prop :=
  ∃ k : Nat, k ≤ l.length ∧ k ≤ 60 ∧ i = .int .i64 k ∧ wr.ownsRow w.heap.size 41 5 out k (((l.take k).map bitDot).flatMap dotC) ∧ Below w.heap.size w wr
theorem info41 : (Try.prog.info? 41).map (fun i => (i.zero, i.size, i.bytes)) = some (some (.agg #[.int .i64 0, .int .i64 0, .int .i64 0, .int .i64 0, .int .i64 0]), 5, 40) := by kernel_rfl
theorem dotC_one (x : Dot) : ∀ u ∈ dotC x, u.oneCell' = true := by
  intro u hu
  simp [dotC] at hu
  rcases hu with rfl | rfl | rfl | rfl | rfl <;> rfl
set_option maxRecDepth 100000 in
set_option maxHeartbeats 2000000 in
theorem dots_any (l : List Bit) (A : Option Addr) (n c B : Nat) (w : World) (hR : Rd w B 2 (.slice A n c) n (l.flatMap bitC)) (hB : B ≤ w.heap.size) :
    Calls Try.prog 25 #[.slice A n c] w fun e w' => ∃ v, e = .returned v ∧ w'.ownsRow w.heap.size 41 5 v ((l.take 60).map bitDot).length (((l.take 60).map bitDot).flatMap dotC) ∧ Below w.heap.size w w' := by
  obtain ⟨_, hnc, hcm⟩ := hR.len
  unfold maxLen at hcm
  obtain rfl := len_of bitC 2 (fun _ => rfl) (by decide) hR.1
  have HR := Lib.hid hR
  clear hR
  obtain ⟨i0, hi, hz0, hz1, hz2⟩ := info_parts info41
  go_enter Try.func25, Try.ntmps25
  go_wp2
  go_loopw [3, 4] (fun out i wr => DotsRel l w out i wr) (fun _ i _ => l.length - (intOf i).toNat)
  case atStart => exact ⟨0, Nat.zero_le _, Nat.zero_le _, rfl, World.ownsRow_nil _ _ _ _, Below.refl _ _⟩
  case round =>
    obtain ⟨k, hk, hk60, rfl, hO, hb⟩ := hrel
    obtain ⟨Av, cv, rfl, hLc, hcm2⟩ := (Rd.of_own hO).form
    have HO := Lib.hid hO
    clear hO hcm2
    obtain ⟨wo, rfl⟩ : ∃ wo : World, wo = wr := ⟨_, rfl⟩
    by_cases hlt : k < l.length
    · by_cases hlt2 : k < 60
      · obtain ⟨b, o, rfl, hB', hcell⟩ := rd_at bitC 2 (fun _ => rfl) (by decide) HR.out hlt
        have hbl : b < w.heap.size := by omega
        have hwl := hb.size
        have hbl2 : b < wo.heap.size := by omega
        have hbc : ∀ j u, (bitC l[k])[j]? = some u → wo.cell? ⟨b, o + k * 2 + j, none⟩ = some u := fun j u hu => (hb.cell (p := ⟨b, o + k * 2 + j, none⟩) hbl).trans (hcell j u hu)
        have HT := Lib.hid (show (l.take (k + 1)).map bitDot = (l.take k).map bitDot ++ [bitDot l[k]] from by rw [List.take_succ_eq_append_getElem hlt, List.map_append, List.map_cons, List.map_nil])
        obtain ⟨x, hx⟩ : ∃ x, l[k] = x := ⟨_, rfl⟩
        obtain ⟨p, q, hp, hq⟩ := x
        rw [hx] at hbc HT
        have HS := Lib.hid (fun W' (hg : Grows wo.drew W') => (show W'.cell? ⟨b, o + k * 2, none⟩ = some (.int .u8 p) ∧ W'.cell? ⟨b, o + k * 2 + 1, none⟩ = some (.int .u8 q) from
          ⟨(hg.below.cell (p := ⟨b, o + k * 2, none⟩) (by exact hbl2)).trans (hbc 0 _ rfl), (hg.below.cell (p := ⟨b, o + k * 2 + 1, none⟩) (by exact hbl2)).trans (hbc 1 _ rfl)⟩))
        have HS2 := Lib.hid (fun W' (hg : Below w.heap.size w W') => (show W'.cell? ⟨b, o + k * 2, none⟩ = some (.int .u8 p) ∧ W'.cell? ⟨b, o + k * 2 + 1, none⟩ = some (.int .u8 q) from
          ⟨(hg.cell (p := ⟨b, o + k * 2, none⟩) hbl).trans (hcell 0 _ (by rw [hx]; rfl)), (hg.cell (p := ⟨b, o + k * 2 + 1, none⟩) hbl).trans (hcell 1 _ (by rw [hx]; rfl))⟩))
        have i1 : (0 : Int) ≤ (k : Int) := by omega
        have i2 : (k : Int) < (l.length : Int) := by omega
        obtain ⟨u, hu⟩ : ∃ u, 1 + p % 5 = u := ⟨_, rfl⟩
        obtain ⟨v, hv⟩ : ∃ v, 1 + q % 6 = v := ⟨_, rfl⟩
        have HD := Lib.hid (show dotC (bitDot ⟨p, q, hp, hq⟩) = [.int .i64 (u : Nat), .int .i64 1, .int .i64 0, .int .i64 (v : Nat), .int .i64 2] from by rw [← hu, ← hv]; rfl)
        obtain ⟨r, hr⟩ : ∃ r, p % 5 = r := ⟨_, rfl⟩
        obtain ⟨t, ht⟩ : ∃ t, q % 6 = t := ⟨_, rfl⟩
        have hr5 : r < 5 := by omega
        have ht6 : t < 6 := by omega
        have m1 : Int.tmod (p : Int) 5 = (r : Int) := by rw [Int.tmod_eq_emod_of_nonneg (by omega), ← hr]; omega
        have m2 : Int.tmod (q : Int) 6 = (t : Int) := by rw [Int.tmod_eq_emod_of_nonneg (by omega), ← ht]; omega
        rw [hr] at hu
        rw [ht] at hv
        have a1 : IntKind.i64.wrap (1 + (r : Int)) = (u : Int) := by rw [IntWalk.i64_in _ (by omega)]; omega
        have a2 : IntKind.i64.wrap (1 + (t : Int)) = (v : Int) := by rw [IntWalk.i64_in _ (by omega)]; omega
        have w1 : IntKind.i64.wrap (p : Int) = p := IntWalk.i64_in _ (by omega)
        have w2 : IntKind.i64.wrap (q : Int) = q := IntWalk.i64_in _ (by omega)
        have g0 : Grows wo.drew wo.drew := Grows.refl _
        have hbd : Below w.heap.size w wo.drew := hb.drew
        clear hcell hbc hr ht hu hv hx
        go_wp2
        go_region_held3 (fun w' => w'.cell? ⟨b, o + k * 2, none⟩ = some (.int .u8 p) ∧ w'.cell? ⟨b, o + k * 2 + 1, none⟩ = some (.int .u8 q))
          (first | exact HS2.out _ (by assumption) | exact HS.out _ (by assumption) | exact HS.out _ (Grows.alloc (by assumption) _) | go_keep)
          (first
            | (go_at_call 26; refine (id_at _ _).mono ?_; rintro e W1 ⟨rfl, hg⟩; have HO1 := Lib.hid (own_grows (own_drew HO.out) hg.below); have g1 : Grows wo.drew W1 := hg; clear hg)
            | (refine step_append_lies _ (by rfl) _ _ _ (by rfl) w.heap.size 41 i0 _ 5 40 Try.underlying22 hi hz0 hz1 hz2 rfl (by omega) _ k _ (by rfl) (HO1.out.alloc _) ⟨W1.heap.size, 0, none⟩ 1 1 [.int .i64 (u : Nat), .int .i64 1, .int .i64 0, .int .i64 (v : Nat), .int .i64 2] (by rfl) (by rfl) (cells_new W1 [.int .i64 (u : Nat), .int .i64 1, .int .i64 0, .int .i64 (v : Nat), .int .i64 2] 41) (by simp [Value.oneCell']) (by omega) (by unfold maxLen; omega) (by omega) (by have := g1.below.size; have := hbd.size; simp; omega) _ (by rfl) ?_
               intro g cap W4 hown hgrow hat hgl
               have hb4 : Below w.heap.size w W4 := ((hbd.trans (g1.below.mono hbd.size)).alloc (by have := g1.below.size; have := hbd.size; omega) _).grown hgrow (by have := g1.below.size; have := hbd.size; simp; omega) (fun j hj => (HO1.out.lt j hj).1)))
        have HO4 := Lib.hid (show W4.ownsRow w.heap.size 41 5 (.slice (some ⟨g, 0, none⟩) (k + 1) cap) (k + 1) (((l.take (k + 1)).map bitDot).flatMap dotC) from by rw [HT.out, List.flatMap_append]; simpa [HD.out] using hown)
        clear hown hgrow hat hgl g0 g1 hbd m1 m2 a1 a2 w1 w2
        go_wp2
        go_roundw
        case rel => exact ⟨k + 1, by omega, by omega, by go_num, HO4.out, hb4⟩
        case measure => simp [intOf]; omega
      · obtain rfl : k = 60 := by omega
        go_wp2
        go_ret
        refine ⟨_, rfl, ?_, hb⟩
        have hl : ((l.take 60).map bitDot).length = 60 := by simp; omega
        rw [hl]
        exact HO.out
    · have hke : k = l.length := by omega
      have hT : l.take 60 = l := List.take_of_length_le (by omega)
      have hT2 : l.take k = l := List.take_of_length_le (by omega)
      rw [hT2] at HO
      have HT := Lib.hid hT
      clear hT hT2
      subst hke
      go_wp2
      go_ret
      refine ⟨_, rfl, ?_, hb⟩
      rw [HT.out, List.length_map]
      exact HO.out
end Go.Proofs.Ytejafcdlkpmemaa
