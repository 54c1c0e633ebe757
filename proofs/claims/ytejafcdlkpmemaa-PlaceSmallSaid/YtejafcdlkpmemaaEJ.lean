/- The law's heads, as the document has them. -/
import Derived.Test.YtejafcdlkpmemaaEH
import Derived.Test.YtejafcdlkpmemaaEP2
import Derived.Test.YtejafcdlkpmemaaC
import Derived.Deep.AppendLies
import Derived.Deep.RegionHeld3
namespace Go.Proofs.Ytejafcdlkpmemaa
open Go Go.RowKit Go.Shelf
theorem info90 : (Try.prog.info? 90).map (fun i => (i.zero, i.size, i.bytes)) = some (some (.agg #[.int .i64 0, .int .i64 0, .int .i64 0, .int .i64 0]), 4, 32) := by kernel_rfl
def ZipRel (a b : List Stamp) (w : World) (out i : Value) (wr : World) : Prop :=
  ∃ k : Nat, k ≤ min a.length b.length ∧ i = .int .i64 k ∧ wr.ownsRow w.heap.size 90 4 out k (((zipH a b).take k).flatMap hdC) ∧ Below w.heap.size w wr
def ZipPost (a b : List Stamp) (w : World) (e : Ending) (w' : World) : Prop :=
  ∃ v, e = .returned v ∧ w'.ownsRow w.heap.size 90 4 v (zipH a b).length ((zipH a b).flatMap hdC) ∧ Below w.heap.size w w'
set_option maxRecDepth 100000 in
set_option maxHeartbeats 4000000 in
theorem zip_any (a b : List Stamp) (A A' : Option Addr) (n c n' c' B : Nat) (w : World) (hR : Rd w B 2 (.slice A n c) n (a.flatMap stC)) (hR' : Rd w B 2 (.slice A' n' c') n' (b.flatMap stC)) (hB : B ≤ w.heap.size) (hn : n ≤ 100000) :
    Calls Try.prog 29 #[.slice A n c, .slice A' n' c'] w (ZipPost a b w) := by
  obtain rfl := len_of stC 2 (fun _ => rfl) (by decide) hR.1
  obtain rfl := len_of stC 2 (fun _ => rfl) (by decide) hR'.1
  have HR := Lib.hid hR
  have HR' := Lib.hid hR'
  clear hR hR'
  obtain ⟨i0, hi, hz0, hz1, hz2⟩ := info_parts info90
  go_enter Try.func29, Try.ntmps29
  go_wp2
  go_loopw [5, 6] (fun out i wr => ZipRel a b w out i wr) (fun _ i _ => a.length - (intOf i).toNat)
  case atStart => exact ⟨0, Nat.zero_le _, rfl, World.ownsRow_nil _ _ _ _, Below.refl _ _⟩
  case round =>
    obtain ⟨k, hk, rfl, hO, hb⟩ := hrel
    obtain ⟨Av, cv, rfl, hLc, hcm2⟩ := (Rd.of_own hO).form
    have HO := Lib.hid hO
    have hwl := hb.size
    clear hO hcm2
    obtain ⟨wo, rfl⟩ : ∃ wo : World, wo = wr := ⟨_, rfl⟩
    have HK := Lib.hid hk
    clear hk
    by_cases hla : k < a.length
    · by_cases hlb : k < b.length
      · obtain ⟨ba, oa, rfl, hBa, hca⟩ := rd_at stC 2 (fun _ => rfl) (by decide) HR.out hla
        obtain ⟨bb, ob, rfl, hBb, hcb⟩ := rd_at stC 2 (fun _ => rfl) (by decide) HR'.out hlb
        have HZ := Lib.hid (zip_succ hla hlb)
        obtain ⟨x, hx⟩ : ∃ x, a[k] = x := ⟨_, rfl⟩
        obtain ⟨y, hy⟩ : ∃ y, b[k] = y := ⟨_, rfl⟩
        rw [hx] at hca HZ
        rw [hy] at hcb HZ
        have hS := Lib.hid (fun W' (hW : Below w.heap.size w W') => (show W'.cell? ⟨ba, oa + k * 2, none⟩ = some (.int .i64 x.T) ∧ W'.cell? ⟨ba, oa + k * 2 + 1, none⟩ = some (.int .i64 x.R) ∧ W'.cell? ⟨bb, ob + k * 2, none⟩ = some (.int .i64 y.T) ∧ W'.cell? ⟨bb, ob + k * 2 + 1, none⟩ = some (.int .i64 y.R) from
          ⟨(hW.cell (p := ⟨ba, oa + k * 2, none⟩) (show ba < w.heap.size by omega)).trans (hca 0 _ rfl), (hW.cell (p := ⟨ba, oa + k * 2 + 1, none⟩) (show ba < w.heap.size by omega)).trans (hca 1 _ rfl), (hW.cell (p := ⟨bb, ob + k * 2, none⟩) (show bb < w.heap.size by omega)).trans (hcb 0 _ rfl), (hW.cell (p := ⟨bb, ob + k * 2 + 1, none⟩) (show bb < w.heap.size by omega)).trans (hcb 1 _ rfl)⟩))
        clear hca hcb hx hy
        have i1 : (0 : Int) ≤ (k : Int) := by omega
        have i2 : (k : Int) < (a.length : Int) := by omega
        have i3 : (k : Int) < (b.length : Int) := by omega
        have k1 : Below w.heap.size w wo.drew := hb.drew
        go_wp2
        go_region_held3 (fun w' => w'.cell? ⟨ba, oa + k * 2, none⟩ = some (.int .i64 x.T) ∧ w'.cell? ⟨ba, oa + k * 2 + 1, none⟩ = some (.int .i64 x.R) ∧ w'.cell? ⟨bb, ob + k * 2, none⟩ = some (.int .i64 y.T) ∧ w'.cell? ⟨bb, ob + k * 2 + 1, none⟩ = some (.int .i64 y.R))
          (first | exact hS.out _ (by assumption) | exact hS.out _ (k1.alloc k1.size _) | go_keep)
          ((refine step_append_lies _ (by rfl) _ _ _ (by rfl) w.heap.size 90 i0 _ 4 32 Try.underlying42 hi hz0 hz1 hz2 rfl (by omega) _ k _ (by rfl) ((own_drew HO.out).alloc _) ⟨wo.heap.size, 0, none⟩ 1 1 (hdC ⟨x, y⟩) (by rfl) (by rfl) (cells_new wo.drew (hdC ⟨x, y⟩) 90) (hdC_one _) (by omega) (by unfold maxLen; omega) (by omega) (by have := k1.size; simp at this ⊢; omega) _ (by rfl) ?_
            intro g cap W4 hown hgrow hat hgl
            have hb4 : Below w.heap.size w W4 := (k1.alloc k1.size _).grown hgrow (by have := k1.size; simp at this ⊢; omega) (fun j hj => (HO.out.lt j hj).1)))
        have HO4 := Lib.hid (show W4.ownsRow w.heap.size 90 4 (.slice (some ⟨g, 0, none⟩) (k + 1) cap) (k + 1) (((zipH a b).take (k + 1)).flatMap hdC) from by rw [HZ.out]; simpa using hown)
        clear hown hgrow hat hgl k1
        go_wp2
        exact ⟨⟨k + 1, by omega, by go_num, HO4.out, hb4⟩, by simp [intOf]; omega⟩
      · have hz : (zipH a b).take k = zipH a b := List.take_of_length_le (by rw [zipH_len]; omega)
        have hl : (zipH a b).length = k := by rw [zipH_len]; have := HK.out; omega
        have HL := Lib.hid hl
        rw [hz] at HO
        clear hz hl
        go_wp2
        go_ret
        exact ⟨_, rfl, by rw [HL.out]; exact HO.out, hb⟩
    · have hz : (zipH a b).take k = zipH a b := List.take_of_length_le (by rw [zipH_len]; omega)
      have hl : (zipH a b).length = k := by rw [zipH_len]; have := HK.out; omega
      have HL := Lib.hid hl
      rw [hz] at HO
      clear hz hl
      go_wp2
      go_ret
      exact ⟨_, rfl, by rw [HL.out]; exact HO.out, hb⟩
end Go.Proofs.Ytejafcdlkpmemaa
