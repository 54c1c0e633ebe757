/- The gauge's Middle, walked: its contract. -/
import Derived.Test.YtjlghmjngiegaaaW10
namespace Go.Proofs.Ytjlghmjngiegaaa
open Go Go.Gauge Go.RowKit Go.Sort Go.Shelf
theorem below_grow {B : Nat} {a w : World} (h : Below B a w) (hw : B ≤ w.heap.size) (os : Array Obj) : Below B a (grow w os) :=
  ⟨h.os, h.tape, h.output, by rw [size_grow]; exact Nat.le_trans h.size (Nat.le_add_right _ _), fun i hi => by
    rw [← h.block i hi]
    exact heap_grow_old w os (by omega)⟩
def SortPost (N : List F64) (g : Nat) (w : World) (e : Ending) (w' : World) : Prop :=
  e = .returned (.tuple #[]) ∧ ∃ L : List F64, L.length = N.length ∧ L.Perm N ∧ L.Pairwise (fun a b => key a.1 ≤ key b.1) ∧ (∀ j, (h : j < L.length) → w'.cell? ⟨g, j, none⟩ = some (.float .f64 L[j].1)) ∧ ∀ B a, Below B a w → B ≤ g → Below B a w'
theorem sort_any (N : List F64) (g cap : Nat) (w : World) (hH : Holds fl w g 0 N.toArray) (hg : g < w.heap.size) (hn : N.length ≤ 1000000000) :
    Calls Try.prog 32 #[.slice (some ⟨g, 0, none⟩) N.length cap, .func (.func 16) #[] #[]] w (SortPost N g w) := by
  have hcon := Try.slices_SortFunc fl one_fl cf swo_cf 16 #[] g 0 cap N.toArray w (enters_of Try.func16 (by kernel_rfl) rfl)
    (fun m os dk _ x y => (cmp_any x.1 y.1 x.2 y.2 _).mono fun _ _ ⟨h1, h2⟩ => ⟨h1, 0, #[], by rw [grow_empty, ← h2]; rfl⟩) hH hg (by simp; omega)
  simp only [List.size_toArray] at hcon
  refine hcon.mono ?_
  rintro e w' ⟨rfl, d', n, os, hp, hs, rfl⟩
  have hs' : SortedIn (ltOf cf) 0 N.toArray.size d' := by simpa using hs
  have hp' : PermIn 0 N.toArray.size N.toArray d' := by simpa using hp
  obtain ⟨h1, h2, h3⟩ := sorted_cf hp' hs'
  have hd : d'.size = N.toArray.size := h1
  refine ⟨rfl, d'.toList, by simpa using hd, by simpa using h2, h3, fun j hj => ?_, fun B a hB hg2 => below_grow (Lib.below_putRow hB hg2) (by rw [size_putRow]; show B ≤ w.heap.size; omega) os⟩
  have hH2 : Holds fl (sortWorld fl w g 0 n d' os) g 0 d' := holds_grow fl _ os g 0 d' (by rw [size_putRow]; exact hg) (holds_putRow fl (Sort.ahead w n) g 0 N.toArray d' hH hd)
  have hj' : j < d'.size := by simpa using hj
  have := (hH2 j hj').1
  rw [Nat.zero_add, getElem!_pos d' j hj'] at this
  rw [this]
  rfl
set_option maxHeartbeats 2000000 in
theorem mid_said : MidSaid := by
  intro zs A n c w hR hn
  have hl : zs.length = n := by have := hR.1; simpa using this
  subst hl
  have H1 := Lib.hid (clone_any zs A zs.length c w hR hn)
  clear hR
  go_enter Try.func14, Try.ntmps14
  go_wp2_with fail
  refine (H1.out).mono ?_
  rintro e w1 ⟨v1, rfl, ho1, hb1⟩
  have H2 := Lib.hid (delete_any zs v1 w.heap.size w1 ho1 hn)
  clear ho1
  go_wp2_with fail
  refine (H2.out).mono ?_
  rintro e w2 ⟨v2, rfl, ho2, hb2⟩
  have hb := hb1.trans hb2
  have hle := List.length_filter_le numF zs
  obtain ⟨N, hN⟩ : ∃ N, zs.filter numF = N := ⟨_, rfl⟩
  rw [hN] at ho2 hle
  have HN := Lib.hid hN
  clear hN hb1 hb2
  rcases Nat.eq_zero_or_pos N.length with h0 | h0
  · have e : N = [] := List.eq_nil_of_length_eq_zero h0
    subst e
    obtain ⟨A2, c2, rfl, _⟩ := (Rd.of_own ho2).form
    clear ho2 h0
    go_wp2
    go_ret2
    exact ⟨⟨0, by decide⟩, 40, rfl, hb, .inl ⟨HN.out, rfl, rfl⟩⟩
  · have hv : v2 ≠ .slice none 0 0 := by
      rintro rfl
      rcases ho2.2 with ⟨_, e⟩ | ⟨g, cap, cur, e, _⟩
      · omega
      · cases e
    obtain ⟨g, cap, rfl, hg, hlt, hcap, hcm, _, hH⟩ := Lib.holds_of_ownsRow ho2 hv
    have HS := Lib.hid (sort_any N g cap w2 hH hlt (by omega))
    have hz : ((N.length : Int) == 0) = false := by rw [beq_eq_false_iff_ne]; omega
    unfold maxLen at hcm
    clear hv ho2 hH
    go_wp2_with fail
    refine (HS.out).mono ?_
    rintro e w3 ⟨rfl, L, hll, hp, hs, hcell, hbel⟩
    have hb3 := hbel _ _ hb hg
    have hlt3 : (L.length - 1) / 2 < L.length := by omega
    have hc := hcell _ hlt3
    have e1 : ((L.length - 1) / 2 : Nat) = (N.length - 1) / 2 := by omega
    obtain ⟨m, hm⟩ : ∃ m : F64, L[(L.length - 1) / 2] = m := ⟨_, rfl⟩
    rw [hm, e1] at hc
    have HM := Lib.hid hm
    have HL := Lib.hid hll
    have HP := Lib.hid hp
    have HSo := Lib.hid hs
    clear hbel hcell hll hp hs e1 hm
    go_wp2
    go_ret2
    exact ⟨m, 0, rfl, hb3, .inr ⟨L, by rw [HN.out]; exact HP.out, HSo.out, hlt3, HM.out.symm, rfl⟩⟩
end Go.Proofs.Ytjlghmjngiegaaa
