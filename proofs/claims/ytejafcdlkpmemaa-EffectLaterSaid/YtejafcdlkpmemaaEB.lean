/- The program's heads: the first group of each name, rising. -/
import Derived.Test.YtejafcdlkpmemaaEA
import Derived.Test.YtejafcdlkpmemaaEP2
import Derived.Test.YtejafcdlkpmemaaEM
import Derived.Test.YtejafcdlkpmemaaF
import Derived.Deep.AppendLies
import Derived.Deep.RegionHeld3
namespace Go.Proofs.Ytejafcdlkpmemaa
open Go Go.RowKit Go.Maps Go.Shelf
def HeadsRel (a b : List Stamp) (w : World) (bm : Nat) (out i : Value) (wr : World) : Prop :=
  ∃ k : Nat, k ≤ min a.length b.length ∧ i = .int .i64 k ∧ ∃ (D : DataW HH) (L : List Head), wr.ownsMap Try.prog 24 (plainElem Try.prog 3) bm k D ∧ (∀ s, D.atKey (stK s) (.lit (.int .i64 0)) = .lit (.int .i64 (times s (a.take k) : Nat))) ∧
    wr.ownsRow w.heap.size 95 4 out L.length (L.flatMap hdC) ∧ L.Nodup ∧ (∀ h, h ∈ L ↔ First ((zipH a b).take k) h) ∧ L.length ≤ k ∧ Below w.heap.size w wr
def HeadsPost (a b : List Stamp) (w : World) (e : Ending) (w' : World) : Prop :=
  ∃ (v : Value) (H : List Head), e = .returned v ∧ w'.ownsRow w.heap.size 95 4 v H.length (H.flatMap hdC) ∧ H.Pairwise (fun x y => x.nm.Lt y.nm) ∧ (∀ h, h ∈ H ↔ First (zipH a b) h) ∧ H.length ≤ a.length ∧ Below w.heap.size w w'
theorem heads_strict : ∀ {L : List Head}, (∀ g h, g ∈ L → h ∈ L → g.nm = h.nm → g = h) → L.Pairwise (fun p q => ¬ q.nm.Lt p.nm) → L.Nodup → L.Pairwise (fun p q => p.nm.Lt q.nm)
  | [], _, _, _ => List.Pairwise.nil
  | a :: L, hu, h, hn => by
    rw [List.pairwise_cons] at h
    rw [List.nodup_cons] at hn
    refine List.pairwise_cons.2 ⟨fun b hb => ?_, heads_strict (fun g h hg hh => hu g h (by simp [hg]) (by simp [hh])) h.2 hn.2⟩
    rcases stampSTO.total a.nm b.nm with t | t | t
    · exact t
    · exact absurd (hu a b (by simp) (by simp [hb]) t ▸ hb) hn.1
    · exact absurd t (h.1 b hb)
theorem info95 : (Try.prog.info? 95).map (fun i => (i.zero, i.size, i.bytes)) = some (some (.agg #[.int .i64 0, .int .i64 0, .int .i64 0, .int .i64 0]), 4, 32) := by kernel_rfl
set_option maxRecDepth 100000 in
set_option maxHeartbeats 4000000 in
theorem heads_any (a b : List Stamp) (A A' : Option Addr) (n c n' c' B : Nat) (w : World) (hR : Rd w B 2 (.slice A n c) n (a.flatMap stC)) (hR' : Rd w B 2 (.slice A' n' c') n' (b.flatMap stC)) (hB : B ≤ w.heap.size) (hn : n ≤ 100000) :
    Calls Try.prog 55 #[.slice A n c, .slice A' n' c'] w (HeadsPost a b w) := by
  obtain rfl := len_of stC 2 (fun _ => rfl) (by decide) hR.1
  obtain rfl := len_of stC 2 (fun _ => rfl) (by decide) hR'.1
  have HR := Lib.hid hR
  have HR' := Lib.hid hR'
  clear hR hR'
  obtain ⟨i0, hi, hz0, hz1, hz2⟩ := info_parts info95
  have hmm := @run_makeMap Try.prog
  go_enter Try.func55, Try.ntmps55
  go_wp2
  obtain ⟨w1, hw1⟩ : ∃ W, (w.alloc (.cells #[] 95)).alloc (.map #[] 0) = W := ⟨_, rfl⟩
  have hb1 : Below w.heap.size w w1 := by rw [← hw1]; exact (((Grows.refl w).alloc _).alloc _).below
  have he1 : w1.heap[w.heap.size]? = some (.cells #[] 95 (0, 0)) := by rw [← hw1]; exact (Below.heap_alloc _ _ _ (by simp)).trans (heap_alloc_new w _)
  have hm1 : w1.ownsMap Try.prog 24 (plainElem Try.prog 3) (w.heap.size + 1) 0 (DataW.map ([] : List (Lit × DataW HH))) := by
    rw [← hw1]
    have := World.ownsMap_made (H := HH) (w.alloc (.cells #[] 95)) Try.prog 24 (plainElem Try.prog 3)
    rw [World.size_alloc] at this
    exact this
  have hO1 := Lib.hid (own_empty (base := w.heap.size) (K := 4) (Nat.le_refl _) he1)
  have HM1 := Lib.hid hm1
  rw [hw1]
  obtain ⟨bm, hbm⟩ : ∃ b, w.heap.size + 1 = b := ⟨_, rfl⟩
  have hbw : w.heap.size < bm := by omega
  rw [hbm] at HM1 ⊢
  have hmin : (min (a.length : Int) (b.length : Int)) = ((min a.length b.length : Nat) : Int) := by omega
  obtain ⟨N, hN⟩ : ∃ N, min a.length b.length = N := ⟨_, rfl⟩
  rw [hmin, hN]
  have hNa : N ≤ a.length := by omega
  have hNb : N ≤ b.length := by omega
  have HN := Lib.hid hN
  clear hw1 he1 hm1 hbm hmin hN hmm
  go_loopw [5, 15] (fun out i wr => HeadsRel a b w bm out i wr) (fun _ i _ => N - (intOf i).toNat)
  case atStart =>
    refine ⟨0, Nat.zero_le _, rfl, .map [], [], HM1.out, fun s => by simp [times, DataW.atKey], hO1.out, List.nodup_nil, fun h => by simp [First], Nat.le_refl _, hb1⟩
  case round =>
    clear hO1 HM1 hb1
    obtain ⟨k, hk, rfl, D, L, hM, hT, hO, hnd, hF, hL, hb⟩ := hrel
    have HND := Lib.hid hnd
    clear hnd
    rw [HN.out] at hk
    obtain ⟨Av, cv, rfl, hLc, hcm2⟩ := (Rd.of_own hO).form
    have HO := Lib.hid hO
    have HF := Lib.hid hF
    have HT := Lib.hid hT
    have HM := Lib.hid hM
    clear hO hF hT hM hcm2
    obtain ⟨wo, rfl⟩ : ∃ wo : World, wo = wr := ⟨_, rfl⟩
    have hwl := hb.size
    by_cases hlt : k < N
    · obtain ⟨ba, oa, rfl, hBa, hca⟩ := rd_at stC 2 (fun _ => rfl) (by decide) HR.out (show k < a.length by omega)
      obtain ⟨bb, ob, rfl, hBb, hcb⟩ := rd_at stC 2 (fun _ => rfl) (by decide) HR'.out (show k < b.length by omega)
      obtain ⟨x, hx⟩ : ∃ x, a[k]'(by omega) = x := ⟨_, rfl⟩
      obtain ⟨y, hy⟩ : ∃ y, b[k]'(by omega) = y := ⟨_, rfl⟩
      rw [hx] at hca
      rw [hy] at hcb
      have HX := Lib.hid hx
      have HY := Lib.hid hy
      have hS := Lib.hid (fun W' (hW : Below w.heap.size w W') => (show W'.cell? ⟨ba, oa + k * 2, none⟩ = some (.int .i64 x.T) ∧ W'.cell? ⟨ba, oa + k * 2 + 1, none⟩ = some (.int .i64 x.R) ∧ W'.cell? ⟨bb, ob + k * 2, none⟩ = some (.int .i64 y.T) ∧ W'.cell? ⟨bb, ob + k * 2 + 1, none⟩ = some (.int .i64 y.R) from
        ⟨(hW.cell (p := ⟨ba, oa + k * 2, none⟩) (show ba < w.heap.size by omega)).trans (hca 0 _ rfl), (hW.cell (p := ⟨ba, oa + k * 2 + 1, none⟩) (show ba < w.heap.size by omega)).trans (hca 1 _ rfl), (hW.cell (p := ⟨bb, ob + k * 2, none⟩) (show bb < w.heap.size by omega)).trans (hcb 0 _ rfl), (hW.cell (p := ⟨bb, ob + k * 2 + 1, none⟩) (show bb < w.heap.size by omega)).trans (hcb 1 _ rfl)⟩))
      clear hca hcb hx hy
      obtain ⟨t, ht⟩ : ∃ t, times x (a.take k) = t := ⟨_, rfl⟩
      have HTt := Lib.hid ht
      have htk : t ≤ k := by rw [← ht]; unfold times; exact Nat.le_trans (List.length_filter_le _ _) (by simp; omega)
      have i1 : (0 : Int) ≤ (k : Int) := by omega
      have i2 : (k : Int) < (a.length : Int) := by omega
      have i3 : (k : Int) < (b.length : Int) := by omega
      have hw : IntKind.i64.wrap ((t : Int) + 1) = (t : Int) + 1 := IntWalk.i64_in _ (by omega)
      clear ht
      have hbd : Below w.heap.size w wo.drew := hb.drew
      obtain ⟨c0, c1, _, _⟩ := hS.out wo.drew hbd
      obtain ⟨cl, hlk, hat, _⟩ := HM.out.drew.lookup_int keyed24 Try.underlying97 Try.underlying3 (Try.zeroValue3 _) (key24 x)
      have hcl : cl = (t : Int) := by
        have := HT.out x
        rw [HTt.out, hat] at this
        simpa using this
      subst hcl
      obtain ⟨v0, st0, w1, w2, e1, e2, e3, e4, hM2, hg2⟩ := own_entry (val := .int .i64 ((t : Int) + 1)) HM.out.drew law24 Try.underlying97 (fun u => Try.zeroValue3 u) (by unfold maxLen; omega) (key24 x) (plainElem_int Try.underlying3 ((wf64 _).2 (by unfold I64; omega)))
      have hv0 : v0 = .int .i64 (t : Int) := by
        rw [hlk] at e1
        cases e1
        rfl
      subst hv0
      have HM2 := Lib.hid hM2
      have HG2 := Lib.hid hg2
      unfold stV at e1 e2 e3
      clear hlk hat hM2 hg2
      unfold goInt at e2 e4
      go_wp2
      go_region
      have hb2 : Below w.heap.size w w2 := hbd.grown HG2.out hbd.size (fun j hj => by cases hj; omega)
      obtain ⟨g0, g1, g2, g3⟩ := hS.out w2 hb2
      obtain ⟨cl2, hlk2, hat2, _⟩ := HM2.out.lookup_int keyed24 Try.underlying97 Try.underlying3 (Try.zeroValue3 _) (key24 x)
      have hcl2 : cl2 = (t : Int) + 1 := by
        rw [Maps.atKey_put_same HM.out.isMap (keyed24.key (key24 x))] at hat2
        simpa using hat2.symm
      subst hcl2
      unfold stV at hlk2
      clear hat2 e1 e2 e3 e4 c0 c1
      obtain ⟨om, hm1, hm2⟩ := map_walk HM.out.drew
      have HO2 := Lib.hid ((own_drew HO.out).kept HG2.out (.inr (own_ne_walk (own_drew HO.out) hm1 hm2).symm))
      have HD2 := Lib.hid (fun (s : Stamp) => (show (D.put (stK x) (.lit (.int .i64 ((t : Int) + 1)))).atKey (stK s) (.lit (.int .i64 0)) = .lit (.int .i64 (times s (a.take (k + 1)) : Nat)) from by
        rw [times_succ (show k < a.length by omega), HX.out]
        by_cases hs : x = s
        · subst hs
          rw [Maps.atKey_put_same HM.out.isMap (keyed24.key (key24 x)), HTt.out]
          simp
        · rw [Maps.atKey_put_other (fun e => hs (stK_inj e).symm), HT.out s]
          simp [hs]))
      have HZ := Lib.hid (zip_succ (a := a) (b := b) (k := k) (by omega) (by omega))
      have HTZ := Lib.hid (times_zero (a := a) (b := b) (k := k) (by have := HN.out; omega) x)
      clear hm1 hm2
      by_cases ht0 : t = 0
      · subst ht0
        have k1 : Below w.heap.size w w2.drew := hb2.drew
        obtain ⟨om, hm1, hm2⟩ := map_walk HM2.out
        have hne := own_ne_walk HO2.out hm1 hm2
        clear hm1 hm2
        go_wp2
        go_region_held3 (fun w' => w'.cell? ⟨ba, oa + k * 2, none⟩ = some (.int .i64 x.T) ∧ w'.cell? ⟨ba, oa + k * 2 + 1, none⟩ = some (.int .i64 x.R) ∧ w'.cell? ⟨bb, ob + k * 2, none⟩ = some (.int .i64 y.T) ∧ w'.cell? ⟨bb, ob + k * 2 + 1, none⟩ = some (.int .i64 y.R))
          (first | exact hS.out _ (by assumption) | exact hS.out _ (k1.alloc k1.size _) | go_keep)
          ((refine step_append_lies _ (by rfl) _ _ _ (by rfl) w.heap.size 95 i0 _ 4 32 Try.underlying91 hi hz0 hz1 hz2 rfl (by omega) _ L.length _ (by rfl) ((own_drew HO2.out).alloc _) ⟨w2.heap.size, 0, none⟩ 1 1 (hdC ⟨x, y⟩) (by rfl) (by rfl) (cells_new w2.drew (hdC ⟨x, y⟩) 95) (hdC_one _) (by omega) (by unfold maxLen; omega) (by omega) (by have := k1.size; simp at this ⊢; omega) _ (by rfl) ?_
            intro g cap W4 hown hgrow hat hgl
            have hb4 : Below w.heap.size w W4 := (k1.alloc k1.size _).grown hgrow (by have := k1.size; simp at this ⊢; omega) (fun j hj => (HO2.out.lt j hj).1)))
        have HO4 := Lib.hid (show W4.ownsRow w.heap.size 95 4 (.slice (some ⟨g, 0, none⟩) (L.length + 1) cap) (L ++ [(⟨x, y⟩ : Head)]).length ((L ++ [(⟨x, y⟩ : Head)]).flatMap hdC) from by simpa using hown)
        have HM4 := Lib.hid ((HM2.out.drew.alloc (.cells (hdC ⟨x, y⟩).toArray 95)).kept hgrow hne)
        clear hown hgrow hat hgl k1
        go_wp2
        refine ⟨⟨k + 1, by rw [HN.out]; omega, by go_num, _, L ++ [⟨x, y⟩], HM4.out, HD2.out, HO4.out, List.nodup_append.2 ⟨HND.out, by simp, fun g hg g' hg' e => by
          rw [List.mem_singleton] at hg'
          subst hg'
          subst e
          exact (HTZ.out).1 HTt.out _ (first_mem ((HF.out _).1 hg)) rfl⟩, fun h => ?_, by simp; omega, hb4⟩, by simp [intOf]; omega⟩
        rw [HZ.out, first_snoc, List.mem_append, List.mem_singleton, HF.out h, HX.out, HY.out]
        constructor
        · rintro (h1 | rfl)
          · exact .inl h1
          · exact .inr ⟨rfl, (HTZ.out).1 HTt.out⟩
        · rintro (h1 | ⟨rfl, _⟩)
          · exact .inl h1
          · exact .inr rfl
      · have hne : ((t : Int) + 1 == 1) = false := by simp; omega
        go_wp2
        refine ⟨⟨k + 1, by rw [HN.out]; omega, by go_num, _, L, HM2.out, HD2.out, HO2.out, HND.out, fun h => ?_, by omega, hb2⟩, by simp [intOf]; omega⟩
        rw [HZ.out, first_snoc, HF.out h, HX.out, HY.out]
        refine ⟨.inl, fun h1 => h1.elim id fun h2 => absurd (HTt.out.symm.trans ((HTZ.out).2 h2.2)) ht0⟩
    · have hk2 : k = N := by omega
      subst hk2
      go_wp2_with fail
      refine (sortHd_own L _ w.heap.size wo HO.out (by omega)).mono ?_
      rintro e w' ⟨rfl, ys, hp, hs, ho, hb3⟩
      have HP := Lib.hid hp
      have HS := Lib.hid hs
      have HO3 := Lib.hid ho
      have hb4 := hb.trans hb3
      clear hp hs ho hb3 hb HO
      go_wp2
      go_ret
      have hz : (zipH a b).take k = zipH a b := List.take_of_length_le (by rw [zipH_len, HN.out]; exact Nat.le_refl _)
      have hm : ∀ h, h ∈ ys ↔ First (zipH a b) h := fun h => by rw [HP.out.mem_iff, HF.out h, hz]
      refine ⟨_, ys, rfl, HO3.out, ?_, hm, by rw [HP.out.length_eq]; omega, hb4⟩
      refine heads_strict (fun g h hg hh => first_same ((hm g).1 hg) ((hm h).1 hh)) (HS.out.imp fun {p q} h1 h2 => ?_) (HP.out.nodup_iff.2 HND.out)
      have := (scmp_neg q.nm p.nm).2 h2
      unfold hcmp at h1
      omega
end Go.Proofs.Ytejafcdlkpmemaa
