/- The document's Middle. -/
import Derived.Test.YtjlghmjngiegaaaZJ
import Derived.Test.YtjlghmjngiegaaaW11
namespace Go.Proofs.Ytjlghmjngiegaaa
open Go Go.Gauge Go.RowKit
/-- the middle one's key is one, in whatever order that rises by keys -/
theorem middle_one {N L : List F64} {Z : List Nat} (hp : L.Perm N) (hs : L.Pairwise (fun a b => key a.1 ≤ key b.1)) (hZ : Z.Perm (List.range N.length)) (hL : Z.Pairwise (Lex (fk N))) {i : Nat} (hi : i < L.length) (hz : i < Z.length) (hzn : Z[i] < N.length) : key L[i].1 = key N[Z[i]].1 := by
  have hmap : (Z.map (fun j => fk N j)) = L.map (fun a => key a.1) := by
    have h1 : (Z.map (fk N)).Perm (N.map (fun a => key a.1)) := by
      have h2 := hZ.map (fk N)
      have h3 : (List.range N.length).map (fk N) = N.map (fun a => key a.1) := by
        refine List.ext_getElem (by simp) fun j h1 h2 => ?_
        simp only [List.getElem_map, List.getElem_range]
        exact fk_at N (by simpa using h2)
      rw [h3] at h2
      exact h2
    have h4 : (L.map (fun a => key a.1)).Perm (N.map (fun a => key a.1)) := hp.map _
    refine (h1.trans h4.symm).eq_of_pairwise (le := (· ≤ ·)) (fun a b _ _ h k => Int.le_antisymm h k) ?_ ?_
    · rw [List.pairwise_map]
      exact hL.imp (fun h => by unfold Lex at h; omega)
    · rw [List.pairwise_map]; exact hs
  have h5 : (Z.map (fun j => fk N j))[i]? = (L.map (fun a => key a.1))[i]? := by rw [hmap]
  rw [List.getElem?_map, List.getElem?_map, List.getElem?_eq_getElem hi, List.getElem?_eq_getElem hz] at h5
  have h6 : fk N Z[i] = key L[i].1 := Option.some.inj h5
  rw [← h6, fk_at N hzn]
def RmPost (zs : List F64) (w : World) (e : Ending) (w' : World) : Prop :=
  Below w.heap.size w w' ∧ ((zs.filter numF = [] ∧ e = .returned (.tuple #[.float .f64 0, .int .i64 40])) ∨
    ∃ (m : F64) (Z : List Nat), e = .returned (.tuple #[.float .f64 m.1, .int .i64 0]) ∧ Z.Perm (List.range (zs.filter numF).length) ∧ Z.Pairwise (Lex (fk (zs.filter numF))) ∧ ∃ (h : (Z.length - 1) / 2 < Z.length) (h2 : Z[(Z.length - 1) / 2] < (zs.filter numF).length), m = (zs.filter numF)[Z[(Z.length - 1) / 2]])
def RmRel (zs : List F64) (w : World) (o i : Value) (wr : World) : Prop :=
  ∃ k : Nat, k ≤ zs.length ∧ i = .int .i64 (k : Int) ∧ wr.ownsRow w.heap.size 24 1 o ((zs.take k).filter numF).length (((zs.take k).filter numF).map fl) ∧ Below w.heap.size w wr
set_option maxRecDepth 100000 in
set_option maxHeartbeats 4000000 in
theorem rmiddle_any (zs : List F64) (A : Option Addr) (n c : Nat) (w : World) (hR : Rd w w.heap.size 1 (.slice A n c) n (zs.map fl)) (hbig : n ≤ 100000) :
    Calls Try.prog 23 #[.slice A n c] w (RmPost zs w) := by
  have hl : zs.length = n := by have := hR.1; simpa using this
  subst hl
  obtain ⟨i0, hi, hz0, hz1, hz2⟩ := info_parts info24
  obtain ⟨_, hnc, hcm⟩ := hR.len
  unfold maxLen at hcm
  have HR := Lib.hid (fun W (hW : Below w.heap.size w W) => hR.below' hW (Nat.le_refl _))
  clear hR
  go_enter Try.func23, Try.ntmps23
  go_wp2
  go_loopw [4, 5] (fun o i wr => RmRel zs w o i wr) (fun _ i _ => zs.length - (intOf i).toNat)
  case atStart => exact ⟨0, Nat.zero_le _, rfl, World.ownsRow_nil _ _ _ _, Below.refl _ _⟩
  case round =>
    obtain ⟨k, hk, rfl, hO, hb⟩ := hrel
    have HO := Lib.hid hO
    have HB := Lib.hid hb
    have hbs := hb.size
    by_cases hlt : k < zs.length
    · obtain ⟨b, o, rfl, hBb, c0⟩ := rd_fl (HR.out wr hb) hlt
      have hsn := List.take_succ_eq_append_getElem hlt
      have HN := Lib.hid (rnumber_any zs[k].1)
      have hx2 : ∃ x : F64, zs[k] = x := ⟨_, rfl⟩
      obtain ⟨x, hx⟩ := hx2
      rw [hx] at c0 hsn HN
      have HSN := Lib.hid (show (zs.take (k + 1)).filter numF = (zs.take k).filter numF ++ [x].filter numF by rw [hsn, List.filter_append])
      have hfl : ((zs.take k).filter numF).length ≤ k := Nat.le_trans (List.length_filter_le _ _) (by rw [List.length_take]; omega)
      have i1 : (k : Int) < (zs.length : Int) := by omega
      have i2 : (0 : Int) ≤ (k : Int) := by omega
      obtain ⟨N, hN⟩ : ∃ N, (zs.take k).filter numF = N := ⟨_, rfl⟩
      rw [hN] at HO HSN hfl
      have HOD := Lib.hid (fun q => own_touch HO.out (Below.touch (below_drewN (Below.refl _ wr) q) (fun _ => False)) (fun _ _ h => h))
      clear hsn hx hO hb hN
      cases hn : numF x with
      | true =>
        have HS1 := Lib.hid (show (zs.take (k + 1)).filter numF = N ++ [x] by rw [HSN.out]; simp [hn])
        have hn2 : num x.1 = true := hn
        rw [hn2] at HN
        clear hn hn2
        have c1 := fun q => (show (wr.drewN q).cell? ⟨b, o + k, none⟩ = some (.float .f64 x.1) from c0)
        go_wp2_with (first
          | (go_at_call 15; refine (HN.out _).mono ?_; rintro e wy ⟨rfl, q, rfl⟩)
          | (at_builtin; refine wpList_append_own_at _ rfl _ _ 27 rfl w.heap.size 24 i0 _ 1 8 Try.underlying27 hi hz0 hz1 hz2 rfl (by decide) _ _ _ rfl ((HOD.out q).alloc _) ⟨wr.heap.size, 0, none⟩ 1 1 [fl x] rfl rfl ?qc (by simp [fl, Value.oneCell']) ?q2 ?q3 ?q4 ?_))
        case qc => exact cells_new (wr.drewN q) [fl x] 24
        case q2 => unfold maxLen; omega
        case q3 => omega
        case q4 => (show w.heap.size ≤ ((wr.drewN q).alloc _).heap.size); rw [World.size_alloc]; exact Nat.le_succ_of_le hbs
        intro v7 w7 hown7 hgrow7 _ _
        have hb7 : Below w.heap.size w w7 := ((below_drewN HB.out q).alloc hbs _).grown hgrow7 (by rw [World.size_alloc]; exact Nat.le_succ_of_le hbs) (fun j hj => (HO.out.lt j hj).1)
        have HB7 := Lib.hid hb7
        have HO7 := Lib.hid (show w7.ownsRow w.heap.size 24 1 v7 ((zs.take (k + 1)).filter numF).length (((zs.take (k + 1)).filter numF).map fl) by rw [HS1.out, List.length_append, List.map_append]; exact hown7)
        clear hown7 hgrow7 hb7 c1
        go_wp2
        go_roundw
        case rel => exact ⟨k + 1, by omega, by go_num, HO7.out, HB7.out⟩
        case measure => simp [intOf]; omega
      | false =>
        have HS1 := Lib.hid (show (zs.take (k + 1)).filter numF = N by rw [HSN.out]; simp [hn])
        have hn2 : num x.1 = false := hn
        rw [hn2] at HN
        clear hn hn2
        go_wp2_with (go_at_call 15; refine (HN.out _).mono ?_; rintro e wy ⟨rfl, q, rfl⟩)
        go_roundw
        case rel => exact ⟨k + 1, by omega, by go_num, by rw [HS1.out]; exact own_touch HO.out (Below.touch (below_drewN (Below.refl _ wr) q) (fun _ => False)) (fun _ _ h => h), below_drewN HB.out q⟩
        case measure => simp [intOf]; omega
    · obtain rfl : k = zs.length := by omega
      have i1 : ¬ (zs.length : Int) < (zs.length : Int) := by omega
      rw [List.take_length] at hO
      obtain ⟨N, hN⟩ : ∃ N, zs.filter numF = N := ⟨_, rfl⟩
      have hNl : N.length ≤ zs.length := by rw [← hN]; exact List.length_filter_le _ _
      rw [hN] at hO
      have HNN := Lib.hid hN
      have hrd := Rd.of_own hO
      obtain ⟨Ao, co, rfl, hoc, hom⟩ := hrd.form
      unfold maxLen at hom
      have HRD := Lib.hid (fun W (hW : Below wr.heap.size wr W) => hrd.below' hW (Nat.le_refl _))
      clear hO hb hN hrd HO
      rcases Nat.eq_zero_or_pos N.length with h0 | h0
      · have hz : ((N.length : Int) == 0) = true := by rw [h0]; rfl
        have HE := Lib.hid (List.eq_nil_of_length_eq_zero h0)
        clear h0
        go_wp2
        go_ret2
        exact ⟨HB.out, .inl ⟨HNN.out.trans HE.out, rfl⟩⟩
      · have hz : ((N.length : Int) == 0) = false := by rw [beq_eq_false_iff_ne]; omega
        have HRO := Lib.hid (rorder_any N Ao N.length co wr.heap.size wr (HRD.out wr (Below.refl _ _)) (Nat.le_refl _) (by omega))
        obtain ⟨md, hmd⟩ : ∃ d, (N.length - 1) / 2 = d := ⟨_, rfl⟩
        have w1' : IntKind.i64.wrap ((N.length : Int) - 1) = (N.length : Int) - 1 := IntWalk.i64_in _ (by omega)
        have w2' : Int.tdiv ((N.length : Int) - 1) 2 = (md : Int) := by
          rw [Int.tdiv_eq_ediv_of_nonneg (by omega)]; omega
        have hmdl : md < N.length := by omega
        have w3' : IntKind.i64.wrap (md : Int) = (md : Int) := IntWalk.i64_in _ (by omega)
        have HMD := Lib.hid hmd
        clear hmd
        have hpost : ∀ (Z : List Nat) (w5 : World) (p1 : Z.Perm (List.range N.length)) (p2 : Z.Pairwise (Lex (fk N))) (hb5 : Below wr.heap.size wr w5) (hzl : Z.length = N.length) (h1 : md < Z.length) (h2 : Z[md] < N.length), RmPost zs w (.returned (.tuple #[.float .f64 (N[Z[md]]).1, .int .i64 0])) w5 := fun Z w5 p1 p2 hb5 hzl h1 h2 => by
          have hme := HMD.out
          have hNe := HNN.out
          subst hNe
          have hmd2 : (Z.length - 1) / 2 = md := by rw [hzl]; exact hme
          subst hmd2
          exact ⟨HB.out.trans (hb5.mono HB.out.size), .inr ⟨_, Z, rfl, p1, p2, h1, h2, rfl⟩⟩
        have HPO := Lib.hid hpost
        clear hpost
        go_wp2_with (go_at_call 25; refine HRO.out.mono ?_; rintro e w5 ⟨v, Z, rfl, p1, p2, hown, hb5⟩; have hzl := perm_len p1; obtain ⟨Av, cv, rfl, hvc, hvm⟩ := (Rd.of_own hown).form; have hmz : md < Z.length := (by omega); obtain ⟨b, o, rfl, _, c0⟩ := rd_nn (Rd.of_own hown) hzl hmz; have hzn : Z[md] < N.length := perm_lt p1 _ (List.getElem_mem hmz); obtain ⟨b2, o2, rfl, _, c1⟩ := rd_fl (HRD.out w5 hb5) hzn; have HFI := Lib.hid (HPO.out Z w5 p1 p2 hb5 hzl hmz hzn); obtain ⟨m, hm⟩ : ∃ m : F64, N[Z[md]] = m := ⟨_, rfl⟩; rw [hm] at c1 HFI; have hz3 : ∃ z, Z[md] = z := ⟨_, rfl⟩; obtain ⟨z, hzz⟩ := hz3; clear hm; rw [hzz] at c0 c1 hzn; have i3 : (0 : Int) ≤ (md : Int) := (by omega); have i4 : (md : Int) < (N.length : Int) := (by omega); have i5 : (0 : Int) ≤ (z : Int) := (by omega); have i6 : (z : Int) < (N.length : Int) := (by omega); clear hzz p1 p2 hown hb5 hzl hzn)
        go_ret2
        exact HFI.out
end Go.Proofs.Ytjlghmjngiegaaa
