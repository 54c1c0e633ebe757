/- slices.symMerge with a comparison by keys. -/
import Derived.Test.YtjlghmjngiegaaaZD
namespace Go.Proofs.Ytjlghmjngiegaaa
open Go Go.Gauge Go.RowKit
def SymOk (g cap n bx : Nat) (w0 : World) (f : Nat → Int) (N : Nat) : Prop := ∀ (A L R B : List Nat) (w : World) (a m b : Nat), St g cap w0 (A ++ L ++ R ++ B) w → 0 < L.length → 0 < R.length → L.Pairwise (Lex f) → R.Pairwise (Lex f) → (∀ x ∈ L, ∀ y ∈ R, x < y) → (∀ x ∈ A ++ L ++ R ++ B, x < n) → (A ++ L ++ R ++ B).length = n → A.length = a → a + L.length = m → m + R.length = b → L.length + R.length ≤ N →
  Calls Try.prog 58 #[.slice (some ⟨g, 0, none⟩) n cap, .int .i64 (a : Int), .int .i64 (m : Int), .int .i64 (b : Int), .func (.func 40) #[] #[.pointer (some ⟨bx, 0, none⟩)]] w (SymPost g cap w0 f A L R B)
/-- where both halves are cut -/
structure CutAt (f : Nat → Int) (L R : List Nat) (M lo hi t : Nat) : Prop where
  ge : lo ≤ t
  le : t ≤ hi
  low : lo < t → ∀ x y, L[t - 1]? = some x → R[M - t]? = some y → f x ≤ f y
  high : t < hi → ∀ x y, L[t]? = some x → R[M - 1 - t]? = some y → f y < f x
theorem cut_lex {f : Nat → Int} {L R : List Nat} {M lo hi t : Nat} (h : CutAt f L R M lo hi t) (hcr : ∀ x ∈ L, ∀ y ∈ R, x < y) (hb : (M < L.length ∧ lo + R.length = M ∧ hi = M) ∨ (L.length ≤ M ∧ lo = 0 ∧ hi = L.length)) (ht2 : M - t ≤ R.length) :
    (∀ x y, (L.take t).getLast? = some x → (R.drop (M - t)).head? = some y → Lex f x y) ∧ (∀ x y, (R.take (M - t)).getLast? = some x → (L.drop t).head? = some y → Lex f x y) := by
  have h1 := h.ge
  have h2 := h.le
  refine ⟨fun x y hx hy => ?_, fun x y hx hy => ?_⟩
  · rw [List.getLast?_eq_getElem?, List.length_take] at hx
    rw [List.head?_drop] at hy
    have hyl := (List.getElem?_eq_some_iff.1 hy).1
    rw [List.getElem?_take] at hx
    split at hx
    · rename_i hlt
      have htl : min t L.length = t := by omega
      rw [htl] at hx hlt
      have := h.low (by omega) x y hx hy
      have hxy := hcr x (List.mem_of_getElem? hx) y (List.mem_of_getElem? hy)
      unfold Lex
      omega
    · cases hx
  · rw [List.getLast?_eq_getElem?, List.length_take] at hx
    rw [List.head?_drop] at hy
    have hyl := (List.getElem?_eq_some_iff.1 hy).1
    rw [List.getElem?_take] at hx
    split at hx
    · rename_i hlt
      have htl : min (M - t) R.length = M - t := by omega
      rw [htl] at hx hlt
      rw [show M - t - 1 = M - 1 - t by omega] at hx
      exact .inl (h.high (by omega) y x hy hx)
    · cases hx
def S3Rel (g cap a : Nat) (w0 : World) (f : Nat → Int) (Z L R : List Nat) (M lo hi : Nat) (i j : Value) (wr : World) : Prop :=
  ∃ cs cr ts tr : Nat, cs = a + ts ∧ cr = a + tr ∧ ts ≤ tr ∧ i = .int .i64 (cs : Int) ∧ j = .int .i64 (cr : Int) ∧ lo ≤ ts ∧ tr ≤ hi ∧ (lo < ts → ∀ x y, L[ts - 1]? = some x → R[M - ts]? = some y → f x ≤ f y) ∧ (tr < hi → ∀ x y, L[tr]? = some x → R[M - 1 - tr]? = some y → f y < f x) ∧ St g cap w0 Z wr
set_option maxRecDepth 100000 in
set_option maxHeartbeats 16000000 in
theorem sym_halves {g cap n bx : Nat} {w0 w : World} {f : Nat → Int} {A L R B : List Nat} {N : Nat} (IH : SymOk g cap n bx w0 f N) (h : St g cap w0 (A ++ L ++ R ++ B) w) (HC : CmpOk g bx n w0 f) (hL : L.Pairwise (Lex f)) (hR : R.Pairwise (Lex f)) (hl2 : 2 ≤ L.length) (hr2 : 2 ≤ R.length) (hcr : ∀ x ∈ L, ∀ y ∈ R, x < y) (hlt : ∀ x ∈ A ++ L ++ R ++ B, x < n) (hn : (A ++ L ++ R ++ B).length = n) (hbig : n ≤ 100000) (hN : L.length + R.length ≤ N + 1) {a m b : Nat} (ha : A.length = a) (hm : a + L.length = m) (hb : m + R.length = b) :
    Calls Try.prog 58 #[.slice (some ⟨g, 0, none⟩) n cap, .int .i64 (a : Int), .int .i64 (m : Int), .int .i64 (b : Int), .func (.func 40) #[] #[.pointer (some ⟨bx, 0, none⟩)]] w (SymPost g cap w0 f A L R B) := by
  obtain ⟨Z, hZ⟩ : ∃ Z, A ++ L ++ R ++ B = Z := ⟨_, rfl⟩
  have hnl : b + B.length = n := by simp only [List.length_append] at hn; omega
  have hx : ∀ k (h : k < R.length) (h' : m + k < Z.length), Z[m + k] = R[k] := fun k h h' => by
    subst hZ
    have e1 : A ++ L ++ R ++ B = (A ++ L) ++ (R ++ B) := by simp
    have l1 : (A ++ L).length = m := by rw [List.length_append]; omega
    simp only [e1]
    rw [List.getElem_append_right (by omega)]
    simp only [l1, Nat.add_sub_cancel_left]
    rw [List.getElem_append_left h]
  have hr : ∀ k (h : k < L.length) (h' : a + k < Z.length), Z[a + k] = L[k] := fun k h h' => by
    subst hZ
    have e1 : A ++ L ++ R ++ B = A ++ (L ++ (R ++ B)) := by simp
    simp only [e1]
    rw [List.getElem_append_right (by omega)]
    simp only [ha, Nat.add_sub_cancel_left]
    rw [List.getElem_append_left h]
  rw [hZ] at h
  have hZn : Z.length = n := by rw [← hZ]; exact hn
  have hZlt : ∀ x ∈ Z, x < n := hZ ▸ hlt
  obtain ⟨M, hMe⟩ : ∃ M, (L.length + R.length) / 2 = M := ⟨_, rfl⟩
  obtain ⟨mid, hmid⟩ : ∃ mid, a + M = mid := ⟨_, rfl⟩
  obtain ⟨nn, hnn⟩ : ∃ nn, mid + m = nn := ⟨_, rfl⟩
  obtain ⟨pp, hpp⟩ : ∃ pp, pp + 1 = nn := ⟨nn - 1, by omega⟩
  have H := Lib.hid h
  have HC := Lib.hid HC
  have HIH := Lib.hid IH
  have HL := Lib.hid hL
  have HR := Lib.hid hR
  have HCR := Lib.hid hcr
  have HLT := Lib.hid hlt
  have HZL := Lib.hid hZlt
  have HZ := Lib.hid hZ
  have HX := Lib.hid hx
  have HRG := Lib.hid hr
  have HNN := Lib.hid hn
  have HA := Lib.hid ha
  obtain ⟨l, hll⟩ : ∃ l, L.length = l := ⟨_, rfl⟩
  obtain ⟨r, hrl⟩ : ∃ r, R.length = r := ⟨_, rfl⟩
  rw [hll, hrl] at hMe hN
  rw [hll] at hm hl2
  rw [hrl] at hb hr2
  have HF := Lib.hid (show a + l = m ∧ m + r = b ∧ b + B.length = n ∧ (l + r) / 2 = M ∧ a + M = mid ∧ mid + m = nn ∧ pp + 1 = nn ∧ 2 ≤ l ∧ 2 ≤ r ∧ L.length = l ∧ R.length = r ∧ Z.length = n ∧ l + r ≤ N + 1 ∧ n ≤ 100000 from ⟨hm, hb, hnl, hMe, hmid, hnn, hpp, hl2, hr2, hll, hrl, hZn, hN, hbig⟩)
  have e0 : IntKind.i64.wrap ((m : Int) - (a : Int)) = (l : Int) := by rw [show (m : Int) - (a : Int) = (l : Int) by omega]; exact IntWalk.i64_in _ (by omega)
  have e1 : IntKind.i64.wrap ((b : Int) - (m : Int)) = (r : Int) := by rw [show (b : Int) - (m : Int) = (r : Int) by omega]; exact IntWalk.i64_in _ (by omega)
  have e2 : ((l : Int) == 1) = false := by simp; omega
  have e3 : ((r : Int) == 1) = false := by simp; omega
  have e4 : IntKind.i64.wrap ((a : Int) + (b : Int)) = (a : Int) + (b : Int) := IntWalk.i64_in _ (by omega)
  have hab : a ≤ 100000 := by omega
  have hbb : b ≤ 100000 := by omega
  have e5 : ((a : Int) + (b : Int)) / 2 = (mid : Int) := by omega
  have e6 : IntKind.i64.wrap ((mid : Int) + (m : Int)) = (nn : Int) := by rw [show (mid : Int) + (m : Int) = (nn : Int) by omega]; exact IntWalk.i64_in _ (by omega)
  have e7 : IntKind.i64.wrap ((nn : Int) - 1) = (pp : Int) := by rw [show (nn : Int) - 1 = (pp : Int) by omega]; exact IntWalk.i64_in _ (by omega)
  have HLH : ∃ lo hi clo chi : Nat, clo = a + lo ∧ chi = a + hi ∧ lo ≤ hi ∧ ((mid < m ∧ clo + b = nn ∧ chi = mid ∧ M < l ∧ lo + r = M ∧ hi = M) ∨ (m ≤ mid ∧ clo = a ∧ chi = m ∧ l ≤ M ∧ lo = 0 ∧ hi = l)) := by
    rcases Nat.lt_or_ge mid m with hmm | hmm
    · exact ⟨M - r, M, a + (M - r), a + M, rfl, rfl, by omega, .inl ⟨hmm, by omega, by omega, by omega, by omega, rfl⟩⟩
    · exact ⟨0, l, a, m, rfl, by omega, by omega, .inr ⟨hmm, rfl, rfl, by omega, rfl, rfl⟩⟩
  obtain ⟨lo, hi, clo, chi, hclo, hchi, hlohi, hcase⟩ := HLH
  have HCASE := Lib.hid (show (M < l ∧ lo + r = M ∧ hi = M) ∨ (l ≤ M ∧ lo = 0 ∧ hi = l) from hcase.elim (fun h => .inl ⟨h.2.2.2.1, h.2.2.2.2⟩) (fun h => .inr ⟨h.2.2.2.1, h.2.2.2.2⟩))
  have HLO := Lib.hid (show clo = a + lo ∧ chi = a + hi ∧ lo ≤ hi from ⟨hclo, hchi, hlohi⟩)
  have hst : S3Rel g cap a w0 f Z L R M lo hi (.int .i64 (clo : Int)) (.int .i64 (chi : Int)) w := ⟨clo, chi, lo, hi, hclo, hchi, hlohi, rfl, rfl, Nat.le_refl _, Nat.le_refl _, fun h => by omega, fun h => by omega, h⟩
  have HST := Lib.hid hst
  rcases hcase with ⟨q1, q2, q3, _, _, _⟩ | ⟨q1, q2, q3, _, _, _⟩
  · have i1 : (mid : Int) < (m : Int) := by omega
    have e8 : IntKind.i64.wrap ((nn : Int) - (b : Int)) = (clo : Int) := by rw [show (nn : Int) - (b : Int) = (clo : Int) by omega]; exact IntWalk.i64_in _ (by omega)
    have q3' := q3.symm
    subst q3'
    clear q1 q2 hst hclo hchi hlohi h hL hR hcr hlt hZ hx hr hn ha hm hb hll hrl hMe hmid hnn hpp hl2 hr2 hZn hZlt hN hnl IH
    go_enter Try.func58, Try.ntmps58
    go_wp2
    go_loopw [20, 21] (fun i j wr => S3Rel g cap a w0 f Z L R M lo hi i j wr) (fun i j _ => (intOf j).toNat - (intOf i).toNat)
    case atStart => exact HST.out
    case round =>
      clear e0 e1 e2 e3 e4 e5 e6 e7 i1 HST
      obtain ⟨cs, cr, ts, tr, hcs, hcr, htt, rfl, rfl, hlo, hhi, hlow, hhigh, hS⟩ := hrel
      obtain ⟨f1, f2, f3, f4, f5, f6, f7, f8, f9, f10, f11, f12, f13, f14⟩ := HF.out
      have hcase := HCASE.out
      have HLOW := Lib.hid hlow
      have HHIGH := Lib.hid hhigh
      have HS := Lib.hid hS
      have HTT := Lib.hid (show cs = a + ts ∧ cr = a + tr ∧ ts ≤ tr ∧ lo ≤ ts ∧ tr ≤ hi from ⟨hcs, hcr, htt, hlo, hhi⟩)
      clear hlow hhigh hS
      by_cases hij : cs < cr
      · obtain ⟨t, ht⟩ : ∃ t, (cs + cr) / 2 = a + t := ⟨(cs + cr) / 2 - a, by omega⟩
        obtain ⟨c, hc⟩ : ∃ c, a + t = c := ⟨_, rfl⟩
        obtain ⟨k, hk⟩ : ∃ k, M - 1 - t = k := ⟨_, rfl⟩
        obtain ⟨pc, hpc⟩ : ∃ pc, m + k = pc := ⟨_, rfl⟩
        have htL : t < L.length := by omega
        have hkR : k < R.length := by omega
        have hkM : k + 1 + t = M := by omega
        have hcZ : a + t < Z.length := by omega
        have hpZ : m + k < Z.length := by omega
        have c0 := HS.out.cell hcZ
        have c1 := HS.out.cell hpZ
        rw [HRG.out t htL hcZ, hc] at c0
        rw [HX.out k hkR hpZ, hpc] at c1
        have hxn : L[t] < n := by have := HZL.out _ (List.getElem_mem hcZ); rw [HRG.out t htL hcZ] at this; exact this
        have hyn : R[k] < n := by have := HZL.out _ (List.getElem_mem hpZ); rw [HX.out k hkR hpZ] at this; exact this
        have hxs : L[t]? = some L[t] := List.getElem?_eq_getElem htL
        have hys : R[k]? = some R[k] := List.getElem?_eq_getElem hkR
        obtain ⟨x, hx⟩ : ∃ x, L[t] = x := ⟨_, rfl⟩
        obtain ⟨y, hy⟩ : ∃ y, R[k] = y := ⟨_, rfl⟩
        rw [hx] at c0 hxn hxs
        rw [hy] at c1 hyn hys
        have HXS := Lib.hid hxs
        have HYS := Lib.hid hys
        have HCL := Lib.hid (fun W (hW : Touch (fun k => k = g) w0 W) => HC.out W hW y x hyn hxn)
        obtain ⟨cc, hcc⟩ : ∃ cc, cmpF (f y) (f x) = cc := ⟨_, rfl⟩
        rw [hcc] at HCL
        have i1 : (cs : Int) < (cr : Int) := by omega
        have w1' : IntKind.i64.wrap ((cs : Int) + (cr : Int)) = (cs : Int) + (cr : Int) := IntWalk.i64_in _ (by omega)
        have w2' : ((cs : Int) + (cr : Int)) / 2 = (c : Int) := by omega
        have w3' : IntKind.i64.wrap ((pp : Int) - (c : Int)) = (pc : Int) := by rw [show (pp : Int) - (c : Int) = (pc : Int) by omega]; exact IntWalk.i64_in _ (by omega)
        have w4' : IntKind.i64.wrap ((c : Int) + 1) = (c : Int) + 1 := IntWalk.i64_in _ (by omega)
        have i3 : (0 : Int) ≤ (c : Int) := by omega
        have i4 : (c : Int) < (n : Int) := by omega
        have i5 : (0 : Int) ≤ (pc : Int) := by omega
        have i6 : (pc : Int) < (n : Int) := by omega
        have HK := Lib.hid (show a + t = c ∧ k + 1 + t = M ∧ cs ≤ c ∧ c < cr from ⟨hc, hkM, by omega, by omega⟩)
        clear f1 f2 f3 f4 f5 f6 f7 f8 f9 f10 f11 f12 f13 f14 hcase hcs hcr htt hlo hhi ht hc hk hpc htL hkR hkM hcZ hpZ hxn hyn hxs hys hx hy hij
        by_cases hyx : f y < f x
        · have hcn : cc < 0 := hcc ▸ cmpF_lt hyx
          have HYX := Lib.hid hyx
          clear hcc hyx
          go_wp2
          go_region_held3 (fun W' => W'.cell? ⟨g, c, none⟩ = some (.int .i64 (x : Int)) ∧ W'.cell? ⟨g, pc, none⟩ = some (.int .i64 (y : Int)))
            (exact ⟨c0, c1⟩)
            ((go_at_call 40; refine (HCL.out _ HS.out.drew.tch).mono ?_; rintro e wy ⟨rfl, q', rfl⟩))
          clear c0 c1
          go_wp2
          go_roundw
          case rel =>
            obtain ⟨h1, h2, h3, h4⟩ := HK.out
            obtain ⟨g1, g2, g3, g4, g5⟩ := HTT.out
            refine ⟨cs, c, ts, t, g1, h1.symm, by omega, rfl, rfl, g4, by omega, HLOW.out, fun _ x' y' hx' hy' => ?_, HS.out.drewN _⟩
            rw [show M - 1 - t = k by omega, HYS.out] at hy'
            rw [HXS.out] at hx'
            cases hx'; cases hy'
            exact HYX.out
          case measure => (have := HK.out; simp [intOf]; omega)
        · have hcn : ¬ cc < 0 := hcc ▸ cmpF_ge hyx
          have hcd : (!decide (cc < 0)) = true := by simp; omega
          have HYX := Lib.hid hyx
          clear hcc hyx
          go_wp2
          go_region_held3 (fun W' => W'.cell? ⟨g, c, none⟩ = some (.int .i64 (x : Int)) ∧ W'.cell? ⟨g, pc, none⟩ = some (.int .i64 (y : Int)))
            (exact ⟨c0, c1⟩)
            ((go_at_call 40; refine (HCL.out _ HS.out.drew.tch).mono ?_; rintro e wy ⟨rfl, q', rfl⟩))
          clear c0 c1
          go_wp2
          go_roundw
          case rel =>
            obtain ⟨h1, h2, h3, h4⟩ := HK.out
            obtain ⟨g1, g2, g3, g4, g5⟩ := HTT.out
            refine ⟨c + 1, cr, t + 1, tr, by omega, g2, by omega, by go_num, rfl, by omega, g5, fun _ x' y' hx' hy' => ?_, HHIGH.out, HS.out.drewN _⟩
            rw [show M - (t + 1) = k by omega, HYS.out] at hy'
            rw [Nat.add_sub_cancel, HXS.out] at hx'
            cases hx'; cases hy'
            have := HYX.out
            omega
          case measure => (have := HK.out; simp [intOf]; omega)
      · obtain rfl : cs = cr := by omega
        obtain rfl : ts = tr := by omega
        have i1 : ¬ (cs : Int) < (cs : Int) := by omega
        obtain ⟨ce, hce⟩ : ∃ ce, m + (M - ts) = ce := ⟨_, rfl⟩
        have w1' : IntKind.i64.wrap ((nn : Int) - (cs : Int)) = (ce : Int) := by rw [show (nn : Int) - (cs : Int) = (ce : Int) by omega]; exact IntWalk.i64_in _ (by omega)
        have hcut : CutAt f L R M lo hi ts := ⟨hlo, hhi, HLOW.out, HHIGH.out⟩
        have hMt : M - ts ≤ R.length := by omega
        have hlex := cut_lex hcut HCR.out (by rw [f10, f11]; exact hcase) hMt
        have hL12 : L.take ts ++ L.drop ts = L := List.take_append_drop _ _
        have hR12 : R.take (M - ts) ++ R.drop (M - ts) = R := List.take_append_drop _ _
        have k1 : (L.take ts).length = ts := by rw [List.length_take]; omega
        have k2 : (L.drop ts).length = l - ts := by rw [List.length_drop]; omega
        have k3 : (R.take (M - ts)).length = M - ts := by rw [List.length_take]; omega
        have k4 : (R.drop (M - ts)).length = r - (M - ts) := by rw [List.length_drop]; omega
        obtain ⟨L1, hL1⟩ : ∃ X, L.take ts = X := ⟨_, rfl⟩
        obtain ⟨L2, hL2⟩ : ∃ X, L.drop ts = X := ⟨_, rfl⟩
        obtain ⟨R1, hR1⟩ : ∃ X, R.take (M - ts) = X := ⟨_, rfl⟩
        obtain ⟨R2, hR2⟩ : ∃ X, R.drop (M - ts) = X := ⟨_, rfl⟩
        rw [hL1] at hlex hL12 k1
        rw [hL2] at hlex hL12 k2
        rw [hR1] at hlex hR12 k3
        rw [hR2] at hlex hR12 k4
        clear hL1 hL2 hR1 hR2
        have hLs : (L1 ++ L2).Pairwise (Lex f) := by rw [hL12]; exact HL.out
        have hRs : (R1 ++ R2).Pairwise (Lex f) := by rw [hR12]; exact HR.out
        obtain ⟨p1, p2, _⟩ := List.pairwise_append.1 hLs
        obtain ⟨r1, r2, _⟩ := List.pairwise_append.1 hRs
        have hc1 : ∀ x ∈ L1, ∀ y ∈ R1, x < y := fun x hx y hy => HCR.out x (by rw [← hL12]; exact List.mem_append_left _ hx) y (by rw [← hR12]; exact List.mem_append_left _ hy)
        have hc2 : ∀ x ∈ L2, ∀ y ∈ R2, x < y := fun x hx y hy => HCR.out x (by rw [← hL12]; exact List.mem_append_right _ hx) y (by rw [← hR12]; exact List.mem_append_right _ hy)
        have hal := HA.out
        have hZ2 : A ++ L1 ++ L2 ++ R1 ++ (R2 ++ B) = Z := by rw [← HZ.out, ← hL12, ← hR12]; simp
        have hmem : ∀ x, x ∈ A ∨ x ∈ L1 ∨ x ∈ L2 ∨ x ∈ R1 ∨ x ∈ R2 ∨ x ∈ B → x < n := fun x hx => HZL.out x (by rw [← hZ2]; simp only [List.mem_append]; rcases hx with h | h | h | h | h | h <;> simp [h])
        have hS := HS.out
        rw [← hZ2, show A ++ L1 ++ L2 ++ R1 ++ (R2 ++ B) = (A ++ L1) ++ L2 ++ R1 ++ (R2 ++ B) from rfl] at hS
        have HRO := Lib.hid (fun (hu : 0 < L2.length) (hv : 0 < R1.length) => (show Calls Try.prog 64 #[.slice (some ⟨g, 0, none⟩) n cap, .int .i64 (cs : Int), .int .i64 (m : Int), .int .i64 (ce : Int), .func (.func 40) #[] #[.pointer (some ⟨bx, 0, none⟩)]] wr (fun e w' => e = .returned (.tuple #[]) ∧ St g cap w0 (A ++ L1 ++ R1 ++ (L2 ++ R2 ++ B)) w') from by
          have := rotate_any hS hu hv (.func (.func 40) #[] #[.pointer (some ⟨bx, 0, none⟩)]) (n := n) (by rw [hZ2]; exact f12) f14
          rw [show (A ++ L1).length = cs by rw [List.length_append]; omega, show cs + L2.length = m by omega, show m + R1.length = ce by omega] at this
          exact this.mono fun e w' h => ⟨h.1, by simpa using h.2⟩))
        have HNR := Lib.hid (fun (hv : L2.length = 0 ∨ R1.length = 0) => (show St g cap w0 (A ++ L1 ++ R1 ++ (L2 ++ R2 ++ B)) wr from by
          rcases hv with hv | hv
          · have := List.eq_nil_of_length_eq_zero hv
            subst this
            simpa using hS
          · have := List.eq_nil_of_length_eq_zero hv
            subst this
            simpa using hS))
        have HLW := Lib.hid (fun W (hW : St g cap w0 (A ++ L1 ++ R1 ++ (L2 ++ R2 ++ B)) W) (hu : 0 < L1.length) (hv : 0 < R1.length) => (show Calls Try.prog 58 #[.slice (some ⟨g, 0, none⟩) n cap, .int .i64 (a : Int), .int .i64 (cs : Int), .int .i64 (mid : Int), .func (.func 40) #[] #[.pointer (some ⟨bx, 0, none⟩)]] W (SymPost g cap w0 f A L1 R1 (L2 ++ R2 ++ B)) from
          HIH.out A L1 R1 (L2 ++ R2 ++ B) W a cs mid hW hu hv p1 r1 hc1 (fun x hx => hmem x (by simp only [List.mem_append] at hx; rcases hx with ((h | h) | h) | ((h | h) | h) <;> simp [h])) (by simp only [List.length_append]; omega) hal (by omega) (by omega) (by omega)))
        have HRW := Lib.hid (fun (S1 : List Nat) (W : World) (hl : S1.length = M) (hm1 : ∀ x ∈ S1, x < n) (hW : St g cap w0 (A ++ S1 ++ (L2 ++ R2 ++ B)) W) (hu : 0 < L2.length) (hv : 0 < R2.length) => (show Calls Try.prog 58 #[.slice (some ⟨g, 0, none⟩) n cap, .int .i64 (mid : Int), .int .i64 (ce : Int), .int .i64 (b : Int), .func (.func 40) #[] #[.pointer (some ⟨bx, 0, none⟩)]] W (SymPost g cap w0 f (A ++ S1) L2 R2 B) from
          HIH.out (A ++ S1) L2 R2 B W mid ce b (by simpa using hW) hu hv p2 r2 hc2 (fun x hx => (by simp only [List.mem_append] at hx; rcases hx with (((h | h) | h) | h) | h <;> first | exact hm1 x h | exact hmem x (by simp [h]))) (by simp only [List.length_append]; omega) (by rw [List.length_append]; omega) (by omega) (by omega) (by omega)))
        have HE1 := Lib.hid (fun (hv : L1.length = 0 ∨ R1.length = 0) => (show (L1 ++ R1).Pairwise (Lex f) from by
          rcases hv with hv | hv
          · rw [List.eq_nil_of_length_eq_zero hv]; simpa using r1
          · rw [List.eq_nil_of_length_eq_zero hv]; simpa using p1))
        have HE2 := Lib.hid (fun (hv : L2.length = 0 ∨ R2.length = 0) => (show (L2 ++ R2).Pairwise (Lex f) from by
          rcases hv with hv | hv
          · rw [List.eq_nil_of_length_eq_zero hv]; simpa using r2
          · rw [List.eq_nil_of_length_eq_zero hv]; simpa using p2))
        have HP1 := Lib.hid (fun (S1 : List Nat) (hp : S1.Perm (L1 ++ R1)) => (show S1.length = M ∧ ∀ x ∈ S1, x < n from ⟨by rw [hp.length_eq, List.length_append]; omega, fun x hx => hmem x (by rcases List.mem_append.1 (hp.mem_iff.1 hx) with h | h <;> simp [h])⟩))
        have HFIN := Lib.hid (fun (S1 S2 : List Nat) (W : World) (h1 : S1.Perm (L1 ++ R1)) (h2 : S1.Pairwise (Lex f)) (h3 : S2.Perm (L2 ++ R2)) (h4 : S2.Pairwise (Lex f)) (hW : St g cap w0 (A ++ S1 ++ S2 ++ B) W) => (show SymPost g cap w0 f A L R B (.returned (.tuple #[])) W from by
          have hh := merge_halves hLs hRs hlex.1 hlex.2 h1 h2 h3 h4
          refine ⟨rfl, S1 ++ S2, ?_, hh.1, by simpa using hW⟩
          rw [← hL12, ← hR12]
          exact hh.2))
        have HLEN := Lib.hid (show L1.length = ts ∧ L2.length + ts = l ∧ R1.length + ts = M ∧ R2.length + M = r + ts ∧ cs = a + ts ∧ a + l = m ∧ m + R1.length = ce ∧ a + M = mid ∧ m + r = b from ⟨k1, by omega, by omega, by omega, hcs, f1, by omega, f5, f2⟩)
        clear f1 f2 f3 f4 f5 f6 f7 f8 f9 f10 f11 f12 f13 f14 hcase hcs hcr htt hlo hhi hij hce hcut hMt hlex hL12 hR12 k1 k2 k3 k4 hLs hRs p1 p2 r1 r2 hc1 hc2 hal hZ2 hmem hS
        have hlen := HLEN.out
        by_cases q1 : cs < m ∧ m < ce
        · skip
          by_cases q2 : a < cs ∧ cs < mid
          · skip
            by_cases q3 : mid < ce ∧ ce < b
            · skip
              have jr1 : (cs : Int) < (m : Int) := by omega
              have jr2 : (m : Int) < (ce : Int) := by omega
              have jl1 : (a : Int) < (cs : Int) := by omega
              have jl2 : (cs : Int) < (mid : Int) := by omega
              have js1 : (mid : Int) < (ce : Int) := by omega
              have js2 : (ce : Int) < (b : Int) := by omega
              have HRO2 := Lib.hid (HRO.out (by omega) (by omega))
              have HLW2 := Lib.hid (fun W hW => HLW.out W hW (by omega) (by omega))
              have HRW2 := Lib.hid (fun S1 W hl hm hW => HRW.out S1 W hl hm hW (by omega) (by omega))
              clear hlen q1 q2 q3
              go_wp2_with (first | (go_at_call 58; refine (HRW2.out S1 _ (HP1.out S1 s1p).1 (HP1.out S1 s1p).2 h6).mono ?_; rintro e w7 ⟨rfl, S2, s2p, s2s, h7⟩) | (go_at_call 58; refine (HLW2.out _ h5).mono ?_; rintro e w6 ⟨rfl, S1, s1p, s1s, h6⟩) | (go_at_call 64; refine HRO2.out.mono ?_; rintro e w5 ⟨rfl, h5⟩))
              go_end0
              exact HFIN.out S1 S2 _ s1p s1s s2p s2s (by simpa using h7)
            · skip
              have jr1 : (cs : Int) < (m : Int) := by omega
              have jr2 : (m : Int) < (ce : Int) := by omega
              have jl1 : (a : Int) < (cs : Int) := by omega
              have jl2 : (cs : Int) < (mid : Int) := by omega
              have HRO2 := Lib.hid (HRO.out (by omega) (by omega))
              have HLW2 := Lib.hid (fun W hW => HLW.out W hW (by omega) (by omega))
              have HE22 := Lib.hid (HE2.out (by omega))
              have os : (¬ (mid : Int) < (ce : Int)) ∨ ((mid : Int) < (ce : Int) ∧ ¬ (ce : Int) < (b : Int)) := by omega
              clear hlen q1 q2 q3
              rcases os with js1 | ⟨js1, js2⟩
              all_goals
                go_wp2_with (first | (go_at_call 58; refine (HLW2.out _ h5).mono ?_; rintro e w6 ⟨rfl, S1, s1p, s1s, h6⟩) | (go_at_call 64; refine HRO2.out.mono ?_; rintro e w5 ⟨rfl, h5⟩))
                all_goals (go_end0; exact HFIN.out S1 (L2 ++ R2) _ s1p s1s (List.Perm.refl _) HE22.out (by simpa using h6))
          · skip
            by_cases q3 : mid < ce ∧ ce < b
            · skip
              have jr1 : (cs : Int) < (m : Int) := by omega
              have jr2 : (m : Int) < (ce : Int) := by omega
              have js1 : (mid : Int) < (ce : Int) := by omega
              have js2 : (ce : Int) < (b : Int) := by omega
              have HRO2 := Lib.hid (HRO.out (by omega) (by omega))
              have HE12 := Lib.hid (HE1.out (by omega))
              have HRW2 := Lib.hid (fun S1 W hl hm hW => HRW.out S1 W hl hm hW (by omega) (by omega))
              have ol : (¬ (a : Int) < (cs : Int)) ∨ ((a : Int) < (cs : Int) ∧ ¬ (cs : Int) < (mid : Int)) := by omega
              clear hlen q1 q2 q3
              rcases ol with jl1 | ⟨jl1, jl2⟩
              all_goals
                go_wp2_with (first | (go_at_call 58; refine (HRW2.out (L1 ++ R1) _ (HP1.out (L1 ++ R1) (List.Perm.refl _)).1 (HP1.out (L1 ++ R1) (List.Perm.refl _)).2 (by simpa using h5)).mono ?_; rintro e w7 ⟨rfl, S2, s2p, s2s, h7⟩) | (go_at_call 64; refine HRO2.out.mono ?_; rintro e w5 ⟨rfl, h5⟩))
                all_goals (go_end0; exact HFIN.out (L1 ++ R1) S2 _ (List.Perm.refl _) HE12.out s2p s2s (by simpa using h7))
            · skip
              have jr1 : (cs : Int) < (m : Int) := by omega
              have jr2 : (m : Int) < (ce : Int) := by omega
              have HRO2 := Lib.hid (HRO.out (by omega) (by omega))
              have HE12 := Lib.hid (HE1.out (by omega))
              have HE22 := Lib.hid (HE2.out (by omega))
              have ol : (¬ (a : Int) < (cs : Int)) ∨ ((a : Int) < (cs : Int) ∧ ¬ (cs : Int) < (mid : Int)) := by omega
              have os : (¬ (mid : Int) < (ce : Int)) ∨ ((mid : Int) < (ce : Int) ∧ ¬ (ce : Int) < (b : Int)) := by omega
              clear hlen q1 q2 q3
              rcases ol with jl1 | ⟨jl1, jl2⟩ <;> rcases os with js1 | ⟨js1, js2⟩
              all_goals
                go_wp2_with (first | (go_at_call 64; refine HRO2.out.mono ?_; rintro e w5 ⟨rfl, h5⟩))
                all_goals (go_end0; exact HFIN.out (L1 ++ R1) (L2 ++ R2) _ (List.Perm.refl _) HE12.out (List.Perm.refl _) HE22.out (by simpa using h5))
        · skip
          by_cases q2 : a < cs ∧ cs < mid
          · skip
            by_cases q3 : mid < ce ∧ ce < b
            · skip
              have jl1 : (a : Int) < (cs : Int) := by omega
              have jl2 : (cs : Int) < (mid : Int) := by omega
              have js1 : (mid : Int) < (ce : Int) := by omega
              have js2 : (ce : Int) < (b : Int) := by omega
              have h5 := HNR.out (by omega)
              have HLW2 := Lib.hid (fun W hW => HLW.out W hW (by omega) (by omega))
              have HRW2 := Lib.hid (fun S1 W hl hm hW => HRW.out S1 W hl hm hW (by omega) (by omega))
              have or : (¬ (cs : Int) < (m : Int)) ∨ ((cs : Int) < (m : Int) ∧ ¬ (m : Int) < (ce : Int)) := by omega
              clear hlen q1 q2 q3
              rcases or with jr1 | ⟨jr1, jr2⟩
              all_goals
                go_wp2_with (first | (go_at_call 58; refine (HRW2.out S1 _ (HP1.out S1 s1p).1 (HP1.out S1 s1p).2 h6).mono ?_; rintro e w7 ⟨rfl, S2, s2p, s2s, h7⟩) | (go_at_call 58; refine (HLW2.out _ h5).mono ?_; rintro e w6 ⟨rfl, S1, s1p, s1s, h6⟩))
                all_goals (go_end0; exact HFIN.out S1 S2 _ s1p s1s s2p s2s (by simpa using h7))
            · skip
              have jl1 : (a : Int) < (cs : Int) := by omega
              have jl2 : (cs : Int) < (mid : Int) := by omega
              have h5 := HNR.out (by omega)
              have HLW2 := Lib.hid (fun W hW => HLW.out W hW (by omega) (by omega))
              have HE22 := Lib.hid (HE2.out (by omega))
              have or : (¬ (cs : Int) < (m : Int)) ∨ ((cs : Int) < (m : Int) ∧ ¬ (m : Int) < (ce : Int)) := by omega
              have os : (¬ (mid : Int) < (ce : Int)) ∨ ((mid : Int) < (ce : Int) ∧ ¬ (ce : Int) < (b : Int)) := by omega
              clear hlen q1 q2 q3
              rcases or with jr1 | ⟨jr1, jr2⟩ <;> rcases os with js1 | ⟨js1, js2⟩
              all_goals
                go_wp2_with (first | (go_at_call 58; refine (HLW2.out _ h5).mono ?_; rintro e w6 ⟨rfl, S1, s1p, s1s, h6⟩))
                all_goals (go_end0; exact HFIN.out S1 (L2 ++ R2) _ s1p s1s (List.Perm.refl _) HE22.out (by simpa using h6))
          · skip
            by_cases q3 : mid < ce ∧ ce < b
            · skip
              have js1 : (mid : Int) < (ce : Int) := by omega
              have js2 : (ce : Int) < (b : Int) := by omega
              have h5 := HNR.out (by omega)
              have HE12 := Lib.hid (HE1.out (by omega))
              have HRW2 := Lib.hid (fun S1 W hl hm hW => HRW.out S1 W hl hm hW (by omega) (by omega))
              have or : (¬ (cs : Int) < (m : Int)) ∨ ((cs : Int) < (m : Int) ∧ ¬ (m : Int) < (ce : Int)) := by omega
              have ol : (¬ (a : Int) < (cs : Int)) ∨ ((a : Int) < (cs : Int) ∧ ¬ (cs : Int) < (mid : Int)) := by omega
              clear hlen q1 q2 q3
              rcases or with jr1 | ⟨jr1, jr2⟩ <;> rcases ol with jl1 | ⟨jl1, jl2⟩
              all_goals
                go_wp2_with (first | (go_at_call 58; refine (HRW2.out (L1 ++ R1) _ (HP1.out (L1 ++ R1) (List.Perm.refl _)).1 (HP1.out (L1 ++ R1) (List.Perm.refl _)).2 (by simpa using h5)).mono ?_; rintro e w7 ⟨rfl, S2, s2p, s2s, h7⟩))
                all_goals (go_end0; exact HFIN.out (L1 ++ R1) S2 _ (List.Perm.refl _) HE12.out s2p s2s (by simpa using h7))
            · skip
              have h5 := HNR.out (by omega)
              have HE12 := Lib.hid (HE1.out (by omega))
              have HE22 := Lib.hid (HE2.out (by omega))
              have or : (¬ (cs : Int) < (m : Int)) ∨ ((cs : Int) < (m : Int) ∧ ¬ (m : Int) < (ce : Int)) := by omega
              have ol : (¬ (a : Int) < (cs : Int)) ∨ ((a : Int) < (cs : Int) ∧ ¬ (cs : Int) < (mid : Int)) := by omega
              have os : (¬ (mid : Int) < (ce : Int)) ∨ ((mid : Int) < (ce : Int) ∧ ¬ (ce : Int) < (b : Int)) := by omega
              clear hlen q1 q2 q3
              rcases or with jr1 | ⟨jr1, jr2⟩ <;> rcases ol with jl1 | ⟨jl1, jl2⟩ <;> rcases os with js1 | ⟨js1, js2⟩
              all_goals
                go_wp2
                all_goals (go_end0; exact HFIN.out (L1 ++ R1) (L2 ++ R2) _ (List.Perm.refl _) HE12.out (List.Perm.refl _) HE22.out (by simpa using h5))
  · have i1 : ¬ (mid : Int) < (m : Int) := by omega
    have q3' := q3.symm
    have q2' := q2.symm
    subst q3'
    subst q2'
    clear q1 hst hclo hchi hlohi h hL hR hcr hlt hZ hx hr hn ha hm hb hll hrl hMe hmid hnn hpp hl2 hr2 hZn hZlt hN hnl IH
    go_enter Try.func58, Try.ntmps58
    go_wp2
    go_loopw [20, 21] (fun i j wr => S3Rel g cap a w0 f Z L R M lo hi i j wr) (fun i j _ => (intOf j).toNat - (intOf i).toNat)
    case atStart => exact HST.out
    case round =>
      clear e0 e1 e2 e3 e4 e5 e6 e7 i1 HST
      obtain ⟨cs, cr, ts, tr, hcs, hcr, htt, rfl, rfl, hlo, hhi, hlow, hhigh, hS⟩ := hrel
      obtain ⟨f1, f2, f3, f4, f5, f6, f7, f8, f9, f10, f11, f12, f13, f14⟩ := HF.out
      have hcase := HCASE.out
      have HLOW := Lib.hid hlow
      have HHIGH := Lib.hid hhigh
      have HS := Lib.hid hS
      have HTT := Lib.hid (show cs = a + ts ∧ cr = a + tr ∧ ts ≤ tr ∧ lo ≤ ts ∧ tr ≤ hi from ⟨hcs, hcr, htt, hlo, hhi⟩)
      clear hlow hhigh hS
      by_cases hij : cs < cr
      · obtain ⟨t, ht⟩ : ∃ t, (cs + cr) / 2 = a + t := ⟨(cs + cr) / 2 - a, by omega⟩
        obtain ⟨c, hc⟩ : ∃ c, a + t = c := ⟨_, rfl⟩
        obtain ⟨k, hk⟩ : ∃ k, M - 1 - t = k := ⟨_, rfl⟩
        obtain ⟨pc, hpc⟩ : ∃ pc, m + k = pc := ⟨_, rfl⟩
        have htL : t < L.length := by omega
        have hkR : k < R.length := by omega
        have hkM : k + 1 + t = M := by omega
        have hcZ : a + t < Z.length := by omega
        have hpZ : m + k < Z.length := by omega
        have c0 := HS.out.cell hcZ
        have c1 := HS.out.cell hpZ
        rw [HRG.out t htL hcZ, hc] at c0
        rw [HX.out k hkR hpZ, hpc] at c1
        have hxn : L[t] < n := by have := HZL.out _ (List.getElem_mem hcZ); rw [HRG.out t htL hcZ] at this; exact this
        have hyn : R[k] < n := by have := HZL.out _ (List.getElem_mem hpZ); rw [HX.out k hkR hpZ] at this; exact this
        have hxs : L[t]? = some L[t] := List.getElem?_eq_getElem htL
        have hys : R[k]? = some R[k] := List.getElem?_eq_getElem hkR
        obtain ⟨x, hx⟩ : ∃ x, L[t] = x := ⟨_, rfl⟩
        obtain ⟨y, hy⟩ : ∃ y, R[k] = y := ⟨_, rfl⟩
        rw [hx] at c0 hxn hxs
        rw [hy] at c1 hyn hys
        have HXS := Lib.hid hxs
        have HYS := Lib.hid hys
        have HCL := Lib.hid (fun W (hW : Touch (fun k => k = g) w0 W) => HC.out W hW y x hyn hxn)
        obtain ⟨cc, hcc⟩ : ∃ cc, cmpF (f y) (f x) = cc := ⟨_, rfl⟩
        rw [hcc] at HCL
        have i1 : (cs : Int) < (cr : Int) := by omega
        have w1' : IntKind.i64.wrap ((cs : Int) + (cr : Int)) = (cs : Int) + (cr : Int) := IntWalk.i64_in _ (by omega)
        have w2' : ((cs : Int) + (cr : Int)) / 2 = (c : Int) := by omega
        have w3' : IntKind.i64.wrap ((pp : Int) - (c : Int)) = (pc : Int) := by rw [show (pp : Int) - (c : Int) = (pc : Int) by omega]; exact IntWalk.i64_in _ (by omega)
        have w4' : IntKind.i64.wrap ((c : Int) + 1) = (c : Int) + 1 := IntWalk.i64_in _ (by omega)
        have i3 : (0 : Int) ≤ (c : Int) := by omega
        have i4 : (c : Int) < (n : Int) := by omega
        have i5 : (0 : Int) ≤ (pc : Int) := by omega
        have i6 : (pc : Int) < (n : Int) := by omega
        have HK := Lib.hid (show a + t = c ∧ k + 1 + t = M ∧ cs ≤ c ∧ c < cr from ⟨hc, hkM, by omega, by omega⟩)
        clear f1 f2 f3 f4 f5 f6 f7 f8 f9 f10 f11 f12 f13 f14 hcase hcs hcr htt hlo hhi ht hc hk hpc htL hkR hkM hcZ hpZ hxn hyn hxs hys hx hy hij
        by_cases hyx : f y < f x
        · have hcn : cc < 0 := hcc ▸ cmpF_lt hyx
          have HYX := Lib.hid hyx
          clear hcc hyx
          go_wp2
          go_region_held3 (fun W' => W'.cell? ⟨g, c, none⟩ = some (.int .i64 (x : Int)) ∧ W'.cell? ⟨g, pc, none⟩ = some (.int .i64 (y : Int)))
            (exact ⟨c0, c1⟩)
            ((go_at_call 40; refine (HCL.out _ HS.out.drew.tch).mono ?_; rintro e wy ⟨rfl, q', rfl⟩))
          clear c0 c1
          go_wp2
          go_roundw
          case rel =>
            obtain ⟨h1, h2, h3, h4⟩ := HK.out
            obtain ⟨g1, g2, g3, g4, g5⟩ := HTT.out
            refine ⟨cs, c, ts, t, g1, h1.symm, by omega, rfl, rfl, g4, by omega, HLOW.out, fun _ x' y' hx' hy' => ?_, HS.out.drewN _⟩
            rw [show M - 1 - t = k by omega, HYS.out] at hy'
            rw [HXS.out] at hx'
            cases hx'; cases hy'
            exact HYX.out
          case measure => (have := HK.out; simp [intOf]; omega)
        · have hcn : ¬ cc < 0 := hcc ▸ cmpF_ge hyx
          have hcd : (!decide (cc < 0)) = true := by simp; omega
          have HYX := Lib.hid hyx
          clear hcc hyx
          go_wp2
          go_region_held3 (fun W' => W'.cell? ⟨g, c, none⟩ = some (.int .i64 (x : Int)) ∧ W'.cell? ⟨g, pc, none⟩ = some (.int .i64 (y : Int)))
            (exact ⟨c0, c1⟩)
            ((go_at_call 40; refine (HCL.out _ HS.out.drew.tch).mono ?_; rintro e wy ⟨rfl, q', rfl⟩))
          clear c0 c1
          go_wp2
          go_roundw
          case rel =>
            obtain ⟨h1, h2, h3, h4⟩ := HK.out
            obtain ⟨g1, g2, g3, g4, g5⟩ := HTT.out
            refine ⟨c + 1, cr, t + 1, tr, by omega, g2, by omega, by go_num, rfl, by omega, g5, fun _ x' y' hx' hy' => ?_, HHIGH.out, HS.out.drewN _⟩
            rw [show M - (t + 1) = k by omega, HYS.out] at hy'
            rw [Nat.add_sub_cancel, HXS.out] at hx'
            cases hx'; cases hy'
            have := HYX.out
            omega
          case measure => (have := HK.out; simp [intOf]; omega)
      · obtain rfl : cs = cr := by omega
        obtain rfl : ts = tr := by omega
        have i1 : ¬ (cs : Int) < (cs : Int) := by omega
        obtain ⟨ce, hce⟩ : ∃ ce, m + (M - ts) = ce := ⟨_, rfl⟩
        have w1' : IntKind.i64.wrap ((nn : Int) - (cs : Int)) = (ce : Int) := by rw [show (nn : Int) - (cs : Int) = (ce : Int) by omega]; exact IntWalk.i64_in _ (by omega)
        have hcut : CutAt f L R M lo hi ts := ⟨hlo, hhi, HLOW.out, HHIGH.out⟩
        have hMt : M - ts ≤ R.length := by omega
        have hlex := cut_lex hcut HCR.out (by rw [f10, f11]; exact hcase) hMt
        have hL12 : L.take ts ++ L.drop ts = L := List.take_append_drop _ _
        have hR12 : R.take (M - ts) ++ R.drop (M - ts) = R := List.take_append_drop _ _
        have k1 : (L.take ts).length = ts := by rw [List.length_take]; omega
        have k2 : (L.drop ts).length = l - ts := by rw [List.length_drop]; omega
        have k3 : (R.take (M - ts)).length = M - ts := by rw [List.length_take]; omega
        have k4 : (R.drop (M - ts)).length = r - (M - ts) := by rw [List.length_drop]; omega
        obtain ⟨L1, hL1⟩ : ∃ X, L.take ts = X := ⟨_, rfl⟩
        obtain ⟨L2, hL2⟩ : ∃ X, L.drop ts = X := ⟨_, rfl⟩
        obtain ⟨R1, hR1⟩ : ∃ X, R.take (M - ts) = X := ⟨_, rfl⟩
        obtain ⟨R2, hR2⟩ : ∃ X, R.drop (M - ts) = X := ⟨_, rfl⟩
        rw [hL1] at hlex hL12 k1
        rw [hL2] at hlex hL12 k2
        rw [hR1] at hlex hR12 k3
        rw [hR2] at hlex hR12 k4
        clear hL1 hL2 hR1 hR2
        have hLs : (L1 ++ L2).Pairwise (Lex f) := by rw [hL12]; exact HL.out
        have hRs : (R1 ++ R2).Pairwise (Lex f) := by rw [hR12]; exact HR.out
        obtain ⟨p1, p2, _⟩ := List.pairwise_append.1 hLs
        obtain ⟨r1, r2, _⟩ := List.pairwise_append.1 hRs
        have hc1 : ∀ x ∈ L1, ∀ y ∈ R1, x < y := fun x hx y hy => HCR.out x (by rw [← hL12]; exact List.mem_append_left _ hx) y (by rw [← hR12]; exact List.mem_append_left _ hy)
        have hc2 : ∀ x ∈ L2, ∀ y ∈ R2, x < y := fun x hx y hy => HCR.out x (by rw [← hL12]; exact List.mem_append_right _ hx) y (by rw [← hR12]; exact List.mem_append_right _ hy)
        have hal := HA.out
        have hZ2 : A ++ L1 ++ L2 ++ R1 ++ (R2 ++ B) = Z := by rw [← HZ.out, ← hL12, ← hR12]; simp
        have hmem : ∀ x, x ∈ A ∨ x ∈ L1 ∨ x ∈ L2 ∨ x ∈ R1 ∨ x ∈ R2 ∨ x ∈ B → x < n := fun x hx => HZL.out x (by rw [← hZ2]; simp only [List.mem_append]; rcases hx with h | h | h | h | h | h <;> simp [h])
        have hS := HS.out
        rw [← hZ2, show A ++ L1 ++ L2 ++ R1 ++ (R2 ++ B) = (A ++ L1) ++ L2 ++ R1 ++ (R2 ++ B) from rfl] at hS
        have HRO := Lib.hid (fun (hu : 0 < L2.length) (hv : 0 < R1.length) => (show Calls Try.prog 64 #[.slice (some ⟨g, 0, none⟩) n cap, .int .i64 (cs : Int), .int .i64 (m : Int), .int .i64 (ce : Int), .func (.func 40) #[] #[.pointer (some ⟨bx, 0, none⟩)]] wr (fun e w' => e = .returned (.tuple #[]) ∧ St g cap w0 (A ++ L1 ++ R1 ++ (L2 ++ R2 ++ B)) w') from by
          have := rotate_any hS hu hv (.func (.func 40) #[] #[.pointer (some ⟨bx, 0, none⟩)]) (n := n) (by rw [hZ2]; exact f12) f14
          rw [show (A ++ L1).length = cs by rw [List.length_append]; omega, show cs + L2.length = m by omega, show m + R1.length = ce by omega] at this
          exact this.mono fun e w' h => ⟨h.1, by simpa using h.2⟩))
        have HNR := Lib.hid (fun (hv : L2.length = 0 ∨ R1.length = 0) => (show St g cap w0 (A ++ L1 ++ R1 ++ (L2 ++ R2 ++ B)) wr from by
          rcases hv with hv | hv
          · have := List.eq_nil_of_length_eq_zero hv
            subst this
            simpa using hS
          · have := List.eq_nil_of_length_eq_zero hv
            subst this
            simpa using hS))
        have HLW := Lib.hid (fun W (hW : St g cap w0 (A ++ L1 ++ R1 ++ (L2 ++ R2 ++ B)) W) (hu : 0 < L1.length) (hv : 0 < R1.length) => (show Calls Try.prog 58 #[.slice (some ⟨g, 0, none⟩) n cap, .int .i64 (a : Int), .int .i64 (cs : Int), .int .i64 (mid : Int), .func (.func 40) #[] #[.pointer (some ⟨bx, 0, none⟩)]] W (SymPost g cap w0 f A L1 R1 (L2 ++ R2 ++ B)) from
          HIH.out A L1 R1 (L2 ++ R2 ++ B) W a cs mid hW hu hv p1 r1 hc1 (fun x hx => hmem x (by simp only [List.mem_append] at hx; rcases hx with ((h | h) | h) | ((h | h) | h) <;> simp [h])) (by simp only [List.length_append]; omega) hal (by omega) (by omega) (by omega)))
        have HRW := Lib.hid (fun (S1 : List Nat) (W : World) (hl : S1.length = M) (hm1 : ∀ x ∈ S1, x < n) (hW : St g cap w0 (A ++ S1 ++ (L2 ++ R2 ++ B)) W) (hu : 0 < L2.length) (hv : 0 < R2.length) => (show Calls Try.prog 58 #[.slice (some ⟨g, 0, none⟩) n cap, .int .i64 (mid : Int), .int .i64 (ce : Int), .int .i64 (b : Int), .func (.func 40) #[] #[.pointer (some ⟨bx, 0, none⟩)]] W (SymPost g cap w0 f (A ++ S1) L2 R2 B) from
          HIH.out (A ++ S1) L2 R2 B W mid ce b (by simpa using hW) hu hv p2 r2 hc2 (fun x hx => (by simp only [List.mem_append] at hx; rcases hx with (((h | h) | h) | h) | h <;> first | exact hm1 x h | exact hmem x (by simp [h]))) (by simp only [List.length_append]; omega) (by rw [List.length_append]; omega) (by omega) (by omega) (by omega)))
        have HE1 := Lib.hid (fun (hv : L1.length = 0 ∨ R1.length = 0) => (show (L1 ++ R1).Pairwise (Lex f) from by
          rcases hv with hv | hv
          · rw [List.eq_nil_of_length_eq_zero hv]; simpa using r1
          · rw [List.eq_nil_of_length_eq_zero hv]; simpa using p1))
        have HE2 := Lib.hid (fun (hv : L2.length = 0 ∨ R2.length = 0) => (show (L2 ++ R2).Pairwise (Lex f) from by
          rcases hv with hv | hv
          · rw [List.eq_nil_of_length_eq_zero hv]; simpa using r2
          · rw [List.eq_nil_of_length_eq_zero hv]; simpa using p2))
        have HP1 := Lib.hid (fun (S1 : List Nat) (hp : S1.Perm (L1 ++ R1)) => (show S1.length = M ∧ ∀ x ∈ S1, x < n from ⟨by rw [hp.length_eq, List.length_append]; omega, fun x hx => hmem x (by rcases List.mem_append.1 (hp.mem_iff.1 hx) with h | h <;> simp [h])⟩))
        have HFIN := Lib.hid (fun (S1 S2 : List Nat) (W : World) (h1 : S1.Perm (L1 ++ R1)) (h2 : S1.Pairwise (Lex f)) (h3 : S2.Perm (L2 ++ R2)) (h4 : S2.Pairwise (Lex f)) (hW : St g cap w0 (A ++ S1 ++ S2 ++ B) W) => (show SymPost g cap w0 f A L R B (.returned (.tuple #[])) W from by
          have hh := merge_halves hLs hRs hlex.1 hlex.2 h1 h2 h3 h4
          refine ⟨rfl, S1 ++ S2, ?_, hh.1, by simpa using hW⟩
          rw [← hL12, ← hR12]
          exact hh.2))
        have HLEN := Lib.hid (show L1.length = ts ∧ L2.length + ts = l ∧ R1.length + ts = M ∧ R2.length + M = r + ts ∧ cs = a + ts ∧ a + l = m ∧ m + R1.length = ce ∧ a + M = mid ∧ m + r = b from ⟨k1, by omega, by omega, by omega, hcs, f1, by omega, f5, f2⟩)
        clear f1 f2 f3 f4 f5 f6 f7 f8 f9 f10 f11 f12 f13 f14 hcase hcs hcr htt hlo hhi hij hce hcut hMt hlex hL12 hR12 k1 k2 k3 k4 hLs hRs p1 p2 r1 r2 hc1 hc2 hal hZ2 hmem hS
        have hlen := HLEN.out
        by_cases q1 : cs < m ∧ m < ce
        · skip
          by_cases q2 : a < cs ∧ cs < mid
          · skip
            by_cases q3 : mid < ce ∧ ce < b
            · skip
              have jr1 : (cs : Int) < (m : Int) := by omega
              have jr2 : (m : Int) < (ce : Int) := by omega
              have jl1 : (a : Int) < (cs : Int) := by omega
              have jl2 : (cs : Int) < (mid : Int) := by omega
              have js1 : (mid : Int) < (ce : Int) := by omega
              have js2 : (ce : Int) < (b : Int) := by omega
              have HRO2 := Lib.hid (HRO.out (by omega) (by omega))
              have HLW2 := Lib.hid (fun W hW => HLW.out W hW (by omega) (by omega))
              have HRW2 := Lib.hid (fun S1 W hl hm hW => HRW.out S1 W hl hm hW (by omega) (by omega))
              clear hlen q1 q2 q3
              go_wp2_with (first | (go_at_call 58; refine (HRW2.out S1 _ (HP1.out S1 s1p).1 (HP1.out S1 s1p).2 h6).mono ?_; rintro e w7 ⟨rfl, S2, s2p, s2s, h7⟩) | (go_at_call 58; refine (HLW2.out _ h5).mono ?_; rintro e w6 ⟨rfl, S1, s1p, s1s, h6⟩) | (go_at_call 64; refine HRO2.out.mono ?_; rintro e w5 ⟨rfl, h5⟩))
              go_end0
              exact HFIN.out S1 S2 _ s1p s1s s2p s2s (by simpa using h7)
            · skip
              have jr1 : (cs : Int) < (m : Int) := by omega
              have jr2 : (m : Int) < (ce : Int) := by omega
              have jl1 : (a : Int) < (cs : Int) := by omega
              have jl2 : (cs : Int) < (mid : Int) := by omega
              have HRO2 := Lib.hid (HRO.out (by omega) (by omega))
              have HLW2 := Lib.hid (fun W hW => HLW.out W hW (by omega) (by omega))
              have HE22 := Lib.hid (HE2.out (by omega))
              have os : (¬ (mid : Int) < (ce : Int)) ∨ ((mid : Int) < (ce : Int) ∧ ¬ (ce : Int) < (b : Int)) := by omega
              clear hlen q1 q2 q3
              rcases os with js1 | ⟨js1, js2⟩
              all_goals
                go_wp2_with (first | (go_at_call 58; refine (HLW2.out _ h5).mono ?_; rintro e w6 ⟨rfl, S1, s1p, s1s, h6⟩) | (go_at_call 64; refine HRO2.out.mono ?_; rintro e w5 ⟨rfl, h5⟩))
                all_goals (go_end0; exact HFIN.out S1 (L2 ++ R2) _ s1p s1s (List.Perm.refl _) HE22.out (by simpa using h6))
          · skip
            by_cases q3 : mid < ce ∧ ce < b
            · skip
              have jr1 : (cs : Int) < (m : Int) := by omega
              have jr2 : (m : Int) < (ce : Int) := by omega
              have js1 : (mid : Int) < (ce : Int) := by omega
              have js2 : (ce : Int) < (b : Int) := by omega
              have HRO2 := Lib.hid (HRO.out (by omega) (by omega))
              have HE12 := Lib.hid (HE1.out (by omega))
              have HRW2 := Lib.hid (fun S1 W hl hm hW => HRW.out S1 W hl hm hW (by omega) (by omega))
              have ol : (¬ (a : Int) < (cs : Int)) ∨ ((a : Int) < (cs : Int) ∧ ¬ (cs : Int) < (mid : Int)) := by omega
              clear hlen q1 q2 q3
              rcases ol with jl1 | ⟨jl1, jl2⟩
              all_goals
                go_wp2_with (first | (go_at_call 58; refine (HRW2.out (L1 ++ R1) _ (HP1.out (L1 ++ R1) (List.Perm.refl _)).1 (HP1.out (L1 ++ R1) (List.Perm.refl _)).2 (by simpa using h5)).mono ?_; rintro e w7 ⟨rfl, S2, s2p, s2s, h7⟩) | (go_at_call 64; refine HRO2.out.mono ?_; rintro e w5 ⟨rfl, h5⟩))
                all_goals (go_end0; exact HFIN.out (L1 ++ R1) S2 _ (List.Perm.refl _) HE12.out s2p s2s (by simpa using h7))
            · skip
              have jr1 : (cs : Int) < (m : Int) := by omega
              have jr2 : (m : Int) < (ce : Int) := by omega
              have HRO2 := Lib.hid (HRO.out (by omega) (by omega))
              have HE12 := Lib.hid (HE1.out (by omega))
              have HE22 := Lib.hid (HE2.out (by omega))
              have ol : (¬ (a : Int) < (cs : Int)) ∨ ((a : Int) < (cs : Int) ∧ ¬ (cs : Int) < (mid : Int)) := by omega
              have os : (¬ (mid : Int) < (ce : Int)) ∨ ((mid : Int) < (ce : Int) ∧ ¬ (ce : Int) < (b : Int)) := by omega
              clear hlen q1 q2 q3
              rcases ol with jl1 | ⟨jl1, jl2⟩ <;> rcases os with js1 | ⟨js1, js2⟩
              all_goals
                go_wp2_with (first | (go_at_call 64; refine HRO2.out.mono ?_; rintro e w5 ⟨rfl, h5⟩))
                all_goals (go_end0; exact HFIN.out (L1 ++ R1) (L2 ++ R2) _ (List.Perm.refl _) HE12.out (List.Perm.refl _) HE22.out (by simpa using h5))
        · skip
          by_cases q2 : a < cs ∧ cs < mid
          · skip
            by_cases q3 : mid < ce ∧ ce < b
            · skip
              have jl1 : (a : Int) < (cs : Int) := by omega
              have jl2 : (cs : Int) < (mid : Int) := by omega
              have js1 : (mid : Int) < (ce : Int) := by omega
              have js2 : (ce : Int) < (b : Int) := by omega
              have h5 := HNR.out (by omega)
              have HLW2 := Lib.hid (fun W hW => HLW.out W hW (by omega) (by omega))
              have HRW2 := Lib.hid (fun S1 W hl hm hW => HRW.out S1 W hl hm hW (by omega) (by omega))
              have or : (¬ (cs : Int) < (m : Int)) ∨ ((cs : Int) < (m : Int) ∧ ¬ (m : Int) < (ce : Int)) := by omega
              clear hlen q1 q2 q3
              rcases or with jr1 | ⟨jr1, jr2⟩
              all_goals
                go_wp2_with (first | (go_at_call 58; refine (HRW2.out S1 _ (HP1.out S1 s1p).1 (HP1.out S1 s1p).2 h6).mono ?_; rintro e w7 ⟨rfl, S2, s2p, s2s, h7⟩) | (go_at_call 58; refine (HLW2.out _ h5).mono ?_; rintro e w6 ⟨rfl, S1, s1p, s1s, h6⟩))
                all_goals (go_end0; exact HFIN.out S1 S2 _ s1p s1s s2p s2s (by simpa using h7))
            · skip
              have jl1 : (a : Int) < (cs : Int) := by omega
              have jl2 : (cs : Int) < (mid : Int) := by omega
              have h5 := HNR.out (by omega)
              have HLW2 := Lib.hid (fun W hW => HLW.out W hW (by omega) (by omega))
              have HE22 := Lib.hid (HE2.out (by omega))
              have or : (¬ (cs : Int) < (m : Int)) ∨ ((cs : Int) < (m : Int) ∧ ¬ (m : Int) < (ce : Int)) := by omega
              have os : (¬ (mid : Int) < (ce : Int)) ∨ ((mid : Int) < (ce : Int) ∧ ¬ (ce : Int) < (b : Int)) := by omega
              clear hlen q1 q2 q3
              rcases or with jr1 | ⟨jr1, jr2⟩ <;> rcases os with js1 | ⟨js1, js2⟩
              all_goals
                go_wp2_with (first | (go_at_call 58; refine (HLW2.out _ h5).mono ?_; rintro e w6 ⟨rfl, S1, s1p, s1s, h6⟩))
                all_goals (go_end0; exact HFIN.out S1 (L2 ++ R2) _ s1p s1s (List.Perm.refl _) HE22.out (by simpa using h6))
          · skip
            by_cases q3 : mid < ce ∧ ce < b
            · skip
              have js1 : (mid : Int) < (ce : Int) := by omega
              have js2 : (ce : Int) < (b : Int) := by omega
              have h5 := HNR.out (by omega)
              have HE12 := Lib.hid (HE1.out (by omega))
              have HRW2 := Lib.hid (fun S1 W hl hm hW => HRW.out S1 W hl hm hW (by omega) (by omega))
              have or : (¬ (cs : Int) < (m : Int)) ∨ ((cs : Int) < (m : Int) ∧ ¬ (m : Int) < (ce : Int)) := by omega
              have ol : (¬ (a : Int) < (cs : Int)) ∨ ((a : Int) < (cs : Int) ∧ ¬ (cs : Int) < (mid : Int)) := by omega
              clear hlen q1 q2 q3
              rcases or with jr1 | ⟨jr1, jr2⟩ <;> rcases ol with jl1 | ⟨jl1, jl2⟩
              all_goals
                go_wp2_with (first | (go_at_call 58; refine (HRW2.out (L1 ++ R1) _ (HP1.out (L1 ++ R1) (List.Perm.refl _)).1 (HP1.out (L1 ++ R1) (List.Perm.refl _)).2 (by simpa using h5)).mono ?_; rintro e w7 ⟨rfl, S2, s2p, s2s, h7⟩))
                all_goals (go_end0; exact HFIN.out (L1 ++ R1) S2 _ (List.Perm.refl _) HE12.out s2p s2s (by simpa using h7))
            · skip
              have h5 := HNR.out (by omega)
              have HE12 := Lib.hid (HE1.out (by omega))
              have HE22 := Lib.hid (HE2.out (by omega))
              have or : (¬ (cs : Int) < (m : Int)) ∨ ((cs : Int) < (m : Int) ∧ ¬ (m : Int) < (ce : Int)) := by omega
              have ol : (¬ (a : Int) < (cs : Int)) ∨ ((a : Int) < (cs : Int) ∧ ¬ (cs : Int) < (mid : Int)) := by omega
              have os : (¬ (mid : Int) < (ce : Int)) ∨ ((mid : Int) < (ce : Int) ∧ ¬ (ce : Int) < (b : Int)) := by omega
              clear hlen q1 q2 q3
              rcases or with jr1 | ⟨jr1, jr2⟩ <;> rcases ol with jl1 | ⟨jl1, jl2⟩ <;> rcases os with js1 | ⟨js1, js2⟩
              all_goals
                go_wp2
                all_goals (go_end0; exact HFIN.out (L1 ++ R1) (L2 ++ R2) _ (List.Perm.refl _) HE12.out (List.Perm.refl _) HE22.out (by simpa using h5))
theorem sym_any {g cap n bx : Nat} {w0 : World} {f : Nat → Int} (HC : CmpOk g bx n w0 f) (hbig : n ≤ 100000) : ∀ N, SymOk g cap n bx w0 f N
  | 0 => fun A L R B w a m b h hu hv hL hR hcr hlt hn ha hm hb hN => by omega
  | N + 1 => fun A L R B w a m b h hu hv hL hR hcr hlt hn ha hm hb hN => by
    by_cases h1 : L.length = 1
    · obtain ⟨x, rfl⟩ : ∃ x, L = [x] := List.length_eq_one_iff.1 h1
      exact sym_left h HC hR (fun y hy => hcr x (by simp) y hy) hlt hn hbig ha hm hb
    · by_cases h2 : R.length = 1
      · obtain ⟨y, rfl⟩ : ∃ x, R = [x] := List.length_eq_one_iff.1 h2
        exact sym_right h HC hL (by omega) (fun x hx => hcr x hx y (by simp)) hlt hn hbig ha hm hb
      · exact sym_halves (sym_any HC hbig N) h HC hL hR (by omega) (by omega) hcr hlt hn hbig hN ha hm hb
end Go.Proofs.Ytjlghmjngiegaaa
