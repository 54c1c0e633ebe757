/- The gauge's Middle: the number in the middle. -/
import Derived.Test.YtjlghmjngiegaaaW9
import Derived.Test.YtjlghmjngiegaaaShelf
import Derived.Lib.OwnBridge
namespace Go.Proofs.Ytjlghmjngiegaaa
open Go Go.Gauge Go.RowKit Go.Sort Go.Shelf
theorem one_fl : OneCell fl := fun _ => rfl
theorem info24 : (Try.prog.info? 24).map (fun i => (i.zero, i.size, i.bytes)) = some (some (.float .f64 0), 1, 8) := by kernel_rfl
theorem fl_one (zs : List F64) : ∀ u ∈ zs.map fl, u.oneCell' = true := by
  intro u hu
  obtain ⟨l, _, rfl⟩ := List.mem_map.1 hu
  rfl
def OwnPost (n : Nat) (xs : List Value) (w : World) (e : Ending) (w' : World) : Prop := ∃ v, e = .returned v ∧ w'.ownsRow w.heap.size 24 1 v n xs ∧ Below w.heap.size w w'
set_option maxHeartbeats 1000000 in
theorem clone_zero (a : Addr) (c : Nat) (w : World) : Calls Try.prog 29 #[.slice (some a) 0 c] w (OwnPost 0 [] w) := by
  obtain ⟨i0, hi, hz0, hz1, hz2⟩ := info_parts info24
  have q27 : ∀ (w : World) (a : Option Addr) (n c n' c' : Nat), (binOp .eql 27 (.slice a n c) (.slice none n' c')).run Try.prog w = .ok (.bool a.isNone) w := fun w a n c n' c' => Lib.run_eql_slice_nil w _ _ a n c n' c' Try.underlying27
  go_enter Try.func29, Try.ntmps29
  go_wp2_with (at_builtin; refine wpList_append_own _ rfl _ _ 27 rfl w.heap.size 24 i0 (.float .f64 0) 1 8 Try.underlying27 hi hz0 hz1 hz2 rfl (by decide) _ _ _ rfl (World.ownsRow_made w #[] 0 (Nat.le_refl _) (Nat.zero_le _) (by simp)) a 0 c [] rfl ?qc1 ?qc2 ?qc3 ?qc4 ?qc5 ?qc6 ?_)
  case qc1 => rfl
  case qc2 => intro j u hj; simp at hj
  case qc3 => intro u hu; simp at hu
  case qc4 => decide
  case qc5 => decide
  case qc6 => simp
  intro v' w1 hown hgrow hnil
  go_wp2
  go_ret
  exact ⟨v', rfl, by simpa using hown, ((Below.refl _ w).alloc (Nat.le_refl _) _).grown hgrow (by simp) (by intro k hk; simp [Value.ownBlock] at hk; omega)⟩
theorem clone_any (zs : List F64) (A : Option Addr) (n c : Nat) (w : World) (hR : Rd w w.heap.size 1 (.slice A n c) n (zs.map fl)) (hn : n ≤ 1000000000) : Calls Try.prog 29 #[.slice A n c] w (OwnPost n (zs.map fl) w) := by
  have hl : zs.length = n := by have := hR.1; simpa using this
  subst hl
  rcases Nat.eq_zero_or_pos zs.length with h0 | h0
  · have e : zs = [] := List.eq_nil_of_length_eq_zero h0
    subst e
    rcases A with _ | a
    · exact (Try.slices_Clone_nil 0 c w).mono fun e w' ⟨h1, h2⟩ => ⟨_, h1, by rw [h2]; exact World.ownsRow_nil _ _ _ _, by rw [h2]; exact Below.refl _ _⟩
    · exact clone_zero a c w
  · obtain ⟨b, o, rfl, _, hc⟩ := hR.cells h0
    obtain ⟨i0, hi, hz0, hz1, hz2⟩ := info_parts info24
    exact (Try.slices_Clone i0 (.float .f64 0) 1 8 hi hz0 hz1 hz2 rfl (by decide) Try.sizeOf24 b o zs.length c (zs.map fl) w (by simp) (by unfold maxLen; omega) (by omega) hc (fl_one zs)).mono fun e w' ⟨v, h1, h2, _, h3⟩ => ⟨v, h1, h2, h3⟩
set_option maxHeartbeats 1000000 in
theorem closure30 (x : F64) (w : World) : Calls Try.prog 30 #[fl x] w fun e w' => e = .returned (.bool (!numF x)) ∧ ∃ q, w' = w.drewN q := by
  have HN := Lib.hid (number_any x.1 x.2)
  unfold numF fl
  generalize num x.1 = b at *
  go_enter Try.func30, Try.ntmps30
  go_wp2_with (go_at_call 31; refine (HN.out _).mono ?_; rintro e w' ⟨rfl, rfl⟩)
  go_ret
  exact ⟨rfl, 0, rfl⟩
set_option maxHeartbeats 1000000 in
theorem delete_zero (A : Option Addr) (c : Nat) (w : World) : Calls Try.prog 28 #[.slice A 0 c, .func (.func 30) #[] #[]] w fun e w' => e = .returned (.slice A 0 c) ∧ w = w' := by
  have HI := Lib.hid (fun w => Try.slices_IndexFunc_empty (α := F64) A c (.func (.func 30) #[] #[]) w)
  go_enter Try.func28, Try.ntmps28
  go_wp2_with (go_at_call 41; refine (HI.out _).mono ?_; rintro e w' ⟨rfl, rfl⟩)
  go_ret
  exact ⟨rfl, rfl⟩
theorem notnum : (fun x : F64 => !!numF x) = numF := by funext x; simp
theorem delete_any (zs : List F64) (v : Value) (B : Nat) (w : World) (hO : w.ownsRow B 24 1 v zs.length (zs.map fl)) (hn : zs.length ≤ 1000000000) :
    Calls Try.prog 28 #[v, .func (.func 30) #[] #[]] w fun e w' => ∃ v', e = .returned v' ∧ w'.ownsRow B 24 1 v' (zs.filter numF).length ((zs.filter numF).map fl) ∧ Below B w w' := by
  rcases Nat.eq_zero_or_pos zs.length with h0 | h0
  · have e : zs = [] := List.eq_nil_of_length_eq_zero h0
    subst e
    obtain ⟨A, c, rfl, _⟩ := (Rd.of_own hO).form
    exact (delete_zero A c w).mono fun e w' ⟨h1, h2⟩ => ⟨_, h1, by rw [← h2]; exact hO, by rw [← h2]; exact Below.refl _ _⟩
  · have hv : v ≠ .slice none 0 0 := by
      rintro rfl
      rcases hO.2 with ⟨_, e⟩ | ⟨g, cap, cur, e, _⟩
      · omega
      · cases e
    obtain ⟨g, cap, rfl, hg, hlt, hcap, _, _, hH⟩ := Lib.holds_of_ownsRow hO hv
    have hcon := Try.slices_DeleteFunc fl one_fl (fun x => !numF x) 30 #[] (enters_of Try.func30 (by kernel_rfl) rfl) ⟨0, by decide⟩ Try.zeroValue24 g 0 cap zs.toArray w
      (fun W x _ => closure30 x W) (fun n os dk x _ => closure30 x _) hH (by simp; omega) (by simpa using hcap)
    simp only [List.size_toArray, notnum] at hcon
    refine hcon.mono ?_
    rintro e w' ⟨rfl, q, rfl⟩
    have hle := List.length_filter_le numF zs
    refine ⟨_, rfl, ?_, Lib.below_putRow (Below.refl _ _) hg⟩
    have := Lib.ownsRow_putRow (q := q) (k := (zs.filter numF).length) (ys := zs.filter numF ++ List.replicate (zs.length - (zs.filter numF).length) ⟨0, by decide⟩) hO (by rw [List.length_append, List.length_replicate]; omega) hle
    rwa [List.take_left] at this
def cf (x y : F64) : Int := keyCmp x.1 y.1
theorem lt_cf (x y : F64) : ltOf cf x y = decide (key x.1 < key y.1) := by
  have := ltKey_iff x.1 y.1
  unfold ltKey at this
  exact this
theorem swo_cf : SWO (ltOf cf) where
  irrefl x := by rw [lt_cf]; simp
  trans x y z h1 h2 := by rw [lt_cf] at *; simp at *; omega
  ntrans x y z h1 h2 := by rw [lt_cf] at *; simp at *; omega
theorem sorted_cf {d d' : Array F64} (hp : PermIn 0 d.size d d') (hs : SortedIn (ltOf cf) 0 d.size d') : d'.size = d.size ∧ d'.toList.Perm d.toList ∧ d'.toList.Pairwise (fun a b => key a.1 ≤ key b.1) := by
  obtain ⟨h1, _, h3⟩ := hp
  refine ⟨h1, ?_, ?_⟩
  · have e1 : d'.extract 0 d.size = d' := by rw [← h1]; simp
    have e2 : d.extract 0 d.size = d := by simp
    rw [e1, e2] at h3
    exact h3
  · rw [List.pairwise_iff_getElem]
    intro i j hi hj hij
    have hi' : i < d'.size := by simpa using hi
    have hj' : j < d'.size := by simpa using hj
    have h := hs i j (Nat.zero_le _) hij (by omega)
    rw [lt_cf, getElem!_pos d' i hi', getElem!_pos d' j hj'] at h
    have h2 := of_decide_eq_false h
    show key (d'.toList[i]).1 ≤ key (d'.toList[j]).1
    rw [Array.getElem_toList, Array.getElem_toList]
    omega
end Go.Proofs.Ytjlghmjngiegaaa
