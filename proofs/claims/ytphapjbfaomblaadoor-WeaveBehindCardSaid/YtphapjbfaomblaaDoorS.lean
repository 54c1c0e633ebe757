/- A row of the call's own, sorted by the library. -/
import Derived.Test.YtphapjbfaomblaaDoorB
import Derived.Test.YtphapjbfaomblaaDoorR
import Derived.Test.YtphapjbfaomblaaDoorP
import Derived.Test.YtphapjbfaomblaaDoorShelf
import Derived.Test.YtphapjbfaomblaaDoorGA
import Derived.Shelf.SlSortCmp.NoneTotal
namespace Go.Proofs.YtphapjbfaomblaaDoor
open Go Go.RowKit Go.Sort Go.Shelf
theorem flatK_list {α : Type} [Inhabited α] (enc : α → List Value) (k : Nat) (hk : ∀ x, (enc x).length = k) (L : List α) : flatK enc k L.toArray = (L.flatMap enc).toArray := by
  refine Go.Sort.ext_get! (by simp [flatl enc k hk]) fun t ht => ?_
  have ht' : t < L.length * k := by simpa using ht
  have k0 : 0 < k := by
    rcases Nat.eq_zero_or_pos k with h | h
    · subst h; simp at ht'
    · exact h
  have hi : t / k < L.length := Nat.div_lt_of_lt_mul (by rw [Nat.mul_comm]; exact ht')
  have hm := Nat.mod_lt t k0
  have e : t / k * k + t % k = t := by rw [Nat.mul_comm]; exact Nat.div_add_mod t k
  have hL : L = L.take (t / k) ++ L[t / k] :: L.drop (t / k + 1) := by rw [← List.drop_eq_getElem_cons, List.take_append_drop]
  have h := flat_mid enc k hk (L.take (t / k)) (L.drop (t / k + 1)) L[t / k] (t % k) ((enc L[t / k])[t % k]'(by rw [hk]; exact hm)) (List.getElem?_eq_getElem _)
  rw [← hL, List.length_take, Nat.min_eq_left (Nat.le_of_lt hi), e] at h
  rw [get_flatK enc k _ t (by simpa using ht')]
  have hlt : t < (L.flatMap enc).length := by rw [flatl enc k hk]; exact ht'
  rw [List.getElem?_eq_getElem hlt] at h
  simp only [Option.some.injEq] at h
  rw [getElem!_pos (L.flatMap enc).toArray t (by simpa using hlt), getElem!_pos L.toArray (t / k) (by simpa using hi)]
  simp only [List.getElem_toArray]
  rw [h, getElem!_pos _ _ (by rw [hk]; exact hm)]
theorem heap_sortK {w : World} {g n : Nat} {os : Array Obj} {cur : Array Value} {e : TypeId} {fr : Nat × Nat} (F : Array Value) (hb : w.heap[g]? = some (.cells cur e fr)) :
    (grow (putRow id (Sort.ahead w n) g 0 F) os).heap[g]? = some (.cells (putCells id 0 F cur) e fr) := by
  have hg : g < w.heap.size := (Array.getElem?_eq_some_iff.1 hb).1
  rw [heap_grow_old _ _ (by simpa using hg)]
  simp [putRow, mapBlock, Sort.ahead, Array.getElem?_modify, hb, onCells]
theorem grown_sortK {w : World} {g n : Nat} {os : Array Obj} (F : Array Value) : w.grownBy (grow (putRow id (Sort.ahead w n) g 0 F) os) (some g) := by
  refine ⟨rfl, rfl, rfl, ?_, fun k hk hne => ?_⟩
  · simp
  · rw [heap_grow_old _ _ (by simp; omega)]
    have : g ≠ k := fun e => hne (by rw [e])
    simp [putRow, mapBlock, Sort.ahead, Array.getElem?_modify, this]
theorem put_list (xs ys R : List Value) (h : ys.length = xs.length) : putCells id 0 ys.toArray (xs ++ R).toArray = (ys ++ R).toArray := by
  apply Array.ext_getElem?
  intro j
  by_cases hj : j < ys.length
  · have : j < (xs ++ R).length := by simp; omega
    simp [putCells, hj, List.getElem?_append_left hj]
    rw [List.getElem?_eq_getElem this]; simp
  · simp [putCells, List.getElem?_append_right (show ys.length ≤ j by omega), List.getElem?_append_right (show xs.length ≤ j by omega), h]
    have hx : ¬ j < xs.length := by omega
    simp [hx]
/-- what comes of SortFunc's own words -/
theorem sorted_parts {α : Type} [Inhabited α] {lt : α → α → Bool} {d d' : Array α} (hp : PermIn 0 d.size d d') (hs : SortedIn lt 0 d.size d') : d'.toList.Perm d.toList ∧ d'.toList.Pairwise (fun a b => lt b a = false) := by
  obtain ⟨h1, _, h3⟩ := hp
  refine ⟨?_, ?_⟩
  · have e1 : d'.extract 0 d.size = d' := by rw [← h1]; simp
    have e2 : d.extract 0 d.size = d := by simp
    rw [e1, e2] at h3
    exact h3
  · rw [List.pairwise_iff_getElem]
    intro i j hi hj hij
    have hi' : i < d'.size := by simpa using hi
    have hj' : j < d'.size := by simpa using hj
    have h := hs i j (Nat.zero_le _) hij (by omega)
    rw [getElem!_pos d' i hi', getElem!_pos d' j hj'] at h
    rw [Array.getElem_toList, Array.getElem_toList]
    exact h
theorem sort_own {ρ : Ren} {α : Type} [Inhabited α] (L : SlLaysF0.n6 Tryd.prog ρ) (k : Nat) (aE : ∀ w, (isAgg (ρ.t 24)).run Tryd.prog w = .ok true w) (zE : ∀ w, (Go.sizeOf (ρ.t 24)).run Tryd.prog w = .ok k w) (enc : α → List Value) (hk : ∀ x, (enc x).length = k) (h1 : ∀ x, ∀ v ∈ enc x, v.oneCell' = true)
    (cf : α → α → Int) (hO : SWO (Go.Proofs.ltOf cf)) (g : Nat) (cb : Array Value) (eg : ∀ args w, (callFunc g args).run Tryd.prog w = .ok (.enter g args) w) (hcmp : ∀ x y W, Calls Tryd.prog g (#[.agg (enc x).toArray, .agg (enc y).toArray] ++ cb) W fun e W' => e = .returned (.int .i64 (cf x y)) ∧ Grows W W')
    (xs : List α) (v : Value) (e : TypeId) (base : Nat) (w : World) (ho : w.ownsRow base e k v xs.length (xs.flatMap enc)) (hsl : xs.length < 4611686018427387904) :
    Calls Tryd.prog (ρ.f 6) #[v, .func (.func g) #[] cb] w fun r w' => r = .returned (.tuple #[]) ∧ ∃ ys : List α, ys.Perm xs ∧ ys.Pairwise (fun a b => ¬ cf b a < 0) ∧ w'.ownsRow base e k v ys.length (ys.flatMap enc) ∧ w.grownBy w' v.ownBlock := by
  rcases ho.2 with ⟨rfl, h0⟩ | ⟨gb, cap, cur, rfl, hb, hg, hnc, hm, hs, ht⟩
  · have hx : xs = [] := List.eq_nil_of_length_eq_zero h0
    subst hx
    refine (AnyF.slices_SortFunc_none L none 0 _ w).mono ?_
    rintro r w' ⟨rfl, rfl⟩
    exact ⟨rfl, [], List.Perm.refl _, List.Pairwise.nil, ho, ⟨rfl, rfl, rfl, Nat.le_refl _, fun _ _ _ => rfl⟩⟩
  · have hgl : gb < w.heap.size := (Array.getElem?_eq_some_iff.1 hg).1
    have hH : HoldsK enc k w gb 0 xs.toArray := by
      unfold HoldsK
      rw [flatK_list enc k hk]
      intro j hj
      have hj' : j < (xs.flatMap enc).length := by simpa using hj
      have := own_cell ho j _ (List.getElem?_eq_getElem hj')
      rw [Nat.zero_add, getElem!_pos _ j (by simpa using hj')]
      simpa using this
    have hsz : xs.toArray.size < 4611686018427387904 := by
      simpa using hsl
    have hc : CmpLays Tryd.prog g cb enc k cf gb 0 xs.toArray.size w := fun m os dk _ x y => hcmp x y _
    have hS := AnyQ.slices_SortFunc L k aE zE enc hk h1 cf hO g cb gb 0 cap xs.toArray w eg hc hH hgl hsz
    rw [List.size_toArray] at hS
    refine hS.mono ?_
    rintro r w' ⟨rfl, d', n, os, hp, hs', rfl⟩
    obtain ⟨p1, p2⟩ := sorted_parts (d := xs.toArray) (by simpa using hp) (by simpa using hs')
    have hl : d'.toList.length = xs.length := p1.length_eq
    obtain ⟨R, hR⟩ : ∃ R, cur = (xs.flatMap enc ++ R).toArray := ⟨cur.toList.drop (xs.length * k), by rw [← ht, List.take_append_drop]⟩
    subst hR
    have hF : flatK enc k d' = (d'.toList.flatMap enc).toArray := by rw [← flatK_list enc k hk]
    refine ⟨rfl, d'.toList, p1, ?_, ?_, ?_⟩
    · refine p2.imp ?_
      intro a b h
      exact of_decide_eq_false h
    · unfold sortWorldK putRowK
      rw [hF, hl]
      have hlf : (d'.toList.flatMap enc).length = (xs.flatMap enc).length := by rw [flatl enc k hk, flatl enc k hk, hl]
      refine own_mk (R := R) ?_ hb hnc hm (by rw [heap_sortK _ hg, put_list _ _ _ hlf]) ?_
      · rw [flatl enc k hk, hl]
      · rw [List.length_append, hlf, ← List.length_append]; simpa using hs
    · unfold sortWorldK putRowK
      exact grown_sortK _
theorem id_swo : SWO (Go.Proofs.ltOf Id.cmp) where
  irrefl x := by
    rcases h : Go.Proofs.ltOf Id.cmp x x with _ | _
    · rfl
    · exact absurd ((icmp_id_neg x x).1 (of_decide_eq_true h)) (idSTO.irrefl x)
  trans x y z h1 h2 := by
    refine decide_eq_true ((icmp_id_neg x z).2 ?_)
    exact idSTO.trans _ _ _ ((icmp_id_neg x y).1 (of_decide_eq_true h1)) ((icmp_id_neg y z).1 (of_decide_eq_true h2))
  ntrans x y z h1 h2 := by
    have a1 := fun h => of_decide_eq_false h1 ((icmp_id_neg x y).2 h)
    have a2 := fun h => of_decide_eq_false h2 ((icmp_id_neg y z).2 h)
    refine decide_eq_false (fun h => ?_)
    have h := (icmp_id_neg x z).1 h
    rcases idSTO.total x y with t | t | t
    · exact a1 t
    · subst t; exact a2 h
    · exact a2 (idSTO.trans _ _ _ t h)
theorem swo_key {α β : Type} {cf : β → β → Int} (h : SWO (Go.Proofs.ltOf cf)) (f : α → β) : SWO (Go.Proofs.ltOf fun a b => cf (f a) (f b)) where
  irrefl x := h.irrefl (f x)
  trans x y z := h.trans (f x) (f y) (f z)
  ntrans x y z := h.ntrans (f x) (f y) (f z)
instance : Inhabited El := ⟨⟨zeroI, zeroI, ⟨#[]⟩⟩⟩
set_option maxHeartbeats 1000000 in
theorem elCmp_any (a b : El) (w : World) : Calls Tryd.prog 75 #[.agg (elC a).toArray, .agg (elC b).toArray] w fun e w' => e = .returned (.int .i64 (a.id.cmp b.id)) ∧ Grows w w' := by
  have H := Lib.hid (fun W => scmpId_any a.id b.id W)
  unfold idV at H
  unfold elC
  go_enter Tryd.func75, Tryd.ntmps75
  go_wp2_with fail
  refine (H.out _).mono ?_
  rintro e w1 ⟨rfl, hg⟩
  go_wp2
  go_ret
  exact ⟨rfl, (((Grows.refl w).alloc _).alloc _).trans hg⟩
theorem sortEl_own (xs : List El) (v : Value) (base : Nat) (w : World) (ho : w.ownsRow base 84 4 v xs.length (xs.flatMap elC)) (hsl : xs.length < 4611686018427387904) :
    Calls Tryd.prog 74 #[v, .func (.func 75) #[] #[]] w fun r w' => r = .returned (.tuple #[]) ∧ ∃ ys : List El, ys.Perm xs ∧ ys.Pairwise (fun a b => ¬ b.id.cmp a.id < 0) ∧ w'.ownsRow base 84 4 v ys.length (ys.flatMap elC) ∧ w.grownBy w' v.ownBlock :=
  sort_own Tryd.laysSlF06_f74 4 Tryd.isAgg84 Tryd.sizeOf84 elC (fun _ => rfl) elC_one (fun a b => a.id.cmp b.id) (swo_key id_swo El.id) 75 #[] (enters_of Tryd.func75 (by kernel_rfl) rfl) (fun x y W => elCmp_any x y W) xs v 84 base w ho hsl
end Go.Proofs.YtphapjbfaomblaaDoor
