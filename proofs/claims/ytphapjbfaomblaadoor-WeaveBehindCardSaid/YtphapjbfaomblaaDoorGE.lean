/- A row copied; a row cut short; append of a row at a step of a region that draws. -/
import Derived.Test.YtphapjbfaomblaaDoorX3
import Derived.Test.YtphapjbfaomblaaDoorGB
import Derived.Test.YtphapjbfaomblaaDoorB
import Derived.RegionTactic
import Derived.Deep.AppendLies
import Derived.Lib.SliceRun
namespace Go.Proofs.YtphapjbfaomblaaDoor
open Go Go.RowKit
theorem own_cut {w : World} {base : Nat} {e : TypeId} {K n m : Nat} {A : Option Addr} {c : Nat} {xs : List Value} (h : w.ownsRow base e K (.slice A n c) n xs) (hm : m ≤ n) : w.ownsRow base e K (.slice A m c) m (xs.take (m * K)) := by
  refine ⟨by rw [List.length_take, h.1]; exact Nat.min_eq_left (Nat.mul_le_mul_right _ hm), ?_⟩
  rcases h.2 with ⟨e1, rfl⟩ | ⟨g, cap, cur, e1, h2, h3, h4, h5, h6, h7⟩
  · cases e1
    exact .inl ⟨by rw [Nat.le_zero.1 hm], Nat.le_zero.1 hm⟩
  · cases e1
    refine .inr ⟨g, c, cur, rfl, h2, h3, by omega, h5, h6, ?_⟩
    rw [← h7, List.take_take, Nat.min_eq_left (Nat.mul_le_mul_right _ hm)]
theorem wp_append_row {P : Program} {w : World} {o : Oper} {a : Act} {K : Act → World → Prop} {Q : Exit → Act → World → Prop} (s x : Operand) (t : TypeId)
    (ho : o.op = .call { callee := .builtin .append, args := #[s, x], argTypes := #[t, t] })
    (base : Nat) (e : TypeId) (i : TypeInfo) (z : Value) (size bytes : Nat) (ht : P.underlying t = some (.slice e)) (hi : P.info? e = some i) (hz : i.zero = some z)
    (hsize : i.size = size) (hby : i.bytes = bytes) (hzs : z.cells.size = size) (hsz : 0 < size)
    (v : Value) (n : Nat) (xs : List Value) (hs : a.eval s = v) (hown : w.ownsRow base e size v n xs)
    (vb : Value) (base' m : Nat) (news : List Value) (hx : a.eval x = vb) (hsrc : w.ownsRow base' e size vb m news) (h1 : ∀ u ∈ news, u.oneCell' = true)
    (h63 : n + m ≤ maxLen) (hbytes : (n + m) * bytes ≤ 140737488355328) (hbase : base ≤ w.heap.size)
    (h : ∀ v' w', w'.ownsRow base e size v' (n + m) (xs ++ news) → w.grownBy w' v.ownBlock → (v'.ownBlock = v.ownBlock ∨ v'.ownBlock = some w.heap.size) → K (a.put o.dst v') w') : o.wp P a w K Q := by
  rcases hsrc.2 with ⟨rfl, rfl⟩ | ⟨g, cap, cur, rfl, _, _, _, _, _, _⟩
  · have hn : news = [] := List.eq_nil_of_length_eq_zero (by simpa using hsrc.1)
    subst hn
    have hr := run_append_owned_none (w := w) base t o.type e i size ht hi v n xs hown
    unfold Oper.wp execOp
    simp only [ho, resolve, invoke, builtin, Sem.run_bind, Sem.run_pure, Result.andThen_ok, List.map_toArray, List.map_cons, List.map_nil, hs, hx, hr]
    exact h v w (by simpa using hown) ⟨rfl, rfl, rfl, Nat.le_refl _, fun _ _ _ => rfl⟩ (.inl rfl)
  · obtain ⟨v', w', hr, h2, h3, _, h5⟩ := run_append_own_at (P := P) w base t o.type e i z size bytes ht hi hz hsize hby hzs hsz v n xs hown ⟨g, 0, none⟩ m cap news hsrc.1 (hsrc.cells (g := g) rfl) h1 h63 hbytes hbase
    unfold Oper.wp execOp
    simp only [ho, resolve, invoke, builtin, Sem.run_bind, Sem.run_pure, Result.andThen_ok, List.map_toArray, List.map_cons, List.map_nil, hs, hx, hr]
    exact h v' w' h2 h3 h5
theorem step_append_row {P : Program} (w : World) {ops : Array Oper} {o : Oper} {a : Act} {K : Act → World → Prop} {Q : Exit → Act → World → Prop} {E : Prop} (hgd : o.guard = none) (s x : Operand) (t : TypeId)
    (ho : o.op = .call { callee := .builtin .append, args := #[s, x], argTypes := #[t, t] })
    (base : Nat) (e : TypeId) (i : TypeInfo) (z : Value) (size bytes : Nat) (ht : P.underlying t = some (.slice e)) (hi : P.info? e = some i) (hz : i.zero = some z)
    (hsize : i.size = size) (hby : i.bytes = bytes) (hzs : z.cells.size = size) (hsz : 0 < size)
    (v : Value) (n : Nat) (xs : List Value) (hs : a.eval s = v) (hown : w.ownsRow base e size v n xs)
    (vb : Value) (base' m : Nat) (news : List Value) (hx : a.eval x = vb) (hsrc : w.ownsRow base' e size vb m news) (h1 : ∀ u ∈ news, u.oneCell' = true)
    (h63 : n + m ≤ maxLen) (hbytes : (n + m) * bytes ≤ 140737488355328) (hbase : base ≤ w.heap.size)
    (h : ∀ v' w', w'.ownsRow base e size v' (n + m) (xs ++ news) → w.grownBy w' v.ownBlock → (v'.ownBlock = v.ownBlock ∨ v'.ownBlock = some w.heap.size) → K (a.put o.dst v') w') :
    if Region.wanted o (yielded ops a.tmps) = true then Oper.wp P o a w K Q else E := by
  have hw : Region.wanted o (yielded ops a.tmps) = true := by simp [Region.wanted, hgd]
  rw [if_pos hw]
  exact wp_append_row s x t ho base e i z size bytes ht hi hz hsize hby hzs hsz v n xs hs hown vb base' m news hx hsrc h1 h63 hbytes hbase h
theorem elC_list (L : List El) : ∀ u ∈ L.flatMap elC, u.oneCell' = true := list_one elC_one L
theorem info84' : (Tryd.prog.info? 84).map (fun i => (i.zero, i.size, i.bytes)) = some (some (.agg #[.int .i64 0, .int .i64 0, .int .i64 0, .string ⟨#[]⟩]), 4, 40) := by kernel_rfl
theorem own_empty {w : World} {base b : Nat} {e : TypeId} {K : Nat} (hb : base ≤ b) (h : w.heap[b]? = some (.cells #[] e (0, 0))) : w.ownsRow base e K (.slice (some ⟨b, 0, none⟩) 0 0) 0 [] :=
  ⟨by simp, .inr ⟨b, 0, #[], rfl, hb, h, Nat.le_refl _, Nat.zero_le _, by simp, by simp⟩⟩
set_option maxRecDepth 100000 in
set_option maxHeartbeats 1000000 in
theorem clone_el (L : List El) (a : Hd) (base : Nat) (w : World) (ho : w.ownsRow base 84 4 (hdV a) L.length (L.flatMap elC)) (hl : L.length ≤ 1000000) :
    Calls Tryd.prog 62 #[hdV a] w fun e w' => ∃ v, e = .returned v ∧ w'.ownsRow w.heap.size 84 4 v L.length (L.flatMap elC) ∧ Below w.heap.size w w' := by
  obtain ⟨i0, hi, hz0, hz1, hz2⟩ := info_parts info84'
  have qe : ∀ (w : World) (A : Option Addr) (n c : Nat), (binOp .eql 75 (.slice A n c) (.slice none 0 0)).run Tryd.prog w = .ok (.bool A.isNone) w := fun w A n c => Lib.run_eql_slice_nil w 75 84 A n c 0 0 Tryd.underlying75
  rcases a with _ | ⟨g, n, c⟩
  · have hL : L = [] := by
      rcases ho.2 with ⟨_, h0⟩ | ⟨g, cap, cur, e, _⟩
      · exact List.eq_nil_of_length_eq_zero h0
      · cases e
    subst hL
    unfold hdV
    clear ho
    go_enter Tryd.func62, Tryd.ntmps62
    go_wp2
    go_ret
    exact ⟨_, rfl, World.ownsRow_nil _ _ _ _, Below.refl _ _⟩
  · have HO := Lib.hid (ho.alloc (.cells #[] 84))
    have hn : n = L.length := by
      rcases ho.2 with ⟨e, _⟩ | ⟨g, cap, cur, e, _⟩
      · cases e
      · cases e; rfl
    subst hn
    have HE := Lib.hid (own_empty (w := w.alloc (.cells #[] 84)) (base := w.heap.size) (K := 4) (Nat.le_refl _) (heap_alloc_new w _))
    unfold hdV at HO ⊢
    clear ho
    go_enter Tryd.func62, Tryd.ntmps62
    go_wp2_with (at_builtin; refine wpList_append_row rfl _ _ 75 rfl w.heap.size 84 i0 _ 4 40 Tryd.underlying75 hi hz0 hz1 hz2 rfl (by decide) _ 0 [] rfl HE.out _ base L.length (L.flatMap elC) rfl HO.out (elC_list L) (by unfold maxLen; omega) (by omega) (by simp) ?_)
    intro v' w' hown hgrow
    have hb : Below w.heap.size w w' := ((Below.refl _ w).alloc (Nat.le_refl _) _).grown hgrow (by simp) (fun k hk => by
      have : k = w.heap.size := by simpa [Value.ownBlock] using hk.symm
      omega)
    have HOn := Lib.hid (show w'.ownsRow w.heap.size 84 4 v' L.length (L.flatMap elC) by simpa using hown)
    clear hown hgrow
    go_wp2
    go_ret
    exact ⟨_, rfl, HOn.out, hb⟩
end Go.Proofs.YtphapjbfaomblaaDoor
