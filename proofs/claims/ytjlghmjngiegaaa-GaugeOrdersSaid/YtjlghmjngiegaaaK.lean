/- What all rows share: a law that returns true and leaves what was there as it was meets its row; slices that came in, opened to their cells. Plain, over any program. -/
import Derived.Deep.DeepHandedRow
import Derived.Deep.DeepWitnessRowRef
import Derived.Deep.Slices
import Derived.ProofKit
import Derived.OpenShut
import Derived.SizedLaws
import Derived.Carry
import Derived.Laws.Cover2
import Derived.Test.YtjlghmjngiegaaaV1
namespace Go.Proofs.Ytjlghmjngiegaaa
open Go Go.RowKit Go.ChangeShapes Go.WideShapes Go.ChangeAt
section
variable {H : Type} {enc : TypeId × Value → H} {P : Program}
theorem trodAll_below (hl : laidOutB P = true) : ∀ (ts : List TypeId) (vs : List Value) (ds : List (DataW H)) (ps : List MemPlace) {W W' : World}, (∀ t ∈ ts, P.readableRec t = true ∧ t < P.types.size) →
    DataW.TrodAll enc P W 0 (fun _ => true) true ts vs ds ps → Below W.heap.size W W' → (∀ x ∈ ps, x.block < W.heap.size) →
    DataW.TrodAll enc P W' 0 (fun b => decide (b < W.heap.size)) true ts vs ds ps
  | [], _, _, _, _, _, _, h, _, _ => by
    obtain ⟨rfl, rfl, rfl⟩ := trodAll_nil h
    exact trodAll_mk0
  | t :: ts, _, _, _, _, _, hr, h, hb, hlt => by
    obtain ⟨v, vs, d, ds, p, q, rfl, rfl, rfl, h1, h2⟩ := trodAll_cons h
    have ht := hr t (by simp)
    exact trodAll_cons_mk (Below.trod hl ht.1 ht.2 h1 hb (fun x hx => hlt x (by simp [hx])))
      (trodAll_below hl ts vs ds q (fun t' ht' => hr t' (by simp [ht'])) h2 hb (fun x hx => hlt x (by simp [hx])))
theorem params_ok {l : List TypeId} (h : (l.all fun t => P.readableRec t && decide (t < P.types.size)) = true) : ∀ t ∈ l, P.readableRec t = true ∧ t < P.types.size := fun t ht => by
  have := List.all_eq_true.1 h t ht
  simpa using this
theorem law_post {fn : Func} {s : ChangeSpec} {W W' : World} {args : Array Value} {ds gs : List (DataW H)} {before : List MemPlace} {tb : TypeId}
    (hl : laidOutB P = true) (hr : ∀ t ∈ fn.params.toList, P.readableRec t = true ∧ t < P.types.size) (hv : s.vars = []) (hres : fn.resultTypes = #[tb]) (hb : P.underlying tb = some .bool)
    (hfn : ∀ ds : List (DataW H), ds.length = fn.params.toList.length → s.fn H ds = { results := [.lit (.bool true)], args := ds })
    (hW : DataW.Whole enc P fn.params.toList s.vars false W args.toList ds gs before) (bel : Below W.heap.size W W') :
    s.post enc P fn false true false false W args (.bool true) W' := by
  have hW' := hW
  obtain ⟨p, q, hA, hV, hpq, _, _⟩ := hW
  have hlen : ds.length = fn.params.toList.length := by
    have : ∀ (ts : List TypeId) (vs : List Value) (ds : List (DataW H)) (ps : List MemPlace), DataW.TrodAll enc P W 0 (fun _ => true) true ts vs ds ps → ds.length = ts.length := by
      intro ts
      induction ts with
      | nil => intro vs ds ps h; obtain ⟨_, rfl, _⟩ := trodAll_nil h; rfl
      | cons t ts ih =>
        intro vs ds ps h
        obtain ⟨v, vs, d, ds, p, q, rfl, rfl, rfl, _, h2⟩ := trodAll_cons h
        rw [List.length_cons, List.length_cons, ih _ _ _ h2]
    exact this _ _ _ _ hA
  have hgs : gs = [] := by rw [hv] at hV; exact (trodVars_none hV).1
  subst hgs
  have e1 : s.fn H (ds ++ []) = { results := [.lit (.bool true)], args := ds } := by rw [List.append_nil]; exact hfn ds hlen
  refine ⟨ds, [], before, [], p, [], hW', ?_, ?_, ?_, bel.frame _, fun h => by cases h⟩
  · rw [e1, hres]
    exact trodAll_mk1 (shut_bool hb true)
  · rw [e1]
    exact trodAll_below hl _ _ _ _ hr hA bel (fun x hx => hW'.lt x (by rw [hpq]; simp [hx]))
  · rw [e1, hv]
    rfl
theorem law_lifted {C : Checked} {os : Os} {f : FuncId} {fn : Func} {s : ChangeSpec} {tb : TypeId} {laid : List (String × DataW Unit)} {F : Stop.Interp}
    (own : ownKnob C.prog.godebug = none) (started : os.Started) (noInit : C.prog.inits.idxOf? f = none) (hfnn : C.prog.funcs[f]? = some fn)
    (witness : ∃ (w : World) (tape : Tape) (i : Input), w.os = os ∧ (w.forCall tape i).Shaped C.prog ∧ i.vars = [] ∧ Input.okWide C.prog (w.forCall tape i) .any w.heap.size f i ∧
      (OpenSpec.ofChange s).preRow enc C.prog fn [] false laid (w.forCall tape i).memory i.args ∧ ({} : Assume).holds C.prog (lone (Frame.enter C.prog f i.args .normal) [] (w.forCall tape i)))
    (hl : laidOutB C.prog = true) (hr : ∀ t ∈ fn.params.toList, C.prog.readableRec t = true ∧ t < C.prog.types.size) (hv : s.vars = []) (hres : fn.resultTypes = #[tb]) (hb : C.prog.underlying tb = some .bool)
    (hfn : ∀ ds : List (DataW H), ds.length = fn.params.toList.length → s.fn H ds = { results := [.lit (.bool true)], args := ds })
    (contract : ∀ (W : World) (base : Nat) (args : Array Value) (ds : List (DataW H)) (ps : List MemPlace),
      (∀ (j : Nat) t v, fn.params[j]? = some t → args[j]? = some v → Value.okWide C.prog W .any base t v) →
      DataW.TrodAll enc C.prog W 0 (fun _ => true) true fn.params.toList args.toList ds ps →
      (DataW.weightsEach C.prog fn.params.toList ds).all (· ≤ reachBytes) = true →
      laidMetH C.prog laid W → W.ShapedOpen C.prog →
      Calls C.prog f args W fun e W' => e = .returned (.bool true) ∧ Below W.heap.size W W') :
    ReturnsInHanded {} C os f .any ((OpenSpec.ofChange s).preRow enc C.prog fn [] false laid) (((OpenSpec.ofChange s).at F).post enc C.prog fn false true false false) := by
  refine returnsInHanded_of_row (C := C) (s := OpenSpec.ofChange s) own started noInit hfnn witness ?_
  intro W base args ds gs before hval hW _ _ hwt hL hsh _
  have hv' : (OpenSpec.ofChange s).vars = [] := hv
  have hW0 := hW
  obtain ⟨p, q, hA, hV, hpq, _, _⟩ := hW
  have hgs : gs = [] := by rw [hv'] at hV; exact (trodVars_none hV).1
  subst hgs
  have hvt : (OpenSpec.ofChange s).bare.plain.varTypes C.prog = [] := by
    show (s.vars.filterMap _) = []
    rw [hv]; rfl
  rw [hvt, List.append_nil, List.append_nil] at hwt
  refine (contract W base args ds p hval hA hwt hL hsh).mono ?_
  rintro e W' ⟨rfl, bel⟩
  exact ⟨_, rfl, law_post hl hr hv hres hb hfn hW0 bel⟩
/-! slices that came in -/
theorem flat_get {k n : Nat} {E : Nat → List Value} (hE : ∀ i, i < n → (E i).length = k) : ∀ (j : Nat) (u : Value), ((List.range n).flatMap E)[j]? = some u → ∃ i r, i < n ∧ r < k ∧ j = i * k + r ∧ (E i)[r]? = some u := by
  induction n with
  | zero => intro j u h; simp at h
  | succ n ih =>
    intro j u h
    have hlen : ((List.range n).flatMap E).length = n * k := by
      rw [List.length_flatMap]
      have : ((List.range n).map fun a => (E a).length) = (List.range n).map fun _ => k := by
        apply List.map_congr_left
        intro a ha
        exact hE a (by have := List.mem_range.1 ha; omega)
      rw [this]
      simp [List.map_const', List.sum_replicate_nat]
    rw [List.range_succ, List.flatMap_append, List.getElem?_append] at h
    split at h
    · obtain ⟨i, r, h1, h2, h3, h4⟩ := ih (fun i hi => hE i (by omega)) j u h
      exact ⟨i, r, by omega, h2, h3, h4⟩
    · rw [hlen] at h
      simp only [List.flatMap_cons, List.flatMap_nil, List.append_nil] at h
      have hr : j - n * k < (E n).length := (List.getElem?_eq_some_iff.1 h).1
      rw [hE n (by omega)] at hr
      exact ⟨n, j - n * k, by omega, hr, by omega, h⟩
theorem flat_len {k n : Nat} {E : Nat → List Value} (hE : ∀ i, i < n → (E i).length = k) : ((List.range n).flatMap E).length = n * k := by
  rw [List.length_flatMap]
  have : ((List.range n).map fun a => (E a).length) = (List.range n).map fun _ => k := by
    apply List.map_congr_left
    intro a ha
    exact hE a (List.mem_range.1 ha)
  rw [this]
  simp [List.map_const', List.sum_replicate_nat]
/-- A SLICE ARGUMENT: it reads as its elements' cells, one behind the other; each element reads by itself. -/
theorem open_rd {t e : TypeId} {k : Nat} {W : World} {base : Nat} {v : Value} {d : DataW H} {ps : List MemPlace} (ht : P.underlying t = some (.slice e)) (hk : P.cellsOf e = k) (hk0 : 0 < k)
    (hval : Value.okWide P W .any base t v) (h : DataW.Trod enc P W 0 (fun _ => true) true t v d ps) :
    ∃ (A : Option Addr) (n c m : Nat) (E : Nat → List Value) (D : Nat → DataW H) (Pl : Nat → List MemPlace), v = .slice A n c ∧ Rd W W.heap.size k (.slice A n c) n ((List.range n).flatMap E) ∧
      (d = .nil ∨ ∃ r, d = .slice ((List.range n).map D) r) ∧ (d = .nil → n = 0) ∧
      ∀ i, i < n → (E i).length = k ∧ DataW.trod enc P W 0 (fun _ => true) true m e (E i) = some (D i, Pl i) := by
  obtain ⟨A, n, c, rfl⟩ := okWide_slice ht hval
  obtain ⟨fuel, hf⟩ := h
  rcases Go.Deep.open_slice ht hf with ⟨hcs, hx⟩ | ⟨a, len, cap, m, n', D, Pl, hcs, _, hl, hm, hmm, hx, hi⟩
  · simp only [Value.cells] at hcs
    obtain ⟨rfl, rfl, rfl⟩ : A = none ∧ n = 0 ∧ c = 0 := by simpa using hcs
    exact ⟨none, 0, 0, 0, fun _ => [], fun _ => .nil, fun _ => [], rfl, Rd.nil _ _ _, .inl (congrArg Prod.fst hx), fun _ => rfl, fun i hi => absurd hi (by omega)⟩
  · simp only [Value.cells] at hcs
    obtain ⟨rfl, rfl, rfl⟩ : A = some a ∧ n = len ∧ c = cap := by simpa using hcs
    rw [hk] at hi
    have hle : n ≤ m := by rw [hmm]; split <;> omega
    have hE : ∀ i, ∃ cs', i < n → (cs'.length = k ∧ W.cells? 0 (a.add (i * k)) k = some cs' ∧ DataW.trod enc P W 0 (fun _ => true) true n' e cs' = some (D i, Pl i)) := by
      intro i
      by_cases h : i < n
      · obtain ⟨cs', h1, h2⟩ := hi i (by omega)
        exact ⟨cs', fun _ => ⟨(World.cells?_some h1).2.1, h1, h2⟩⟩
      · exact ⟨[], fun h' => absurd h' h⟩
    obtain ⟨E, hE'⟩ := Classical.axiomOfChoice hE
    have hx1 : d = .slice ((List.range n).map D) ((List.range (m - n)).map fun j => D (n + j)) := congrArg Prod.fst hx
    have hnil : d = .nil → n = 0 := by
      intro hd
      rw [hx1] at hd
      cases hd
    refine ⟨some a, n, c, n', E, D, Pl, rfl, ⟨flat_len (fun i hi => (hE' i hi).1), some a, c, rfl, hl, hm, fun hn => ?_⟩, .inr ⟨_, hx1⟩, hnil, fun i hi => ⟨(hE' i hi).1, (hE' i hi).2.2⟩⟩
    have hcell : ∀ i r u, i < n → r < k → (E i)[r]? = some u → W.cell? (a.add (i * k + r)) = some u := by
      intro i r u hin hr hu
      have := (World.cells?_some (hE' i hin).2.1).2.2 r hr
      rw [Go.Deep.add_add] at this
      rw [this, hu]
    obtain ⟨b, off, spot⟩ := a
    have h0 : ∃ u, W.cell? ⟨b, off, spot⟩ = some u := by
      have hl0 := (hE' 0 hn).1
      have := hcell 0 0 ((E 0)[0]'(by omega)) hn hk0 (List.getElem?_eq_getElem (by omega))
      exact ⟨_, by simpa [Addr.add] using this⟩
    obtain ⟨u0, hu0⟩ := h0
    have hspot : spot = none := by simpa using World.cell?_spot hu0
    subst hspot
    refine ⟨b, off, rfl, ?_, fun j u hu => ?_⟩
    · exact World.block_lt_of_cell? W _ hu0
    · obtain ⟨i, r, hi1, hr, rfl, hu'⟩ := flat_get (fun i hi => (hE' i hi).1) j u hu
      have := hcell i r u hi1 hr hu'
      rw [Go.WideShapes.add_plain] at this
      exact this
theorem trod_float {t : TypeId} {k : FloatKind} {W : World} {base : Nat} {sp : Nat → Bool} {held : Bool} {n : Nat} {v : Value} {y : DataW H × List MemPlace} (ht : P.underlying t = some (.float k)) (h : DataW.trod enc P W base sp held n t [v] = some y) :
    ∃ b, v = .float k b ∧ y.1 = .lit (.float k b) ∧ (Lit.float k b).wf = true := by
  cases n with
  | zero => simp [DataW.trod] at h
  | succ n =>
    simp only [DataW.trod, ht] at h
    cases v <;> simp at h
    obtain ⟨⟨rfl, hw⟩, rfl⟩ := h
    exact ⟨_, rfl, rfl, hw⟩
end
end Go.Proofs.Ytjlghmjngiegaaa
