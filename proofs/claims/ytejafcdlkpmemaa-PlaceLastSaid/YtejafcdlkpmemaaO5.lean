/- Arguments that are steps: opened. -/
import Derived.Test.YtejafcdlkpmemaaO2
namespace Go.Proofs.Ytejafcdlkpmemaa
open Go Go.RowKit Go.ChangeShapes Go.WideShapes
structure Step where
  nd : Nat
  pa : Nat
  tm : Nat
  hn : nd < 256
  hp : pa < 256
  ht : tm < 256
def stepC (x : Step) : List Value := [.int .u8 x.nd, .int .u8 x.pa, .int .u8 x.tm]
theorem co121 : Try.prog.cellsOf 121 = 3 := by kernel_rfl
section
variable {H : Type} {enc : TypeId × Value → H} {W : World} {base : Nat} {sp : Nat → Bool} {held : Bool}
theorem trod121 {n : Nat} {cs : List Value} {y : DataW H × List MemPlace} (h : DataW.trod enc Try.prog W base sp held n 121 cs = some y) : ∃ x : Step, cs = stepC x := by
  cases n with
  | zero => simp [DataW.trod] at h
  | succ n =>
    rw [DataW.trod_step] at h
    unfold DataW.trodStep at h
    simp only [Try.underlying121] at h
    split at h
    · rename_i hl
      rw [co121] at hl
      obtain ⟨c0, c1, c2, rfl⟩ := len3 hl
      simp [co5, Option.bind_eq_some_iff] at h
      obtain ⟨_, _, h0, _, ⟨_, _, h1, _, ⟨_, _, h2, _⟩, _⟩, _⟩ := h
      obtain ⟨a, ha, wa⟩ := trod5 h0
      obtain ⟨b, hb, wb⟩ := trod5 h1
      obtain ⟨c, hc, wc⟩ := trod5 h2
      cases wa; cases wb; cases wc
      exact ⟨⟨a, b, c, ha, hb, hc⟩, rfl⟩
    · cases h
set_option maxRecDepth 1000000 in
theorem open_steps {v : Value} {d : DataW H} {ps : List MemPlace} (hval : Value.okWide Try.prog W .any base 65 v) (h : DataW.Trod enc Try.prog W 0 (fun _ => true) true 65 v d ps) :
    ∃ (A : Option Addr) (n c : Nat) (L : List Step), v = .slice A n c ∧ Rd W W.heap.size 3 (.slice A n c) n (L.flatMap stepC) := by
  obtain ⟨A, n, c, m, E, D, Pl, rfl, hR, _, _, hE⟩ := open_rd (k := 3) Try.underlying65 co121 (by decide) hval h
  obtain ⟨L, _, hL⟩ := list_of (f := stepC) n E (fun i hi => trod121 (hE i hi).2)
  exact ⟨A, n, c, L, rfl, hL ▸ hR⟩
end
end Go.Proofs.Ytejafcdlkpmemaa
