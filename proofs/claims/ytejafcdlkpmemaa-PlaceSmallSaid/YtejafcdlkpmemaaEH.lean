/- Heads of groups: cells, their order. -/
import Derived.Test.YtejafcdlkpmemaaEP
import Derived.Test.YtejafcdlkpmemaaB
import Derived.Test.YtejafcdlkpmemaaR
namespace Go.Proofs.Ytejafcdlkpmemaa
open Go Go.RowKit
def hdC (h : Head) : List Value := [.int .i64 h.nm.T, .int .i64 h.nm.R, .int .i64 h.un.T, .int .i64 h.un.R]
def hdV (h : Head) : Value := .agg #[.int .i64 h.nm.T, .int .i64 h.nm.R, .int .i64 h.un.T, .int .i64 h.un.R]
theorem hdC_one (x : Head) : ∀ u ∈ hdC x, u.oneCell' = true := by
  intro u hu
  simp [hdC] at hu
  rcases hu with rfl | rfl | rfl | rfl <;> rfl
def hcmp (a b : Head) : Int := a.nm.cmp b.nm
set_option maxHeartbeats 1000000 in
theorem headCmp_any (a b : Head) (w : World) : Calls Try.prog 73 #[hdV a, hdV b] w fun e w' => e = .returned (.int .i64 (hcmp a b)) ∧ Grows w w' := by
  have HC := Lib.hid (fun W => scmp_any a.nm b.nm W)
  unfold stV at HC
  unfold hdV hcmp
  go_enter Try.func73, Try.ntmps73
  go_wp2_with fail
  refine (HC.out _).mono ?_
  rintro e w2 ⟨rfl, hg⟩
  have HG := Lib.hid ((((Grows.refl w).alloc _).alloc _).trans hg)
  clear hg
  go_wp2
  go_ret
  exact ⟨rfl, HG.out⟩
end Go.Proofs.Ytejafcdlkpmemaa
