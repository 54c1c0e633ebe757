/- The gauge's walks: NaN, size, number, key, order of two floats, bits. -/
import Derived.WalkLawsBesides
import Derived.WalkKit
import Derived.ProofKit
import Derived.Laws.Externs
import Derived.Laws.FloatArith
import Derived.Lib.Hide
import Derived.Test.YtjlghmjngiegaaaProg
import Derived.Test.YtjlghmjngiegaaaP2
namespace Go.Proofs.Ytjlghmjngiegaaa
open Go Go.Gauge Go.RowKit
theorem ret_b {a b : Bool} (h : a = b) : Ending.returned (.bool a) = Ending.returned (.bool b) := by rw [h]
theorem ret_i {k : IntKind} {a b : Int} (h : a = b) : Ending.returned (.int k a) = Ending.returned (.int k b) := by rw [h]
theorem call35 (x : Nat) (w : World) : (callFunc 35 #[.float .f64 x]).run Try.prog w = .ok (.value (.int .u64 (x : Nat))) w := by
  rw [run_callFunc_extern (e := Extern.MathFloatBits.float64bits) Try.func35 (by kernel_rfl) rfl (by kernel_rfl) (by kernel_rfl)]
  rfl
theorem call38 (n : Int) (w : World) : (callFunc 38 #[.int .u64 n]).run Try.prog w = .ok (.value (.float .f64 n.toNat)) w := by
  rw [run_callFunc_extern (e := Extern.MathFloatBits.float64frombits) Try.func38 (by kernel_rfl) rfl (by kernel_rfl) (by kernel_rfl)]
  rfl
theorem isNaN_any (x : Nat) (w : World) : Calls Try.prog 34 #[.float .f64 x] w fun e w' => e = .returned (.bool (nan x)) ∧ w = w' := by
  have h : ∀ b, (FloatKind.f64.format.order x x != some .eq) = b → b = nan x := fun b h => by rw [← h]; exact ne_self x
  have H := Lib.hid h
  clear h
  go_enter Try.func34, Try.ntmps34
  go_wp2
  go_ret
  exact ⟨ret_b (H.out _ rfl), rfl⟩
/-- a float's key, as the walk spells it -/
theorem key_raw (x : Nat) (hx : x < 18446744073709551616) : bits .xor .i64 (wrap64 (x : Int)) (wrap64 (IntKind.u64.wrap (wrap64 (x : Int) / 9223372036854775808) / 2)) = if neg x then -(rung x : Int) - 1 else rung x := by
  have hw := word_eq hx
  have hr := rung_lt x
  have hS : (S : Int) = 9223372036854775808 := rfl
  cases hn : neg x
  · rw [hn] at hw
    simp only [Bool.false_eq_true, if_false, Nat.zero_add] at hw
    have e1 : wrap64 (x : Int) = rung x := by rw [← hw]; unfold wrap64; omega
    rw [e1]
    have e2 : (rung x : Int) / 9223372036854775808 = 0 := by omega
    rw [e2]
    have e3 : wrap64 (IntKind.u64.wrap 0 / 2) = 0 := by decide +kernel
    rw [e3]
    simpa using key_pos _ hr
  · rw [hn] at hw
    simp only [if_true] at hw
    have hw' : (x : Int) = 9223372036854775808 + rung x := by
      have : ((S + rung x : Nat) : Int) = 9223372036854775808 + rung x := by rw [Int.natCast_add]; rfl
      rw [← this, ← hw]
    have e1 : wrap64 (x : Int) = (rung x : Int) - 9223372036854775808 := by rw [hw']; unfold wrap64; omega
    rw [e1]
    have e2 : ((rung x : Int) - 9223372036854775808) / 9223372036854775808 = -1 := by omega
    rw [e2]
    have e3 : wrap64 (IntKind.u64.wrap (-1) / 2) = 9223372036854775807 := by decide +kernel
    rw [e3]
    simpa using key_neg _ hr
set_option maxHeartbeats 400000 in
theorem key_any (x : Nat) (hx : x < 18446744073709551616) (w : World) : Calls Try.prog 33 #[.float .f64 x] w fun e w' => e = .returned (.int .i64 (key x)) ∧ w = w' := by
  have hne : (FloatKind.f64.format.order x x != some .eq) = nan x := ne_self x
  have hkr := Lib.hid (key_raw x hx)
  clear hx
  cases hn : nan x
  · rw [hn] at hne
    have hk : key x = if neg x then -(rung x : Int) - 1 else rung x := by unfold key; rw [hn]; rfl
    have HK := Lib.hid hk
    clear hk hn
    go_enter Try.func33, Try.ntmps33
    go_wp2_with fail
    rw [call35]
    go_wp2
    go_ret
    exact ⟨ret_i (by rw [HK.out, hkr.out]), rfl⟩
  · rw [hn] at hne
    have HK := Lib.hid (key_nan.2 hn)
    clear hn
    go_enter Try.func33, Try.ntmps33
    go_wp2
    go_ret
    exact ⟨ret_i (by rw [HK.out]), rfl⟩
end Go.Proofs.Ytjlghmjngiegaaa
