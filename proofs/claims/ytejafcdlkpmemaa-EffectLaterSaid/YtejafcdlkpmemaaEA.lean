/- A row of heads sorted. -/
import Derived.Test.YtejafcdlkpmemaaEH
import Derived.Test.YtejafcdlkpmemaaS
namespace Go.Proofs.Ytejafcdlkpmemaa
open Go Go.RowKit Go.Sort Go.Shelf
instance : Inhabited Head := ⟨⟨default, default⟩⟩
theorem sortHd_own (xs : List Head) (v : Value) (base : Nat) (w : World) (ho : w.ownsRow base 95 4 v xs.length (xs.flatMap hdC)) (hsl : xs.length < 4611686018427387904) :
    Calls Try.prog 72 #[v, .func (.func 73) #[] #[]] w fun r w' => r = .returned (.tuple #[]) ∧ ∃ ys : List Head, ys.Perm xs ∧ ys.Pairwise (fun a b => ¬ hcmp b a < 0) ∧ w'.ownsRow base 95 4 v ys.length (ys.flatMap hdC) ∧ Go.RowKit.Below base w w' :=
  sort_own Try.laysSlF06_f72 4 Try.isAgg95 Try.sizeOf95 hdC (fun _ => rfl) hdC_one hcmp (swo_key stamp_swo Head.nm) 73 #[] (enters_of Try.func73 (by kernel_rfl) rfl) (fun x y W => headCmp_any x y W) xs v 95 base w ho hsl
end Go.Proofs.Ytejafcdlkpmemaa
