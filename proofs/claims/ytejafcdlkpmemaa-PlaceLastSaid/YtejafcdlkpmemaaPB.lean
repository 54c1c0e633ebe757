/- Rows of places and of what is told, sorted. -/
import Derived.Test.YtejafcdlkpmemaaPA
import Derived.Test.YtejafcdlkpmemaaS
namespace Go.Proofs.Ytejafcdlkpmemaa
open Go Go.RowKit Go.Sort Go.Shelf
def pcmp (a b : Place) : Int := a.nd.cmp b.nd
def tcmp (a b : Told) : Int := a.at_.cmp b.at_
def toV (t : Told) : Value := .agg #[.int .i64 t.at_.s.T, .int .i64 t.at_.s.R, .int .i64 t.at_.I, .int .i64 t.p.nd.s.T, .int .i64 t.p.nd.s.R, .int .i64 t.p.nd.I, .int .i64 t.p.pa.s.T, .int .i64 t.p.pa.s.R, .int .i64 t.p.pa.I, .string t.p.nm, .bool t.p.dir]
set_option maxHeartbeats 1000000 in
theorem plCmp_any (a b : Place) (w : World) : Calls Try.prog 62 #[plV a, plV b] w fun e w' => e = .returned (.int .i64 (pcmp a b)) ∧ Grows w w' := by
  have HC := Lib.hid (fun W => scmpId_any a.nd b.nd W)
  unfold idV at HC
  unfold plV pcmp
  go_enter Try.func62, Try.ntmps62
  go_wp2_with fail
  refine (HC.out _).mono ?_
  rintro e w2 ⟨rfl, hg⟩
  have HG := Lib.hid ((((Grows.refl w).alloc _).alloc _).trans hg)
  clear hg
  go_wp2
  go_ret
  exact ⟨rfl, HG.out⟩
set_option maxHeartbeats 1000000 in
theorem toCmp_any (a b : Told) (w : World) : Calls Try.prog 76 #[toV a, toV b] w fun e w' => e = .returned (.int .i64 (tcmp a b)) ∧ Grows w w' := by
  have HC := Lib.hid (fun W => scmpId_any a.at_ b.at_ W)
  unfold idV at HC
  unfold toV tcmp
  go_enter Try.func76, Try.ntmps76
  go_wp2_with fail
  refine (HC.out _).mono ?_
  rintro e w2 ⟨rfl, hg⟩
  have HG := Lib.hid ((((Grows.refl w).alloc _).alloc _).trans hg)
  clear hg
  go_wp2
  go_ret
  exact ⟨rfl, HG.out⟩
instance : Inhabited Id := ⟨zeroI⟩
instance : Inhabited Place := ⟨zeroP⟩
instance : Inhabited Told := ⟨⟨zeroI, zeroP⟩⟩
theorem sortTo_own (xs : List Told) (v : Value) (base : Nat) (w : World) (ho : w.ownsRow base 108 11 v xs.length (xs.flatMap toC)) (hsl : xs.length < 4611686018427387904) :
    Calls Try.prog 75 #[v, .func (.func 76) #[] #[]] w fun r w' => r = .returned (.tuple #[]) ∧ ∃ ys : List Told, ys.Perm xs ∧ ys.Pairwise (fun a b => ¬ tcmp b a < 0) ∧ w'.ownsRow base 108 11 v ys.length (ys.flatMap toC) ∧ Go.RowKit.Below base w w' :=
  sort_own Try.laysSlF06_f75 11 Try.isAgg108 Try.sizeOf108 toC (fun _ => rfl) toC_one tcmp (swo_key id_swo Told.at_) 76 #[] (enters_of Try.func76 (by kernel_rfl) rfl) (fun x y W => toCmp_any x y W) xs v 108 base w ho hsl
theorem sortPl_own (xs : List Place) (v : Value) (base : Nat) (w : World) (ho : w.ownsRow base 71 8 v xs.length (xs.flatMap plC)) (hsl : xs.length < 4611686018427387904) :
    Calls Try.prog 61 #[v, .func (.func 62) #[] #[]] w fun r w' => r = .returned (.tuple #[]) ∧ ∃ ys : List Place, ys.Perm xs ∧ ys.Pairwise (fun a b => ¬ pcmp b a < 0) ∧ w'.ownsRow base 71 8 v ys.length (ys.flatMap plC) ∧ Go.RowKit.Below base w w' :=
  sort_own Try.laysSlF06_f61 8 Try.isAgg71 Try.sizeOf71 plC (fun _ => rfl) plC_one pcmp (swo_key id_swo Place.nd) 62 #[] (enters_of Try.func62 (by kernel_rfl) rfl) (fun x y W => plCmp_any x y W) xs v 71 base w ho hsl
end Go.Proofs.Ytejafcdlkpmemaa
