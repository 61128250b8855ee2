/- The two methods of interval.wide that add and take away a number: what each call answers, and that it touches no old memory. -/
import Derived.Test.YtljimnhijpcjaaaProg
import Derived.WalkKit
import Derived.WalkSpells
import Derived.KernelRfl
import Derived.Laws.Externs
import Derived.Below
import Derived.Shelf.Spec.BitsCarry
namespace Go.Proofs.Ytljimnhijpcjaaa.Wide
open Go.RowKit

def two64 : Int := 18446744073709551616
def addLo (x y : Int) : Int := (x + y) % 18446744073709551616
def addHi (x y : Int) : Int := (x + y) / 18446744073709551616
def subLo (x y : Int) : Int := (x - y) % 18446744073709551616
def subHi (x y : Int) : Int := if x < y then 1 else 0

theorem add64 (x y : Int) (hx : 0 ≤ x) (hy : 0 ≤ y) (w : World) : (callFunc 70 #[.int .u64 x, .int .u64 y, .int .u64 0]).run Try.prog w =
    .ok (.value (.tuple #[.int .u64 (addLo x y), .int .u64 (addHi x y)])) w := by
  rw [run_callFunc_extern Try.func70 (by kernel_rfl) (by kernel_rfl) (by kernel_rfl) (e := add64Entry) (by kernel_rfl), run_add64 x y 0 hx hy (Int.le_refl 0) (by decide)]
  simp [addLo, addHi, Result.andThen]

def plusF (h l v : Int) : Int × Int := (wrap64 (wrap64 (h + v / 9223372036854775808) + wrap64 (addHi l (IntKind.u64.wrap v))), addLo l (IntKind.u64.wrap v))
def minusF (h l v : Int) : Int × Int := (wrap64 (wrap64 (h - v / 9223372036854775808) - wrap64 (subHi l (IntKind.u64.wrap v))), subLo l (IntKind.u64.wrap v))

theorem wrap_lo (v : Int) : 0 ≤ IntKind.u64.wrap v := by simp only [IntKind.wrap]; split <;> simp_all [IntKind.signed, IntKind.bits] <;> omega
theorem wrap_hi (v : Int) : IntKind.u64.wrap v < 18446744073709551616 := by simp only [IntKind.wrap]; split <;> simp_all [IntKind.signed, IntKind.bits] <;> omega

set_option maxHeartbeats 1000000 in
set_option maxRecDepth 100000 in
theorem plus_any (h l v : Int) (w : World) (h0 : 0 ≤ l) :
    Calls Try.prog 63 #[.agg #[.int .i64 h, .int .u64 l], .int .i64 v] w fun e w' => e = .returned (.agg #[.int .i64 (plusF h l v).1, .int .u64 (plusF h l v).2]) ∧ Below w.heap.size w w' := by
  have hw0 : 0 ≤ IntKind.u64.wrap v := wrap_lo v
  go_enter Try.func63, Try.ntmps63
  go_wp2_with (simp only [add64 l (IntKind.u64.wrap v) h0 hw0])
  simp [bodyPost, results, Try.results63, go_sem]
  exact ⟨⟨rfl, rfl⟩, ((Below.refl _ _).alloc (Nat.le_refl _) _).alloc (by simp) _⟩

/-- What plus and minus answer where the low half is not below 0. -/
def plusO (h l v : Int) : Option (Int × Int) := if 0 ≤ l then some (plusF h l v) else none
def minusO (h l v : Int) : Option (Int × Int) := if 0 ≤ l then some (minusF h l v) else none
theorem plus_calls (h l v r1 r2 : Int) (w : World) (hh : plusO h l v = some (r1, r2)) :
    Calls Try.prog 63 #[.agg #[.int .i64 h, .int .u64 l], .int .i64 v] w fun e w' => e = .returned (.agg #[.int .i64 r1, .int .u64 r2]) ∧ Below w.heap.size w w' := by
  unfold plusO at hh
  split at hh
  · obtain ⟨rfl, rfl⟩ := Prod.mk.inj (Option.some.inj hh)
    exact plus_any h l v w (by assumption)
  · cases hh
end Go.Proofs.Ytljimnhijpcjaaa.Wide
