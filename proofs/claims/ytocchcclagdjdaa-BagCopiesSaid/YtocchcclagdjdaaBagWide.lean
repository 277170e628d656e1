/- Sums of 128 bits: math/bits.Mul64, math/bits.Add64, (*wide).add, wide.exact. -/
import Derived.Test.YtocchcclagdjdaaBase
import Derived.Test.YtocchcclagdjdaaSeq
import Derived.Shelf.Bits.Mul64
import Derived.Laws.Externs
import Derived.Lib.Mul64
import Derived.Laws.Bits64b
namespace Go.Proofs.Ytocchcclagdjdaa
open Go.RowKit Go.Lib

set_option maxHeartbeats 1000000 in
theorem mul64_any (x y : Nat) (hx : x < 18446744073709551616) (hy : y < 18446744073709551616) (w : World) :
    Calls Try.prog 42 #[.int .u64 x, .int .u64 y] w fun e w' => e = .returned (.tuple #[.int .u64 ((x * y / 18446744073709551616 : Nat) : Int), .int .u64 ((x * y % 18446744073709551616 : Nat) : Int)]) ∧ w' = w := by
  obtain ⟨bd, bt, bw, hhi⟩ := Lib.mul64_hi x y hx hy
  have ba := Lib.half_mul_le (a := x / 4294967296) (b := y / 4294967296) (by omega) (by omega)
  have bb := Lib.half_mul_le (a := x / 4294967296) (b := y % 4294967296) (by omega) (by omega)
  have bc := Lib.half_mul_le (a := x % 4294967296) (b := y / 4294967296) (by omega) (by omega)
  have ba' : x / 4294967296 * (y / 4294967296) < 18446744073709551616 := by omega
  have bb' : x / 4294967296 * (y % 4294967296) < 18446744073709551616 := by omega
  have bc' : x % 4294967296 * (y / 4294967296) < 18446744073709551616 := by omega
  have bh1 : x / 4294967296 * (y / 4294967296) + (x / 4294967296 * (y % 4294967296) + x % 4294967296 * (y % 4294967296) / 4294967296) / 4294967296 < 18446744073709551616 := by omega
  have bh : x / 4294967296 * (y / 4294967296) + (x / 4294967296 * (y % 4294967296) + x % 4294967296 * (y % 4294967296) / 4294967296) / 4294967296 + ((x / 4294967296 * (y % 4294967296) + x % 4294967296 * (y % 4294967296) / 4294967296) % 4294967296 + x % 4294967296 * (y / 4294967296)) / 4294967296 < 18446744073709551616 := by omega
  go_enter Try.func42, Try.ntmps42
  go_wp2
  simp only [Mul64.maskN x hx, Mul64.maskN y hy, Mul64.divN, Mul64.mulN, Mul64.addN, Mul64.wrapN _ bd, Mul64.wrapN _ bb', Mul64.wrapN _ bt, Mul64.maskN _ bt, Mul64.wrapN _ bc', Mul64.wrapN _ bw, Mul64.wrapN _ ba', Mul64.wrapN _ bh1, Mul64.wrapN _ bh, Mul64.wrapM (x * y)]
  rw [hhi]
  go_ret2
  exact ⟨rfl, rfl⟩

theorem add64_run (x y : Int) (hx : 0 ≤ x) (hy : 0 ≤ y) (w : World) :
    (callFunc 43 #[.int .u64 x, .int .u64 y, .int .u64 0]).run Try.prog w =
      .ok (.value (.tuple #[.int .u64 ((x + y + 0) % 18446744073709551616), .int .u64 ((x + y + 0) / 18446744073709551616)])) w := by
  rw [run_callFunc_extern Try.func43 (by kernel_rfl) (by kernel_rfl) (by kernel_rfl) (e := add64Entry) (by kernel_rfl), run_add64 x y 0 hx hy (by omega) (by omega)]
  rfl

/-- a number of 128 bits, S modulo 2^128 -/
def W128 (lo hi S : Int) : Prop := 0 ≤ lo ∧ lo < 18446744073709551616 ∧ 0 ≤ hi ∧ hi < 18446744073709551616 ∧ (lo + 18446744073709551616 * hi - S) % 340282366920938463463374607431768211456 = 0

theorem w128_add (lo hi S x k p h : Int) (hw : W128 lo hi S) (_hk : 0 ≤ k) (_hk2 : k < 9223372036854775808) (hp : p = (if x < 0 then x * k + 18446744073709551616 * k else x * k)) (_hp0 : 0 ≤ p) (_hp1 : p < 340282366920938463463374607431768211456)
    (hh : h = (if x < 0 then (p / 18446744073709551616 - k) % 18446744073709551616 else p / 18446744073709551616)) :
    W128 ((lo + p % 18446744073709551616) % 18446744073709551616) ((hi + (h + (lo + p % 18446744073709551616) / 18446744073709551616) % 18446744073709551616) % 18446744073709551616) (S + x * k) := by
  obtain ⟨a1, a2, a3, a4, a5⟩ := hw
  generalize x * k = Q at *
  unfold W128
  refine ⟨by omega, by omega, by omega, by omega, ?_⟩
  split at hp <;> rename_i hx
  · rw [if_pos hx] at hh; omega
  · rw [if_neg hx] at hh; omega
end Go.Proofs.Ytocchcclagdjdaa
