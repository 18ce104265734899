/- Bits of numbers: what is put together of seven bits at a time. -/
import Derived.Laws.BitsLemmas
import Derived.WalkKit
namespace Go.Proofs.YtgfgdlnlafngnaaDoor
namespace Pk
theorem pow128 (k : Nat) : 128 ^ k = 2 ^ (7 * k) := by rw [Nat.pow_mul]
theorem wrap_u64 (n : Int) : IntKind.u64.wrap n = n % 18446744073709551616 := by simp [IntKind.wrap, IntKind.bits, IntKind.signed]
theorem wraps_u64 (n : Int) (h₀ : 0 ≤ n) (h₁ : n < 2 ^ 64) : IntKind.u64.wrap n = n := by rw [wrap_u64]; omega
theorem pow_le5 {k : Nat} (h : k < 6) : 2 ^ (7 * k) ≤ 34359738368 := by
  calc 2 ^ (7 * k) ≤ 2 ^ 35 := Nat.pow_le_pow_right (by decide) (by omega)
    _ = 34359738368 := by decide
theorem or_join {x m k : Nat} (hk : k < 6) (hm : m < 128 ^ k) (hx : x < 256) : bits .or .u64 (m : Int) (IntKind.u64.wrap ((x : Int) * 2 ^ (7 * k))) = ((m + x * 128 ^ k : Nat) : Int) := by
  rw [pow128] at hm ⊢
  have hp := pow_le5 hk
  have e : ((x : Int) * 2 ^ (7 * k)) = ((x * 2 ^ (7 * k) : Nat) : Int) := by simp
  have hlt : x * 2 ^ (7 * k) < 2 ^ 64 := by
    have : x * 2 ^ (7 * k) ≤ 255 * 34359738368 := Nat.mul_le_mul (by omega) hp
    omega
  have hm2 : m < 2 ^ 64 := by omega
  rw [e, wraps_u64 _ (Int.natCast_nonneg _) (by exact_mod_cast hlt), (bits_nat .u64 64 (by decide) wraps_u64 m _ hm2 hlt).2]
  rw [Nat.or_comm, Nat.mul_comm x, ← Nat.two_pow_add_eq_or_of_lt hm x, Nat.add_comm]
theorem clear_top : ∀ x : Fin 256, 128 ≤ x.val → bits .andNot .u8 (x.val : Int) 128 = ((x.val - 128 : Nat) : Int) := by decide +kernel
theorem or_more {x m k : Nat} (hk : k < 6) (hm : m < 128 ^ k) (hx : x < 256) (hx2 : 128 ≤ x) :
    bits .or .u64 (m : Int) (IntKind.u64.wrap (IntKind.u64.wrap (bits .andNot .u8 (x : Int) 128) * 2 ^ (7 * k))) = ((m + (x - 128) * 128 ^ k : Nat) : Int) := by
  have := clear_top ⟨x, hx⟩ hx2
  simp only at this
  rw [this, wraps_u64 _ (Int.natCast_nonneg _) (by omega)]
  exact or_join hk hm (by omega)
end Pk
end Go.Proofs.YtgfgdlnlafngnaaDoor
