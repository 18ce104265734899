/- Which signs may stand in a name: numbers alone. -/
import Derived.Laws.BitsLemmas
import Derived.WalkKit
import Derived.Test.YtgfgdlnlafngnaaDoorPure
import Derived.Lib.Bytealg
namespace Go.Proofs.YtgfgdlnlafngnaaDoor
namespace Pk
/-- May a rune stand in a name? -/
def sgn (c : Int) : Bool := decide (c < 128) && signB (UInt8.ofNat c.toNat)
def marks : List UInt8 := [46, 95, 43, 45]
/-- A sign, small. -/
def low (c : Int) : Int := bits .or .i32 c 32
theorem sgn_table : ∀ c : Fin 128, signB (UInt8.ofNat c.val) = ((decide (65 ≤ (c.val : Int)) && decide (97 ≤ low c.val) && decide (low c.val ≤ 122)) || (decide (48 ≤ (c.val : Int)) && decide ((c.val : Int) ≤ 57)) || decide (0 ≤ Lib.indexByte marks (UInt8.ofNat c.val))) := by decide +kernel
theorem sgn_small {c : Int} (h0 : 0 ≤ c) (h : c < 128) : sgn c = ((decide (65 ≤ c) && decide (97 ≤ low c) && decide (low c ≤ 122)) || (decide (48 ≤ c) && decide (c ≤ 57)) || decide (0 ≤ Lib.indexByte marks (UInt8.ofNat c.toNat))) := by
  obtain ⟨n, rfl⟩ := Int.eq_ofNat_of_zero_le h0
  have := sgn_table ⟨n, by omega⟩
  simp only at this
  unfold sgn
  rw [decide_eq_true h, Bool.true_and, Int.toNat_natCast]
  exact this
theorem sgn_big {c : Int} (h : 128 ≤ c) : sgn c = false := by
  unfold sgn
  rw [decide_eq_false (by omega), Bool.false_and]
end Pk
end Go.Proofs.YtgfgdlnlafngnaaDoor
