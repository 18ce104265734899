/- Walks: numbers got. -/
import Derived.Test.YtgfgdlnlafngnaaDoorWd
namespace Go.Proofs.YtgfgdlnlafngnaaDoor
namespace Pk
open Go.RowKit

set_option maxRecDepth 100000 in
set_option maxHeartbeats 400000 in
theorem length_any (n : Nat) (w : World) (hn : n < 18446744073709551616) :
    Calls Tryd.prog 98 #[.int .u64 n] w fun e w' => e = .returned (.int .i64 (num n).length) ∧ w = w' := by
  have hL : (num n).length ≤ 10 := num_length_le 9 (by omega)
  clear hn
  go_enter Tryd.func98, Tryd.ntmps98
  go_wp2
  go_loop [0, 3] (fun a b => ∃ m k : Nat, m ≤ n ∧ a = .int .u64 m ∧ b = .int .i64 k ∧ k + (num m).length = (num n).length + 1) (fun a _ => (intOf a).toNat)
  case atStart => exact ⟨n, 1, Nat.le_refl _, rfl, rfl, by omega⟩
  case round =>
    obtain ⟨m, k, hm, rfl, rfl, hk⟩ := hrel
    have hp := num_length_pos m
    have hkb : k ≤ 10 := by omega
    have HK := Lib.hid hk
    clear hk hp
    by_cases h : m < 128
    · go_wp2
      go_ret
      have h1 := HK.out
      rw [num_small h] at h1
      simp only [List.length_singleton] at h1
      exact ⟨ret_eq (by rw [show k = (num n).length from by omega]; rfl), rfl⟩
    · have h' : 128 ≤ m := by omega
      have h1 := HK.out
      rw [num_big h, List.length_cons] at h1
      have H1 := Lib.hid h1
      clear h1
      go_wp2
      exact ⟨⟨m / 128, k + 1, by omega, by go_num, by go_num, by have := H1.out; omega⟩, by simp [intOf]; omega⟩
end Pk
end Go.Proofs.YtgfgdlnlafngnaaDoor
