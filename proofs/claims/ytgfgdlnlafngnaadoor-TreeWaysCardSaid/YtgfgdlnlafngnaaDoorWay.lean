/- The names of a way: plain laws. No program in sight. -/
import Derived.Test.YtgfgdlnlafngnaaDoorFind
import Derived.Lib.Bytealg
namespace Go.Proofs.YtgfgdlnlafngnaaDoor
namespace Pk

/-- Parts between slashes. -/
def splitB : List UInt8 → List (List UInt8)
  | [] => [[]]
  | c :: r => if c = 47 then [] :: splitB r else match splitB r with
    | [] => [[c]]
    | p :: ps => (c :: p) :: ps
theorem splitB_ne (l : List UInt8) : splitB l ≠ [] := by
  cases l with
  | nil => simp [splitB]
  | cons c r =>
    simp only [splitB]
    split
    · simp
    · split <;> simp
theorem index_nonneg (l : List UInt8) (c : UInt8) : Lib.indexByte l c = -1 ∨ (0 ≤ Lib.indexByte l c ∧ Lib.indexByte l c < l.length) := by
  induction l with
  | nil => exact .inl rfl
  | cons b l ih =>
    simp only [Lib.indexByte]
    split
    · exact .inr ⟨by omega, by simp⟩
    · split
      · exact .inl rfl
      · rename_i h1 h2
        simp only [beq_iff_eq] at h2
        rcases ih with h | h
        · exact absurd h h2
        · exact .inr ⟨by omega, by simp; omega⟩
/-- No slash: one part. -/
theorem split_none {l : List UInt8} (h : Lib.indexByte l 47 = -1) : splitB l = [l] := by
  induction l with
  | nil => rfl
  | cons c r ih =>
    simp only [Lib.indexByte] at h
    by_cases hc : c = 47
    · subst hc
      simp at h
    · have hb : (c == 47) = false := by simp [hc]
      rw [hb] at h
      simp only [Bool.false_eq_true, if_false] at h
      have h2 : Lib.indexByte r 47 = -1 := by
        rcases index_nonneg r 47 with h3 | h3
        · exact h3
        · rw [if_neg (by simp; omega)] at h
          omega
      rw [splitB, if_neg hc, ih h2]
/-- The first slash: a part, and the rest's parts. -/
theorem split_some {l : List UInt8} {i : Nat} (h : Lib.indexByte l 47 = i) : splitB l = l.take i :: splitB (l.drop (i + 1)) := by
  induction l generalizing i with
  | nil => simp [Lib.indexByte] at h
  | cons c r ih =>
    simp only [Lib.indexByte] at h
    by_cases hc : c = 47
    · subst hc
      simp only [beq_self_eq_true, if_true] at h
      obtain rfl : i = 0 := by omega
      rw [splitB, if_pos rfl]
      simp
    · have hb : (c == 47) = false := by simp [hc]
      rw [hb] at h
      simp only [Bool.false_eq_true, if_false] at h
      rcases index_nonneg r 47 with h3 | h3
      · rw [h3] at h
        simp at h
      · rw [if_neg (by simp; omega)] at h
        obtain ⟨j, rfl⟩ : ∃ j, i = j + 1 := ⟨i - 1, by omega⟩
        have := ih (i := j) (by omega)
        rw [splitB, if_neg hc, this]
        simp

theorem split_len (l : List UInt8) : (splitB l).length ≤ l.length + 1 := by
  induction l with
  | nil => simp [splitB]
  | cons c r ih =>
    simp only [splitB]
    split
    · simp only [List.length_cons]
      omega
    · split
      · simp
      · rename_i h
        rw [h] at ih
        simp only [List.length_cons] at ih ⊢
        omega
/-- What a way's names are, or the error. -/
def pWay (s : ByteArray) : List ByteArray × Int :=
  if s.size = 0 then ([], 0)
  else if ((splitB s.data.toList).map str).all nameB then ((splitB s.data.toList).map str, 0) else ([], 4)
end Pk
end Go.Proofs.YtgfgdlnlafngnaaDoor
