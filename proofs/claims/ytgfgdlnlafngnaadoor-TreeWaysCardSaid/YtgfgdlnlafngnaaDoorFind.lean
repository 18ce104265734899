/- Finding a name among names that rise: plain laws. No program in sight. -/
import Derived.Test.YtgfgdlnlafngnaaDoorRight
namespace Go.Proofs.YtgfgdlnlafngnaaDoor
namespace Pk

/-- How many kids' names come ahead of a name. -/
def posK (ks : List (ByteArray × Nd)) (nm : ByteArray) : Nat := (ks.takeWhile fun x => ltB x.1 nm).length
/-- Is there a kid of this name, where it should be? -/
def isThere (ks : List (ByteArray × Nd)) (nm : ByteArray) : Bool := (ks[posK ks nm]?).elim false fun x => x.1.toList == nm.toList

theorem rises_lt : ∀ {ks : List (ByteArray × Nd)} {p : Option ByteArray} (_ : risesB p ks = true) {i j : Nat} (_ : i < j) (hj : j < ks.length), ltB (ks[i]'(by omega)).1 ks[j].1 = true
  | [], _, _, _, _, _, hj => by simp at hj
  | (nm, t) :: r, p, h, i, j, hij, hj => by
    simp only [risesB, Bool.and_eq_true] at h
    obtain ⟨j, rfl⟩ : ∃ j', j = j' + 1 := ⟨j - 1, by omega⟩
    have hj' : j < r.length := by simpa using hj
    have first : ∀ (r : List (ByteArray × Nd)) (q : ByteArray), risesB (some q) r = true → ∀ j (hj : j < r.length), ltB q r[j].1 = true := by
      intro r
      induction r with
      | nil => intro q _ j hj; simp at hj
      | cons x r ih =>
        obtain ⟨n2, t2⟩ := x
        intro q h j hj
        simp only [risesB, Bool.and_eq_true] at h
        cases j with
        | zero => exact h.1.2
        | succ j => exact ltB_trans h.1.2 (ih n2 h.2 j (by simpa using hj))
    cases i with
    | zero => exact first r nm h.2 j hj'
    | succ i => exact rises_lt h.2 (by omega) hj'

theorem posK_le (ks : List (ByteArray × Nd)) (nm : ByteArray) : posK ks nm ≤ ks.length := by
  unfold posK
  exact List.Sublist.length_le (List.takeWhile_sublist _)
/-- Between those that come ahead and those that do not stands the place. -/
theorem posK_eq {ks : List (ByteArray × Nd)} {nm : ByteArray} {i : Nat} (hi : i ≤ ks.length) (h1 : ∀ j (_ : j < i) (hj : j < ks.length), ltB ks[j].1 nm = true) (h2 : ∀ (hj : i < ks.length), ltB ks[i].1 nm = false) : posK ks nm = i := by
  induction ks generalizing i with
  | nil => simp at hi; subst hi; rfl
  | cons x r ih =>
    unfold posK at ih ⊢
    cases i with
    | zero =>
      have := h2 (by simp)
      simp only [List.getElem_cons_zero] at this
      rw [List.takeWhile_cons, this]
      rfl
    | succ i =>
      have := h1 0 (by omega) (by simp)
      simp only [List.getElem_cons_zero] at this
      rw [List.takeWhile_cons, this]
      simp only [if_true, List.length_cons]
      rw [ih (i := i) (by simpa using hi) (fun j hj1 hj2 => h1 (j + 1) (by omega) (by simpa using hj2)) (fun hj => h2 (by simpa using hj))]
end Pk
end Go.Proofs.YtgfgdlnlafngnaaDoor
