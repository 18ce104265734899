/- The example of chapter 9: plain laws. No program in sight. -/
import Derived.Test.YtgfgdlnlafngnaaDoorAt
namespace Go.Proofs.YtgfgdlnlafngnaaDoor
namespace Pk

def exX : Nd := .mk 1 [97, 98] []
def exN : Nd := .mk 4 [] [(⟨#[120]⟩, exX)]
def exB : List UInt8 := [4, 1, 1, 120, 1, 2, 97, 98]
theorem ex_right : rightB exN = true := by
  simp [exN, exX, rightB, allB, allK, aloneB, risesB, cnt, cntK, dep, depK, nameB, signB]
  decide
theorem ex_enc : enc exN = exB := by
  simp [exN, exX, exB, enc, encK, num_small, ByteArray.size]
theorem ex_encX : enc exX = [1, 2, 97, 98] := by
  simp [exX, enc, num_small]
theorem ex_open : pOpen exB = (exN, 0) := pOpen_ok.2 ⟨by simp [exB], ex_right, ex_enc⟩
theorem ex_way : pWay ⟨#[120]⟩ = ([⟨#[120]⟩], 0) := by
  unfold pWay
  rw [if_neg (by decide)]
  simp [splitB, str, nameB, signB, ByteArray.size]
theorem ex_find : pFind exN ⟨#[120]⟩ = (exX, 0) := by
  have h1 : posK exN.kids ⟨#[120]⟩ = 0 := by decide
  have h2 : isThere exN.kids ⟨#[120]⟩ = true := by
    unfold isThere
    rw [h1]
    show (ByteArray.toList _ == ByteArray.toList _) = true
    exact beq_self_eq_true _
  unfold pFind
  rw [ex_right, ex_way, if_pos rfl, if_pos rfl, at_there h2 h1 (by decide)]
  rfl
theorem ex_at : pAt exB ⟨#[120]⟩ = ([1, 2, 97, 98], 0) := by
  unfold pAt
  rw [ex_open, if_pos rfl, ex_find, if_pos rfl, ex_encX]
end Pk
end Go.Proofs.YtgfgdlnlafngnaaDoor
