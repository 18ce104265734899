/- The example of chapter 8: plain laws. No program in sight. -/
import Derived.Test.YtgfgdlnlafngnaaDoorNam
import Derived.Test.YtgfgdlnlafngnaaDoorPn
import Derived.Test.YtgfgdlnlafngnaaDoorYs
namespace Go.Proofs.YtgfgdlnlafngnaaDoor
namespace Pk

def eyX : Nd := .mk 1 [120] []
def eyN : List ByteArray := [⟨#[97]⟩, ⟨#[98]⟩]
theorem ey_way : pWay ⟨#[97, 47, 98]⟩ = (eyN, 0) := by
  unfold pWay
  rw [if_neg (by decide)]
  simp [splitB, str, nameB, signB, ByteArray.size, eyN]
theorem ey_rightX : rightB eyX = true := by
  simp [eyX, rightB, allB, allK, aloneB, cnt, cntK, dep, depK]
theorem ey_right : rightB (chainT eyN eyX) = true := by
  simp [chainT, eyN, eyX, rightB, allB, allK, aloneB, risesB, cnt, cntK, dep, depK, nameB, signB]
  decide
theorem ey_ways : pWays (chainT eyN eyX) = [⟨#[]⟩, ⟨#[97]⟩, ⟨#[97, 47, 98]⟩] := by
  unfold pWays
  rw [ey_right, if_pos rfl]
  have e1 : nextW ⟨#[]⟩ ⟨#[97]⟩ = ⟨#[97]⟩ := nextW_0 (by simp [ByteArray.size])
  have e2 : nextW ⟨#[97]⟩ ⟨#[98]⟩ = ⟨#[97, 47, 98]⟩ := by
    rw [nextW_1 (by decide)]
    apply bytes_ext
    rw [data_append, data_append]
    rfl
  simp [chainT, eyN, eyX, waysN, waysK, e1, e2, str]
end Pk
end Go.Proofs.YtgfgdlnlafngnaaDoor
