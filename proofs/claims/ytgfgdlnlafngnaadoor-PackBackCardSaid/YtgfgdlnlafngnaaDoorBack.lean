/- The theorem of chapter 9: plain laws. No program in sight. -/
import Derived.Test.YtgfgdlnlafngnaaDoorAt
namespace Go.Proofs.YtgfgdlnlafngnaaDoor
namespace Pk

theorem open_less {t : Nd} (h : rightB t = true) (hl : (enc t).length ≤ 4096) (h1 : 1 ≤ (enc t).length) : (pOpen ((enc t).take ((enc t).length - 1))).2 = 4 := by
  rcases pOpen_cases ((enc t).take ((enc t).length - 1)) with ⟨t', ht⟩ | ht
  · obtain ⟨_, h3, h4⟩ := pOpen_ok.1 ht
    have e : enc t ++ [] = enc t' ++ (enc t).drop ((enc t).length - 1) := by rw [h4, List.take_append_drop, List.append_nil]
    have := (enc_prefix h h3 e).2
    have := congrArg List.length this
    simp only [List.length_nil, List.length_drop] at this
    omega
  · rw [ht]
    simp only [List.length_take]
    rw [if_neg (by omega)]
theorem open_more {t : Nd} (h : rightB t = true) (x : UInt8) : (pOpen (enc t ++ [x])).2 ≠ 0 := by
  intro h0
  obtain ⟨h3, h4, _⟩ := pOpen_all h0
  have e : enc (pOpen (enc t ++ [x])).1 ++ [] = enc t ++ [x] := by rw [List.append_nil, h4]
  have := (enc_prefix h3 h e).2
  cases this
theorem enc_same {t u : Nd} (h : rightB t = true) (h' : rightB u = true) : (enc t == enc u) = sameB t u := by
  rw [Bool.eq_iff_iff, beq_iff_eq, sameB_iff]
  exact ⟨enc_inj h h', fun e => by rw [e]⟩
end Pk
end Go.Proofs.YtgfgdlnlafngnaaDoor
