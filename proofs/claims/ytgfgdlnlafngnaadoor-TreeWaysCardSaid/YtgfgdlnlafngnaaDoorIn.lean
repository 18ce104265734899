/- Walks: slices.Insert at the end; tree.put into an empty directory. -/
import Derived.Test.YtgfgdlnlafngnaaDoorFi
import Derived.Test.YtgfgdlnlafngnaaDoorWx
namespace Go.Proofs.YtgfgdlnlafngnaaDoor
namespace Pk
open Go.RowKit

set_option maxRecDepth 100000 in
theorem insert_end {base n : Nat} {v : Value} {xs : List Value} {S : Nat → Prop} {A : Option Addr} {c : Nat} {kc : List Value} (w : World) (hv : w.ownsRow base 57 4 v n xs) (hr : Rd w S A kc) (hl : kc.length = 4) (h1 : ∀ u ∈ kc, u.oneCell' = true) (hn : n ≤ 1000) (hb : base ≤ w.heap.size) :
    Calls Tryd.prog 95 #[v, .int .i64 n, .slice A 1 c] w fun e w' => ∃ v', e = .returned v' ∧ w'.ownsRow base 57 4 v' (n + 1) (xs ++ kc) ∧ w.grownBy w' v.ownBlock ∧ (v'.ownBlock = v.ownBlock ∨ v'.ownBlock = some w.heap.size) := by
  obtain ⟨B, d, rfl⟩ := own_form hv
  have hd : n ≤ d ∧ d ≤ maxLen := by
    rcases hv.2 with ⟨h, _⟩ | ⟨g, cap, cur, h, _, _, h2, h3, _⟩
    · simp only [Value.slice.injEq] at h
      obtain ⟨_, rfl, rfl⟩ := h
      simp [maxLen]
    · simp only [Value.slice.injEq] at h
      obtain ⟨_, _, rfl⟩ := h
      exact ⟨h2, h3⟩
  obtain ⟨hd1, hd2⟩ := hd
  unfold maxLen at hd2
  obtain ⟨i0, hi0, hz0, hz1, hz2⟩ := info_parts info_kid
  go_enter Tryd.func95, Tryd.ntmps95
  by_cases hdn : d = n
  · subst hdn
    go_wp2_with (at_builtin; refine Stp.mk ?_)
    refine Stp.of ?_
    refine wpList_append_rd _ rfl (.tmp 23) (.tmp 24) 26 rfl base 57 i0 _ 4 72 Tryd.underlying26 hi0 hz0 hz1 hz2 rfl (by omega) (.slice B d d) d xs rfl hv A 1 c kc rfl (by omega) hr h1 (by simp only [maxLen]; omega) (by omega) hb ?_
    intro v' w' h2 h3 h4
    go_wp2_with fail
    go_ret
    exact ⟨v', rfl, h2, h3, h4⟩
  · go_wp2_with (at_builtin; refine Stp.mk ?_)
    refine Stp.of ?_
    refine wpList_append_rd _ rfl (.tmp 23) (.tmp 24) 26 rfl base 57 i0 _ 4 72 Tryd.underlying26 hi0 hz0 hz1 hz2 rfl (by omega) (.slice B n d) n xs rfl hv A 1 c kc rfl (by omega) hr h1 (by simp only [maxLen]; omega) (by omega) hb ?_
    intro v' w' h2 h3 h4
    go_wp2_with fail
    go_ret
    exact ⟨v', rfl, h2, h3, h4⟩
end Pk
end Go.Proofs.YtgfgdlnlafngnaaDoor
