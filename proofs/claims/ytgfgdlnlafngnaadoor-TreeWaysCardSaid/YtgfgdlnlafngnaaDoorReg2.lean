/- One move more through a region that draws its order: two operations may come up next. -/
import Derived.Test.YtgfgdlnlafngnaaDoorReg
namespace Go.Proofs.YtgfgdlnlafngnaaDoor
namespace Pk
section
variable {P : Program} {ops : Array Oper} {Q : Exit → Act → World → Prop} {md : Region.Mode} {S : World → Prop}
theorem takeC2 (i j : Nat) {oi oj : Oper} {fuel : Nat} {listed : Array Bool} {l : List Value} {df : List Deferred} {w : World} (hi : ops[i]? = some oi) (hj : ops[j]? = some oj)
    (hr : Region.ready md ops listed = [i, j]) (hwi : Region.wanted oi (yielded ops l.toArray) = true) (hwj : Region.wanted oj (yielded ops l.toArray) = true)
    (h1 : ∀ K : Act → World → Prop, Shut (∀ a' w', S w' → (S w' → wpAnyH P md ops Q S fuel (listed.setIfInBounds i true) a' w') → K a' w') → oi.wp P ⟨l.toArray, df⟩ w K Q)
    (h2 : ∀ K : Act → World → Prop, Shut (∀ a' w', S w' → (S w' → wpAnyH P md ops Q S fuel (listed.setIfInBounds j true) a' w') → K a' w') → oj.wp P ⟨l.toArray, df⟩ w K Q) : wpAnyH P md ops Q S (fuel + 1) listed ⟨l.toArray, df⟩ w :=
  wpAnyH_all hr (by simp) (fun k hk => by
    simp only [List.mem_cons, List.not_mem_nil, or_false] at hk
    rcases hk with rfl | rfl
    · unfold wpOp
      simp only [hi, hwi, if_true]
      exact .inl (h1 _ (fun _ _ hS hx => ⟨hS, hx hS⟩))
    · unfold wpOp
      simp only [hj, hwj, if_true]
      exact .inl (h2 _ (fun _ _ hS hx => ⟨hS, hx hS⟩)))
end
end Pk
end Go.Proofs.YtgfgdlnlafngnaaDoor
