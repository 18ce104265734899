/- A region that draws its order, carried out operation by operation in the text's order: the moves, with the frame written out. -/
import Derived.OrdersHeld
import Derived.Deep.RegionHeld3
namespace Go.Proofs.YtgfgdlnlafngnaaDoor
namespace Pk
section
variable {P : Program} {ops : Array Oper} {Q : Exit → Act → World → Prop} {md : Region.Mode} {S : World → Prop}
/-- Operation i, which writes slot d, is taken: it yields v in every world that meets S. -/
theorem takeT (i d : Nat) {oi : Oper} {v : Value} {fuel : Nat} {listed : Array Bool} {l : List Value} {df : List Deferred} {w : World} (hi : ops[i]? = some oi) (hd : oi.dst = some d)
    (hs : Region.noSelect ops = true) (hf : Region.free md ops listed i = true) (hr : (Region.ready md ops listed).contains i = true)
    (hQ : ∀ c (a : Act) w, Q (.panic c) (a.put (some d) v) w → Q (.panic c) a w) (hS : S w) (hw : Region.wanted oi (yielded ops l.toArray) = true)
    (hy : ∀ w, S w → (execOp (Act.eval ⟨l.toArray, df⟩) oi).run P w = .ok (.value v) w)
    (h : wpAnyH P md ops Q S fuel (listed.setIfInBounds i true) ⟨(l.set d v).toArray, df⟩ w) : wpAnyH P md ops Q S (fuel + 1) listed ⟨l.toArray, df⟩ w :=
  wpAnyH_take (v := v) hi hs hf hr (by rw [hd]; exact hQ) (Or.inl ⟨hw, hy⟩) hS (by
    rw [hd]
    simpa [Act.put] using h)
/-- Operation i, which would write slot d, is passed over: its guard is false. -/
theorem takeS (i d : Nat) {oi : Oper} {fuel : Nat} {listed : Array Bool} {l : List Value} {df : List Deferred} {w : World} (hi : ops[i]? = some oi) (hd : oi.dst = some d)
    (hs : Region.noSelect ops = true) (hf : Region.free md ops listed i = true) (hr : (Region.ready md ops listed).contains i = true)
    (hQ : ∀ c (a : Act) w, Q (.panic c) (a.put (some d) undef) w → Q (.panic c) a w) (hS : S w) (hw : Region.wanted oi (yielded ops l.toArray) = false)
    (h : wpAnyH P md ops Q S fuel (listed.setIfInBounds i true) ⟨(l.set d undef).toArray, df⟩ w) : wpAnyH P md ops Q S (fuel + 1) listed ⟨l.toArray, df⟩ w :=
  wpAnyH_take (v := undef) hi hs hf hr (by rw [hd]; exact hQ) (Or.inr ⟨hw, rfl⟩) hS (by
    rw [hd]
    simpa [Act.put] using h)
/-- Operation i is the one that comes up: what it does is shown, and S anew behind it. -/
theorem takeC (i : Nat) {oi : Oper} {fuel : Nat} {listed : Array Bool} {l : List Value} {df : List Deferred} {w : World} (hi : ops[i]? = some oi)
    (hr : Region.ready md ops listed = [i]) (hw : Region.wanted oi (yielded ops l.toArray) = true)
    (h : ∀ K : Act → World → Prop, Shut (∀ a' w', S w' → (S w' → wpAnyH P md ops Q S fuel (listed.setIfInBounds i true) a' w') → K a' w') → oi.wp P ⟨l.toArray, df⟩ w K Q) : wpAnyH P md ops Q S (fuel + 1) listed ⟨l.toArray, df⟩ w :=
  wpAnyH_all hr (by simp) (fun j hj => by
    simp only [List.mem_singleton] at hj
    subst hj
    unfold wpOp
    simp only [hi, hw, if_true]
    exact .inl (h _ (fun _ _ hS hx => ⟨hS, hx hS⟩)))
end
end Pk
end Go.Proofs.YtgfgdlnlafngnaaDoor
