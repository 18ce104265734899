/- A range over a function, at the wide fence: the statement and a round, the loop's record written out. -/
import Derived.Test.YtgfgdlnlafngnaaDoorWy
namespace Go.Proofs.YtgfgdlnlafngnaaDoor
namespace Pk
open Go.RowKit Go.Shelf

/-- The loop's record. -/
abbrev recOf (fn : FuncId) (tmps : Array Value) (ps : Array Tmp) (assign body : Code) (D : Nat) (st : LoopState) (pe : Option Code) : Obj :=
  .loop { state := st, pending := pe, fn, tmps, params := ps, assign, body, defers := D }

theorem range_any {P : Program} {n : Nat} {g : Operand} {ps : Array Tmp} {assign body : Code} {Q : Exit → Act → World → Prop} {a : Act} {V : World} {gf : Nat} {lb : Array Value} (hg : a.eval g = .func (.func gf) #[] lb)
    (eg : ∀ args w, (callFunc gf args).run P w = .ok (.enter gf args) w)
    (h : ∀ fn, CallsIn Fence.wide (n - 1) P gf (#[.func (.yield (V.heap.size + 1)) #[] #[]] ++ lb) ((V.alloc (.deferred (some []))).alloc (recOf fn a.tmps ps assign body V.heap.size .ready none))
      (rangePost Fence.wide n P (V.heap.size + 1) Q { a with defers := [{ target := .collected V.heap.size, args := #[] }] ++ a.defers })) :
    (Code.rangeFunc g ps assign body).wpIn Fence.wide n P Q a V := by
  refine wpIn_rangeFunc ?_
  intro fn _
  have h1 := run_enterLoop_outer (P := P) (w := V) fn a.tmps ps assign body
  have h2 : (resolve a.eval (rangeCall g (V.heap.size + 1)) 0).run P ((V.alloc (.deferred (some []))).alloc (recOf fn a.tmps ps assign body V.heap.size .ready none)) = .ok { target := .fn (.func gf) lb, args := #[.func (.yield (V.heap.size + 1)) #[] #[]] } ((V.alloc (.deferred (some []))).alloc (recOf fn a.tmps ps assign body V.heap.size .ready none)) := by
    simp only [resolve, hg]
    simp [go_sem]
  have h3 : (invoke (.fn (.func gf) lb) #[.func (.yield (V.heap.size + 1)) #[] #[]]).run P ((V.alloc (.deferred (some []))).alloc (recOf fn a.tmps ps assign body V.heap.size .ready none)) = .ok (.enter gf (#[.func (.yield (V.heap.size + 1)) #[] #[]] ++ lb)) ((V.alloc (.deferred (some []))).alloc (recOf fn a.tmps ps assign body V.heap.size .ready none)) := by
    simp [invoke, go_sem, eg]
  exact ⟨_, _, _, _, _, _, _, _, h1, h2, fun f' _ => trivial, h3, fun hd => (by cases hd), h fn⟩

/-- A round: the body's walk, from the record that is busy. -/
theorem round_any {P : Program} {m l D : Nat} {fn : FuncId} {tmps : Array Value} {ps : Array Tmp} {assign body : Code} {args : Array Value} {W : World} {R : Ending → World → Prop} {a₁ : Act}
    (hl : W.heap[l]? = some (recOf fn tmps ps assign body D .ready none)) (hsz : args.size = ps.size)
    (hassign : ∀ (K : Act → World → Prop), K a₁ W → assign.wpIn (Fence.wide.inRound l) m P (Exit.then K (fun _ _ _ => False)) { tmps := (ps.zip args).foldl (fun t (p, v) => t.setIfInBounds p v) tmps, defers := [] } W)
    (hbody : body.wpIn (Fence.wide.inRound l) m P (roundPost P l R) a₁ (W.putObj l (recOf fn tmps ps assign body D .busy none))) : YieldAt Fence.wide m P l args W R := by
  have hy := run_yield (P := P) (args := args) hl hsz
  exact ⟨fn, _, assign, body, hy, roundIn_of_wpIn trivial (hassign _ ⟨_, run_beginRound hl rfl, hbody⟩)⟩
end Pk
end Go.Proofs.YtgfgdlnlafngnaaDoor
