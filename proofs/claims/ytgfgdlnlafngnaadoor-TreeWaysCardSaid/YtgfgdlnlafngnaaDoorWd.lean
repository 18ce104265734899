/- Walks: a cursor's calls. -/
import Derived.Test.YtgfgdlnlafngnaaDoorWc
namespace Go.Proofs.YtgfgdlnlafngnaaDoor
namespace Pk
open Go.RowKit

/-- Only block g may have turned, of those that there were. -/
def Ch (g : Nat) (w w' : World) : Prop := w.grownBy w' (some g)
theorem Ch.refl (g : Nat) (w : World) : Ch g w w := World.grownBy.refl w _
theorem Ch.trans {g : Nat} {a b c : World} (h : Ch g a b) (k : Ch g b c) : Ch g a c := World.grownBy.trans h k
theorem Ch.of_below {g : Nat} {w w' : World} (h : Below w.heap.size w w') : Ch g w w' := ⟨h.os, h.tape, h.output, h.size, fun i hi _ => h.block i hi⟩
theorem Ch.set (g : Nat) (w : World) (o : Nat) (v : Value) : Ch g w (w.setCell ⟨g, o, none⟩ v) :=
  ⟨rfl, rfl, rfl, by simp [World.setCell], fun k _ hne => Below.heap_setCell w _ v k (fun e => hne (by rw [e]))⟩
theorem Ch.stays {g : Nat} {w w' : World} (h : Ch g w w') {S : Nat → Prop} (hS : ∀ k, S k → k ≠ g) : Stays S w w' := Stays.of_grown h (fun k hk e => hS k hk (by injection e))
theorem Ch.size {g : Nat} {w w' : World} (h : Ch g w w') : w.heap.size ≤ w'.heap.size := World.grownBy.size h

/-- A cursor in block g: the bytes that are left, or broken. -/
def CurAt (w : World) (g : Nat) : St → Prop
  | some r => ∃ A c, w.heap[g]? = some (.cells #[.slice A r.length c, .int .i64 0] 97 (0, 0)) ∧ r.length ≤ c ∧ c ≤ 9223372036854775807 ∧ r.length ≤ 65536 ∧ Rd w (fun k => k < g) A (bcs r)
  | none => ∃ e : Int, e ≠ 0 ∧ w.heap[g]? = some (.cells #[.slice none 0 0, .int .i64 e] 97 (0, 0))
theorem blk_cell' {w : World} {g : Nat} {t : TypeId} {cs : Array Value} (h : w.heap[g]? = some (.cells cs t (0, 0))) (i : Nat) : w.cell? ⟨g, i, none⟩ = cs[i]? := cell_of_row w g i cs t (0, 0) h
theorem blk_frozen' {w : World} {g : Nat} {t : TypeId} {cs : Array Value} (h : w.heap[g]? = some (.cells cs t (0, 0))) (i : Nat) : w.frozen? ⟨g, i, none⟩ = false := by simp [World.frozen?, h]
theorem blk_set' {w : World} {g : Nat} {t : TypeId} {cs : Array Value} (h : w.heap[g]? = some (.cells cs t (0, 0))) (i : Nat) (u : Value) : (w.setCell ⟨g, i, none⟩ u).heap[g]? = some (.cells (cs.setIfInBounds i u) t (0, 0)) := by
  simp [World.setCell, Array.getElem?_modify, h]
theorem CurAt.lt {w : World} {g : Nat} {st : St} (h : CurAt w g st) : g < w.heap.size := by
  cases st with
  | none =>
    obtain ⟨e, _, h⟩ := h
    exact (Array.getElem?_eq_some_iff.1 h).1
  | some r =>
    obtain ⟨A, c, h, _⟩ := h
    exact (Array.getElem?_eq_some_iff.1 h).1
theorem CurAt.keep {w w' : World} {g : Nat} {st : St} (h : CurAt w g st) (hk : ∀ k, k ≤ g → w'.heap[k]? = w.heap[k]?) : CurAt w' g st := by
  cases st with
  | none =>
    obtain ⟨e, he, h⟩ := h
    exact ⟨e, he, by rw [hk g (Nat.le_refl _)]; exact h⟩
  | some r =>
    obtain ⟨A, c, h, h1, h2, h3, h4⟩ := h
    exact ⟨A, c, by rw [hk g (Nat.le_refl _)]; exact h, h1, h2, h3, h4.keep (fun k hk1 _ => hk k (by omega))⟩
theorem CurAt.below {w w' : World} {g : Nat} {st : St} (h : CurAt w g st) (hb : Below w.heap.size w w') : CurAt w' g st :=
  h.keep (fun k hk => hb.block k (by have := h.lt; omega))

set_option maxHeartbeats 400000 in
theorem fail_any {st : St} {g : Nat} (e : Int) (w : World) (h : CurAt w g st) (he : e ≠ 0) :
    Calls Tryd.prog 99 #[.pointer (some ⟨g, 0, none⟩), .int .i64 e] w fun r w' => r = .returned (.tuple #[]) ∧ CurAt w' g none ∧ Ch g w w' := by
  cases st with
  | some l =>
    obtain ⟨A, c, h, h1, h2, h3, h4⟩ := h
    have c0 : w.cell? ⟨g, 0, none⟩ = some (.slice A l.length c) := by rw [blk_cell' h]; rfl
    have c1 : w.cell? ⟨g, 1, none⟩ = some (.int .i64 0) := by rw [blk_cell' h]; rfl
    have f0 := blk_frozen' h 0
    have f1 := blk_frozen' h 1
    have H := Lib.hid h
    clear h
    go_enter Tryd.func99, Tryd.ntmps99
    go_wp2
    go_end0
    exact ⟨rfl, ⟨e, he, blk_set' (blk_set' H.out 1 (.int .i64 e)) 0 (.slice none 0 0)⟩, (Ch.set _ _ _ _).trans (Ch.set _ _ _ _)⟩
  | none =>
    obtain ⟨e1, he1, h⟩ := h
    have c0 : w.cell? ⟨g, 0, none⟩ = some (.slice none 0 0) := by rw [blk_cell' h]; rfl
    have c1 : w.cell? ⟨g, 1, none⟩ = some (.int .i64 e1) := by rw [blk_cell' h]; rfl
    have hq : (e1 == 0) = false := beq_eq_false_iff_ne.2 he1
    have f0 := blk_frozen' h 0
    have H := Lib.hid h
    clear h
    go_enter Tryd.func99, Tryd.ntmps99
    go_wp2
    go_end0
    exact ⟨rfl, ⟨e1, he1, blk_set' H.out 0 (.slice none 0 0)⟩, Ch.set _ _ _ _⟩

set_option maxHeartbeats 400000 in
theorem over_any {S : Nat → Prop} {v : Value} {l : List UInt8} (w : World) (h : BsAt S w v l) (hl : l.length ≤ 65536) :
    Calls Tryd.prog 43 #[v] w fun e w' => ∃ g, e = .returned (.pointer (some ⟨g, 0, none⟩)) ∧ w.heap.size ≤ g ∧ CurAt w' g (some l) ∧ Below w.heap.size w w' := by
  go_enter Tryd.func43, Tryd.ntmps43
  go_wp2_with fail
  refine (clone_any _ h (by omega)).mono ?_
  rintro e w1 ⟨⟨v1, rfl, hv⟩, hb⟩
  obtain ⟨A, c, rfl, h1, h2, hr⟩ := hv
  go_wp2
  go_ret
  exact ⟨w1.heap.size, rfl, hb.size, ⟨A, c, heap_alloc_new _ _, h1, h2, hl, (hr.bound.below (below_new _ _)).mono (fun k hk => by omega)⟩, hb.via (below_new _ _)⟩

set_option maxHeartbeats 400000 in
theorem end_any {st : St} {g : Nat} (w : World) (h : CurAt w g st) :
    Calls Tryd.prog 45 #[.pointer (some ⟨g, 0, none⟩)] w fun e w' => (∃ z : Int, e = .returned (.int .i64 z) ∧ (z = 0 ↔ st = some [])) ∧ w = w' := by
  cases st with
  | some l =>
    obtain ⟨A, c, h, h1, h2, h3, h4⟩ := h
    have c0 : w.cell? ⟨g, 0, none⟩ = some (.slice A l.length c) := by rw [blk_cell' h]; rfl
    have c1 : w.cell? ⟨g, 1, none⟩ = some (.int .i64 0) := by rw [blk_cell' h]; rfl
    clear h h4
    cases l with
    | nil =>
      go_enter Tryd.func45, Tryd.ntmps45
      go_wp2
      go_ret
      exact ⟨⟨0, rfl, by simp⟩, rfl⟩
    | cons x l =>
      have hq : decide ((0 : Int) < ((x :: l).length : Int)) = true := by simp
      go_enter Tryd.func45, Tryd.ntmps45
      go_wp2
      go_ret
      exact ⟨⟨4, rfl, by simp⟩, rfl⟩
  | none =>
    obtain ⟨e1, he1, h⟩ := h
    have c0 : w.cell? ⟨g, 0, none⟩ = some (.slice none 0 0) := by rw [blk_cell' h]; rfl
    have c1 : w.cell? ⟨g, 1, none⟩ = some (.int .i64 e1) := by rw [blk_cell' h]; rfl
    have hq : (e1 == 0) = false := beq_eq_false_iff_ne.2 he1
    clear h
    go_enter Tryd.func45, Tryd.ntmps45
    go_wp2
    go_ret
    exact ⟨⟨e1, rfl, by simp [he1]⟩, rfl⟩
end Pk
end Go.Proofs.YtgfgdlnlafngnaaDoor
