/- Walks: tree.Copy, spencelaw08's begins. -/
import Derived.Test.YtgfgdlnlafngnaaDoorFi
import Derived.Test.YtgfgdlnlafngnaaDoorWt
import Derived.Test.YtgfgdlnlafngnaaDoorNam
namespace Go.Proofs.YtgfgdlnlafngnaaDoor
namespace Pk
open Go.RowKit

theorem allB_sz : ∀ t, allB t = true → Sz t := by
  refine Nd.ind fun k b ks ih => ?_
  intro h
  obtain ⟨_, hri, hk⟩ := all_kids h
  unfold Sz
  exact SzK.of_mem fun x hx => ⟨by have := (name_size (rises_mem ks none hri x hx)).2; omega, ih x hx (hk x hx)⟩
set_option maxRecDepth 100000 in
set_option maxHeartbeats 1000000 in
theorem copy_any {t : Nd} {S : Nat → Prop} {cs : List Value} (w : World) (hn : NdAt S w t cs) (h : rightB t = true) :
    Calls Tryd.prog 40 #[.agg cs.toArray] w fun e w' => Below w.heap.size w w' ∧ ∃ c0 c1 c2, e = .returned (.agg #[c0, c1, c2]) ∧ NdAt (fun k => w.heap.size ≤ k) w' t [c0, c1, c2] := by
  obtain ⟨A, c, B, c2, rfl⟩ := nd_form hn
  have hall : allB t = true := by
    simp only [rightB, Bool.and_eq_true] at h
    exact h.1.1
  have HR := Lib.hid h
  clear h
  go_enter Tryd.func40, Tryd.ntmps40
  go_wp2_with fail
  have hb1 := below_new2 w (Obj.cells #[.int .i64 t.kind, .slice A t.bytes.length c, .slice B t.kids.length c2] 28) (Obj.cells node0 28)
  have hN1 := blk_new' (heap_alloc_new w (Obj.cells #[.int .i64 t.kind, .slice A t.bytes.length c, .slice B t.kids.length c2] 28)) (Obj.cells node0 28)
  have hO1 := alloc_at (w.alloc (Obj.cells #[.int .i64 t.kind, .slice A t.bytes.length c, .slice B t.kids.length c2] 28)) (Obj.cells node0 28) (n := w.heap.size + 1) (by simp)
  have hs1 : ((w.alloc (Obj.cells #[.int .i64 t.kind, .slice A t.bytes.length c, .slice B t.kids.length c2] 28)).alloc (Obj.cells node0 28)).heap.size = w.heap.size + 2 := by simp
  generalize (w.alloc (Obj.cells #[.int .i64 t.kind, .slice A t.bytes.length c, .slice B t.kids.length c2] 28)).alloc (Obj.cells node0 28) = w1 at *
  refine (right_is w1 (hn.below hb1) (allB_sz t hall)).mono ?_
  rintro e w2 ⟨⟨z, rfl, hz⟩, hb2⟩
  obtain rfl : z = true := by rw [hz.out, HR.out]
  clear hz
  have hN2 := (hb2.block w.heap.size (by omega)).trans hN1
  have hO2 := (hb2.block (w.heap.size + 1) (by omega)).trans hO1
  have hs2 := hb2.size
  have ⟨n0, n1, n2⟩ := cells3 hN2
  go_wp2_with fail
  refine (own_any t w2 _ _ ((hn.below hb1).below hb2) hall).mono ?_
  rintro e w3 ⟨hb3, v0, v1, v2, rfl, hn3⟩
  obtain ⟨A5, d5, B5, d6, hcs⟩ := nd_form hn3
  simp only [List.cons.injEq, and_true] at hcs
  obtain ⟨rfl, rfl, rfl⟩ := hcs
  have hO3 := (hb3.block (w.heap.size + 1) (by omega)).trans hO2
  have ⟨m0, m1, m2⟩ := cells3 hO3
  have f0 := blk_frozen' hO3 0
  have f1 := blk_frozen' hO3 1
  have f2 := blk_frozen' hO3 2
  have hs3 := hb3.size
  go_wp2_with fail
  have hst := chs_set3 (T := fun k => k = w.heap.size + 1) w3 (w.heap.size + 1) (.int .i64 t.kind) (.slice A5 t.bytes.length d5) (.slice B5 t.kids.length d6) rfl
  have hO6 := blk_set3 hO3 (.int .i64 t.kind) (.slice A5 t.bytes.length d5) (.slice B5 t.kids.length d6)
  rw [set3_same hO6]
  generalize ((w3.setCell ⟨w.heap.size + 1, 0, none⟩ (.int .i64 t.kind)).setCell ⟨w.heap.size + 1, 1, none⟩ (.slice A5 t.bytes.length d5)).setCell ⟨w.heap.size + 1, 2, none⟩ (.slice B5 t.kids.length d6) = w6 at *
  have ⟨k0, k1, k2⟩ := cells3 hO6
  refine bodyPost_ret (v := .agg #[.int .i64 t.kind, .slice A5 t.bytes.length d5, .slice B5 t.kids.length d6]) (by simp [results, Tryd.results40, go_sem, k0, k1, k2]) rfl ?_
  refine ⟨(((Chs.of_below (T := fun k => w.heap.size ≤ k) hb1).trans (Chs.of_below hb2)).trans ((Chs.of_below hb3).trans (hst.mono (fun k _ e => by omega)))).below (fun k hk e => by omega), _, _, _, rfl, ?_⟩
  exact NdAt.mono (fun k hk => by omega) _ _ (hn3.chs hst (fun k hk _ e => by omega))

/-- Does a way begin with another one? -/
def beginsB (way w : ByteArray) : Bool := w.toList.isEmpty || (way.toList == w.toList || (decide (w.size < way.size) && ((way.extract 0 (w.size + 1)).toList == (w ++ ⟨#[47]⟩).toList)))
theorem begins_any (way s : ByteArray) (w : World) (h2 : s.size ≤ 100000) : Calls Tryd.prog 39 #[.string way, .string s] w fun e w' => RetB (beginsB way s) e ∧ w = w' := by
  go_enter Tryd.func39, Tryd.ntmps39
  go_wp2_with fail
  all_goals (go_ret; exact ⟨.mk (by unfold beginsB; first | (simp [*]; done) | simp [*, Bool.or_assoc]), rfl⟩)
end Pk
end Go.Proofs.YtgfgdlnlafngnaaDoor
