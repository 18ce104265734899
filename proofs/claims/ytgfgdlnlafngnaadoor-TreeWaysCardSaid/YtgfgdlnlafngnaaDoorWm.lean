/- Walks: tree.Right. -/
import Derived.Test.YtgfgdlnlafngnaaDoorWl
namespace Go.Proofs.YtgfgdlnlafngnaaDoor
namespace Pk
open Go.RowKit

set_option maxRecDepth 100000 in
theorem looked_any {t : Nd} {S : Nat → Prop} {cs : List Value} (w : World) (hn : NdAt S w t cs) (hsz : Sz t) :
    Calls Tryd.prog 52 #[.agg cs.toArray] w fun e w' => Below w.heap.size w w' ∧ ∃ l r n' D' z, e = .returned (.tuple #[.pointer (some ⟨l, 0, none⟩), .bool z]) ∧ Hid (z = rightB t) ∧ Lk w' l r n' D' ∧
      (rightB t = true → n' = cnt t ∧ D' = dep t) := by
  obtain ⟨A, c, B, c2, rfl⟩ := nd_form hn
  have hn0 := hn.bound
  go_enter Tryd.func52, Tryd.ntmps52
  go_wp2_with fail
  have hb1 := below_new w (Obj.cells #[.int .i64 t.kind, .slice A t.bytes.length c, .slice B t.kids.length c2] 28)
  have hN1 := heap_alloc_new w (Obj.cells #[.int .i64 t.kind, .slice A t.bytes.length c, .slice B t.kids.length c2] 28)
  have hs1 : (w.alloc (Obj.cells #[.int .i64 t.kind, .slice A t.bytes.length c, .slice B t.kids.length c2] 28)).heap.size = w.heap.size + 1 := by simp
  generalize w.alloc (Obj.cells #[.int .i64 t.kind, .slice A t.bytes.length c, .slice B t.kids.length c2] 28) = w1 at *
  refine (kinds_any w1).mono ?_
  rintro e w2 ⟨r, rfl, hr, hb2, hr2⟩
  have hN2 := (hb2.block w.heap.size (by omega)).trans hN1
  have c0 : w2.cell? ⟨w.heap.size, 0, none⟩ = some (.int .i64 t.kind) := by rw [blk_cell' hN2]; rfl
  have c1 : w2.cell? ⟨w.heap.size, 1, none⟩ = some (.slice A t.bytes.length c) := by rw [blk_cell' hN2]; rfl
  have c3 : w2.cell? ⟨w.heap.size, 2, none⟩ = some (.slice B t.kids.length c2) := by rw [blk_cell' hN2]; rfl
  have hs2 := hb2.size
  have hlt : w.heap.size < w2.heap.size := by omega
  go_wp2_with fail
  have hb3 := below_new w2 (Obj.cells #[.map (some r), .int .i64 0, .int .i64 0] 93)
  have hL : Lk (w2.alloc (Obj.cells #[.map (some r), .int .i64 0, .int .i64 0] 93)) w2.heap.size r 0 0 := ⟨heap_alloc_new w2 _, blk_new' hr _⟩
  have hall := (hb1.via hb2).via hb3
  generalize w2.alloc (Obj.cells #[.map (some r), .int .i64 0, .int .i64 0] 93) = w3 at *
  refine (right_any t w3 _ w2.heap.size r 0 1 0 _ (hn0.below hall) hsz hL (by omega) (by omega) (by omega) (by omega) (fun k hk => by omega)).mono ?_
  rintro e w4 ⟨⟨z, rfl, hz⟩, ⟨n', D', hL4, himp⟩, hch⟩
  go_wp2_with fail
  have hz2 : Hid (z = rightB t) := by
    show _ = _
    rw [hz.out, rgt_right]
  refine bodyPost_ret (v := .tuple #[.pointer (some ⟨w2.heap.size, 0, none⟩), .bool z]) (by simp [results, Tryd.results52, go_sem]) rfl ⟨?_, _, _, _, _, _, rfl, hz2, hL4, fun h => ?_⟩
  · exact ((Chs.of_below hall).trans hch).below (fun k hk e => by omega)
  · rw [rgt_right] at himp
    obtain ⟨rfl, rfl⟩ := himp h
    have := dep_pos t
    omega

theorem right_is {t : Nd} {S : Nat → Prop} {cs : List Value} (w : World) (hn : NdAt S w t cs) (hsz : Sz t) :
    Calls Tryd.prog 22 #[.agg cs.toArray] w fun e w' => RetB (rightB t) e ∧ Below w.heap.size w w' := by
  obtain ⟨A, c, B, c2, rfl⟩ := nd_form hn
  go_enter Tryd.func22, Tryd.ntmps22
  go_wp2_with fail
  have hb1 := below_new w (Obj.cells #[.int .i64 t.kind, .slice A t.bytes.length c, .slice B t.kids.length c2] 28)
  refine (looked_any _ (hn.below hb1) hsz).mono ?_
  rintro e w4 ⟨hb, l, r, n', D', z, rfl, hz, _, _⟩
  go_wp2_with fail
  go_ret
  exact ⟨.mk (by rw [← hz.out]; rfl), hb1.via hb⟩
end Pk
end Go.Proofs.YtgfgdlnlafngnaaDoor
