/- Walks: tree.own at an empty directory. -/
import Derived.Test.YtgfgdlnlafngnaaDoorFi
import Derived.Test.YtgfgdlnlafngnaaDoorReg2
namespace Go.Proofs.YtgfgdlnlafngnaaDoor
namespace Pk
open Go.RowKit

theorem clone_nil (w : World) : Calls Tryd.prog 68 #[.slice none 0 0] w fun e w' => e = .returned (.slice none 0 0) ∧ w = w' := by
  have hq := fun (w : World) => Lib.run_eql_slice_nil_nil (P := Tryd.prog) w (t := 22) 0 0 Tryd.underlying22
  go_enter Tryd.func68, Tryd.ntmps68
  go_wp2
  go_ret
  exact ⟨rfl, rfl⟩

set_option maxRecDepth 100000 in
set_option maxHeartbeats 2000000 in
theorem own_dir (w : World) : Calls Tryd.prog 57 #[.agg #[.int .i64 4, .slice none 0 0, .slice none 0 0]] w fun e w' => e = .returned (.agg #[.int .i64 4, .slice none 0 0, .slice none 0 0]) ∧ Below w.heap.size w w' := by
  go_enter Tryd.func57, Tryd.ntmps57
  go_wp2_with fail
  have hb2 := below_new2 w (Obj.cells #[.int .i64 4, .slice none 0 0, .slice none 0 0] 28) (Obj.cells node0 28)
  have hN1 := blk_new' (heap_alloc_new w (Obj.cells #[.int .i64 4, .slice none 0 0, .slice none 0 0] 28)) (Obj.cells node0 28)
  have hN2 := alloc_at (w.alloc (Obj.cells #[.int .i64 4, .slice none 0 0, .slice none 0 0] 28)) (Obj.cells node0 28) (n := w.heap.size + 1) (by simp)
  have hs2 : ((w.alloc (Obj.cells #[.int .i64 4, .slice none 0 0, .slice none 0 0] 28)).alloc (Obj.cells node0 28)).heap.size = w.heap.size + 2 := by simp
  generalize (w.alloc (Obj.cells #[.int .i64 4, .slice none 0 0, .slice none 0 0] 28)).alloc (Obj.cells node0 28) = w2 at *
  have a0 : w2.cell? ⟨w.heap.size, 0, none⟩ = some (.int .i64 4) := by rw [blk_cell' hN1]; rfl
  have a1 : w2.cell? ⟨w.heap.size, 1, none⟩ = some (.slice none 0 0) := by rw [blk_cell' hN1]; rfl
  refine wp_region_held_drew (S := fun w' => w'.cell? ⟨w.heap.size, 0, none⟩ = some (Value.int .i64 4) ∧ w'.cell? ⟨w.heap.size, 1, none⟩ = some (Value.slice none 0 0)) (by kernel_rfl) ?_ (fun hHeld => ?_)
  · (try dsimp only); exact ⟨a0, a1⟩
  refine takeT 0 6 (v := ?_) rfl rfl (by kernel_rfl) (by kernel_rfl) (by kernel_rfl) (fun _ _ _ h => h) hHeld (by rfl) ?_ ?_
  rotate_left
  · intro w hSw; (try dsimp only at hSw); have hSa := hSw.1; have hSb := hSw.2; clear hSw; go_simp; (try with_reducible rfl)
  simp only [List.set_cons_zero, List.set_cons_succ]
  refine takeT 1 7 (v := ?_) rfl rfl (by kernel_rfl) (by kernel_rfl) (by kernel_rfl) (fun _ _ _ h => h) hHeld (by rfl) ?_ ?_
  rotate_left
  · intro w hSw; (try dsimp only at hSw); have hSa := hSw.1; have hSb := hSw.2; clear hSw; go_simp; (try with_reducible rfl)
  simp only [List.set_cons_zero, List.set_cons_succ]
  refine takeT 2 8 (v := ?_) rfl rfl (by kernel_rfl) (by kernel_rfl) (by kernel_rfl) (fun _ _ _ h => h) hHeld (by rfl) ?_ ?_
  rotate_left
  · intro w hSw; (try dsimp only at hSw); have hSa := hSw.1; have hSb := hSw.2; clear hSw; go_simp; (try with_reducible rfl)
  simp only [List.set_cons_zero, List.set_cons_succ]
  refine takeT 3 9 (v := ?_) rfl rfl (by kernel_rfl) (by kernel_rfl) (by kernel_rfl) (fun _ _ _ h => h) hHeld (by rfl) ?_ ?_
  rotate_left
  · intro w hSw; (try dsimp only at hSw); have hSa := hSw.1; have hSb := hSw.2; clear hSw; go_simp; (try with_reducible rfl)
  simp only [List.set_cons_zero, List.set_cons_succ]
  refine takeC2 4 6 rfl rfl (by kernel_rfl) (by rfl) (by rfl) (fun K hK => ?_) (fun K hK => ?_)
  · go_simp
    refine (clone_nil _).mono ?_
    rintro e w3 ⟨rfl, rfl⟩
    (try go_wp2_with fail)
    refine hK.out _ _ ?_ (fun hHeld => ?_)
    · (try dsimp only); exact ⟨cell_later (below_dr w2) a0, cell_later (below_dr w2) a1⟩
    clear hK
    refine takeT 5 11 (v := ?_) rfl rfl (by kernel_rfl) (by kernel_rfl) (by kernel_rfl) (fun _ _ _ h => h) hHeld (by rfl) ?_ ?_
    rotate_left
    · intro w hSw; (try dsimp only at hSw); have hSa := hSw.1; have hSb := hSw.2; clear hSw; go_simp; (try with_reducible rfl)
    simp only [List.set_cons_zero, List.set_cons_succ]
    refine takeC 6 rfl (by kernel_rfl) (by rfl) (fun K hK => ?_)
    go_simp
    have hb4 : Below w2.heap.size w2 (w2.alloc (Obj.cells node0 28)).drew := (below_new w2 _).via (below_dr _)
    have hL4 : (w2.alloc (Obj.cells node0 28)).drew.heap[w2.heap.size]? = some (.cells node0 28 (0, 0)) := heap_alloc_new w2 _
    have hs4 : (w2.alloc (Obj.cells node0 28)).drew.heap.size = w2.heap.size + 1 := by simp
    generalize (w2.alloc (Obj.cells node0 28)).drew = w4 at *
    have hN14 := (hb4.block w.heap.size (by omega)).trans hN1
    have hN24 := (hb4.block (w.heap.size + 1) (by omega)).trans hN2
    have hbT := hb2.via hb4
    rw [hs2] at hL4
    obtain ⟨nb, hnb⟩ : ∃ nb, nb = w.heap.size + 2 := ⟨_, rfl⟩
    rw [← hnb] at hL4
    rw [← hnb]
    have hnl : w.heap.size + 2 ≤ nb := by omega
    have hnl2 : nb ≤ w.heap.size + 2 := by omega
    clear hnb
    refine hK.out _ _ ?_ (fun hHeld => ?_)
    · (try dsimp only); exact ⟨by rw [blk_cell' hN14]; rfl, by rw [blk_cell' hN14]; rfl⟩
    clear hK
    have b0 : w4.cell? ⟨nb, 0, none⟩ = some (.int .i64 0) := by rw [blk_cell' hL4]; rfl
    have b1 : w4.cell? ⟨nb, 1, none⟩ = some (.slice none 0 0) := by rw [blk_cell' hL4]; rfl
    have b2 : w4.cell? ⟨nb, 2, none⟩ = some (.slice none 0 0) := by rw [blk_cell' hL4]; rfl
    have g0 := blk_frozen' hL4 0
    have g1 := blk_frozen' hL4 1
    have g2 := blk_frozen' hL4 2
    refine takeC 7 rfl (by kernel_rfl) (by rfl) (fun K hK => ?_)
    go_simp
    have hch5 := chs_set3 (T := fun x => x = nb) w4 nb (.int .i64 4) (.slice none 0 0) (.slice none 0 0) rfl
    have hL5 := blk_set3 hL4 (.int .i64 4) (.slice none 0 0) (.slice none 0 0)
    generalize ((w4.setCell ⟨nb, 0, none⟩ (.int .i64 4)).setCell ⟨nb, 1, none⟩ (.slice none 0 0)).setCell ⟨nb, 2, none⟩ (.slice none 0 0) = w5 at *
    have hN15 := (hch5.block w.heap.size (by omega) (by omega)).trans hN14
    have hN25 := (hch5.block (w.heap.size + 1) (by omega) (by omega)).trans hN24
    refine hK.out _ _ ?_ (fun hHeld => ?_)
    · (try dsimp only); exact ⟨by rw [blk_cell' hN15]; rfl, by rw [blk_cell' hN15]; rfl⟩
    clear hK
    refine wpAnyH_done (by kernel_rfl) ?_ _
    clear b0 b1 b2 g0 g1 g2 a0 a1
    have ⟨n0, n1, n2⟩ := cells3 hN15
    have ⟨c0, c1, c2⟩ := cells3 hL5
    have ⟨o0, o1, o2⟩ := cells3 hN25
    have f0 := blk_frozen' hN25 0
    have f1 := blk_frozen' hN25 1
    have f2 := blk_frozen' hN25 2
    have hfin := ((Chs.of_below hbT).trans hch5).below (fun x hx e => by omega)
    go_wp2_with fail
    go_loopw [15] (fun i wr => i = .int .i64 0 ∧ wr = w5) (fun _ _ => 0)
    case atStart => exact ⟨rfl, rfl⟩
    case round =>
      obtain ⟨rfl, rfl⟩ := hrel
      go_wp2_with fail
      have hst := chs_set3 (T := fun x => x = w.heap.size + 1) wr (w.heap.size + 1) (.int .i64 4) (.slice none 0 0) (.slice none 0 0) rfl
      have hO6 := blk_set3 hN25 (.int .i64 4) (.slice none 0 0) (.slice none 0 0)
      generalize ((wr.setCell ⟨w.heap.size + 1, 0, none⟩ (.int .i64 4)).setCell ⟨w.heap.size + 1, 1, none⟩ (.slice none 0 0)).setCell ⟨w.heap.size + 1, 2, none⟩ (.slice none 0 0) = w6 at *
      have ⟨p0, p1, p2⟩ := cells3 hO6
      refine bodyPost_ret (v := .agg #[.int .i64 4, .slice none 0 0, .slice none 0 0]) (by simp [results, Tryd.results57, go_sem, p0, p1, p2]) rfl ⟨rfl, ?_⟩
      exact ((Chs.of_below (T := fun k => w.heap.size ≤ k) hfin).trans (hst.mono (fun k _ e => by have : k = w.heap.size + 1 := e; omega))).below (fun k hk e => Nat.not_le_of_lt hk e)
  · go_simp
    have hb4 : Below w2.heap.size w2 (w2.alloc (Obj.cells node0 28)).drew := (below_new w2 _).via (below_dr _)
    have hL4 : (w2.alloc (Obj.cells node0 28)).drew.heap[w2.heap.size]? = some (.cells node0 28 (0, 0)) := heap_alloc_new w2 _
    have hs4 : (w2.alloc (Obj.cells node0 28)).drew.heap.size = w2.heap.size + 1 := by simp
    generalize (w2.alloc (Obj.cells node0 28)).drew = w4 at *
    have hN14 := (hb4.block w.heap.size (by omega)).trans hN1
    have hN24 := (hb4.block (w.heap.size + 1) (by omega)).trans hN2
    have hbT := hb2.via hb4
    rw [hs2] at hL4
    obtain ⟨nb, hnb⟩ : ∃ nb, nb = w.heap.size + 2 := ⟨_, rfl⟩
    rw [← hnb] at hL4
    rw [← hnb]
    have hnl : w.heap.size + 2 ≤ nb := by omega
    have hnl2 : nb ≤ w.heap.size + 2 := by omega
    clear hnb
    refine hK.out _ _ ?_ (fun hHeld => ?_)
    · (try dsimp only); exact ⟨by rw [blk_cell' hN14]; rfl, by rw [blk_cell' hN14]; rfl⟩
    clear hK
    refine takeC 4 rfl (by kernel_rfl) (by rfl) (fun K hK => ?_)
    go_simp
    refine (clone_nil _).mono ?_
    rintro e w3 ⟨rfl, rfl⟩
    (try go_wp2_with fail)
    refine hK.out _ _ ?_ (fun hHeld => ?_)
    · (try dsimp only); exact ⟨by rw [blk_cell' hN14]; rfl, by rw [blk_cell' hN14]; rfl⟩
    clear hK
    refine takeT 5 11 (v := ?_) rfl rfl (by kernel_rfl) (by kernel_rfl) (by kernel_rfl) (fun _ _ _ h => h) hHeld (by rfl) ?_ ?_
    rotate_left
    · intro w hSw; (try dsimp only at hSw); have hSa := hSw.1; have hSb := hSw.2; clear hSw; go_simp; (try with_reducible rfl)
    simp only [List.set_cons_zero, List.set_cons_succ]
    have b0 : w4.cell? ⟨nb, 0, none⟩ = some (.int .i64 0) := by rw [blk_cell' hL4]; rfl
    have b1 : w4.cell? ⟨nb, 1, none⟩ = some (.slice none 0 0) := by rw [blk_cell' hL4]; rfl
    have b2 : w4.cell? ⟨nb, 2, none⟩ = some (.slice none 0 0) := by rw [blk_cell' hL4]; rfl
    have g0 := blk_frozen' hL4 0
    have g1 := blk_frozen' hL4 1
    have g2 := blk_frozen' hL4 2
    refine takeC 7 rfl (by kernel_rfl) (by rfl) (fun K hK => ?_)
    go_simp
    have hch5 := chs_set3 (T := fun x => x = nb) w4 nb (.int .i64 4) (.slice none 0 0) (.slice none 0 0) rfl
    have hL5 := blk_set3 hL4 (.int .i64 4) (.slice none 0 0) (.slice none 0 0)
    generalize ((w4.setCell ⟨nb, 0, none⟩ (.int .i64 4)).setCell ⟨nb, 1, none⟩ (.slice none 0 0)).setCell ⟨nb, 2, none⟩ (.slice none 0 0) = w5 at *
    have hN15 := (hch5.block w.heap.size (by omega) (by omega)).trans hN14
    have hN25 := (hch5.block (w.heap.size + 1) (by omega) (by omega)).trans hN24
    refine hK.out _ _ ?_ (fun hHeld => ?_)
    · (try dsimp only); exact ⟨by rw [blk_cell' hN15]; rfl, by rw [blk_cell' hN15]; rfl⟩
    clear hK
    refine wpAnyH_done (by kernel_rfl) ?_ _
    clear b0 b1 b2 g0 g1 g2 a0 a1
    have ⟨n0, n1, n2⟩ := cells3 hN15
    have ⟨c0, c1, c2⟩ := cells3 hL5
    have ⟨o0, o1, o2⟩ := cells3 hN25
    have f0 := blk_frozen' hN25 0
    have f1 := blk_frozen' hN25 1
    have f2 := blk_frozen' hN25 2
    have hfin := ((Chs.of_below hbT).trans hch5).below (fun x hx e => by omega)
    go_wp2_with fail
    go_loopw [15] (fun i wr => i = .int .i64 0 ∧ wr = w5) (fun _ _ => 0)
    case atStart => exact ⟨rfl, rfl⟩
    case round =>
      obtain ⟨rfl, rfl⟩ := hrel
      go_wp2_with fail
      have hst := chs_set3 (T := fun x => x = w.heap.size + 1) wr (w.heap.size + 1) (.int .i64 4) (.slice none 0 0) (.slice none 0 0) rfl
      have hO6 := blk_set3 hN25 (.int .i64 4) (.slice none 0 0) (.slice none 0 0)
      generalize ((wr.setCell ⟨w.heap.size + 1, 0, none⟩ (.int .i64 4)).setCell ⟨w.heap.size + 1, 1, none⟩ (.slice none 0 0)).setCell ⟨w.heap.size + 1, 2, none⟩ (.slice none 0 0) = w6 at *
      have ⟨p0, p1, p2⟩ := cells3 hO6
      refine bodyPost_ret (v := .agg #[.int .i64 4, .slice none 0 0, .slice none 0 0]) (by simp [results, Tryd.results57, go_sem, p0, p1, p2]) rfl ⟨rfl, ?_⟩
      exact ((Chs.of_below (T := fun k => w.heap.size ≤ k) hfin).trans (hst.mono (fun k _ e => by have : k = w.heap.size + 1 := e; omega))).below (fun k hk e => Nat.not_le_of_lt hk e)
end Pk
end Go.Proofs.YtgfgdlnlafngnaaDoor
