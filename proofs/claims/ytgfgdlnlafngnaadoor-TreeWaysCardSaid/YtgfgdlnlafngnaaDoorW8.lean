/- Walks: how great a tree is, about. -/
import Derived.Test.YtgfgdlnlafngnaaDoorWu
namespace Go.Proofs.YtgfgdlnlafngnaaDoor
namespace Pk
open Go.RowKit

/-- It returns some number. -/
def Size8Ok (t : Nd) : Prop := ∀ (w : World) (S : Nat → Prop) (cs : List Value) (left : Int), NdAt S w t cs →
  Calls Tryd.prog 29 #[.agg cs.toArray, .int .i64 left] w fun e w' => (∃ z : Int, e = .returned (.int .i64 z)) ∧ Below w.heap.size w w'

set_option maxRecDepth 100000 in
set_option maxHeartbeats 2000000 in
theorem size8_any : ∀ t, Size8Ok t := by
  refine Nd.ind fun k b ks ih => ?_
  intro w S cs left h
  obtain ⟨A, c, B, c2, rfl⟩ := nd_form h
  dsimp only [Nd.kind, Nd.bytes, Nd.kids] at h ⊢
  unfold NdAt at h
  obtain ⟨_, _, _, cells, hcs, hbs, hc1, hc2, hrk, hks⟩ := h
  simp only [List.cons.injEq, Value.slice.injEq, and_true, true_and] at hcs
  obtain ⟨rfl, rfl, rfl⟩ := hcs
  have hkl : ks.length ≤ 9223372036854775807 := by omega
  have hbl : b.length ≤ 9223372036854775807 := by
    obtain ⟨_, _, e, h1, h2, _⟩ := hbs
    simp only [Value.slice.injEq] at e
    omega
  clear hbs
  have hb1 := below_new w (Obj.cells #[.int .i64 k, .slice A b.length c, .slice B ks.length c2] 28)
  have hN1 := heap_alloc_new w (Obj.cells #[.int .i64 k, .slice A b.length c, .slice B ks.length c2] 28)
  have hs1 : (w.alloc (Obj.cells #[.int .i64 k, .slice A b.length c, .slice B ks.length c2] 28)).heap.size = w.heap.size + 1 := by simp
  go_enter Tryd.func29, Tryd.ntmps29
  go_wp2_with fail
  generalize w.alloc (Obj.cells #[.int .i64 k, .slice A b.length c, .slice B ks.length c2] 28) = w1 at *
  go_loopw [5, 6] (fun a i wr => ∃ (z : Int) (j : Nat), j ≤ ks.length ∧ a = .int .i64 z ∧ i = .int .i64 j ∧ Below w1.heap.size w1 wr) (fun _ i _ => ks.length - (intOf i).toNat)
  case atStart => exact ⟨_, 0, by omega, rfl, rfl, Below.refl _ _⟩
  case round =>
    obtain ⟨z, j, hj, rfl, rfl, hbr⟩ := hrel
    have hN := (hbr.block w.heap.size (by omega)).trans hN1
    have y2 : wr.cell? ⟨w.heap.size, 2, none⟩ = some (.slice B ks.length c2) := by rw [blk_cell' hN]; rfl
    have hbw := hb1.via hbr
    by_cases hlt : j < ks.length
    · by_cases hz : z ≤ left
      · obtain ⟨ad, A1, c1, B1, d1, rfl, _, x0, x1, x2, x3, hnj⟩ := kid_form (hrk.below hbw) (hks.below hbw) j hlt
        go_wp2_with fail
        refine wp_region_held_drew (S := fun w' => w'.cell? ⟨w.heap.size, 2, none⟩ = some (.slice (some ad) ks.length c2) ∧ w'.cell? (ad.add (j * 4)) = some (.string ks[j].1) ∧ w'.cell? ⟨(ad.add (j * 4)).block, (ad.add (j * 4)).off + 1, none⟩ = some (.int .i64 ks[j].2.kind) ∧ w'.cell? ⟨(ad.add (j * 4)).block, (ad.add (j * 4)).off + 2, none⟩ = some (.slice A1 ks[j].2.bytes.length c1) ∧ w'.cell? ⟨(ad.add (j * 4)).block, (ad.add (j * 4)).off + 3, none⟩ = some (.slice B1 ks[j].2.kids.length d1)) (by kernel_rfl) ?_ (fun hHeld => ?_)
        · (try dsimp only); exact ⟨y2, x0, x1, x2, x3⟩
        refine takeT 0 24 (v := ?_) rfl rfl (by kernel_rfl) (by kernel_rfl) (by kernel_rfl) (fun _ _ _ h => h) hHeld (by rfl) ?_ ?_
        rotate_left
        · intro w hSw; (try dsimp only at hSw); have hSa := hSw.1; have hSb := hSw.2.1; have hSc := hSw.2.2.1; have hSd := hSw.2.2.2.1; have hSe := hSw.2.2.2.2; clear hSw; go_simp; (try with_reducible rfl)
        simp only [List.set_cons_zero, List.set_cons_succ]
        refine takeT 1 25 (v := ?_) rfl rfl (by kernel_rfl) (by kernel_rfl) (by kernel_rfl) (fun _ _ _ h => h) hHeld (by rfl) ?_ ?_
        rotate_left
        · intro w hSw; (try dsimp only at hSw); have hSa := hSw.1; have hSb := hSw.2.1; have hSc := hSw.2.2.1; have hSd := hSw.2.2.2.1; have hSe := hSw.2.2.2.2; clear hSw; go_simp; (try with_reducible rfl)
        simp only [List.set_cons_zero, List.set_cons_succ]
        refine takeT 2 26 (v := ?_) rfl rfl (by kernel_rfl) (by kernel_rfl) (by kernel_rfl) (fun _ _ _ h => h) hHeld (by rfl) ?_ ?_
        rotate_left
        · intro w hSw; (try dsimp only at hSw); have hSa := hSw.1; have hSb := hSw.2.1; have hSc := hSw.2.2.1; have hSd := hSw.2.2.2.1; have hSe := hSw.2.2.2.2; clear hSw; go_simp; (try with_reducible rfl)
        simp only [List.set_cons_zero, List.set_cons_succ]
        refine takeT 3 27 (v := ?_) rfl rfl (by kernel_rfl) (by kernel_rfl) (by kernel_rfl) (fun _ _ _ h => h) hHeld (by rfl) ?_ ?_
        rotate_left
        · intro w hSw; (try dsimp only at hSw); have hSa := hSw.1; have hSb := hSw.2.1; have hSc := hSw.2.2.1; have hSd := hSw.2.2.2.1; have hSe := hSw.2.2.2.2; clear hSw; go_simp; (try with_reducible rfl)
        simp only [List.set_cons_zero, List.set_cons_succ]
        refine takeT 4 28 (v := ?_) rfl rfl (by kernel_rfl) (by kernel_rfl) (by kernel_rfl) (fun _ _ _ h => h) hHeld (by rfl) ?_ ?_
        rotate_left
        · intro w hSw; (try dsimp only at hSw); have hSa := hSw.1; have hSb := hSw.2.1; have hSc := hSw.2.2.1; have hSd := hSw.2.2.2.1; have hSe := hSw.2.2.2.2; clear hSw; go_simp; (try with_reducible rfl)
        simp only [List.set_cons_zero, List.set_cons_succ]
        refine takeT 5 29 (v := ?_) rfl rfl (by kernel_rfl) (by kernel_rfl) (by kernel_rfl) (fun _ _ _ h => h) hHeld (by rfl) ?_ ?_
        rotate_left
        · intro w hSw; (try dsimp only at hSw); have hSa := hSw.1; have hSb := hSw.2.1; have hSc := hSw.2.2.1; have hSd := hSw.2.2.2.1; have hSe := hSw.2.2.2.2; clear hSw; go_simp; (try with_reducible rfl)
        simp only [List.set_cons_zero, List.set_cons_succ]
        refine takeT 6 30 (v := ?_) rfl rfl (by kernel_rfl) (by kernel_rfl) (by kernel_rfl) (fun _ _ _ h => h) hHeld (by rfl) ?_ ?_
        rotate_left
        · intro w hSw; (try dsimp only at hSw); have hSa := hSw.1; have hSb := hSw.2.1; have hSc := hSw.2.2.1; have hSd := hSw.2.2.2.1; have hSe := hSw.2.2.2.2; clear hSw; go_simp; (try with_reducible rfl)
        simp only [List.set_cons_zero, List.set_cons_succ]
        refine takeT 7 31 (v := ?_) rfl rfl (by kernel_rfl) (by kernel_rfl) (by kernel_rfl) (fun _ _ _ h => h) hHeld (by rfl) ?_ ?_
        rotate_left
        · intro w hSw; (try dsimp only at hSw); have hSa := hSw.1; have hSb := hSw.2.1; have hSc := hSw.2.2.1; have hSd := hSw.2.2.2.1; have hSe := hSw.2.2.2.2; clear hSw; go_simp; (try with_reducible rfl)
        simp only [List.set_cons_zero, List.set_cons_succ]
        refine takeT 8 32 (v := ?_) rfl rfl (by kernel_rfl) (by kernel_rfl) (by kernel_rfl) (fun _ _ _ h => h) hHeld (by rfl) ?_ ?_
        rotate_left
        · intro w hSw; (try dsimp only at hSw); have hSa := hSw.1; have hSb := hSw.2.1; have hSc := hSw.2.2.1; have hSd := hSw.2.2.2.1; have hSe := hSw.2.2.2.2; clear hSw; go_simp; (try with_reducible rfl)
        simp only [List.set_cons_zero, List.set_cons_succ]
        refine takeT 9 33 (v := ?_) rfl rfl (by kernel_rfl) (by kernel_rfl) (by kernel_rfl) (fun _ _ _ h => h) hHeld (by rfl) ?_ ?_
        rotate_left
        · intro w hSw; (try dsimp only at hSw); have hSa := hSw.1; have hSb := hSw.2.1; have hSc := hSw.2.2.1; have hSd := hSw.2.2.2.1; have hSe := hSw.2.2.2.2; clear hSw; go_simp; (try with_reducible rfl)
        simp only [List.set_cons_zero, List.set_cons_succ]
        refine takeT 10 34 (v := ?_) rfl rfl (by kernel_rfl) (by kernel_rfl) (by kernel_rfl) (fun _ _ _ h => h) hHeld (by rfl) ?_ ?_
        rotate_left
        · intro w hSw; (try dsimp only at hSw); have hSa := hSw.1; have hSb := hSw.2.1; have hSc := hSw.2.2.1; have hSd := hSw.2.2.2.1; have hSe := hSw.2.2.2.2; clear hSw; go_simp; (try with_reducible rfl)
        simp only [List.set_cons_zero, List.set_cons_succ]
        refine takeT 11 35 (v := ?_) rfl rfl (by kernel_rfl) (by kernel_rfl) (by kernel_rfl) (fun _ _ _ h => h) hHeld (by rfl) ?_ ?_
        rotate_left
        · intro w hSw; (try dsimp only at hSw); have hSa := hSw.1; have hSb := hSw.2.1; have hSc := hSw.2.2.1; have hSd := hSw.2.2.2.1; have hSe := hSw.2.2.2.2; clear hSw; go_simp; (try with_reducible rfl)
        simp only [List.set_cons_zero, List.set_cons_succ]
        refine takeT 12 36 (v := ?_) rfl rfl (by kernel_rfl) (by kernel_rfl) (by kernel_rfl) (fun _ _ _ h => h) hHeld (by rfl) ?_ ?_
        rotate_left
        · intro w hSw; (try dsimp only at hSw); have hSa := hSw.1; have hSb := hSw.2.1; have hSc := hSw.2.2.1; have hSd := hSw.2.2.2.1; have hSe := hSw.2.2.2.2; clear hSw; go_simp; (try with_reducible rfl)
        simp only [List.set_cons_zero, List.set_cons_succ]
        refine takeT 13 37 (v := ?_) rfl rfl (by kernel_rfl) (by kernel_rfl) (by kernel_rfl) (fun _ _ _ h => h) hHeld (by rfl) ?_ ?_
        rotate_left
        · intro w hSw; (try dsimp only at hSw); have hSa := hSw.1; have hSb := hSw.2.1; have hSc := hSw.2.2.1; have hSd := hSw.2.2.2.1; have hSe := hSw.2.2.2.2; clear hSw; go_simp; (try with_reducible rfl)
        simp only [List.set_cons_zero, List.set_cons_succ]
        refine takeT 14 38 (v := ?_) rfl rfl (by kernel_rfl) (by kernel_rfl) (by kernel_rfl) (fun _ _ _ h => h) hHeld (by rfl) ?_ ?_
        rotate_left
        · intro w hSw; (try dsimp only at hSw); have hSa := hSw.1; have hSb := hSw.2.1; have hSc := hSw.2.2.1; have hSd := hSw.2.2.2.1; have hSe := hSw.2.2.2.2; clear hSw; go_simp; (try with_reducible rfl)
        simp only [List.set_cons_zero, List.set_cons_succ]
        refine takeT 15 39 (v := ?_) rfl rfl (by kernel_rfl) (by kernel_rfl) (by kernel_rfl) (fun _ _ _ h => h) hHeld (by rfl) ?_ ?_
        rotate_left
        · intro w hSw; (try dsimp only at hSw); have hSa := hSw.1; have hSb := hSw.2.1; have hSc := hSw.2.2.1; have hSd := hSw.2.2.2.1; have hSe := hSw.2.2.2.2; clear hSw; go_simp; (try with_reducible rfl)
        simp only [List.set_cons_zero, List.set_cons_succ]
        refine takeT 16 40 (v := ?_) rfl rfl (by kernel_rfl) (by kernel_rfl) (by kernel_rfl) (fun _ _ _ h => h) hHeld (by rfl) ?_ ?_
        rotate_left
        · intro w hSw; (try dsimp only at hSw); have hSa := hSw.1; have hSb := hSw.2.1; have hSc := hSw.2.2.1; have hSd := hSw.2.2.2.1; have hSe := hSw.2.2.2.2; clear hSw; go_simp; (try with_reducible rfl)
        simp only [List.set_cons_zero, List.set_cons_succ]
        refine takeT 17 41 (v := ?_) rfl rfl (by kernel_rfl) (by kernel_rfl) (by kernel_rfl) (fun _ _ _ h => h) hHeld (by rfl) ?_ ?_
        rotate_left
        · intro w hSw; (try dsimp only at hSw); have hSa := hSw.1; have hSb := hSw.2.1; have hSc := hSw.2.2.1; have hSd := hSw.2.2.2.1; have hSe := hSw.2.2.2.2; clear hSw; go_simp; (try with_reducible rfl)
        simp only [List.set_cons_zero, List.set_cons_succ]
        refine takeT 18 42 (v := ?_) rfl rfl (by kernel_rfl) (by kernel_rfl) (by kernel_rfl) (fun _ _ _ h => h) hHeld (by rfl) ?_ ?_
        rotate_left
        · intro w hSw; (try dsimp only at hSw); have hSa := hSw.1; have hSb := hSw.2.1; have hSc := hSw.2.2.1; have hSd := hSw.2.2.2.1; have hSe := hSw.2.2.2.2; clear hSw; go_simp; (try with_reducible rfl)
        simp only [List.set_cons_zero, List.set_cons_succ]
        refine takeT 19 43 (v := ?_) rfl rfl (by kernel_rfl) (by kernel_rfl) (by kernel_rfl) (fun _ _ _ h => h) hHeld (by rfl) ?_ ?_
        rotate_left
        · intro w hSw; (try dsimp only at hSw); have hSa := hSw.1; have hSb := hSw.2.1; have hSc := hSw.2.2.1; have hSd := hSw.2.2.2.1; have hSe := hSw.2.2.2.2; clear hSw; go_simp; (try with_reducible rfl)
        simp only [List.set_cons_zero, List.set_cons_succ]
        refine takeC 20 rfl (by kernel_rfl) (by rfl) (fun K hK => ?_)
        go_simp
        refine (ih ks[j] (List.getElem_mem hlt) _ S _ _ (hnj.below (below_dr _))).mono ?_; rintro e w4 ⟨⟨z4, rfl⟩, hb4⟩; (try go_wp2_with fail)
        refine hK.out _ _ ?_ (fun hHeld => ?_)
        · (try dsimp only); exact ⟨cell_later hb4 y2, cell_later hb4 x0, cell_later hb4 x1, cell_later hb4 x2, cell_later hb4 x3⟩
        clear hK K
        refine takeT 21 45 (v := ?_) rfl rfl (by kernel_rfl) (by kernel_rfl) (by kernel_rfl) (fun _ _ _ h => h) hHeld (by rfl) ?_ ?_
        rotate_left
        · intro w hSw; (try dsimp only at hSw); have hSa := hSw.1; have hSb := hSw.2.1; have hSc := hSw.2.2.1; have hSd := hSw.2.2.2.1; have hSe := hSw.2.2.2.2; clear hSw; go_simp; (try with_reducible rfl)
        simp only [List.set_cons_zero, List.set_cons_succ]
        refine takeT 22 5 (v := ?_) rfl rfl (by kernel_rfl) (by kernel_rfl) (by kernel_rfl) (fun _ _ _ h => h) hHeld (by rfl) ?_ ?_
        rotate_left
        · intro w hSw; (try dsimp only at hSw); have hSa := hSw.1; have hSb := hSw.2.1; have hSc := hSw.2.2.1; have hSd := hSw.2.2.2.1; have hSe := hSw.2.2.2.2; clear hSw; go_simp; (try with_reducible rfl)
        simp only [List.set_cons_zero, List.set_cons_succ]
        refine wpAnyH_done (by kernel_rfl) ?_ _
        go_wp2
        go_roundw
        · exact ⟨_, j + 1, by omega, rfl, rfl, (hbr.via (below_dr _)).via hb4⟩
        · simp [intOf]; omega
      · go_wp2_with fail
        go_ret
        exact ⟨⟨_, rfl⟩, hbw⟩
    · go_wp2_with fail
      go_ret
      exact ⟨⟨_, rfl⟩, hbw⟩
end Pk
end Go.Proofs.YtgfgdlnlafngnaaDoor
