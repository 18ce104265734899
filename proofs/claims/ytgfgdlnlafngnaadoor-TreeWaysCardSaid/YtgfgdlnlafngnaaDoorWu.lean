/- Walks: tree.own. -/
import Derived.Test.YtgfgdlnlafngnaaDoorWo
import Derived.Test.YtgfgdlnlafngnaaDoorReg2
namespace Go.Proofs.YtgfgdlnlafngnaaDoor
namespace Pk
open Go.RowKit

/-- What holds at the head of each round of tree.own: j kids are copied. -/
structure OwnInv (k : Int) (b : List UInt8) (ks : List (ByteArray × Nd)) (W : World) (nb : Nat) (A3 : Option Addr) (c3 j : Nat) (wr : World) : Prop where
  out : ∃ A4 c4 cells, wr.heap[nb]? = some (.cells #[.int .i64 k, .slice A3 b.length c3, .slice A4 j c4] 28 (0, 0)) ∧ wr.ownsRow W.heap.size 57 4 (.slice A4 j c4) j cells ∧
    KsAt (fun x => W.heap.size ≤ x ∧ A4.map (·.block) ≠ some x) wr (ks.take j) cells ∧ Chs (fun x => x = nb) W wr

/-- tree.own. -/
def OwnOk (t : Nd) : Prop := ∀ (w : World) (S : Nat → Prop) (cs : List Value), NdAt S w t cs → allB t = true →
  Calls Tryd.prog 57 #[.agg cs.toArray] w fun e w' => Below w.heap.size w w' ∧ ∃ c0 c1 c2, e = .returned (.agg #[c0, c1, c2]) ∧ NdAt (fun k => w.heap.size ≤ k) w' t [c0, c1, c2]

set_option maxRecDepth 100000 in
set_option maxHeartbeats 2000000 in
theorem own_any : ∀ t, OwnOk t := by
  refine Nd.ind fun k b ks ih => ?_
  intro w S cs h hall
  obtain ⟨A, c, B, c2, rfl⟩ := nd_form h
  dsimp only [Nd.kind, Nd.bytes, Nd.kids] at h ⊢
  unfold NdAt at h
  obtain ⟨_, _, _, cells, hcs, hbs, hc1, hc2, hrk, hks⟩ := h
  simp only [List.cons.injEq, Value.slice.injEq, and_true, true_and] at hcs
  obtain ⟨rfl, rfl, rfl⟩ := hcs
  simp only [allB, Bool.and_eq_true] at hall
  have hkl : ks.length ≤ 200 := by
    by_cases hk4 : k = 4
    · subst hk4
      exact (alone4 hall.1).2.1
    · rw [(alone_not4 hall.1 hk4).2.2.2]
      simp
  have hbl : b.length ≤ 2048 := by
    by_cases hk4 : k = 4
    · subst hk4
      rw [(alone4 hall.1).1]
      simp
    · exact (alone_not4 hall.1 hk4).2.2.1
  have HALL := Lib.hid hall.2
  clear hall
  go_enter Tryd.func57, Tryd.ntmps57
  go_wp2_with fail
  have hb2 := below_new2 w (Obj.cells #[.int .i64 k, .slice A b.length c, .slice B ks.length c2] 28) (Obj.cells node0 28)
  have hN1 := blk_new' (heap_alloc_new w (Obj.cells #[.int .i64 k, .slice A b.length c, .slice B ks.length c2] 28)) (Obj.cells node0 28)
  have hN2 := heap_alloc_new (w.alloc (Obj.cells #[.int .i64 k, .slice A b.length c, .slice B ks.length c2] 28)) (Obj.cells node0 28)
  rw [show (w.alloc (Obj.cells #[.int .i64 k, .slice A b.length c, .slice B ks.length c2] 28)).heap.size = w.heap.size + 1 from by simp] at hN2
  have hs2 : ((w.alloc (Obj.cells #[.int .i64 k, .slice A b.length c, .slice B ks.length c2] 28)).alloc (Obj.cells node0 28)).heap.size = w.heap.size + 2 := by simp
  generalize (w.alloc (Obj.cells #[.int .i64 k, .slice A b.length c, .slice B ks.length c2] 28)).alloc (Obj.cells node0 28) = w2 at *
  rename_i K HKK
  have TAIL : ∀ (W : World) (nb : Nat) (A3 : Option Addr) (c3 : Nat), W.heap[w.heap.size]? = some (.cells #[.int .i64 k, .slice A b.length c, .slice B ks.length c2] 28 (0, 0)) → W.heap[w.heap.size + 1]? = some (.cells node0 28 (0, 0)) →
      W.heap[nb]? = some (.cells #[.int .i64 k, .slice A3 b.length c3, .slice none 0 0] 28 (0, 0)) → w.heap.size + 2 ≤ nb → BsAt (fun x => w.heap.size + 2 ≤ x ∧ x ≠ nb) W (.slice A3 b.length c3) b → Below w.heap.size w W →
      K ⟨#[.agg #[.int .i64 k, .slice A b.length c, .slice B ks.length c2], .pointer (some ⟨w.heap.size, 0, none⟩), .pointer (some ⟨w.heap.size + 1, 0, none⟩), .pointer (some ⟨nb, 0, none⟩), undef, undef, .pointer (some ⟨w.heap.size, 0, none⟩), .int .i64 k, .pointer (some ⟨w.heap.size, 1, none⟩), .slice A b.length c, .slice A3 b.length c3,
        .agg #[.int .i64 k, .slice A3 b.length c3, .slice none 0 0], undef, undef, undef, undef, undef, undef, undef, undef, undef, undef, undef, undef, undef, undef, undef, undef, undef, undef, undef, undef], []⟩ W := by
    intro W nb A3 c3 h1 h2 h3 h4 h5 h6
    have z2 : W.cell? ⟨w.heap.size, 2, none⟩ = some (.slice B ks.length c2) := by rw [blk_cell' h1]; rfl
    have hnl := (Array.getElem?_eq_some_iff.1 h3).1
    have hinv : OwnInv k b ks W nb A3 c3 0 W := ⟨none, 0, [], h3, ⟨rfl, .inl ⟨rfl, rfl⟩⟩, by unfold KsAt; rfl, Chs.refl _ _⟩
    have H2 := Lib.hid h2
    have H5 := Lib.hid h5
    clear h1 h2 h3 h5 hN1 hN2 hb2 hs2
    refine HKK _ _ ?_
    go_wp2_with fail
    go_loopw [15] (fun i wr => ∃ j : Nat, j ≤ ks.length ∧ i = .int .i64 j ∧ OwnInv k b ks W nb A3 c3 j wr) (fun i _ => ks.length - (intOf i).toNat)
    case atStart => exact ⟨0, by omega, rfl, hinv⟩
    case round =>
      obtain ⟨j, hj, rfl, ⟨A4, c4, rcells, hnb, hown, hkt, hch⟩⟩ := hrel
      have hbwr : Below w.heap.size w wr := ((Chs.of_below h6).trans hch).below (fun x hx e => by omega)
      have hHs := hch.size
      have HNB := Lib.hid hnb
      have HKT := Lib.hid hkt
      have HOW := Lib.hid hown
      clear hnb hkt hown hinv
      by_cases hlt : j < ks.length
      · obtain ⟨ad, A1, c1, B1, d1, rfl, _, x0, x1, x2, x3, hnj⟩ := kid_form (hrk.below hbwr) (hks.below hbwr) j hlt
        go_wp2_with fail
        have hb4 := below_new wr (Obj.cells #[.string ks[j].1, .int .i64 ks[j].2.kind, .slice A1 ks[j].2.bytes.length c1, .slice B1 ks[j].2.kids.length d1] 57)
        have hK4 := heap_alloc_new wr (Obj.cells #[.string ks[j].1, .int .i64 ks[j].2.kind, .slice A1 ks[j].2.bytes.length c1, .slice B1 ks[j].2.kids.length d1] 57)
        have hN4 := (hb4.block nb (by omega)).trans HNB.out
        have hs4 : (wr.alloc (Obj.cells #[.string ks[j].1, .int .i64 ks[j].2.kind, .slice A1 ks[j].2.bytes.length c1, .slice B1 ks[j].2.kids.length d1] 57)).heap.size = wr.heap.size + 1 := by simp
        generalize wr.alloc (Obj.cells #[.string ks[j].1, .int .i64 ks[j].2.kind, .slice A1 ks[j].2.bytes.length c1, .slice B1 ks[j].2.kids.length d1] 57) = w4 at *
        have q2 : w4.cell? ⟨nb, 2, none⟩ = some (.slice A4 j c4) := by rw [blk_cell' hN4]; rfl
        have k0 : w4.cell? ⟨wr.heap.size, 0, none⟩ = some (.string ks[j].1) := by rw [blk_cell' hK4]; rfl
        have k1 : w4.cell? ⟨wr.heap.size, 1, none⟩ = some (.int .i64 ks[j].2.kind) := by rw [blk_cell' hK4]; rfl
        have k2 : w4.cell? ⟨wr.heap.size, 2, none⟩ = some (.slice A1 ks[j].2.bytes.length c1) := by rw [blk_cell' hK4]; rfl
        have k3 : w4.cell? ⟨wr.heap.size, 3, none⟩ = some (.slice B1 ks[j].2.kids.length d1) := by rw [blk_cell' hK4]; rfl
        obtain ⟨i0, hi0, hz0, hz1, hz2⟩ := info_parts info_kid
        refine wp_region_held_drew (S := fun w' => w'.cell? ⟨wr.heap.size, 0, none⟩ = some (.string ks[j].1) ∧ w'.cell? ⟨wr.heap.size, 1, none⟩ = some (.int .i64 ks[j].2.kind) ∧ w'.cell? ⟨wr.heap.size, 2, none⟩ = some (.slice A1 ks[j].2.bytes.length c1) ∧ w'.cell? ⟨wr.heap.size, 3, none⟩ = some (.slice B1 ks[j].2.kids.length d1)) (by kernel_rfl) ?_ (fun hHeld => ?_)
        · (try dsimp only); exact ⟨k0, k1, k2, k3⟩
        refine takeT 0 19 (v := ?_) rfl rfl (by kernel_rfl) (by kernel_rfl) (by kernel_rfl) (fun _ _ _ h => h) hHeld (by rfl) ?_ ?_
        rotate_left
        · intro w hSw; (try dsimp only at hSw); have hSa := hSw.1; have hSb := hSw.2.1; have hSc := hSw.2.2.1; have hSd := hSw.2.2.2; clear hSw; go_simp; (try with_reducible rfl)
        simp only [List.set_cons_zero, List.set_cons_succ]
        refine takeT 2 21 (v := ?_) rfl rfl (by kernel_rfl) (by kernel_rfl) (by kernel_rfl) (fun _ _ _ h => h) hHeld (by rfl) ?_ ?_
        rotate_left
        · intro w hSw; (try dsimp only at hSw); have hSa := hSw.1; have hSb := hSw.2.1; have hSc := hSw.2.2.1; have hSd := hSw.2.2.2; clear hSw; go_simp; (try with_reducible rfl)
        simp only [List.set_cons_zero, List.set_cons_succ]
        refine takeT 3 22 (v := ?_) rfl rfl (by kernel_rfl) (by kernel_rfl) (by kernel_rfl) (fun _ _ _ h => h) hHeld (by rfl) ?_ ?_
        rotate_left
        · intro w hSw; (try dsimp only at hSw); have hSa := hSw.1; have hSb := hSw.2.1; have hSc := hSw.2.2.1; have hSd := hSw.2.2.2; clear hSw; go_simp; (try with_reducible rfl)
        simp only [List.set_cons_zero, List.set_cons_succ]
        refine takeT 4 23 (v := ?_) rfl rfl (by kernel_rfl) (by kernel_rfl) (by kernel_rfl) (fun _ _ _ h => h) hHeld (by rfl) ?_ ?_
        rotate_left
        · intro w hSw; (try dsimp only at hSw); have hSa := hSw.1; have hSb := hSw.2.1; have hSc := hSw.2.2.1; have hSd := hSw.2.2.2; clear hSw; go_simp; (try with_reducible rfl)
        simp only [List.set_cons_zero, List.set_cons_succ]
        refine takeT 5 24 (v := ?_) rfl rfl (by kernel_rfl) (by kernel_rfl) (by kernel_rfl) (fun _ _ _ h => h) hHeld (by rfl) ?_ ?_
        rotate_left
        · intro w hSw; (try dsimp only at hSw); have hSa := hSw.1; have hSb := hSw.2.1; have hSc := hSw.2.2.1; have hSd := hSw.2.2.2; clear hSw; go_simp; (try with_reducible rfl)
        simp only [List.set_cons_zero, List.set_cons_succ]
        refine takeC2 1 6 rfl rfl (by kernel_rfl) (by rfl) (by rfl) (fun K hK => ?_) (fun K hK => ?_)
        · have q2' := cell_later (below_dr w4) q2
          go_simp
          refine hK.out _ _ ?_ (fun hHeld => ?_)
          · (try dsimp only); exact ⟨cell_later (below_dr w4) k0, cell_later (below_dr w4) k1, cell_later (below_dr w4) k2, cell_later (below_dr w4) k3⟩
          clear hK
          refine takeC 6 rfl (by kernel_rfl) (by rfl) (fun K hK => ?_)
          go_simp
          refine (ih ks[j] (List.getElem_mem hlt) _ S _ (hnj.below (hb4.via (below_dr _))) (allK_mem ks HALL.out _ (List.getElem_mem hlt))).mono ?_
          rintro e w6 ⟨hb6, u0, u1, u2, rfl, hn6⟩
          obtain ⟨A6, c6, B6, d6, hcs⟩ := nd_form hn6
          simp only [List.cons.injEq, and_true] at hcs
          obtain ⟨rfl, rfl, rfl⟩ := hcs
          (try go_wp2_with fail)
          have hb46 : Below w4.heap.size w4 w6 := (below_dr w4).via hb6
          have hbr6 := hb4.via hb46
          have hs6 := hb46.size
          refine hK.out _ _ ?_ (fun hHeld => ?_)
          · (try dsimp only); exact ⟨cell_later hb46 k0, cell_later hb46 k1, cell_later hb46 k2, cell_later hb46 k3⟩
          clear hK
          refine takeT 7 26 (v := ?_) rfl rfl (by kernel_rfl) (by kernel_rfl) (by kernel_rfl) (fun _ _ _ h => h) hHeld (by rfl) ?_ ?_
          rotate_left
          · intro w hSw; (try dsimp only at hSw); have hSa := hSw.1; have hSb := hSw.2.1; have hSc := hSw.2.2.1; have hSd := hSw.2.2.2; clear hSw; go_simp; (try with_reducible rfl)
          simp only [List.set_cons_zero, List.set_cons_succ]
          refine takeC 8 rfl (by kernel_rfl) (by rfl) (fun K hK => ?_)
          go_simp
          have hb7 := below_new w6 (Obj.cells #[.string ks[j].1, .int .i64 ks[j].2.kind, .slice A6 ks[j].2.bytes.length c6, .slice B6 ks[j].2.kids.length d6] 57)
          have hr7 : Rd (w6.alloc (Obj.cells #[.string ks[j].1, .int .i64 ks[j].2.kind, .slice A6 ks[j].2.bytes.length c6, .slice B6 ks[j].2.kids.length d6] 57)) (fun x => x = w6.heap.size) (some ⟨w6.heap.size, 0, none⟩) [.string ks[j].1, .int .i64 ks[j].2.kind, .slice A6 ks[j].2.bytes.length c6, .slice B6 ks[j].2.kids.length d6] := Rd.new rfl
          have hs7 : (w6.alloc (Obj.cells #[.string ks[j].1, .int .i64 ks[j].2.kind, .slice A6 ks[j].2.bytes.length c6, .slice B6 ks[j].2.kids.length d6] 57)).heap.size = w6.heap.size + 1 := by simp
          generalize w6.alloc (Obj.cells #[.string ks[j].1, .int .i64 ks[j].2.kind, .slice A6 ks[j].2.bytes.length c6, .slice B6 ks[j].2.kids.length d6] 57) = w7 at *
          have hb47 := hb46.via hb7
          have hbr7 := hbr6.via hb7
          refine hK.out _ _ ?_ (fun hHeld => ?_)
          · (try dsimp only); exact ⟨cell_later hb47 k0, cell_later hb47 k1, cell_later hb47 k2, cell_later hb47 k3⟩
          clear hK
          refine takeC 9 rfl (by kernel_rfl) (by rfl) (fun K hK => ?_)
          have hown7 := own_move' (w' := w7) HOW.out (fun x _ hx _ => hbr7.block x hx)
          refine wp_append_rd _ (.tmp 20) (.tmp 27) 26 rfl W.heap.size 57 i0 _ 4 72 Tryd.underlying26 hi0 hz0 hz1 hz2 rfl (by omega) (.slice A4 j c4) j rcells rfl hown7 (some ⟨w6.heap.size, 0, none⟩) 1 1 _ rfl rfl hr7 (by intro u hu; simp at hu; rcases hu with rfl | rfl | rfl | rfl <;> rfl) (by simp only [maxLen]; omega) (by omega) (by omega) ?_
          intro v' w8 hown8 hg8 hat8
          obtain ⟨A8, c8, rfl⟩ := own_form hown8
          rw [own_block, own_block] at hat8
          rw [own_block] at hg8
          have hrow : ∀ x, A4.map (·.block) = some x → W.heap.size ≤ x ∧ x < wr.heap.size := fun x hx => own_lt' HOW.out (by rw [own_block]; exact hx)
          have hT8 : ∀ x, x < w7.heap.size → A4.map (·.block) ≠ some x → w8.heap[x]? = w7.heap[x]? := fun x hx hne => World.grownBy.block hg8 x hx (fun e => hne e.symm)
          have hN8 := (hT8 nb (by have := hbr7.size; omega) (fun e => by have := hrow _ e; omega)).trans ((hbr7.block nb (by omega)).trans HNB.out)
          have hs8 := World.grownBy.size hg8
          have hK8 := (hT8 wr.heap.size (by have := hb47.size; omega) (fun e => by have := hrow _ e; omega)).trans ((hb47.block wr.heap.size (by omega)).trans hK4)
          refine hK.out _ _ ?_ (fun hHeld => ?_)
          · (try dsimp only)
            refine ⟨?_, ?_, ?_, ?_⟩
            all_goals (rw [blk_cell' hK8]; rfl)
          clear hK
          have f2 := blk_frozen' hN8 2
          have q8 : w8.cell? ⟨nb, 2, none⟩ = some (.slice A4 j c4) := by rw [blk_cell' hN8]; rfl
          refine takeT 10 29 (v := ?_) rfl rfl (by kernel_rfl) (by kernel_rfl) (by kernel_rfl) (fun _ _ _ h => h) hHeld (by rfl) ?_ ?_
          rotate_left
          · intro w hSw; (try dsimp only at hSw); have hSa := hSw.1; have hSb := hSw.2.1; have hSc := hSw.2.2.1; have hSd := hSw.2.2.2; clear hSw; go_simp; (try with_reducible rfl)
          simp only [List.set_cons_zero, List.set_cons_succ]
          refine takeC 11 rfl (by kernel_rfl) (by rfl) (fun K hK => ?_)
          go_simp
          have hL9 := blk_set' hN8 2 (.slice A8 (j + 1) c8)
          have hne9 : ∀ x, x ≠ nb → (w8.setCell ⟨nb, 2, none⟩ (.slice A8 (j + 1) c8)).heap[x]? = w8.heap[x]? := fun x hx => Below.heap_setCell w8 _ _ x hx
          have hs9 : (w8.setCell ⟨nb, 2, none⟩ (.slice A8 (j + 1) c8)).heap.size = w8.heap.size := by simp [World.setCell]
          have hch9 : Chs (fun x => x = nb) w8 (w8.setCell ⟨nb, 2, none⟩ (.slice A8 (j + 1) c8)) := Chs.set w8 ⟨nb, 2, none⟩ _ rfl
          generalize w8.setCell ⟨nb, 2, none⟩ (.slice A8 (j + 1) c8) = w9 at *
          have hK9 := (hne9 wr.heap.size (by omega)).trans hK8
          refine hK.out _ _ ?_ (fun hHeld => ?_)
          · (try dsimp only)
            refine ⟨?_, ?_, ?_, ?_⟩
            all_goals (rw [blk_cell' hK9]; rfl)
          clear hK
          refine wpAnyH_done (by kernel_rfl) ?_ _
          have HN6 := Lib.hid hn6
          have HN9 := Lib.hid hL9
          have HO8 := Lib.hid hown8
          clear hn6 hL9 hown8 hr7 hown7
          go_wp2_with fail
          go_roundw
          · refine ⟨j + 1, by omega, rfl, ⟨A8, c8, _, ?_, own_move' HO8.out (fun x _ hx2 hx3 => hne9 x (by omega)), ?_, ?_⟩⟩
            · have := HN9.out
              exact this
            · rw [List.take_succ_eq_append_getElem hlt]
              have k1 := KsAt.keep (w' := w9) (fun x hx1 hx2 => (hne9 x (by omega)).trans ((hT8 x (by have := hbr7.size; omega) hx1.1.2).trans (hbr7.block x hx1.2))) _ _ (KsAt.bound _ _ HKT.out)
              have k2 := NdAt.keep (w' := w9) (fun x hx1 hx2 => (hne9 x (by have h := hx1.1; simp at h; omega)).trans ((hT8 x (by omega) (fun e => by have h := hx1.1; have := hrow _ e; simp at h; omega)).trans (hb7.block x hx1.2))) _ _ (NdAt.bound _ _ HN6.out)
              refine KsAt.snoc (KsAt.mono (fun x hx => ⟨hx.1.1, fun e => ?_⟩) _ _ k1) (NdAt.mono (fun x hx => ⟨?_, fun e => ?_⟩) _ _ k2)
              · rcases hat8 with h | h
                · exact hx.1.2 (h.symm.trans e)
                · rw [h] at e
                  injection e with e
                  have := hbr7.size
                  omega
              · have h := hx.1
                simp at h
                omega
              · have h0 := hx.1
                simp at h0
                rcases hat8 with h | h
                · have := hrow x (h.symm.trans e)
                  omega
                · rw [h] at e
                  injection e with e
                  omega
            · have hg := Chs.of_grown (T := fun x => x = nb ∨ A4.map (·.block) = some x) hg8 (fun x e => .inr e)
              refine ((((hch.mono (fun x _ e => .inl e)).trans (Chs.of_below hbr7)).trans hg).trans (hch9.mono (fun x _ e => .inl e))).mono (fun x hx e => ?_)
              rcases e with e | e
              · exact e
              · have := hrow x e
                omega
          · simp [intOf]; omega
        · go_simp
          refine (ih ks[j] (List.getElem_mem hlt) _ S _ (hnj.below (hb4.via (below_dr _))) (allK_mem ks HALL.out _ (List.getElem_mem hlt))).mono ?_
          rintro e w6 ⟨hb6, u0, u1, u2, rfl, hn6⟩
          obtain ⟨A6, c6, B6, d6, hcs⟩ := nd_form hn6
          simp only [List.cons.injEq, and_true] at hcs
          obtain ⟨rfl, rfl, rfl⟩ := hcs
          (try go_wp2_with fail)
          have hb46 : Below w4.heap.size w4 w6 := (below_dr w4).via hb6
          have hbr6 := hb4.via hb46
          have hs6 := hb46.size
          refine hK.out _ _ ?_ (fun hHeld => ?_)
          · (try dsimp only); exact ⟨cell_later hb46 k0, cell_later hb46 k1, cell_later hb46 k2, cell_later hb46 k3⟩
          clear hK
          refine takeT 7 26 (v := ?_) rfl rfl (by kernel_rfl) (by kernel_rfl) (by kernel_rfl) (fun _ _ _ h => h) hHeld (by rfl) ?_ ?_
          rotate_left
          · intro w hSw; (try dsimp only at hSw); have hSa := hSw.1; have hSb := hSw.2.1; have hSc := hSw.2.2.1; have hSd := hSw.2.2.2; clear hSw; go_simp; (try with_reducible rfl)
          simp only [List.set_cons_zero, List.set_cons_succ]
          refine takeC2 1 8 rfl rfl (by kernel_rfl) (by rfl) (by rfl) (fun K hK => ?_) (fun K hK => ?_)
          · have q2' := cell_later hb46 q2
            go_simp
            refine hK.out _ _ ?_ (fun hHeld => ?_)
            · (try dsimp only); exact ⟨cell_later hb46 k0, cell_later hb46 k1, cell_later hb46 k2, cell_later hb46 k3⟩
            clear hK
            refine takeC 8 rfl (by kernel_rfl) (by rfl) (fun K hK => ?_)
            go_simp
            have hb7 := below_new w6 (Obj.cells #[.string ks[j].1, .int .i64 ks[j].2.kind, .slice A6 ks[j].2.bytes.length c6, .slice B6 ks[j].2.kids.length d6] 57)
            have hr7 : Rd (w6.alloc (Obj.cells #[.string ks[j].1, .int .i64 ks[j].2.kind, .slice A6 ks[j].2.bytes.length c6, .slice B6 ks[j].2.kids.length d6] 57)) (fun x => x = w6.heap.size) (some ⟨w6.heap.size, 0, none⟩) [.string ks[j].1, .int .i64 ks[j].2.kind, .slice A6 ks[j].2.bytes.length c6, .slice B6 ks[j].2.kids.length d6] := Rd.new rfl
            have hs7 : (w6.alloc (Obj.cells #[.string ks[j].1, .int .i64 ks[j].2.kind, .slice A6 ks[j].2.bytes.length c6, .slice B6 ks[j].2.kids.length d6] 57)).heap.size = w6.heap.size + 1 := by simp
            generalize w6.alloc (Obj.cells #[.string ks[j].1, .int .i64 ks[j].2.kind, .slice A6 ks[j].2.bytes.length c6, .slice B6 ks[j].2.kids.length d6] 57) = w7 at *
            have hb47 := hb46.via hb7
            have hbr7 := hbr6.via hb7
            refine hK.out _ _ ?_ (fun hHeld => ?_)
            · (try dsimp only); exact ⟨cell_later hb47 k0, cell_later hb47 k1, cell_later hb47 k2, cell_later hb47 k3⟩
            clear hK
            refine takeC 9 rfl (by kernel_rfl) (by rfl) (fun K hK => ?_)
            have hown7 := own_move' (w' := w7) HOW.out (fun x _ hx _ => hbr7.block x hx)
            refine wp_append_rd _ (.tmp 20) (.tmp 27) 26 rfl W.heap.size 57 i0 _ 4 72 Tryd.underlying26 hi0 hz0 hz1 hz2 rfl (by omega) (.slice A4 j c4) j rcells rfl hown7 (some ⟨w6.heap.size, 0, none⟩) 1 1 _ rfl rfl hr7 (by intro u hu; simp at hu; rcases hu with rfl | rfl | rfl | rfl <;> rfl) (by simp only [maxLen]; omega) (by omega) (by omega) ?_
            intro v' w8 hown8 hg8 hat8
            obtain ⟨A8, c8, rfl⟩ := own_form hown8
            rw [own_block, own_block] at hat8
            rw [own_block] at hg8
            have hrow : ∀ x, A4.map (·.block) = some x → W.heap.size ≤ x ∧ x < wr.heap.size := fun x hx => own_lt' HOW.out (by rw [own_block]; exact hx)
            have hT8 : ∀ x, x < w7.heap.size → A4.map (·.block) ≠ some x → w8.heap[x]? = w7.heap[x]? := fun x hx hne => World.grownBy.block hg8 x hx (fun e => hne e.symm)
            have hN8 := (hT8 nb (by have := hbr7.size; omega) (fun e => by have := hrow _ e; omega)).trans ((hbr7.block nb (by omega)).trans HNB.out)
            have hs8 := World.grownBy.size hg8
            have hK8 := (hT8 wr.heap.size (by have := hb47.size; omega) (fun e => by have := hrow _ e; omega)).trans ((hb47.block wr.heap.size (by omega)).trans hK4)
            refine hK.out _ _ ?_ (fun hHeld => ?_)
            · (try dsimp only)
              refine ⟨?_, ?_, ?_, ?_⟩
              all_goals (rw [blk_cell' hK8]; rfl)
            clear hK
            have f2 := blk_frozen' hN8 2
            have q8 : w8.cell? ⟨nb, 2, none⟩ = some (.slice A4 j c4) := by rw [blk_cell' hN8]; rfl
            refine takeT 10 29 (v := ?_) rfl rfl (by kernel_rfl) (by kernel_rfl) (by kernel_rfl) (fun _ _ _ h => h) hHeld (by rfl) ?_ ?_
            rotate_left
            · intro w hSw; (try dsimp only at hSw); have hSa := hSw.1; have hSb := hSw.2.1; have hSc := hSw.2.2.1; have hSd := hSw.2.2.2; clear hSw; go_simp; (try with_reducible rfl)
            simp only [List.set_cons_zero, List.set_cons_succ]
            refine takeC 11 rfl (by kernel_rfl) (by rfl) (fun K hK => ?_)
            go_simp
            have hL9 := blk_set' hN8 2 (.slice A8 (j + 1) c8)
            have hne9 : ∀ x, x ≠ nb → (w8.setCell ⟨nb, 2, none⟩ (.slice A8 (j + 1) c8)).heap[x]? = w8.heap[x]? := fun x hx => Below.heap_setCell w8 _ _ x hx
            have hs9 : (w8.setCell ⟨nb, 2, none⟩ (.slice A8 (j + 1) c8)).heap.size = w8.heap.size := by simp [World.setCell]
            have hch9 : Chs (fun x => x = nb) w8 (w8.setCell ⟨nb, 2, none⟩ (.slice A8 (j + 1) c8)) := Chs.set w8 ⟨nb, 2, none⟩ _ rfl
            generalize w8.setCell ⟨nb, 2, none⟩ (.slice A8 (j + 1) c8) = w9 at *
            have hK9 := (hne9 wr.heap.size (by omega)).trans hK8
            refine hK.out _ _ ?_ (fun hHeld => ?_)
            · (try dsimp only)
              refine ⟨?_, ?_, ?_, ?_⟩
              all_goals (rw [blk_cell' hK9]; rfl)
            clear hK
            refine wpAnyH_done (by kernel_rfl) ?_ _
            have HN6 := Lib.hid hn6
            have HN9 := Lib.hid hL9
            have HO8 := Lib.hid hown8
            clear hn6 hL9 hown8 hr7 hown7
            go_wp2_with fail
            go_roundw
            · refine ⟨j + 1, by omega, rfl, ⟨A8, c8, _, ?_, own_move' HO8.out (fun x _ hx2 hx3 => hne9 x (by omega)), ?_, ?_⟩⟩
              · have := HN9.out
                exact this
              · rw [List.take_succ_eq_append_getElem hlt]
                have k1 := KsAt.keep (w' := w9) (fun x hx1 hx2 => (hne9 x (by omega)).trans ((hT8 x (by have := hbr7.size; omega) hx1.1.2).trans (hbr7.block x hx1.2))) _ _ (KsAt.bound _ _ HKT.out)
                have k2 := NdAt.keep (w' := w9) (fun x hx1 hx2 => (hne9 x (by have h := hx1.1; simp at h; omega)).trans ((hT8 x (by omega) (fun e => by have h := hx1.1; have := hrow _ e; simp at h; omega)).trans (hb7.block x hx1.2))) _ _ (NdAt.bound _ _ HN6.out)
                refine KsAt.snoc (KsAt.mono (fun x hx => ⟨hx.1.1, fun e => ?_⟩) _ _ k1) (NdAt.mono (fun x hx => ⟨?_, fun e => ?_⟩) _ _ k2)
                · rcases hat8 with h | h
                  · exact hx.1.2 (h.symm.trans e)
                  · rw [h] at e
                    injection e with e
                    have := hbr7.size
                    omega
                · have h := hx.1
                  simp at h
                  omega
                · have h0 := hx.1
                  simp at h0
                  rcases hat8 with h | h
                  · have := hrow x (h.symm.trans e)
                    omega
                  · rw [h] at e
                    injection e with e
                    omega
              · have hg := Chs.of_grown (T := fun x => x = nb ∨ A4.map (·.block) = some x) hg8 (fun x e => .inr e)
                refine ((((hch.mono (fun x _ e => .inl e)).trans (Chs.of_below hbr7)).trans hg).trans (hch9.mono (fun x _ e => .inl e))).mono (fun x hx e => ?_)
                rcases e with e | e
                · exact e
                · have := hrow x e
                  omega
            · simp [intOf]; omega
          · go_simp
            have hb7 := below_new w6 (Obj.cells #[.string ks[j].1, .int .i64 ks[j].2.kind, .slice A6 ks[j].2.bytes.length c6, .slice B6 ks[j].2.kids.length d6] 57)
            have hr7 : Rd (w6.alloc (Obj.cells #[.string ks[j].1, .int .i64 ks[j].2.kind, .slice A6 ks[j].2.bytes.length c6, .slice B6 ks[j].2.kids.length d6] 57)) (fun x => x = w6.heap.size) (some ⟨w6.heap.size, 0, none⟩) [.string ks[j].1, .int .i64 ks[j].2.kind, .slice A6 ks[j].2.bytes.length c6, .slice B6 ks[j].2.kids.length d6] := Rd.new rfl
            have hs7 : (w6.alloc (Obj.cells #[.string ks[j].1, .int .i64 ks[j].2.kind, .slice A6 ks[j].2.bytes.length c6, .slice B6 ks[j].2.kids.length d6] 57)).heap.size = w6.heap.size + 1 := by simp
            generalize w6.alloc (Obj.cells #[.string ks[j].1, .int .i64 ks[j].2.kind, .slice A6 ks[j].2.bytes.length c6, .slice B6 ks[j].2.kids.length d6] 57) = w7 at *
            have hb47 := hb46.via hb7
            have hbr7 := hbr6.via hb7
            refine hK.out _ _ ?_ (fun hHeld => ?_)
            · (try dsimp only); exact ⟨cell_later hb47 k0, cell_later hb47 k1, cell_later hb47 k2, cell_later hb47 k3⟩
            clear hK
            refine takeC 1 rfl (by kernel_rfl) (by rfl) (fun K hK => ?_)
            have q2' := cell_later hb47 q2
            go_simp
            refine hK.out _ _ ?_ (fun hHeld => ?_)
            · (try dsimp only); exact ⟨cell_later hb47 k0, cell_later hb47 k1, cell_later hb47 k2, cell_later hb47 k3⟩
            clear hK
            refine takeC 9 rfl (by kernel_rfl) (by rfl) (fun K hK => ?_)
            have hown7 := own_move' (w' := w7) HOW.out (fun x _ hx _ => hbr7.block x hx)
            refine wp_append_rd _ (.tmp 20) (.tmp 27) 26 rfl W.heap.size 57 i0 _ 4 72 Tryd.underlying26 hi0 hz0 hz1 hz2 rfl (by omega) (.slice A4 j c4) j rcells rfl hown7 (some ⟨w6.heap.size, 0, none⟩) 1 1 _ rfl rfl hr7 (by intro u hu; simp at hu; rcases hu with rfl | rfl | rfl | rfl <;> rfl) (by simp only [maxLen]; omega) (by omega) (by omega) ?_
            intro v' w8 hown8 hg8 hat8
            obtain ⟨A8, c8, rfl⟩ := own_form hown8
            rw [own_block, own_block] at hat8
            rw [own_block] at hg8
            have hrow : ∀ x, A4.map (·.block) = some x → W.heap.size ≤ x ∧ x < wr.heap.size := fun x hx => own_lt' HOW.out (by rw [own_block]; exact hx)
            have hT8 : ∀ x, x < w7.heap.size → A4.map (·.block) ≠ some x → w8.heap[x]? = w7.heap[x]? := fun x hx hne => World.grownBy.block hg8 x hx (fun e => hne e.symm)
            have hN8 := (hT8 nb (by have := hbr7.size; omega) (fun e => by have := hrow _ e; omega)).trans ((hbr7.block nb (by omega)).trans HNB.out)
            have hs8 := World.grownBy.size hg8
            have hK8 := (hT8 wr.heap.size (by have := hb47.size; omega) (fun e => by have := hrow _ e; omega)).trans ((hb47.block wr.heap.size (by omega)).trans hK4)
            refine hK.out _ _ ?_ (fun hHeld => ?_)
            · (try dsimp only)
              refine ⟨?_, ?_, ?_, ?_⟩
              all_goals (rw [blk_cell' hK8]; rfl)
            clear hK
            have f2 := blk_frozen' hN8 2
            have q8 : w8.cell? ⟨nb, 2, none⟩ = some (.slice A4 j c4) := by rw [blk_cell' hN8]; rfl
            refine takeT 10 29 (v := ?_) rfl rfl (by kernel_rfl) (by kernel_rfl) (by kernel_rfl) (fun _ _ _ h => h) hHeld (by rfl) ?_ ?_
            rotate_left
            · intro w hSw; (try dsimp only at hSw); have hSa := hSw.1; have hSb := hSw.2.1; have hSc := hSw.2.2.1; have hSd := hSw.2.2.2; clear hSw; go_simp; (try with_reducible rfl)
            simp only [List.set_cons_zero, List.set_cons_succ]
            refine takeC 11 rfl (by kernel_rfl) (by rfl) (fun K hK => ?_)
            go_simp
            have hL9 := blk_set' hN8 2 (.slice A8 (j + 1) c8)
            have hne9 : ∀ x, x ≠ nb → (w8.setCell ⟨nb, 2, none⟩ (.slice A8 (j + 1) c8)).heap[x]? = w8.heap[x]? := fun x hx => Below.heap_setCell w8 _ _ x hx
            have hs9 : (w8.setCell ⟨nb, 2, none⟩ (.slice A8 (j + 1) c8)).heap.size = w8.heap.size := by simp [World.setCell]
            have hch9 : Chs (fun x => x = nb) w8 (w8.setCell ⟨nb, 2, none⟩ (.slice A8 (j + 1) c8)) := Chs.set w8 ⟨nb, 2, none⟩ _ rfl
            generalize w8.setCell ⟨nb, 2, none⟩ (.slice A8 (j + 1) c8) = w9 at *
            have hK9 := (hne9 wr.heap.size (by omega)).trans hK8
            refine hK.out _ _ ?_ (fun hHeld => ?_)
            · (try dsimp only)
              refine ⟨?_, ?_, ?_, ?_⟩
              all_goals (rw [blk_cell' hK9]; rfl)
            clear hK
            refine wpAnyH_done (by kernel_rfl) ?_ _
            have HN6 := Lib.hid hn6
            have HN9 := Lib.hid hL9
            have HO8 := Lib.hid hown8
            clear hn6 hL9 hown8 hr7 hown7
            go_wp2_with fail
            go_roundw
            · refine ⟨j + 1, by omega, rfl, ⟨A8, c8, _, ?_, own_move' HO8.out (fun x _ hx2 hx3 => hne9 x (by omega)), ?_, ?_⟩⟩
              · have := HN9.out
                exact this
              · rw [List.take_succ_eq_append_getElem hlt]
                have k1 := KsAt.keep (w' := w9) (fun x hx1 hx2 => (hne9 x (by omega)).trans ((hT8 x (by have := hbr7.size; omega) hx1.1.2).trans (hbr7.block x hx1.2))) _ _ (KsAt.bound _ _ HKT.out)
                have k2 := NdAt.keep (w' := w9) (fun x hx1 hx2 => (hne9 x (by have h := hx1.1; simp at h; omega)).trans ((hT8 x (by omega) (fun e => by have h := hx1.1; have := hrow _ e; simp at h; omega)).trans (hb7.block x hx1.2))) _ _ (NdAt.bound _ _ HN6.out)
                refine KsAt.snoc (KsAt.mono (fun x hx => ⟨hx.1.1, fun e => ?_⟩) _ _ k1) (NdAt.mono (fun x hx => ⟨?_, fun e => ?_⟩) _ _ k2)
                · rcases hat8 with h | h
                  · exact hx.1.2 (h.symm.trans e)
                  · rw [h] at e
                    injection e with e
                    have := hbr7.size
                    omega
                · have h := hx.1
                  simp at h
                  omega
                · have h0 := hx.1
                  simp at h0
                  rcases hat8 with h | h
                  · have := hrow x (h.symm.trans e)
                    omega
                  · rw [h] at e
                    injection e with e
                    omega
              · have hg := Chs.of_grown (T := fun x => x = nb ∨ A4.map (·.block) = some x) hg8 (fun x e => .inr e)
                refine ((((hch.mono (fun x _ e => .inl e)).trans (Chs.of_below hbr7)).trans hg).trans (hch9.mono (fun x _ e => .inl e))).mono (fun x hx e => ?_)
                rcases e with e | e
                · exact e
                · have := hrow x e
                  omega
            · simp [intOf]; omega
      · have n0 : wr.cell? ⟨nb, 0, none⟩ = some (.int .i64 k) := by rw [blk_cell' HNB.out]; rfl
        have n1 : wr.cell? ⟨nb, 1, none⟩ = some (.slice A3 b.length c3) := by rw [blk_cell' HNB.out]; rfl
        have n2 : wr.cell? ⟨nb, 2, none⟩ = some (.slice A4 j c4) := by rw [blk_cell' HNB.out]; rfl
        have hR : wr.heap[w.heap.size + 1]? = some (.cells node0 28 (0, 0)) := (hch.block (w.heap.size + 1) (by omega) (by omega)).trans H2.out
        have f0 := blk_frozen' hR 0
        have f1 := blk_frozen' hR 1
        have f2 := blk_frozen' hR 2
        have m0 : wr.cell? ⟨w.heap.size + 1, 0, none⟩ = some (.int .i64 0) := by rw [blk_cell' hR]; rfl
        have m1 : wr.cell? ⟨w.heap.size + 1, 1, none⟩ = some (.slice none 0 0) := by rw [blk_cell' hR]; rfl
        have m2 : wr.cell? ⟨w.heap.size + 1, 2, none⟩ = some (.slice none 0 0) := by rw [blk_cell' hR]; rfl
        go_wp2_with fail
        have hfin := ((Chs.set (T := fun x => x = w.heap.size + 1) wr ⟨w.heap.size + 1, 0, none⟩ (.int .i64 k) rfl).trans (Chs.set _ ⟨w.heap.size + 1, 1, none⟩ (.slice A3 b.length c3) rfl)).trans (Chs.set _ ⟨w.heap.size + 1, 2, none⟩ (.slice A4 j c4) rfl)
        have hRf := blk_set' (blk_set' (blk_set' hR 0 (.int .i64 k)) 1 (.slice A3 b.length c3)) 2 (.slice A4 j c4)
        generalize ((wr.setCell ⟨w.heap.size + 1, 0, none⟩ (.int .i64 k)).setCell ⟨w.heap.size + 1, 1, none⟩ (.slice A3 b.length c3)).setCell ⟨w.heap.size + 1, 2, none⟩ (.slice A4 j c4) = w9 at *
        have y0 : w9.cell? ⟨w.heap.size + 1, 0, none⟩ = some (.int .i64 k) := by rw [blk_cell' hRf]; rfl
        have y1 : w9.cell? ⟨w.heap.size + 1, 1, none⟩ = some (.slice A3 b.length c3) := by rw [blk_cell' hRf]; rfl
        have y2 : w9.cell? ⟨w.heap.size + 1, 2, none⟩ = some (.slice A4 j c4) := by rw [blk_cell' hRf]; rfl
        refine bodyPost_ret (v := .agg #[.int .i64 k, .slice A3 b.length c3, .slice A4 j c4]) (by simp [results, Tryd.results57, go_sem, y0, y1, y2]) rfl ⟨?_, _, _, _, rfl, ?_⟩
        · exact ((Chs.of_below hbwr).trans hfin).below (fun x hx e => by omega)
        · obtain rfl : j = ks.length := by omega
          have hkt := HKT.out
          rw [List.take_length] at hkt
          unfold NdAt
          refine ⟨_, A4, c4, rcells, rfl, ?_, own_le' HOW.out, own_cap' HOW.out, ((Rd.of_own HOW.out).keep (hfin.stays (fun x hx _ e => by omega))).mono (fun x hx => by omega), KsAt.mono (fun x hx => by omega) _ _ (KsAt.keep (hfin.stays (fun x hx _ e => by omega)) _ _ hkt)⟩
          exact (((H5.out.keep (hch.stays (fun x hx _ e => hx.2 e))).keep (hfin.stays (fun x hx _ e => by omega))).mono (fun x hx => by omega))
  have a0 : w2.cell? ⟨w.heap.size, 0, none⟩ = some (.int .i64 k) := by rw [blk_cell' hN1]; rfl
  have a1 : w2.cell? ⟨w.heap.size, 1, none⟩ = some (.slice A b.length c) := by rw [blk_cell' hN1]; rfl
  refine wp_region_held_drew (S := fun w' => w'.cell? ⟨w.heap.size, 0, none⟩ = some (.int .i64 k) ∧ w'.cell? ⟨w.heap.size, 1, none⟩ = some (.slice A b.length c)) (by kernel_rfl) ?_ (fun hHeld => ?_)
  · (try dsimp only); exact ⟨a0, a1⟩
  refine takeT 0 6 (v := ?_) rfl rfl (by kernel_rfl) (by kernel_rfl) (by kernel_rfl) (fun _ _ _ h => h) hHeld (by rfl) ?_ ?_
  rotate_left
  · intro w hSw; (try dsimp only at hSw); have hSa := hSw.1; have hSb := hSw.2; clear hSw; go_simp; (try with_reducible rfl)
  simp only [List.set_cons_zero, List.set_cons_succ]
  refine takeT 1 7 (v := ?_) rfl rfl (by kernel_rfl) (by kernel_rfl) (by kernel_rfl) (fun _ _ _ h => h) hHeld (by rfl) ?_ ?_
  rotate_left
  · intro w hSw; (try dsimp only at hSw); have hSa := hSw.1; have hSb := hSw.2; clear hSw; go_simp; (try with_reducible rfl)
  simp only [List.set_cons_zero, List.set_cons_succ]
  refine takeT 2 8 (v := ?_) rfl rfl (by kernel_rfl) (by kernel_rfl) (by kernel_rfl) (fun _ _ _ h => h) hHeld (by rfl) ?_ ?_
  rotate_left
  · intro w hSw; (try dsimp only at hSw); have hSa := hSw.1; have hSb := hSw.2; clear hSw; go_simp; (try with_reducible rfl)
  simp only [List.set_cons_zero, List.set_cons_succ]
  refine takeT 3 9 (v := ?_) rfl rfl (by kernel_rfl) (by kernel_rfl) (by kernel_rfl) (fun _ _ _ h => h) hHeld (by rfl) ?_ ?_
  rotate_left
  · intro w hSw; (try dsimp only at hSw); have hSa := hSw.1; have hSb := hSw.2; clear hSw; go_simp; (try with_reducible rfl)
  simp only [List.set_cons_zero, List.set_cons_succ]
  refine takeC2 4 6 rfl rfl (by kernel_rfl) (by rfl) (by rfl) (fun K hK => ?_) (fun K hK => ?_)
  · go_simp
    refine (clone_any _ (hbs.below (hb2.via (below_dr _))) (by omega)).mono ?_
    rintro e w3 ⟨⟨v, rfl, A3, c3, rfl, hv⟩, hb3⟩
    (try go_wp2_with fail)
    have hb23 : Below w2.heap.size w2 w3 := (below_dr w2).via hb3
    have hN13 := (hb23.block w.heap.size (by omega)).trans hN1
    have hN23 := (hb23.block (w.heap.size + 1) (by omega)).trans hN2
    refine hK.out _ _ ?_ (fun hHeld => ?_)
    · (try dsimp only); exact ⟨by rw [blk_cell' hN13]; rfl, by rw [blk_cell' hN13]; rfl⟩
    clear hK
    refine takeT 5 11 (v := ?_) rfl rfl (by kernel_rfl) (by kernel_rfl) (by kernel_rfl) (fun _ _ _ h => h) hHeld (by rfl) ?_ ?_
    rotate_left
    · intro w hSw; (try dsimp only at hSw); have hSa := hSw.1; have hSb := hSw.2; clear hSw; go_simp; (try with_reducible rfl)
    simp only [List.set_cons_zero, List.set_cons_succ]
    refine takeC 6 rfl (by kernel_rfl) (by rfl) (fun K hK => ?_)
    go_simp
    have hb4 := below_new w3 (Obj.cells node0 28)
    have hL4 := heap_alloc_new w3 (Obj.cells node0 28)
    have hN14 := (hb4.block w.heap.size (by have := hb23.size; omega)).trans hN13
    have hN24 := (hb4.block (w.heap.size + 1) (by have := hb23.size; omega)).trans hN23
    have hbv4 : BsAt (fun x => w.heap.size + 2 ≤ x ∧ x ≠ w3.heap.size) (w3.alloc (Obj.cells node0 28)) (.slice A3 b.length c3) b := ((BsAt.bound ⟨A3, c3, rfl, hv⟩).below hb4).mono (fun x hx => by have h1 := hx.1; have h2 := hx.2; simp at h1; exact ⟨by omega, by omega⟩)
    have hbT := hb2.via (hb23.via hb4)
    have hnl : w.heap.size + 2 ≤ w3.heap.size := by have := hb23.size; omega
    generalize hnb : w3.heap.size = nb at *
    generalize hw4 : w3.alloc (Obj.cells node0 28) = w4 at *
    refine hK.out _ _ ?_ (fun hHeld => ?_)
    · (try dsimp only); exact ⟨by rw [blk_cell' hN14]; rfl, by rw [blk_cell' hN14]; rfl⟩
    clear hK
    have b0 : w4.cell? ⟨nb, 0, none⟩ = some (.int .i64 0) := by rw [blk_cell' hL4]; rfl
    have b1 : w4.cell? ⟨nb, 1, none⟩ = some (.slice none 0 0) := by rw [blk_cell' hL4]; rfl
    have b2 : w4.cell? ⟨nb, 2, none⟩ = some (.slice none 0 0) := by rw [blk_cell' hL4]; rfl
    have g0 := blk_frozen' hL4 0
    have g1 := blk_frozen' hL4 1
    have g2 := blk_frozen' hL4 2
    refine takeC 7 rfl (by kernel_rfl) (by rfl) (fun K hK => ?_)
    go_simp
    have hne : ∀ x, x ≠ nb → (((w4.setCell ⟨nb, 0, none⟩ (.int .i64 k)).setCell ⟨nb, 1, none⟩ (.slice A3 b.length c3)).setCell ⟨nb, 2, none⟩ (.slice none 0 0)).heap[x]? = w4.heap[x]? := fun x hx =>
      (Below.heap_setCell _ _ _ x hx).trans ((Below.heap_setCell _ _ _ x hx).trans (Below.heap_setCell w4 _ _ x hx))
    have hch5 : Chs (fun x => x = nb) w4 (((w4.setCell ⟨nb, 0, none⟩ (.int .i64 k)).setCell ⟨nb, 1, none⟩ (.slice A3 b.length c3)).setCell ⟨nb, 2, none⟩ (.slice none 0 0)) := ((Chs.set (T := fun x => x = nb) w4 ⟨nb, 0, none⟩ _ rfl).trans (Chs.set _ ⟨nb, 1, none⟩ _ rfl)).trans (Chs.set _ ⟨nb, 2, none⟩ _ rfl)
    have hL5 := blk_set' (blk_set' (blk_set' hL4 0 (.int .i64 k)) 1 (.slice A3 b.length c3)) 2 (.slice none 0 0)
    generalize (((w4.setCell ⟨nb, 0, none⟩ (.int .i64 k)).setCell ⟨nb, 1, none⟩ (.slice A3 b.length c3)).setCell ⟨nb, 2, none⟩ (.slice none 0 0)) = w5 at *
    have hN15 := (hne w.heap.size (by omega)).trans hN14
    have hN25 := (hne (w.heap.size + 1) (by omega)).trans hN24
    refine hK.out _ _ ?_ (fun hHeld => ?_)
    · (try dsimp only); exact ⟨by rw [blk_cell' hN15]; rfl, by rw [blk_cell' hN15]; rfl⟩
    clear hK
    refine wpAnyH_done (by kernel_rfl) ?_ _
    refine TAIL w5 nb A3 c3 hN15 hN25 hL5 hnl (hbv4.keep (hch5.stays (fun x hx _ e => hx.2 e))) ?_
    exact ((Chs.of_below hbT).trans hch5).below (fun x hx e => by omega)
  · go_simp
    have hb3' := (below_new w2 (Obj.cells node0 28)).drew
    have hL3 := heap_alloc_new w2 (Obj.cells node0 28)
    rw [hs2] at hL3
    have hN13 := (hb3'.block w.heap.size (by omega)).trans hN1
    have hN23 := (hb3'.block (w.heap.size + 1) (by omega)).trans hN2
    have hs3 : ((w2.alloc (Obj.cells node0 28)).drew).heap.size = w.heap.size + 3 := by simp; omega
    have hL3 : ((w2.alloc (Obj.cells node0 28)).drew).heap[w.heap.size + 2]? = some (.cells node0 28 (0, 0)) := hL3
    generalize ((w2.alloc (Obj.cells node0 28)).drew) = w3 at *
    refine hK.out _ _ ?_ (fun hHeld => ?_)
    · (try dsimp only); exact ⟨by rw [blk_cell' hN13]; rfl, by rw [blk_cell' hN13]; rfl⟩
    clear hK
    refine takeC 4 rfl (by kernel_rfl) (by rfl) (fun K hK => ?_)
    go_simp
    refine (clone_any w3 ((hbs.below hb2).below hb3') (by omega)).mono ?_
    rintro e w4 ⟨⟨v, rfl, A3, c3, rfl, hv⟩, hb4⟩
    (try go_wp2_with fail)
    have hb23 := hb3'.via hb4
    have hN14 := (hb4.block w.heap.size (by omega)).trans hN13
    have hN24 := (hb4.block (w.heap.size + 1) (by omega)).trans hN23
    have hL4 := (hb4.block (w.heap.size + 2) (by omega)).trans hL3
    obtain ⟨nb, hnb⟩ : ∃ nb, nb = w.heap.size + 2 := ⟨_, rfl⟩
    rw [← hnb] at hL4
    rw [← hnb]
    have hnl : w.heap.size + 2 ≤ nb := by omega
    have hnl2 : nb ≤ w.heap.size + 2 := by omega
    clear hnb
    have hbv4 : BsAt (fun x => w.heap.size + 2 ≤ x ∧ x ≠ nb) w4 (.slice A3 b.length c3) b := BsAt.mono ⟨A3, c3, rfl, hv⟩ (fun x hx => ⟨by omega, by omega⟩)
    have hbT := hb2.via hb23
    refine hK.out _ _ ?_ (fun hHeld => ?_)
    · (try dsimp only); exact ⟨by rw [blk_cell' hN14]; rfl, by rw [blk_cell' hN14]; rfl⟩
    clear hK
    refine takeT 5 11 (v := ?_) rfl rfl (by kernel_rfl) (by kernel_rfl) (by kernel_rfl) (fun _ _ _ h => h) hHeld (by rfl) ?_ ?_
    rotate_left
    · intro w hSw; (try dsimp only at hSw); have hSa := hSw.1; have hSb := hSw.2; clear hSw; go_simp; (try with_reducible rfl)
    simp only [List.set_cons_zero, List.set_cons_succ]
    have b0 : w4.cell? ⟨nb, 0, none⟩ = some (.int .i64 0) := by rw [blk_cell' hL4]; rfl
    have b1 : w4.cell? ⟨nb, 1, none⟩ = some (.slice none 0 0) := by rw [blk_cell' hL4]; rfl
    have b2 : w4.cell? ⟨nb, 2, none⟩ = some (.slice none 0 0) := by rw [blk_cell' hL4]; rfl
    have g0 := blk_frozen' hL4 0
    have g1 := blk_frozen' hL4 1
    have g2 := blk_frozen' hL4 2
    refine takeC 7 rfl (by kernel_rfl) (by rfl) (fun K hK => ?_)
    go_simp
    have hne : ∀ x, x ≠ nb → (((w4.setCell ⟨nb, 0, none⟩ (.int .i64 k)).setCell ⟨nb, 1, none⟩ (.slice A3 b.length c3)).setCell ⟨nb, 2, none⟩ (.slice none 0 0)).heap[x]? = w4.heap[x]? := fun x hx =>
      (Below.heap_setCell _ _ _ x hx).trans ((Below.heap_setCell _ _ _ x hx).trans (Below.heap_setCell w4 _ _ x hx))
    have hch5 : Chs (fun x => x = nb) w4 (((w4.setCell ⟨nb, 0, none⟩ (.int .i64 k)).setCell ⟨nb, 1, none⟩ (.slice A3 b.length c3)).setCell ⟨nb, 2, none⟩ (.slice none 0 0)) := ((Chs.set (T := fun x => x = nb) w4 ⟨nb, 0, none⟩ _ rfl).trans (Chs.set _ ⟨nb, 1, none⟩ _ rfl)).trans (Chs.set _ ⟨nb, 2, none⟩ _ rfl)
    have hL5 := blk_set' (blk_set' (blk_set' hL4 0 (.int .i64 k)) 1 (.slice A3 b.length c3)) 2 (.slice none 0 0)
    generalize (((w4.setCell ⟨nb, 0, none⟩ (.int .i64 k)).setCell ⟨nb, 1, none⟩ (.slice A3 b.length c3)).setCell ⟨nb, 2, none⟩ (.slice none 0 0)) = w5 at *
    have hN15 := (hne w.heap.size (by omega)).trans hN14
    have hN25 := (hne (w.heap.size + 1) (by omega)).trans hN24
    refine hK.out _ _ ?_ (fun hHeld => ?_)
    · (try dsimp only); exact ⟨by rw [blk_cell' hN15]; rfl, by rw [blk_cell' hN15]; rfl⟩
    clear hK
    refine wpAnyH_done (by kernel_rfl) ?_ _
    refine TAIL w5 nb A3 c3 hN15 hN25 hL5 hnl (hbv4.keep (hch5.stays (fun x hx _ e => hx.2 e))) ?_
    exact ((Chs.of_below hbT).trans hch5).below (fun x hx e => by omega)
end Pk
end Go.Proofs.YtgfgdlnlafngnaaDoor
