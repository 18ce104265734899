/- Walks: tree.Put into an empty directory. -/
import Derived.Test.YtgfgdlnlafngnaaDoorOd
import Derived.Test.YtgfgdlnlafngnaaDoorPn
namespace Go.Proofs.YtgfgdlnlafngnaaDoor
namespace Pk
open Go.RowKit

set_option maxRecDepth 100000 in
set_option maxHeartbeats 4000000 in
theorem putNew_any {x : Nd} {Sx : Nat → Prop} {cx : List Value} (w : World) (way : ByteArray) (names : List ByteArray) (hpw : pWay way = (names, 0)) (hnl : names.length ≤ 1000) (hws : way.size ≤ 1099511627776) (hx : NdAt Sx w x cx) (hrx : rightB x = true) (hszx : Sz x) (hrt : rightB (chainT names x) = true) (hszt : Sz (chainT names x)) :
    Calls Tryd.prog 33 #[.agg #[.int .i64 4, .slice none 0 0, .slice none 0 0], .string way, .agg cx.toArray] w fun e w' => Below w.heap.size w w' ∧ ∃ c0 c1 c2, e = .returned (.tuple #[.agg #[c0, c1, c2], .int .i64 0]) ∧ NdAt (fun k => w.heap.size ≤ k) w' (chainT names x) [c0, c1, c2] := by
  obtain ⟨A, c, B, c2, rfl⟩ := nd_form hx
  have hax : allB x = true := by
    simp only [rightB, Bool.and_eq_true] at hrx
    exact hrx.1.1
  have HRX := Lib.hid hrx
  have HRT := Lib.hid hrt
  have HPW := Lib.hid hpw
  clear hrx hrt hpw
  have hb1 := (below_new2 w (Obj.cells #[.int .i64 4, .slice none 0 0, .slice none 0 0] 28) (Obj.cells #[.int .i64 x.kind, .slice A x.bytes.length c, .slice B x.kids.length c2] 28)).via (below_new _ (Obj.cells node0 28))
  have hN1 := blk_new' (blk_new' (heap_alloc_new w (Obj.cells #[.int .i64 4, .slice none 0 0, .slice none 0 0] 28)) (Obj.cells #[.int .i64 x.kind, .slice A x.bytes.length c, .slice B x.kids.length c2] 28)) (Obj.cells node0 28)
  have hX1 := blk_new' (alloc_at (w.alloc (Obj.cells #[.int .i64 4, .slice none 0 0, .slice none 0 0] 28)) (Obj.cells #[.int .i64 x.kind, .slice A x.bytes.length c, .slice B x.kids.length c2] 28) (n := w.heap.size + 1) (by simp)) (Obj.cells node0 28)
  have hO1 := alloc_at ((w.alloc (Obj.cells #[.int .i64 4, .slice none 0 0, .slice none 0 0] 28)).alloc (Obj.cells #[.int .i64 x.kind, .slice A x.bytes.length c, .slice B x.kids.length c2] 28)) (Obj.cells node0 28) (n := w.heap.size + 2) (by simp)
  have hs1 : (((w.alloc (Obj.cells #[.int .i64 4, .slice none 0 0, .slice none 0 0] 28)).alloc (Obj.cells #[.int .i64 x.kind, .slice A x.bytes.length c, .slice B x.kids.length c2] 28)).alloc (Obj.cells node0 28)).heap.size = w.heap.size + 3 := by simp
  go_enter Tryd.func33, Tryd.ntmps33
  go_wp2_with fail
  generalize ((w.alloc (Obj.cells #[.int .i64 4, .slice none 0 0, .slice none 0 0] 28)).alloc (Obj.cells #[.int .i64 x.kind, .slice A x.bytes.length c, .slice B x.kids.length c2] 28)).alloc (Obj.cells node0 28) = w1 at *
  refine (right_is (t := .mk 4 [] []) w1 (nd_dir (fun _ => True) w1) (by unfold Sz SzK; trivial)).mono ?_
  rintro e w2 ⟨⟨z, rfl, hz⟩, hb2⟩
  obtain rfl : z = true := by rw [hz.out]; rfl
  clear hz
  have hX2 := (hb2.block (w.heap.size + 1) (by omega)).trans hX1
  have ⟨x0, x1, x2⟩ := cells3 hX2
  go_wp2_with fail
  refine (right_is w2 (hx.below (hb1.via hb2)) hszx).mono ?_
  rintro e w3 ⟨⟨z, rfl, hz⟩, hb3⟩
  obtain rfl : z = true := by rw [hz.out, HRX.out]
  clear hz x0 x1 x2
  go_wp2_with fail
  refine (way_any w3 way hws).mono ?_
  rw [HPW.out]
  rintro e w4 ⟨hb4, L, lc, rfl, hlc, hL⟩
  have h04 := ((hb1.via hb2).via hb3).via hb4
  have hb14 := (hb2.via hb3).via hb4
  have hN4 := (hb14.block w.heap.size (by omega)).trans hN1
  have hX4 := (hb14.block (w.heap.size + 1) (by omega)).trans hX1
  have hO4 := (hb14.block (w.heap.size + 2) (by omega)).trans hO1
  have ⟨n0, n1, n2⟩ := cells3 hN4
  have hs4 := hb14.size
  go_wp2_with fail
  refine (own_dir w4).mono ?_
  rintro e w5a ⟨rfl, hb5⟩
  go_wp2_with fail
  have hO5 := heap_alloc_new w5a (Obj.cells #[.int .i64 4, .slice none 0 0, .slice none 0 0] 28)
  have hb45 := hb5.via (below_new w5a (Obj.cells #[.int .i64 4, .slice none 0 0, .slice none 0 0] 28))
  have hs5 : (w5a.alloc (Obj.cells #[.int .i64 4, .slice none 0 0, .slice none 0 0] 28)).heap.size = w5a.heap.size + 1 := by simp
  have hs5a := hb5.size
  generalize w5a.alloc (Obj.cells #[.int .i64 4, .slice none 0 0, .slice none 0 0] 28) = w5 at *
  have h05 := h04.via hb45
  have hX5 := (hb45.block (w.heap.size + 1) (by omega)).trans hX4
  have hR5 := (hb45.block (w.heap.size + 2) (by omega)).trans hO4
  clear n0 n1 n2
  have ⟨x0, x1, x2⟩ := cells3 hX5
  have hmin : min (names.length : Int) 1000 = names.length := by omega
  have hlc' : (names.length : Int) ≤ lc := by omega
  refine wp_region_held_drew (S := fun w' => w'.cell? ⟨w.heap.size + 1, 0, none⟩ = some (Value.int .i64 x.kind) ∧ w'.cell? ⟨w.heap.size + 1, 1, none⟩ = some (Value.slice A x.bytes.length c) ∧ w'.cell? ⟨w.heap.size + 1, 2, none⟩ = some (Value.slice B x.kids.length c2)) (by kernel_rfl) ?_ (fun hHeld => ?_)
  · (try dsimp only); exact ⟨x0, x1, x2⟩
  refine takeT 0 31 (v := ?_) rfl rfl (by kernel_rfl) (by kernel_rfl) (by kernel_rfl) (fun _ _ _ h => h) hHeld (by rfl) ?_ ?_
  rotate_left
  · intro w hSw; (try dsimp only at hSw); have hSa := hSw.1; have hSb := hSw.2.1; have hSc := hSw.2.2; clear hSw; go_simp; (try with_reducible rfl)
  simp only [List.set_cons_zero, List.set_cons_succ]
  refine takeT 1 32 (v := ?_) rfl rfl (by kernel_rfl) (by kernel_rfl) (by kernel_rfl) (fun _ _ _ h => h) hHeld (by rfl) ?_ ?_
  rotate_left
  · intro w hSw; (try dsimp only at hSw); have hSa := hSw.1; have hSb := hSw.2.1; have hSc := hSw.2.2; clear hSw; go_simp; (try with_reducible rfl)
  simp only [List.set_cons_zero, List.set_cons_succ]
  refine takeT 2 33 (v := ?_) rfl rfl (by kernel_rfl) (by kernel_rfl) (by kernel_rfl) (fun _ _ _ h => h) hHeld (by rfl) ?_ ?_
  rotate_left
  · intro w hSw; (try dsimp only at hSw); have hSa := hSw.1; have hSb := hSw.2.1; have hSc := hSw.2.2; clear hSw; go_simp; (try with_reducible rfl)
  simp only [List.set_cons_zero, List.set_cons_succ]
  refine takeT 3 34 (v := ?_) rfl rfl (by kernel_rfl) (by kernel_rfl) (by kernel_rfl) (fun _ _ _ h => h) hHeld (by rfl) ?_ ?_
  rotate_left
  · intro w hSw; (try dsimp only at hSw); have hSa := hSw.1; have hSb := hSw.2.1; have hSc := hSw.2.2; clear hSw; go_simp; (try with_reducible rfl)
  simp only [List.set_cons_zero, List.set_cons_succ]
  refine takeT 4 35 (v := ?_) rfl rfl (by kernel_rfl) (by kernel_rfl) (by kernel_rfl) (fun _ _ _ h => h) hHeld (by rfl) ?_ ?_
  rotate_left
  · intro w hSw; (try dsimp only at hSw); have hSa := hSw.1; have hSb := hSw.2.1; have hSc := hSw.2.2; clear hSw; go_simp; (try with_reducible rfl)
  simp only [List.set_cons_zero, List.set_cons_succ]
  refine takeT 5 36 (v := ?_) rfl rfl (by kernel_rfl) (by kernel_rfl) (by kernel_rfl) (fun _ _ _ h => h) hHeld (by rfl) ?_ ?_
  rotate_left
  · intro w hSw; (try dsimp only at hSw); have hSa := hSw.1; have hSb := hSw.2.1; have hSc := hSw.2.2; clear hSw; go_simp; (try with_reducible rfl)
  simp only [List.set_cons_zero, List.set_cons_succ]
  refine takeC 6 rfl (by kernel_rfl) (by rfl) (fun K hK => ?_)
  go_simp
  refine (own_any x _ _ _ (hx.below (h05.via (below_dr _))) hax).mono ?_; rintro e w6 ⟨hb6, v0, v1, v2, rfl, hn6⟩; obtain ⟨A6, d6, B6, e6, hcs⟩ := nd_form hn6; simp only [List.cons.injEq, and_true] at hcs; obtain ⟨rfl, rfl, rfl⟩ := hcs; have h56 := (below_dr w5).via hb6; go_wp2_with fail
  refine hK.out _ _ ?_ (fun hHeld => ?_)
  · (try dsimp only); exact ⟨cell_later h56 x0, cell_later h56 x1, cell_later h56 x2⟩
  clear hK K
  refine takeC 7 rfl (by kernel_rfl) (by rfl) (fun K hK => ?_)
  go_simp
  have hP6 : Pl w6 w5a.heap.size [] [.int .i64 4, .slice none 0 0, .slice none 0 0] 28 := ⟨[], (h56.block w5a.heap.size (by omega)).trans hO5⟩
  have hs6 := h56.size
  have hL6 := (hL.bound.below hb45).below h56
  have hput := put_new names [] w5a.heap.size w6 28 L lc x [.int .i64 x.kind, .slice A6 x.bytes.length d6, .slice B6 x.kids.length e6] (fun k => w3.heap.size ≤ k ∧ k < w4.heap.size) (fun k => w5.drew.heap.size ≤ k) hP6 hL6 (fun k hk => by have := hk.2; omega) hlc (by simp) hn6 (fun k hk => by have : w5.heap.size ≤ k := hk; omega)
  refine hput.mono ?_
  rintro e w7 ⟨rfl, hch7, v0, v1, v2, hp7, hn7⟩
  clear hput
  go_wp2_with fail
  have hX7 := (hch7.block (w.heap.size + 1) (by omega) (by omega)).trans ((h56.block (w.heap.size + 1) (by omega)).trans hX5)
  have hR7 := (hch7.block (w.heap.size + 2) (by omega) (by omega)).trans ((h56.block (w.heap.size + 2) (by omega)).trans hR5)
  clear x0 x1 x2
  have ⟨x0, x1, x2⟩ := cells3 hX7
  refine hK.out _ _ ?_ (fun hHeld => ?_)
  · (try dsimp only); exact ⟨x0, x1, x2⟩
  clear hK
  refine takeT 8 9 (v := ?_) rfl rfl (by kernel_rfl) (by kernel_rfl) (by kernel_rfl) (fun _ _ _ h => h) hHeld (by rfl) ?_ ?_
  rotate_left
  · intro w hSw; (try dsimp only at hSw); have hSa := hSw.1; have hSb := hSw.2.1; have hSc := hSw.2.2; clear hSw; go_simp; (try with_reducible rfl)
  simp only [List.set_cons_zero, List.set_cons_succ]
  refine wpAnyH_done (by kernel_rfl) ?_ _
  obtain ⟨A7, d7, B7, e7, hcs⟩ := nd_form hn7
  simp only [List.cons.injEq, and_true] at hcs
  obtain ⟨rfl, rfl, rfl⟩ := hcs
  have ⟨p0, p1, p2⟩ := pl_cells hp7
  simp only [List.length_nil, Nat.zero_add] at p0 p1 p2
  go_wp2_with fail
  refine (right_is w7 hn7 hszt).mono ?_
  rintro e w8 ⟨⟨z, rfl, hz⟩, hb8⟩
  obtain rfl : z = true := by rw [hz.out, HRT.out]
  clear hz
  have hs7 := hch7.size
  have q0 := cell_later hb8 p0
  have q1 := cell_later hb8 p1
  have q2 := cell_later hb8 p2
  have hR8 := (hb8.block (w.heap.size + 2) (by omega)).trans hR7
  have f0 := blk_frozen' hR8 0
  have f1 := blk_frozen' hR8 1
  have f2 := blk_frozen' hR8 2
  have ⟨r0, r1, r2⟩ := cells3 hR8
  go_wp2_with fail
  have hst := chs_set3 (T := fun k => k = w.heap.size + 1 + 1) w8 (w.heap.size + 1 + 1) (.int .i64 (chainT names x).kind) (.slice A7 (chainT names x).bytes.length d7) (.slice B7 (chainT names x).kids.length e7) rfl
  have hO9 := blk_set3 hR8 (.int .i64 (chainT names x).kind) (.slice A7 (chainT names x).bytes.length d7) (.slice B7 (chainT names x).kids.length e7)
  generalize ((w8.setCell ⟨w.heap.size + 1 + 1, 0, none⟩ (.int .i64 (chainT names x).kind)).setCell ⟨w.heap.size + 1 + 1, 1, none⟩ (.slice A7 (chainT names x).bytes.length d7)).setCell ⟨w.heap.size + 1 + 1, 2, none⟩ (.slice B7 (chainT names x).kids.length e7) = w9 at *
  have ⟨k0, k1, k2⟩ := cells3 hO9
  refine bodyPost_ret (v := .tuple #[.agg #[.int .i64 (chainT names x).kind, .slice A7 (chainT names x).bytes.length d7, .slice B7 (chainT names x).kids.length e7], .int .i64 0]) (by simp [results, Tryd.results33, go_sem, k0, k1, k2]) rfl ?_
  refine ⟨(((((Chs.of_below (T := fun k => w.heap.size ≤ k) h05).trans (Chs.of_below h56)).trans (hch7.mono (fun k _ e => by have : k = w5a.heap.size := e; omega))).trans (Chs.of_below hb8)).trans (hst.mono (fun k _ e => by have : k = w.heap.size + 1 + 1 := e; omega))).below (fun k hk e => Nat.not_le_of_lt hk e), _, _, _, rfl, ?_⟩
  refine NdAt.mono (fun k hk => ?_) _ _ ((hn7.below hb8).chs hst (fun k hk _ e => ?_))
  · rcases hk.2 with h | h
    · have : w5.heap.size ≤ k := h
      omega
    · omega
  · have e' : k = w.heap.size + 1 + 1 := e
    rcases hk.2 with h | h
    · have : w5.heap.size ≤ k := h
      omega
    · omega
end Pk
end Go.Proofs.YtgfgdlnlafngnaaDoor
