/- Walks: pack.Open. -/
import Derived.Test.YtgfgdlnlafngnaaDoorWm
namespace Go.Proofs.YtgfgdlnlafngnaaDoor
namespace Pk
open Go.RowKit

theorem nd_zero (S : Nat → Prop) (w : World) : NdAt S w (.mk 0 [] []) [.int .i64 0, .slice none 0 0, .slice none 0 0] := by
  unfold NdAt
  exact ⟨_, none, 0, [], rfl, BsAt.nil _ _, by simp, by omega, Rd.nil _ _ _, by unfold KsAt; rfl⟩

set_option maxRecDepth 100000 in
set_option maxHeartbeats 2000000 in
theorem open_any {S : Nat → Prop} {v : Value} {l : List UInt8} (w : World) (hv : BsAt S w v l) :
    Calls Tryd.prog 11 #[v] w fun e w' => Below w.heap.size w w' ∧ ∃ c0 c1 c2, e = .returned (.tuple #[.agg #[c0, c1, c2], .int .i64 (pOpen l).2]) ∧ NdAt (fun k => w.heap.size ≤ k) w' (pOpen l).1 [c0, c1, c2] := by
  obtain ⟨A, c, rfl, hlc, hcm, hr⟩ := hv
  have hv : BsAt S w (.slice A l.length c) l := ⟨A, c, rfl, hlc, hcm, hr⟩
  go_enter Tryd.func11, Tryd.ntmps11
  by_cases hlen : 4096 < l.length
  · have HP : Hid (pOpen l = (.mk 0 [] [], 3)) := by
      show _ = _
      unfold pOpen
      rw [if_pos hlen]
    go_wp2_with fail
    refine bodyPost_ret (v := .tuple #[.agg #[.int .i64 0, .slice none 0 0, .slice none 0 0], .int .i64 3]) (by simp [results, Tryd.results11, go_sem]) rfl ?_
    exact ⟨below_new _ _, _, _, _, by rw [HP.out], by rw [HP.out]; exact nd_zero _ _⟩
  · go_wp2_with fail
    have hb1 := below_new w (Obj.cells node0 28)
    have hn1 := heap_alloc_new w (Obj.cells node0 28)
    have hs1 : (w.alloc (Obj.cells node0 28)).heap.size = w.heap.size + 1 := by simp
    generalize w.alloc (Obj.cells node0 28) = w1 at *
    refine (over_any w1 (hv.below hb1) (by omega)).mono ?_
    rintro e w2 ⟨g, rfl, hg, hc2, hb2⟩
    go_wp2_with fail
    have hb3 := below_new w2 (Obj.cells #[.pointer (some ⟨g, 0, none⟩), .int .i64 200] 63)
    have ho3 : Opn (w2.alloc (Obj.cells #[.pointer (some ⟨g, 0, none⟩), .int .i64 200] 63)) w2.heap.size g (200 : Nat) := ⟨heap_alloc_new w2 _, hc2.lt⟩
    have hc3 := hc2.below hb3
    have hgl := hc2.lt
    have hall3 := (hb1.via hb2).via hb3
    have hn3 := ((hb2.via hb3).block w.heap.size (by omega)).trans hn1
    generalize w2.alloc (Obj.cells #[.pointer (some ⟨g, 0, none⟩), .int .i64 200] 63) = w3 at *
    generalize hh : w2.heap.size = h at *
    have hs2 := hb2.size
    have hs3 := hb3.size
    refine (node_any 8 1 g h 200 (some l) w3 rfl ho3 hc3 (by omega)).mono ?_
    rintro e w4 ⟨hch4, hres⟩
    have hall4 : Below w.heap.size w w4 := ((Chs.of_below hall3).trans hch4).below (fun k hk e => by rcases e with e | e <;> omega)
    have hn4 := (hch4.block w.heap.size (by omega) (by rintro (e | e) <;> omega)).trans hn3
    cases hx : pNode 8 200 (some l) with
    | none =>
      rw [hx] at hres
      obtain ⟨k0, A0, m0, d0, B0, m1, d1, rfl⟩ := hres
      have HP : Hid (pOpen l = (.mk 0 [] [], 4)) := by
        show _ = _
        unfold pOpen
        rw [if_neg hlen, hx]
      clear hx
      have hs4 := hch4.size
      have hlt4 : w.heap.size < w4.heap.size := by omega
      have m0' : w4.cell? ⟨w.heap.size, 0, none⟩ = some (.int .i64 0) := by rw [blk_cell' hn4]; rfl
      have m1' : w4.cell? ⟨w.heap.size, 1, none⟩ = some (.slice none 0 0) := by rw [blk_cell' hn4]; rfl
      have m2' : w4.cell? ⟨w.heap.size, 2, none⟩ = some (.slice none 0 0) := by rw [blk_cell' hn4]; rfl
      have f0 := blk_frozen' hn4 0
      have f1 := blk_frozen' hn4 1
      have f2 := blk_frozen' hn4 2
      go_wp2_with fail
      rw [set3_same hn4]
      refine bodyPost_ret (v := .tuple #[.agg #[.int .i64 0, .slice none 0 0, .slice none 0 0], .int .i64 4]) (by simp [results, Tryd.results11, go_sem, m0', m1', m2', hlt4]) rfl ?_
      exact ⟨hall4.via (below_new _ _), _, _, _, by rw [HP.out], by rw [HP.out]; exact nd_zero _ _⟩
    | some x =>
      obtain ⟨t, left', st'⟩ := x
      rw [hx] at hres
      obtain ⟨u0, u1, u2, rfl, hnd, hon, hcn⟩ := hres
      have hsz := pNode_sz _ _ _ _ _ _ hx
      have HP : Hid (pOpen l = if st' = some [] then (if rightB t then (t, 0) else (.mk 0 [] [], 4)) else (.mk 0 [] [], 4)) := by
        show _ = _
        unfold pOpen
        rw [if_neg hlen, hx]
        cases st' with
        | none => rfl
        | some q => cases q <;> rfl
      clear hx
      obtain ⟨A0, d0, B0, d1, hcs⟩ := nd_form hnd
      simp only [List.cons.injEq, and_true] at hcs
      obtain ⟨rfl, rfl, rfl⟩ := hcs
      have c0 : w4.cell? ⟨h, 0, none⟩ = some (.pointer (some ⟨g, 0, none⟩)) := by rw [blk_cell' hon.1]; rfl
      have hhl := hon.lt
      have hb5 := below_new w4 (Obj.cells #[.int .i64 t.kind, .slice A0 t.bytes.length d0, .slice B0 t.kids.length d1] 28)
      have hn5 := (hb5.block w.heap.size (by have := hch4.size; omega)).trans hn4
      have ht5 := heap_alloc_new w4 (Obj.cells #[.int .i64 t.kind, .slice A0 t.bytes.length d0, .slice B0 t.kids.length d1] 28)
      have hon5 := (hb5.block h hon.lt).trans hon.1
      have hnd5 := hnd.below hb5
      have hcn5 := hcn.below hb5
      have hs5 : (w4.alloc (Obj.cells #[.int .i64 t.kind, .slice A0 t.bytes.length d0, .slice B0 t.kids.length d1] 28)).heap.size = w4.heap.size + 1 := by simp
      have hall5 := hall4.via hb5
      go_wp2_with fail
      generalize w4.alloc (Obj.cells #[.int .i64 t.kind, .slice A0 t.bytes.length d0, .slice B0 t.kids.length d1] 28) = w5 at *
      have hs4 := hch4.size
      generalize hnb : w4.heap.size = nb at *
      refine (end_any w5 hcn5).mono ?_
      rintro e w6 ⟨⟨z, rfl, hz⟩, rfl⟩
      have hlt5 : w.heap.size < w5.heap.size := by omega
      have n0 : w5.cell? ⟨nb, 0, none⟩ = some (.int .i64 t.kind) := by rw [blk_cell' ht5]; rfl
      have n1 : w5.cell? ⟨nb, 1, none⟩ = some (.slice A0 t.bytes.length d0) := by rw [blk_cell' ht5]; rfl
      have n2 : w5.cell? ⟨nb, 2, none⟩ = some (.slice B0 t.kids.length d1) := by rw [blk_cell' ht5]; rfl
      by_cases he : st' = some []
      · have hz0 := hz.2 he
        subst hz0
        have HP2 : Hid (pOpen l = if rightB t then (t, 0) else (.mk 0 [] [], 4)) := by
          show _ = _
          rw [HP.out, if_pos he]
        clear hz he HP
        go_wp2_with fail
        refine (right_is _ hnd5 hsz).mono ?_
        rintro e w7 ⟨⟨z2, rfl, hz2⟩, hb7⟩
        have hn7 := (hb7.block w.heap.size hlt5).trans hn5
        have hnd7 := hnd5.below hb7
        have f0 := blk_frozen' hn7 0
        have f1 := blk_frozen' hn7 1
        have f2 := blk_frozen' hn7 2
        have m0' : w7.cell? ⟨w.heap.size, 0, none⟩ = some (.int .i64 0) := by rw [blk_cell' hn7]; rfl
        have m1' : w7.cell? ⟨w.heap.size, 1, none⟩ = some (.slice none 0 0) := by rw [blk_cell' hn7]; rfl
        have m2' : w7.cell? ⟨w.heap.size, 2, none⟩ = some (.slice none 0 0) := by rw [blk_cell' hn7]; rfl
        have n0' := cell_later hb7 n0
        have n1' := cell_later hb7 n1
        have n2' := cell_later hb7 n2
        have hall7 := hall5.via hb7
        cases z2 with
        | false =>
          go_wp2_with fail
          rw [set3_same hn7]
          refine bodyPost_ret (v := .tuple #[.agg #[.int .i64 0, .slice none 0 0, .slice none 0 0], .int .i64 4]) (by simp [results, Tryd.results11, go_sem, m0', m1', m2']) rfl ?_
          have HP3 : pOpen l = (.mk 0 [] [], 4) := by rw [HP2.out, ← hz2.out]; rfl
          exact ⟨hall7, _, _, _, by rw [HP3], by rw [HP3]; exact nd_zero _ _⟩
        | true =>
          have HP3 : pOpen l = (t, 0) := by rw [HP2.out, ← hz2.out]; rfl
          have HP4 := Lib.hid HP3
          clear HP3
          go_wp2_with fail
          have hfin := ((Chs.set (T := fun k => k = w.heap.size) w7 ⟨w.heap.size, 0, none⟩ (.int .i64 t.kind) rfl).trans (Chs.set _ ⟨w.heap.size, 1, none⟩ (.slice A0 t.bytes.length d0) rfl)).trans (Chs.set _ ⟨w.heap.size, 2, none⟩ (.slice B0 t.kids.length d1) rfl)
          have hnf := blk_set' (blk_set' (blk_set' hn7 0 (.int .i64 t.kind)) 1 (.slice A0 t.bytes.length d0)) 2 (.slice B0 t.kids.length d1)
          generalize ((w7.setCell ⟨w.heap.size, 0, none⟩ (.int .i64 t.kind)).setCell ⟨w.heap.size, 1, none⟩ (.slice A0 t.bytes.length d0)).setCell ⟨w.heap.size, 2, none⟩ (.slice B0 t.kids.length d1) = w8 at *
          have y0 : w8.cell? ⟨w.heap.size, 0, none⟩ = some (.int .i64 t.kind) := by rw [blk_cell' hnf]; rfl
          have y1 : w8.cell? ⟨w.heap.size, 1, none⟩ = some (.slice A0 t.bytes.length d0) := by rw [blk_cell' hnf]; rfl
          have y2 : w8.cell? ⟨w.heap.size, 2, none⟩ = some (.slice B0 t.kids.length d1) := by rw [blk_cell' hnf]; rfl
          refine bodyPost_ret (v := .tuple #[.agg #[.int .i64 t.kind, .slice A0 t.bytes.length d0, .slice B0 t.kids.length d1], .int .i64 0]) (by simp [results, Tryd.results11, go_sem, y0, y1, y2]) rfl ?_
          refine ⟨((Chs.of_below hall7).trans hfin).below (fun k hk e => Nat.ne_of_lt hk e), _, _, _, by rw [HP4.out], ?_⟩
          rw [HP4.out]
          exact NdAt.mono (fun k hk => by omega) _ _ (hnd7.chs hfin (fun k hk1 _ hk2 => by omega))
      · have hz0 : ¬ z = 0 := fun e => he (hz.1 e)
        have hz1 : (z != 0) = true := by simp [hz0]
        have HP2 : Hid (pOpen l = (.mk 0 [] [], 4)) := by
          show _ = _
          rw [HP.out, if_neg he]
        have f0 := blk_frozen' hn5 0
        have f1 := blk_frozen' hn5 1
        have f2 := blk_frozen' hn5 2
        have m0' : w5.cell? ⟨w.heap.size, 0, none⟩ = some (.int .i64 0) := by rw [blk_cell' hn5]; rfl
        have m1' : w5.cell? ⟨w.heap.size, 1, none⟩ = some (.slice none 0 0) := by rw [blk_cell' hn5]; rfl
        have m2' : w5.cell? ⟨w.heap.size, 2, none⟩ = some (.slice none 0 0) := by rw [blk_cell' hn5]; rfl
        clear HP hz he
        go_wp2_with fail
        rw [set3_same hn5]
        refine bodyPost_ret (v := .tuple #[.agg #[.int .i64 0, .slice none 0 0, .slice none 0 0], .int .i64 4]) (by simp [results, Tryd.results11, go_sem, m0', m1', m2']) rfl ?_
        exact ⟨hall5, _, _, _, by rw [HP2.out], by rw [HP2.out]; exact nd_zero _ _⟩
end Pk
end Go.Proofs.YtgfgdlnlafngnaaDoor
