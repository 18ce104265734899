/- Walks: spencelaw09.PackBack. -/
import Derived.Test.YtgfgdlnlafngnaaDoorAx
import Derived.Test.YtgfgdlnlafngnaaDoorBack
import Derived.Test.YtgfgdlnlafngnaaDoorWt
import Derived.Deep.DeepCutAuto
namespace Go.Proofs.YtgfgdlnlafngnaaDoor
namespace Pk
open Go.RowKit

theorem pPack_cases (t : Nd) : (rightB t = true ∧ (enc t).length ≤ 4096 ∧ pPack t = (enc t, 0)) ∨ (rightB t = true ∧ 4096 < (enc t).length ∧ pPack t = ([], 3)) ∨ (rightB t = false ∧ pPack t = ([], 2)) := by
  unfold pPack
  cases h : rightB t with
  | false => exact .inr (.inr ⟨rfl, rfl⟩)
  | true =>
    by_cases hl : (enc t).length ≤ 4096
    · exact .inl ⟨rfl, hl, by rw [if_pos rfl, if_pos hl]⟩
    · exact .inr (.inl ⟨rfl, by omega, by rw [if_pos rfl, if_neg hl]⟩)

set_option maxRecDepth 100000 in
set_option maxHeartbeats 4000000 in
theorem packBack_any {t u : Nd} {v : Value} {l : List UInt8} {S S' S'' : Nat → Prop} {cs cs' : List Value} (w : World) (more : UInt8) (hn : NdAt S w t cs) (hu : NdAt S' w u cs') (hv : BsAt S'' w v l) (hsz : Sz t) (hsz' : Sz u) :
    Calls Tryd.prog 4 #[.agg cs.toArray, .agg cs'.toArray, v, .int .u8 (more.toNat : Int)] w fun e w' => e = .returned (.bool true) ∧ Below w.heap.size w w' := by
  obtain ⟨A, c, B, d, rfl⟩ := nd_form hn
  obtain ⟨A', c', B', d', rfl⟩ := nd_form hu
  obtain ⟨L, lc, rfl, hlc, hcm, hr⟩ := hv
  have hv : BsAt S'' w (.slice L l.length lc) l := ⟨L, lc, rfl, hlc, hcm, hr⟩
  go_enter Tryd.func4, Tryd.ntmps4
  go_wp2_with fail
  have hb1 := below_new2 w (Obj.cells #[.int .i64 t.kind, .slice A t.bytes.length c, .slice B t.kids.length d] 28) (Obj.cells #[.int .i64 u.kind, .slice A' u.bytes.length c', .slice B' u.kids.length d'] 28)
  have hN1 := blk_new' (alloc_at w (Obj.cells #[.int .i64 t.kind, .slice A t.bytes.length c, .slice B t.kids.length d] 28) rfl) (Obj.cells #[.int .i64 u.kind, .slice A' u.bytes.length c', .slice B' u.kids.length d'] 28)
  have hM1 := alloc_at (w.alloc (Obj.cells #[.int .i64 t.kind, .slice A t.bytes.length c, .slice B t.kids.length d] 28)) (Obj.cells #[.int .i64 u.kind, .slice A' u.bytes.length c', .slice B' u.kids.length d'] 28) (n := w.heap.size + 1) (by simp)
  have hs1 : ((w.alloc (Obj.cells #[.int .i64 t.kind, .slice A t.bytes.length c, .slice B t.kids.length d] 28)).alloc (Obj.cells #[.int .i64 u.kind, .slice A' u.bytes.length c', .slice B' u.kids.length d'] 28)).heap.size = w.heap.size + 2 := by simp
  generalize (w.alloc (Obj.cells #[.int .i64 t.kind, .slice A t.bytes.length c, .slice B t.kids.length d] 28)).alloc (Obj.cells #[.int .i64 u.kind, .slice A' u.bytes.length c', .slice B' u.kids.length d'] 28) = w1 at *
  refine (awake_any w1).mono ?_
  rintro e w2 ⟨rfl, hb2⟩
  have hN2 := (hb2.block w.heap.size (by omega)).trans hN1
  have hM2 := (hb2.block (w.heap.size + 1) (by omega)).trans hM1
  have hs2 := hb2.size
  have h02 := hb1.via hb2
  have ⟨n0, n1, n2⟩ := cells3 hN2
  have ⟨m0, m1, m2⟩ := cells3 hM2
  go_wp2_with fail
  refine wp_region_held_drew (S := fun w' => w'.cell? ⟨w.heap.size, 0, none⟩ = some (.int .i64 t.kind) ∧ w'.cell? ⟨w.heap.size, 1, none⟩ = some (.slice A t.bytes.length c) ∧ w'.cell? ⟨w.heap.size, 2, none⟩ = some (.slice B t.kids.length d) ∧ w'.cell? ⟨w.heap.size + 1, 0, none⟩ = some (.int .i64 u.kind) ∧ w'.cell? ⟨w.heap.size + 1, 1, none⟩ = some (.slice A' u.bytes.length c') ∧ w'.cell? ⟨w.heap.size + 1, 2, none⟩ = some (.slice B' u.kids.length d')) (by kernel_rfl) ?_ (fun hHeld => ?_)
  · (try dsimp only); exact ⟨n0, n1, n2, m0, m1, m2⟩
  refine takeT 0 25 (v := ?_) rfl rfl (by kernel_rfl) (by kernel_rfl) (by kernel_rfl) (fun _ _ _ h => h) hHeld (by rfl) ?_ ?_
  rotate_left
  · intro w hSw; (try dsimp only at hSw); have hSa := hSw.1; have hSb := hSw.2.1; have hSc := hSw.2.2.1; have hSd := hSw.2.2.2.1; have hSe := hSw.2.2.2.2.1; have hSf := hSw.2.2.2.2.2; clear hSw; go_simp; (try with_reducible rfl)
  simp only [List.set_cons_zero, List.set_cons_succ]
  refine takeT 2 27 (v := ?_) rfl rfl (by kernel_rfl) (by kernel_rfl) (by kernel_rfl) (fun _ _ _ h => h) hHeld (by rfl) ?_ ?_
  rotate_left
  · intro w hSw; (try dsimp only at hSw); have hSa := hSw.1; have hSb := hSw.2.1; have hSc := hSw.2.2.1; have hSd := hSw.2.2.2.1; have hSe := hSw.2.2.2.2.1; have hSf := hSw.2.2.2.2.2; clear hSw; go_simp; (try with_reducible rfl)
  simp only [List.set_cons_zero, List.set_cons_succ]
  refine takeC 1 rfl (by kernel_rfl) (by rfl) (fun K hK => ?_)
  go_simp
  refine (size_any t _ _ _ _ (hn.below (h02.via (below_dr _)))).mono ?_; rintro e w3 ⟨⟨z1, rfl⟩, hb3⟩; have h23 := (below_dr _).via hb3; (try go_wp2_with fail)
  refine hK.out _ _ ?_ (fun hHeld => ?_)
  · (try dsimp only); exact ⟨cell_later hb3 n0, cell_later hb3 n1, cell_later hb3 n2, cell_later hb3 m0, cell_later hb3 m1, cell_later hb3 m2⟩
  clear hK K
  refine takeC 3 rfl (by kernel_rfl) (by rfl) (fun K hK => ?_)
  go_simp
  refine (size_any u _ _ _ _ (hu.below (h02.via h23))).mono ?_; rintro e w4 ⟨⟨z2, rfl⟩, hb4⟩; have h24 := h23.via hb4; (try go_wp2_with fail)
  refine hK.out _ _ ?_ (fun hHeld => ?_)
  · (try dsimp only); exact ⟨cell_later (hb3.via hb4) n0, cell_later (hb3.via hb4) n1, cell_later (hb3.via hb4) n2, cell_later (hb3.via hb4) m0, cell_later (hb3.via hb4) m1, cell_later (hb3.via hb4) m2⟩
  clear hK K
  refine takeT 4 29 (v := ?_) rfl rfl (by kernel_rfl) (by kernel_rfl) (by kernel_rfl) (fun _ _ _ h => h) hHeld (by rfl) ?_ ?_
  rotate_left
  · intro w hSw; (try dsimp only at hSw); have hSa := hSw.1; have hSb := hSw.2.1; have hSc := hSw.2.2.1; have hSd := hSw.2.2.2.1; have hSe := hSw.2.2.2.2.1; have hSf := hSw.2.2.2.2.2; clear hSw; go_simp; (try with_reducible rfl)
  simp only [List.set_cons_zero, List.set_cons_succ]
  refine takeT 5 30 (v := ?_) rfl rfl (by kernel_rfl) (by kernel_rfl) (by kernel_rfl) (fun _ _ _ h => h) hHeld (by rfl) ?_ ?_
  rotate_left
  · intro w hSw; (try dsimp only at hSw); have hSa := hSw.1; have hSb := hSw.2.1; have hSc := hSw.2.2.1; have hSd := hSw.2.2.2.1; have hSe := hSw.2.2.2.2.1; have hSf := hSw.2.2.2.2.2; clear hSw; go_simp; (try with_reducible rfl)
  simp only [List.set_cons_zero, List.set_cons_succ]
  refine takeT 6 31 (v := ?_) rfl rfl (by kernel_rfl) (by kernel_rfl) (by kernel_rfl) (fun _ _ _ h => h) hHeld (by rfl) ?_ ?_
  rotate_left
  · intro w hSw; (try dsimp only at hSw); have hSa := hSw.1; have hSb := hSw.2.1; have hSc := hSw.2.2.1; have hSd := hSw.2.2.2.1; have hSe := hSw.2.2.2.2.1; have hSf := hSw.2.2.2.2.2; clear hSw; go_simp; (try with_reducible rfl)
  simp only [List.set_cons_zero, List.set_cons_succ]
  cases hz : decide (1500 < IntKind.i64.wrap (z1 + z2)) with
  | true =>
    refine takeS 7 32 rfl rfl (by kernel_rfl) (by kernel_rfl) (by kernel_rfl) (fun _ _ _ h => h) hHeld (by rfl) ?_
    simp only [List.set_cons_zero, List.set_cons_succ]
    refine takeS 8 33 rfl rfl (by kernel_rfl) (by kernel_rfl) (by kernel_rfl) (fun _ _ _ h => h) hHeld (by rfl) ?_
    simp only [List.set_cons_zero, List.set_cons_succ]
    refine takeS 9 34 rfl rfl (by kernel_rfl) (by kernel_rfl) (by kernel_rfl) (fun _ _ _ h => h) hHeld (by rfl) ?_
    simp only [List.set_cons_zero, List.set_cons_succ]
    refine takeT 10 35 (v := ?_) rfl rfl (by kernel_rfl) (by kernel_rfl) (by kernel_rfl) (fun _ _ _ h => h) hHeld (by rfl) ?_ ?_
    rotate_left
    · intro w hSw; (try dsimp only at hSw); have hSa := hSw.1; have hSb := hSw.2.1; have hSc := hSw.2.2.1; have hSd := hSw.2.2.2.1; have hSe := hSw.2.2.2.2.1; have hSf := hSw.2.2.2.2.2; clear hSw; go_simp; (try with_reducible rfl)
    simp only [List.set_cons_zero, List.set_cons_succ]
    refine wpAnyH_done (by kernel_rfl) ?_ _
    go_wp2_with fail
    go_ret
    exact ⟨rfl, h02.via h24⟩
  | false =>
    by_cases hlen : 6000 < l.length
    · refine takeT 7 32 (v := ?_) rfl rfl (by kernel_rfl) (by kernel_rfl) (by kernel_rfl) (fun _ _ _ h => h) hHeld (by rfl) ?_ ?_
      rotate_left
      · intro w hSw; (try dsimp only at hSw); have hSa := hSw.1; have hSb := hSw.2.1; have hSc := hSw.2.2.1; have hSd := hSw.2.2.2.1; have hSe := hSw.2.2.2.2.1; have hSf := hSw.2.2.2.2.2; clear hSw; go_simp; (try with_reducible rfl)
      simp only [List.set_cons_zero, List.set_cons_succ]
      refine takeT 8 33 (v := ?_) rfl rfl (by kernel_rfl) (by kernel_rfl) (by kernel_rfl) (fun _ _ _ h => h) hHeld (by rfl) ?_ ?_
      rotate_left
      · intro w hSw; (try dsimp only at hSw); have hSa := hSw.1; have hSb := hSw.2.1; have hSc := hSw.2.2.1; have hSd := hSw.2.2.2.1; have hSe := hSw.2.2.2.2.1; have hSf := hSw.2.2.2.2.2; clear hSw; go_simp; (try with_reducible rfl)
      simp only [List.set_cons_zero, List.set_cons_succ]
      refine takeT 9 34 (v := ?_) rfl rfl (by kernel_rfl) (by kernel_rfl) (by kernel_rfl) (fun _ _ _ h => h) hHeld (by rfl) ?_ ?_
      rotate_left
      · intro w hSw; (try dsimp only at hSw); have hSa := hSw.1; have hSb := hSw.2.1; have hSc := hSw.2.2.1; have hSd := hSw.2.2.2.1; have hSe := hSw.2.2.2.2.1; have hSf := hSw.2.2.2.2.2; clear hSw; go_simp; (try with_reducible rfl)
      simp only [List.set_cons_zero, List.set_cons_succ]
      refine takeT 10 35 (v := ?_) rfl rfl (by kernel_rfl) (by kernel_rfl) (by kernel_rfl) (fun _ _ _ h => h) hHeld (by rfl) ?_ ?_
      rotate_left
      · intro w hSw; (try dsimp only at hSw); have hSa := hSw.1; have hSb := hSw.2.1; have hSc := hSw.2.2.1; have hSd := hSw.2.2.2.1; have hSe := hSw.2.2.2.2.1; have hSf := hSw.2.2.2.2.2; clear hSw; go_simp; (try with_reducible rfl)
      simp only [List.set_cons_zero, List.set_cons_succ]
      refine wpAnyH_done (by kernel_rfl) ?_ _
      go_wp2_with fail
      go_ret
      exact ⟨rfl, h02.via h24⟩
    · refine takeT 7 32 (v := ?_) rfl rfl (by kernel_rfl) (by kernel_rfl) (by kernel_rfl) (fun _ _ _ h => h) hHeld (by rfl) ?_ ?_
      rotate_left
      · intro w hSw; (try dsimp only at hSw); have hSa := hSw.1; have hSb := hSw.2.1; have hSc := hSw.2.2.1; have hSd := hSw.2.2.2.1; have hSe := hSw.2.2.2.2.1; have hSf := hSw.2.2.2.2.2; clear hSw; go_simp; (try with_reducible rfl)
      simp only [List.set_cons_zero, List.set_cons_succ]
      refine takeT 8 33 (v := ?_) rfl rfl (by kernel_rfl) (by kernel_rfl) (by kernel_rfl) (fun _ _ _ h => h) hHeld (by rfl) ?_ ?_
      rotate_left
      · intro w hSw; (try dsimp only at hSw); have hSa := hSw.1; have hSb := hSw.2.1; have hSc := hSw.2.2.1; have hSd := hSw.2.2.2.1; have hSe := hSw.2.2.2.2.1; have hSf := hSw.2.2.2.2.2; clear hSw; go_simp; (try with_reducible rfl)
      simp only [List.set_cons_zero, List.set_cons_succ]
      refine takeT 9 34 (v := ?_) rfl rfl (by kernel_rfl) (by kernel_rfl) (by kernel_rfl) (fun _ _ _ h => h) hHeld (by rfl) ?_ ?_
      rotate_left
      · intro w hSw; (try dsimp only at hSw); have hSa := hSw.1; have hSb := hSw.2.1; have hSc := hSw.2.2.1; have hSd := hSw.2.2.2.1; have hSe := hSw.2.2.2.2.1; have hSf := hSw.2.2.2.2.2; clear hSw; go_simp; (try with_reducible rfl)
      simp only [List.set_cons_zero, List.set_cons_succ]
      refine takeT 10 35 (v := ?_) rfl rfl (by kernel_rfl) (by kernel_rfl) (by kernel_rfl) (fun _ _ _ h => h) hHeld (by rfl) ?_ ?_
      rotate_left
      · intro w hSw; (try dsimp only at hSw); have hSa := hSw.1; have hSb := hSw.2.1; have hSc := hSw.2.2.1; have hSd := hSw.2.2.2.1; have hSe := hSw.2.2.2.2.1; have hSf := hSw.2.2.2.2.2; clear hSw; go_simp; (try with_reducible rfl)
      simp only [List.set_cons_zero, List.set_cons_succ]
      refine wpAnyH_done (by kernel_rfl) ?_ _
      have h04 := h02.via h24
      have hs4 := h24.size
      have hN4 := (h24.block w.heap.size (by omega)).trans hN2
      have hM4 := (h24.block (w.heap.size + 1) (by omega)).trans hM2
      clear hz hb3 hb4 h23 n0 n1 n2 m0 m1 m2 hb1 hb2
      have ⟨n0, n1, n2⟩ := cells3 hN4
      have ⟨m0, m1, m2⟩ := cells3 hM4
      go_wp2_with fail
      refine (pack_any w4 (hn.below h04) hsz).mono ?_
      rintro e w5 ⟨⟨v5, rfl, hv5⟩, hb5⟩
      have h05 := h04.via hb5
      have hs5 := hb5.size
      have hN5 := (hb5.block w.heap.size (by omega)).trans hN4
      have hM5 := (hb5.block (w.heap.size + 1) (by omega)).trans hM4
      clear n0 n1 n2 m0 m1 m2
      have ⟨n0, n1, n2⟩ := cells3 hN5
      have ⟨m0, m1, m2⟩ := cells3 hM5
      obtain ⟨P, pc, rfl, hp1, hp2, hp3⟩ := hv5
      have hv5 : BsAt (fun k => w4.heap.size ≤ k) w5 (.slice P (pPack t).1.length pc) (pPack t).1 := ⟨P, pc, rfl, hp1, hp2, hp3⟩
      clear hp3
      have HPC := Lib.hid (pPack_cases t)
      generalize hpp : pPack t = pp at *
      obtain ⟨pb, e0⟩ := pp
      clear hpp
      dsimp only at *
      go_upto_region 6 with fail
      go_cut [50] (fun s wx => s = .bool false ∧ Below w5.heap.size w5 wx)
      case first =>
        rcases HPC.out with ⟨hR, hL, hE⟩ | ⟨hR, hL, hE⟩ | ⟨hR, hE⟩
        · simp only [Prod.mk.injEq] at hE
          obtain ⟨rfl, rfl⟩ := hE
          go_wp2_with fail
          refine (right_is w5 (hn.below h05) hsz).mono ?_
          rintro e w6 ⟨⟨z, rfl, hz⟩, hb6⟩
          obtain rfl : z = true := by rw [hz.out, hR]
          have hN6 := (hb6.block w.heap.size (by omega)).trans hN5
          clear n0 n1 n2
          have ⟨n0, n1, n2⟩ := cells3 hN6
          go_wp2_with fail
          refine (psize_any w6 ((hn.below h05).below hb6) hsz).mono ?_
          rintro e w7 ⟨rfl, hb7⟩
          have HS : pSize t = (enc t).length := by unfold pSize; rw [hR]; rfl
          rw [HS]
          go_wp2_with fail
          go_meet
          exact ⟨by simp; omega, hb6.via hb7⟩
        · simp only [Prod.mk.injEq] at hE
          obtain ⟨rfl, rfl⟩ := hE
          go_wp2_with fail
          refine (right_is w5 (hn.below h05) hsz).mono ?_
          rintro e w6 ⟨⟨z, rfl, hz⟩, hb6⟩
          obtain rfl : z = true := by rw [hz.out, hR]
          have hN6 := (hb6.block w.heap.size (by omega)).trans hN5
          clear n0 n1 n2
          have ⟨n0, n1, n2⟩ := cells3 hN6
          go_wp2_with fail
          refine (psize_any w6 ((hn.below h05).below hb6) hsz).mono ?_
          rintro e w7 ⟨rfl, hb7⟩
          have HS : pSize t = (enc t).length := by unfold pSize; rw [hR]; rfl
          rw [HS]
          go_wp2_with fail
          go_meet
          exact ⟨by simp; omega, hb6.via hb7⟩
        · simp only [Prod.mk.injEq] at hE
          obtain ⟨rfl, rfl⟩ := hE
          go_wp2_with fail
          refine (right_is w5 (hn.below h05) hsz).mono ?_
          rintro e w6 ⟨⟨z, rfl, hz⟩, hb6⟩
          obtain rfl : z = false := by rw [hz.out, hR]
          go_wp2_with fail
          go_meet
          exact ⟨rfl, hb6⟩
      case rest =>
        obtain ⟨rfl, hb6⟩ := hcut
        go_upto_if 52 with fail
        go_cut [] (fun wx => Below wc.heap.size wc wx)
        case first =>
          rcases HPC.out with ⟨hR, hL, hE⟩ | ⟨hR, hL, hE⟩ | ⟨hR, hE⟩
          · simp only [Prod.mk.injEq] at hE
            obtain ⟨rfl, rfl⟩ := hE
            have hNc := (hb6.block w.heap.size (by omega)).trans hN5
            have hMc := (hb6.block (w.heap.size + 1) (by omega)).trans hM5
            have hsc := hb6.size
            have h0c := h05.via hb6
            have hvc := hv5.below hb6
            clear n0 n1 n2 m0 m1 m2
            have ⟨n0, n1, n2⟩ := cells3 hNc
            have ⟨m0, m1, m2⟩ := cells3 hMc
            clear HPC
            have HR := Lib.hid hR
            have hO : pOpen (enc t) = (t, 0) := pOpen_ok.2 ⟨hL, hR, rfl⟩
            clear hR
            go_wp2_with fail
            refine (open_any wc hvc).mono ?_
            rw [hO]
            rintro e w6 ⟨hb7, c0, c1, c2, rfl, hn6⟩
            obtain ⟨A6, d6, B6, e6, hcs⟩ := nd_form hn6
            simp only [List.cons.injEq, and_true] at hcs
            obtain ⟨rfl, rfl, rfl⟩ := hcs
            clear hO
            have hb8 := below_new w6 (Obj.cells #[.int .i64 t.kind, .slice A6 t.bytes.length d6, .slice B6 t.kids.length e6] 28)
            have hX7 := heap_alloc_new w6 (Obj.cells #[.int .i64 t.kind, .slice A6 t.bytes.length d6, .slice B6 t.kids.length e6] 28)
            have hpos : 1 ≤ (enc t).length := by
              have := num_length_pos t.kind.toNat
              obtain ⟨k, b, ks⟩ := t
              rw [enc]
              split
              · have := num_length_pos 4
                simp only [List.length_append]
                omega
              · simp only [List.length_append]
                exact Nat.le_trans this (Nat.le_add_right _ _)
            go_wp2_with fail
            have hs7 : (w6.alloc (Obj.cells #[.int .i64 t.kind, .slice A6 t.bytes.length d6, .slice B6 t.kids.length e6] 28)).heap.size = w6.heap.size + 1 := by simp
            generalize w6.alloc (Obj.cells #[.int .i64 t.kind, .slice A6 t.bytes.length d6, .slice B6 t.kids.length e6] 28) = w7 at *
            have hc7 := hb7.via hb8
            have hvl : BsAt (fun k => w4.heap.size ≤ k) w7 (.slice P ((enc t).length - 1) pc) ((enc t).take ((enc t).length - 1)) := by
              obtain ⟨P', pc', e, q1, q2, q3⟩ := hvc.below hc7
              simp only [Value.slice.injEq] at e
              obtain ⟨rfl, _, rfl⟩ := e
              have q4 := q3.take ((enc t).length - 1)
              rw [← List.map_take] at q4
              exact ⟨_, _, by rw [List.length_take, Nat.min_eq_left (by omega)], by rw [List.length_take]; omega, q2, q4⟩
            have hol := open_less HR.out hL hpos
            refine (open_any w7 hvl).mono ?_
            rw [hol]
            clear hol
            generalize (pOpen ((enc t).take ((enc t).length - 1))).1 = t8 at *
            rintro e w8 ⟨hb9, c0, c1, c2, rfl, hn8⟩
            obtain ⟨A8, d8, B8, e8, hcs⟩ := nd_form hn8
            simp only [List.cons.injEq, and_true] at hcs
            obtain ⟨rfl, rfl, rfl⟩ := hcs
            have hb10 := below_new w8 (Obj.cells #[.int .i64 t8.kind, .slice A8 t8.bytes.length d8, .slice B8 t8.kids.length e8] 28)
            have hs9 : (w8.alloc (Obj.cells #[.int .i64 t8.kind, .slice A8 t8.bytes.length d8, .slice B8 t8.kids.length e8] 28)).heap.size = w8.heap.size + 1 := by simp
            clear hvl hn8
            obtain ⟨i0, hi0, hz0, hz1, hz2⟩ := info_parts info_byte
            go_wp2_with (at_builtin; refine Stp.mk ?_)
            refine Stp.of ?_
            generalize w8.alloc (Obj.cells #[.int .i64 t8.kind, .slice A8 t8.bytes.length d8, .slice B8 t8.kids.length e8] 28) = w9 at *
            have hown9 := World.ownsRow_made (base := w8.heap.size + 1) (e := 5) (size := 1) w9 #[] 0 (by omega) (by simp [maxLen]) (by simp)
            rw [hs9] at hown9
            have hb11 := below_new w9 (Obj.cells #[] 5)
            have hs10 : (w9.alloc (Obj.cells #[] 5)).heap.size = w8.heap.size + 2 := by simp [hs9]
            generalize w9.alloc (Obj.cells #[] 5) = w10 at *
            have hc10 := hc7.via ((hb9.via hb10).via hb11)
            obtain ⟨P', pc', e, q1, q2, q3⟩ := hvc.below hc10
            simp only [Value.slice.injEq] at e
            obtain ⟨rfl, _, rfl⟩ := e
            refine wpList_append_rd _ rfl (.tmp 68) (.tmp 69) 22 rfl (w8.heap.size + 1) 5 i0 _ 1 1 Tryd.underlying22 hi0 hz0 hz1 hz2 rfl (by omega) (.slice (some ⟨w8.heap.size + 1, 0, none⟩) 0 0) 0 [] rfl hown9 P (enc t).length pc (bcs (enc t)) rfl (by simp) q3 (bcs_one _) (by simp only [maxLen]; omega) (by omega) (by omega) ?_
            clear q1 q2 q3 hown9
            intro v' w11 hown11 hg11 hat11
            rw [List.nil_append, Nat.zero_add] at hown11
            obtain ⟨A11, c11, rfl⟩ := own_form hown11
            have hb12 : Below w9.heap.size w9 w11 := ((Chs.of_below (T := fun k => w9.heap.size ≤ k) hb11).trans (Chs.of_grown hg11 (fun k hk => by simp [Value.ownBlock] at hk; show w9.heap.size ≤ k; omega))).below (fun k hk e => Nat.not_le_of_lt hk e)
            have hs11 : w8.heap.size + 2 ≤ w11.heap.size := by have := hg11.size; omega
            clear hg11 hat11
            go_wp2_with (at_builtin; refine Stp.mk ?_)
            refine Stp.of ?_
            refine wpList_append_rd _ rfl (.tmp 70) (.tmp 72) 22 rfl (w8.heap.size + 1) 5 i0 _ 1 1 Tryd.underlying22 hi0 hz0 hz1 hz2 rfl (by omega) (.slice A11 (enc t).length c11) (enc t).length (bcs (enc t)) rfl (hown11.alloc _) (some ⟨w11.heap.size, 0, none⟩) 1 1 (bcs [more]) rfl (by simp) (Rd.new rfl) (bcs_one _) (by simp only [maxLen]; omega) (by omega) (by simp; omega) ?_
            intro v' w12 hown12 hg12 hat12
            rw [← List.map_append] at hown12
            obtain ⟨A12, c12, rfl⟩ := own_form hown12
            have hown9l := fun k hk => own_lt' hown11 (k := k) hk
            have hb13 : Below w9.heap.size w9 w12 := (((Chs.of_below (T := fun k => w9.heap.size ≤ k) hb12).trans (Chs.of_below (below_new w11 _))).trans (Chs.of_grown hg12 (fun k hk => by have := hown9l k hk; show w9.heap.size ≤ k; omega))).below (fun k hk e => Nat.not_le_of_lt hk e)
            have h712 := (hb9.via hb10).via hb13
            have hc12 := hc7.via h712
            have hv12 := BsAt.of_own hown12
            have hmo := Lib.hid (open_more HR.out more)
            have hs12 := h712.size
            have hX12 := (h712.block w6.heap.size (by omega)).trans hX7
            have h612 := hb8.via h712
            clear hg12 hat12 hown12 hown11 hown9l hb11 hb12 hb13
            go_wp2_with fail
            refine (open_any w12 hv12).mono ?_
            generalize pOpen (enc t ++ [more]) = po at *
            obtain ⟨t12, e12⟩ := po
            dsimp only at *
            rintro e w13 ⟨hb13, c0, c1, c2, rfl, hn13⟩
            obtain ⟨A13, d13, B13, e13, hcs⟩ := nd_form hn13
            simp only [List.cons.injEq, and_true] at hcs
            obtain ⟨rfl, rfl, rfl⟩ := hcs
            have hb14 := below_new w13 (Obj.cells #[.int .i64 t12.kind, .slice A13 t12.bytes.length d13, .slice B13 t12.kids.length e13] 28)
            clear hn13 hv12
            have hs13 := hb13.size
            have hs14 := hb14.size
            have h614 := (h612.via hb13).via hb14
            have hc14 := (hc12.via hb13).via hb14
            have h014 := h0c.via hc14
            have hN14 := (hc14.block w.heap.size (by omega)).trans hNc
            have hM14 := (hc14.block (w.heap.size + 1) (by omega)).trans hMc
            have hX14 := ((hb13.via hb14).block w6.heap.size (by omega)).trans hX12
            clear n0 n1 n2 m0 m1 m2
            have ⟨n0, n1, n2⟩ := cells3 hN14
            have ⟨m0, m1, m2⟩ := cells3 hM14
            go_wp2_with fail
            refine (pack_any _ (hu.below h014) hsz').mono ?_
            rintro e w15 ⟨⟨vu, rfl, huv⟩, hb15⟩
            have HPU := Lib.hid (pPack_cases u)
            generalize hppu : pPack u = pu at *
            obtain ⟨ub, eu⟩ := pu
            clear hppu
            dsimp only at *
            have h6d := h614.via hb15
            have hcd := hc14.via hb15
            have h0d := h014.via hb15
            have h13d := hcd
            have hv13 := hvc
            have hsd := hcd.size
            have hs15 := hb15.size
            have hN15 := (hcd.block w.heap.size (by omega)).trans hNc
            have hM15 := (hcd.block (w.heap.size + 1) (by omega)).trans hMc
            have hX15 := (hb15.block w6.heap.size (by omega)).trans hX14
            clear n0 n1 n2 m0 m1 m2
            have ⟨n0, n1, n2⟩ := cells3 hN15
            have ⟨m0, m1, m2⟩ := cells3 hM15
            have ⟨x0, x1, x2⟩ := cells3 hX15
            have HST : Hid (pSize t = (enc t).length) := by
              show _ = _
              unfold pSize
              rw [HR.out]
              rfl
            have hmo2 : (e12 == 0) = false := by simpa using hmo.out
            by_cases hue : eu = 0
            · subst hue
              obtain ⟨HRU, rfl⟩ : Hid (rightB u = true) ∧ ub = enc u := by
                rcases HPU.out with ⟨h1, _, h2⟩ | ⟨_, _, h2⟩ | ⟨_, h2⟩
                · simp only [Prod.mk.injEq, and_true] at h2
                  exact ⟨h1, h2⟩
                · simp at h2
                · simp at h2
              go_wp2_with fail
              refine wp_region_held_drew (S := fun w' => w'.cell? ⟨w6.heap.size, 0, none⟩ = some (.int .i64 t.kind) ∧ w'.cell? ⟨w6.heap.size, 1, none⟩ = some (.slice A6 t.bytes.length d6) ∧ w'.cell? ⟨w6.heap.size, 2, none⟩ = some (.slice B6 t.kids.length e6) ∧ w'.cell? ⟨w.heap.size, 0, none⟩ = some (.int .i64 t.kind) ∧ w'.cell? ⟨w.heap.size, 1, none⟩ = some (.slice A t.bytes.length c) ∧ w'.cell? ⟨w.heap.size, 2, none⟩ = some (.slice B t.kids.length d) ∧ w'.cell? ⟨w.heap.size + 1, 0, none⟩ = some (.int .i64 u.kind) ∧ w'.cell? ⟨w.heap.size + 1, 1, none⟩ = some (.slice A' u.bytes.length c') ∧ w'.cell? ⟨w.heap.size + 1, 2, none⟩ = some (.slice B' u.kids.length d')) (by kernel_rfl) ?_ (fun hHeld => ?_)
              · (try dsimp only); exact ⟨x0, x1, x2, n0, n1, n2, m0, m1, m2⟩
              refine takeT 0 82 (v := ?_) rfl rfl (by kernel_rfl) (by kernel_rfl) (by kernel_rfl) (fun _ _ _ h => h) hHeld (by rfl) ?_ ?_
              rotate_left
              · intro w hSw; (try dsimp only at hSw); have hSa := hSw.1; have hSb := hSw.2.1; have hSc := hSw.2.2.1; have hSd := hSw.2.2.2.1; have hSe := hSw.2.2.2.2.1; have hSf := hSw.2.2.2.2.2.1; have hSg := hSw.2.2.2.2.2.2.1; have hSh := hSw.2.2.2.2.2.2.2.1; have hSi := hSw.2.2.2.2.2.2.2.2; clear hSw; go_simp; (try with_reducible rfl)
              simp only [List.set_cons_zero, List.set_cons_succ]
              refine takeT 1 83 (v := ?_) rfl rfl (by kernel_rfl) (by kernel_rfl) (by kernel_rfl) (fun _ _ _ h => h) hHeld (by rfl) ?_ ?_
              rotate_left
              · intro w hSw; (try dsimp only at hSw); have hSa := hSw.1; have hSb := hSw.2.1; have hSc := hSw.2.2.1; have hSd := hSw.2.2.2.1; have hSe := hSw.2.2.2.2.1; have hSf := hSw.2.2.2.2.2.1; have hSg := hSw.2.2.2.2.2.2.1; have hSh := hSw.2.2.2.2.2.2.2.1; have hSi := hSw.2.2.2.2.2.2.2.2; clear hSw; go_simp; (try with_reducible rfl)
              simp only [List.set_cons_zero, List.set_cons_succ]
              refine takeT 2 84 (v := ?_) rfl rfl (by kernel_rfl) (by kernel_rfl) (by kernel_rfl) (fun _ _ _ h => h) hHeld (by rfl) ?_ ?_
              rotate_left
              · intro w hSw; (try dsimp only at hSw); have hSa := hSw.1; have hSb := hSw.2.1; have hSc := hSw.2.2.1; have hSd := hSw.2.2.2.1; have hSe := hSw.2.2.2.2.1; have hSf := hSw.2.2.2.2.2.1; have hSg := hSw.2.2.2.2.2.2.1; have hSh := hSw.2.2.2.2.2.2.2.1; have hSi := hSw.2.2.2.2.2.2.2.2; clear hSw; go_simp; (try with_reducible rfl)
              simp only [List.set_cons_zero, List.set_cons_succ]
              refine takeT 3 85 (v := ?_) rfl rfl (by kernel_rfl) (by kernel_rfl) (by kernel_rfl) (fun _ _ _ h => h) hHeld (by rfl) ?_ ?_
              rotate_left
              · intro w hSw; (try dsimp only at hSw); have hSa := hSw.1; have hSb := hSw.2.1; have hSc := hSw.2.2.1; have hSd := hSw.2.2.2.1; have hSe := hSw.2.2.2.2.1; have hSf := hSw.2.2.2.2.2.1; have hSg := hSw.2.2.2.2.2.2.1; have hSh := hSw.2.2.2.2.2.2.2.1; have hSi := hSw.2.2.2.2.2.2.2.2; clear hSw; go_simp; (try with_reducible rfl)
              simp only [List.set_cons_zero, List.set_cons_succ]
              refine takeT 4 86 (v := ?_) rfl rfl (by kernel_rfl) (by kernel_rfl) (by kernel_rfl) (fun _ _ _ h => h) hHeld (by rfl) ?_ ?_
              rotate_left
              · intro w hSw; (try dsimp only at hSw); have hSa := hSw.1; have hSb := hSw.2.1; have hSc := hSw.2.2.1; have hSd := hSw.2.2.2.1; have hSe := hSw.2.2.2.2.1; have hSf := hSw.2.2.2.2.2.1; have hSg := hSw.2.2.2.2.2.2.1; have hSh := hSw.2.2.2.2.2.2.2.1; have hSi := hSw.2.2.2.2.2.2.2.2; clear hSw; go_simp; (try with_reducible rfl)
              simp only [List.set_cons_zero, List.set_cons_succ]
              refine takeC 5 rfl (by kernel_rfl) (by rfl) (fun K hK => ?_)
              go_simp
              refine (tequal_any _ (hn6.below (h6d.via (below_dr _))) (hn.below (h0d.via (below_dr _))) hsz hsz).mono ?_; rintro e w14 ⟨⟨z14, rfl, hz14⟩, hb14⟩; obtain rfl : z14 = true := by {rw [hz14.out]; unfold eqB; rw [HR.out, (sameB_iff _ _).2 rfl]; rfl}; have hd14 := (below_dr _).via hb14; (try go_wp2_with fail)
              refine hK.out _ _ ?_ (fun hHeld => ?_)
              · (try dsimp only); exact ⟨cell_later hb14 x0, cell_later hb14 x1, cell_later hb14 x2, cell_later hb14 n0, cell_later hb14 n1, cell_later hb14 n2, cell_later hb14 m0, cell_later hb14 m1, cell_later hb14 m2⟩
              clear hK K
              refine takeT 6 88 (v := ?_) rfl rfl (by kernel_rfl) (by kernel_rfl) (by kernel_rfl) (fun _ _ _ h => h) hHeld (by rfl) ?_ ?_
              rotate_left
              · intro w hSw; (try dsimp only at hSw); have hSa := hSw.1; have hSb := hSw.2.1; have hSc := hSw.2.2.1; have hSd := hSw.2.2.2.1; have hSe := hSw.2.2.2.2.1; have hSf := hSw.2.2.2.2.2.1; have hSg := hSw.2.2.2.2.2.2.1; have hSh := hSw.2.2.2.2.2.2.2.1; have hSi := hSw.2.2.2.2.2.2.2.2; clear hSw; go_simp; (try with_reducible rfl)
              simp only [List.set_cons_zero, List.set_cons_succ]
              refine takeT 7 89 (v := ?_) rfl rfl (by kernel_rfl) (by kernel_rfl) (by kernel_rfl) (fun _ _ _ h => h) hHeld (by rfl) ?_ ?_
              rotate_left
              · intro w hSw; (try dsimp only at hSw); have hSa := hSw.1; have hSb := hSw.2.1; have hSc := hSw.2.2.1; have hSd := hSw.2.2.2.1; have hSe := hSw.2.2.2.2.1; have hSf := hSw.2.2.2.2.2.1; have hSg := hSw.2.2.2.2.2.2.1; have hSh := hSw.2.2.2.2.2.2.2.1; have hSi := hSw.2.2.2.2.2.2.2.2; clear hSw; go_simp; (try with_reducible rfl)
              simp only [List.set_cons_zero, List.set_cons_succ]
              refine takeT 8 90 (v := ?_) rfl rfl (by kernel_rfl) (by kernel_rfl) (by kernel_rfl) (fun _ _ _ h => h) hHeld (by rfl) ?_ ?_
              rotate_left
              · intro w hSw; (try dsimp only at hSw); have hSa := hSw.1; have hSb := hSw.2.1; have hSc := hSw.2.2.1; have hSd := hSw.2.2.2.1; have hSe := hSw.2.2.2.2.1; have hSf := hSw.2.2.2.2.2.1; have hSg := hSw.2.2.2.2.2.2.1; have hSh := hSw.2.2.2.2.2.2.2.1; have hSi := hSw.2.2.2.2.2.2.2.2; clear hSw; go_simp; (try with_reducible rfl)
              simp only [List.set_cons_zero, List.set_cons_succ]
              refine takeT 9 91 (v := ?_) rfl rfl (by kernel_rfl) (by kernel_rfl) (by kernel_rfl) (fun _ _ _ h => h) hHeld (by rfl) ?_ ?_
              rotate_left
              · intro w hSw; (try dsimp only at hSw); have hSa := hSw.1; have hSb := hSw.2.1; have hSc := hSw.2.2.1; have hSd := hSw.2.2.2.1; have hSe := hSw.2.2.2.2.1; have hSf := hSw.2.2.2.2.2.1; have hSg := hSw.2.2.2.2.2.2.1; have hSh := hSw.2.2.2.2.2.2.2.1; have hSi := hSw.2.2.2.2.2.2.2.2; clear hSw; go_simp; (try with_reducible rfl)
              simp only [List.set_cons_zero, List.set_cons_succ]
              refine takeT 10 92 (v := ?_) rfl rfl (by kernel_rfl) (by kernel_rfl) (by kernel_rfl) (fun _ _ _ h => h) hHeld (by rfl) ?_ ?_
              rotate_left
              · intro w hSw; (try dsimp only at hSw); have hSa := hSw.1; have hSb := hSw.2.1; have hSc := hSw.2.2.1; have hSd := hSw.2.2.2.1; have hSe := hSw.2.2.2.2.1; have hSf := hSw.2.2.2.2.2.1; have hSg := hSw.2.2.2.2.2.2.1; have hSh := hSw.2.2.2.2.2.2.2.1; have hSi := hSw.2.2.2.2.2.2.2.2; clear hSw; go_simp; (try with_reducible rfl)
              simp only [List.set_cons_zero, List.set_cons_succ]
              refine takeT 11 93 (v := ?_) rfl rfl (by kernel_rfl) (by kernel_rfl) (by kernel_rfl) (fun _ _ _ h => h) hHeld (by rfl) ?_ ?_
              rotate_left
              · intro w hSw; (try dsimp only at hSw); have hSa := hSw.1; have hSb := hSw.2.1; have hSc := hSw.2.2.1; have hSd := hSw.2.2.2.1; have hSe := hSw.2.2.2.2.1; have hSf := hSw.2.2.2.2.2.1; have hSg := hSw.2.2.2.2.2.2.1; have hSh := hSw.2.2.2.2.2.2.2.1; have hSi := hSw.2.2.2.2.2.2.2.2; clear hSw; go_simp; (try with_reducible rfl)
              simp only [List.set_cons_zero, List.set_cons_succ]
              refine takeC 12 rfl (by kernel_rfl) (by rfl) (fun K hK => ?_)
              go_simp
              refine (psize_any _ (hn.below (h0d.via hd14)) hsz).mono ?_; rw [HST.out]; rintro e w15 ⟨rfl, hb15⟩; have hd15 := hd14.via hb15; (try go_wp2_with fail)
              refine hK.out _ _ ?_ (fun hHeld => ?_)
              · (try dsimp only); exact ⟨cell_later (hb14.via hb15) x0, cell_later (hb14.via hb15) x1, cell_later (hb14.via hb15) x2, cell_later (hb14.via hb15) n0, cell_later (hb14.via hb15) n1, cell_later (hb14.via hb15) n2, cell_later (hb14.via hb15) m0, cell_later (hb14.via hb15) m1, cell_later (hb14.via hb15) m2⟩
              clear hK K
              refine takeT 13 95 (v := ?_) rfl rfl (by kernel_rfl) (by kernel_rfl) (by kernel_rfl) (fun _ _ _ h => h) hHeld (by rfl) ?_ ?_
              rotate_left
              · intro w hSw; (try dsimp only at hSw); have hSa := hSw.1; have hSb := hSw.2.1; have hSc := hSw.2.2.1; have hSd := hSw.2.2.2.1; have hSe := hSw.2.2.2.2.1; have hSf := hSw.2.2.2.2.2.1; have hSg := hSw.2.2.2.2.2.2.1; have hSh := hSw.2.2.2.2.2.2.2.1; have hSi := hSw.2.2.2.2.2.2.2.2; clear hSw; go_simp; (try with_reducible rfl)
              simp only [List.set_cons_zero, List.set_cons_succ]
              refine takeT 14 96 (v := ?_) rfl rfl (by kernel_rfl) (by kernel_rfl) (by kernel_rfl) (fun _ _ _ h => h) hHeld (by rfl) ?_ ?_
              rotate_left
              · intro w hSw; (try dsimp only at hSw); have hSa := hSw.1; have hSb := hSw.2.1; have hSc := hSw.2.2.1; have hSd := hSw.2.2.2.1; have hSe := hSw.2.2.2.2.1; have hSf := hSw.2.2.2.2.2.1; have hSg := hSw.2.2.2.2.2.2.1; have hSh := hSw.2.2.2.2.2.2.2.1; have hSi := hSw.2.2.2.2.2.2.2.2; clear hSw; go_simp; (try with_reducible rfl)
              simp only [List.set_cons_zero, List.set_cons_succ]
              refine takeT 15 97 (v := ?_) rfl rfl (by kernel_rfl) (by kernel_rfl) (by kernel_rfl) (fun _ _ _ h => h) hHeld (by rfl) ?_ ?_
              rotate_left
              · intro w hSw; (try dsimp only at hSw); have hSa := hSw.1; have hSb := hSw.2.1; have hSc := hSw.2.2.1; have hSd := hSw.2.2.2.1; have hSe := hSw.2.2.2.2.1; have hSf := hSw.2.2.2.2.2.1; have hSg := hSw.2.2.2.2.2.2.1; have hSh := hSw.2.2.2.2.2.2.2.1; have hSi := hSw.2.2.2.2.2.2.2.2; clear hSw; go_simp; (try with_reducible rfl)
              simp only [List.set_cons_zero, List.set_cons_succ]
              refine takeT 16 98 (v := ?_) rfl rfl (by kernel_rfl) (by kernel_rfl) (by kernel_rfl) (fun _ _ _ h => h) hHeld (by rfl) ?_ ?_
              rotate_left
              · intro w hSw; (try dsimp only at hSw); have hSa := hSw.1; have hSb := hSw.2.1; have hSc := hSw.2.2.1; have hSd := hSw.2.2.2.1; have hSe := hSw.2.2.2.2.1; have hSf := hSw.2.2.2.2.2.1; have hSg := hSw.2.2.2.2.2.2.1; have hSh := hSw.2.2.2.2.2.2.2.1; have hSi := hSw.2.2.2.2.2.2.2.2; clear hSw; go_simp; (try with_reducible rfl)
              simp only [List.set_cons_zero, List.set_cons_succ]
              refine takeT 17 99 (v := ?_) rfl rfl (by kernel_rfl) (by kernel_rfl) (by kernel_rfl) (fun _ _ _ h => h) hHeld (by rfl) ?_ ?_
              rotate_left
              · intro w hSw; (try dsimp only at hSw); have hSa := hSw.1; have hSb := hSw.2.1; have hSc := hSw.2.2.1; have hSd := hSw.2.2.2.1; have hSe := hSw.2.2.2.2.1; have hSf := hSw.2.2.2.2.2.1; have hSg := hSw.2.2.2.2.2.2.1; have hSh := hSw.2.2.2.2.2.2.2.1; have hSi := hSw.2.2.2.2.2.2.2.2; clear hSw; go_simp; (try with_reducible rfl)
              simp only [List.set_cons_zero, List.set_cons_succ]
              refine takeT 18 100 (v := ?_) rfl rfl (by kernel_rfl) (by kernel_rfl) (by kernel_rfl) (fun _ _ _ h => h) hHeld (by rfl) ?_ ?_
              rotate_left
              · intro w hSw; (try dsimp only at hSw); have hSa := hSw.1; have hSb := hSw.2.1; have hSc := hSw.2.2.1; have hSd := hSw.2.2.2.1; have hSe := hSw.2.2.2.2.1; have hSf := hSw.2.2.2.2.2.1; have hSg := hSw.2.2.2.2.2.2.1; have hSh := hSw.2.2.2.2.2.2.2.1; have hSi := hSw.2.2.2.2.2.2.2.2; clear hSw; go_simp; (try with_reducible rfl)
              simp only [List.set_cons_zero, List.set_cons_succ]
              refine takeT 19 101 (v := ?_) rfl rfl (by kernel_rfl) (by kernel_rfl) (by kernel_rfl) (fun _ _ _ h => h) hHeld (by rfl) ?_ ?_
              rotate_left
              · intro w hSw; (try dsimp only at hSw); have hSa := hSw.1; have hSb := hSw.2.1; have hSc := hSw.2.2.1; have hSd := hSw.2.2.2.1; have hSe := hSw.2.2.2.2.1; have hSf := hSw.2.2.2.2.2.1; have hSg := hSw.2.2.2.2.2.2.1; have hSh := hSw.2.2.2.2.2.2.2.1; have hSi := hSw.2.2.2.2.2.2.2.2; clear hSw; go_simp; (try with_reducible rfl)
              simp only [List.set_cons_zero, List.set_cons_succ]
              refine takeT 20 102 (v := ?_) rfl rfl (by kernel_rfl) (by kernel_rfl) (by kernel_rfl) (fun _ _ _ h => h) hHeld (by rfl) ?_ ?_
              rotate_left
              · intro w hSw; (try dsimp only at hSw); have hSa := hSw.1; have hSb := hSw.2.1; have hSc := hSw.2.2.1; have hSd := hSw.2.2.2.1; have hSe := hSw.2.2.2.2.1; have hSf := hSw.2.2.2.2.2.1; have hSg := hSw.2.2.2.2.2.2.1; have hSh := hSw.2.2.2.2.2.2.2.1; have hSi := hSw.2.2.2.2.2.2.2.2; clear hSw; go_simp; (try with_reducible rfl)
              simp only [List.set_cons_zero, List.set_cons_succ]
              refine takeT 21 103 (v := ?_) rfl rfl (by kernel_rfl) (by kernel_rfl) (by kernel_rfl) (fun _ _ _ h => h) hHeld (by rfl) ?_ ?_
              rotate_left
              · intro w hSw; (try dsimp only at hSw); have hSa := hSw.1; have hSb := hSw.2.1; have hSc := hSw.2.2.1; have hSd := hSw.2.2.2.1; have hSe := hSw.2.2.2.2.1; have hSf := hSw.2.2.2.2.2.1; have hSg := hSw.2.2.2.2.2.2.1; have hSh := hSw.2.2.2.2.2.2.2.1; have hSi := hSw.2.2.2.2.2.2.2.2; clear hSw; go_simp; (try with_reducible rfl)
              simp only [List.set_cons_zero, List.set_cons_succ]
              refine takeT 22 104 (v := ?_) rfl rfl (by kernel_rfl) (by kernel_rfl) (by kernel_rfl) (fun _ _ _ h => h) hHeld (by rfl) ?_ ?_
              rotate_left
              · intro w hSw; (try dsimp only at hSw); have hSa := hSw.1; have hSb := hSw.2.1; have hSc := hSw.2.2.1; have hSd := hSw.2.2.2.1; have hSe := hSw.2.2.2.2.1; have hSf := hSw.2.2.2.2.2.1; have hSg := hSw.2.2.2.2.2.2.1; have hSh := hSw.2.2.2.2.2.2.2.1; have hSi := hSw.2.2.2.2.2.2.2.2; clear hSw; go_simp; (try with_reducible rfl)
              simp only [List.set_cons_zero, List.set_cons_succ]
              refine takeT 23 105 (v := ?_) rfl rfl (by kernel_rfl) (by kernel_rfl) (by kernel_rfl) (fun _ _ _ h => h) hHeld (by rfl) ?_ ?_
              rotate_left
              · intro w hSw; (try dsimp only at hSw); have hSa := hSw.1; have hSb := hSw.2.1; have hSc := hSw.2.2.1; have hSd := hSw.2.2.2.1; have hSe := hSw.2.2.2.2.1; have hSf := hSw.2.2.2.2.2.1; have hSg := hSw.2.2.2.2.2.2.1; have hSh := hSw.2.2.2.2.2.2.2.1; have hSi := hSw.2.2.2.2.2.2.2.2; clear hSw; go_simp; (try with_reducible rfl)
              simp only [List.set_cons_zero, List.set_cons_succ]
              refine takeT 24 106 (v := ?_) rfl rfl (by kernel_rfl) (by kernel_rfl) (by kernel_rfl) (fun _ _ _ h => h) hHeld (by rfl) ?_ ?_
              rotate_left
              · intro w hSw; (try dsimp only at hSw); have hSa := hSw.1; have hSb := hSw.2.1; have hSc := hSw.2.2.1; have hSd := hSw.2.2.2.1; have hSe := hSw.2.2.2.2.1; have hSf := hSw.2.2.2.2.2.1; have hSg := hSw.2.2.2.2.2.2.1; have hSh := hSw.2.2.2.2.2.2.2.1; have hSi := hSw.2.2.2.2.2.2.2.2; clear hSw; go_simp; (try with_reducible rfl)
              simp only [List.set_cons_zero, List.set_cons_succ]
              refine takeT 25 107 (v := ?_) rfl rfl (by kernel_rfl) (by kernel_rfl) (by kernel_rfl) (fun _ _ _ h => h) hHeld (by rfl) ?_ ?_
              rotate_left
              · intro w hSw; (try dsimp only at hSw); have hSa := hSw.1; have hSb := hSw.2.1; have hSc := hSw.2.2.1; have hSd := hSw.2.2.2.1; have hSe := hSw.2.2.2.2.1; have hSf := hSw.2.2.2.2.2.1; have hSg := hSw.2.2.2.2.2.2.1; have hSh := hSw.2.2.2.2.2.2.2.1; have hSi := hSw.2.2.2.2.2.2.2.2; clear hSw; go_simp; (try with_reducible rfl)
              simp only [List.set_cons_zero, List.set_cons_succ]
              refine takeT 26 108 (v := ?_) rfl rfl (by kernel_rfl) (by kernel_rfl) (by kernel_rfl) (fun _ _ _ h => h) hHeld (by rfl) ?_ ?_
              rotate_left
              · intro w hSw; (try dsimp only at hSw); have hSa := hSw.1; have hSb := hSw.2.1; have hSc := hSw.2.2.1; have hSd := hSw.2.2.2.1; have hSe := hSw.2.2.2.2.1; have hSf := hSw.2.2.2.2.2.1; have hSg := hSw.2.2.2.2.2.2.1; have hSh := hSw.2.2.2.2.2.2.2.1; have hSi := hSw.2.2.2.2.2.2.2.2; clear hSw; go_simp; (try with_reducible rfl)
              simp only [List.set_cons_zero, List.set_cons_succ]
              refine takeT 27 109 (v := ?_) rfl rfl (by kernel_rfl) (by kernel_rfl) (by kernel_rfl) (fun _ _ _ h => h) hHeld (by rfl) ?_ ?_
              rotate_left
              · intro w hSw; (try dsimp only at hSw); have hSa := hSw.1; have hSb := hSw.2.1; have hSc := hSw.2.2.1; have hSd := hSw.2.2.2.1; have hSe := hSw.2.2.2.2.1; have hSf := hSw.2.2.2.2.2.1; have hSg := hSw.2.2.2.2.2.2.1; have hSh := hSw.2.2.2.2.2.2.2.1; have hSi := hSw.2.2.2.2.2.2.2.2; clear hSw; go_simp; (try with_reducible rfl)
              simp only [List.set_cons_zero, List.set_cons_succ]
              refine takeT 28 110 (v := ?_) rfl rfl (by kernel_rfl) (by kernel_rfl) (by kernel_rfl) (fun _ _ _ h => h) hHeld (by rfl) ?_ ?_
              rotate_left
              · intro w hSw; (try dsimp only at hSw); have hSa := hSw.1; have hSb := hSw.2.1; have hSc := hSw.2.2.1; have hSd := hSw.2.2.2.1; have hSe := hSw.2.2.2.2.1; have hSf := hSw.2.2.2.2.2.1; have hSg := hSw.2.2.2.2.2.2.1; have hSh := hSw.2.2.2.2.2.2.2.1; have hSi := hSw.2.2.2.2.2.2.2.2; clear hSw; go_simp; (try with_reducible rfl)
              simp only [List.set_cons_zero, List.set_cons_succ]
              refine takeT 30 112 (v := ?_) rfl rfl (by kernel_rfl) (by kernel_rfl) (by kernel_rfl) (fun _ _ _ h => h) hHeld (by rfl) ?_ ?_
              rotate_left
              · intro w hSw; (try dsimp only at hSw); have hSa := hSw.1; have hSb := hSw.2.1; have hSc := hSw.2.2.1; have hSd := hSw.2.2.2.1; have hSe := hSw.2.2.2.2.1; have hSf := hSw.2.2.2.2.2.1; have hSg := hSw.2.2.2.2.2.2.1; have hSh := hSw.2.2.2.2.2.2.2.1; have hSi := hSw.2.2.2.2.2.2.2.2; clear hSw; go_simp; (try with_reducible rfl)
              simp only [List.set_cons_zero, List.set_cons_succ]
              refine takeT 31 113 (v := ?_) rfl rfl (by kernel_rfl) (by kernel_rfl) (by kernel_rfl) (fun _ _ _ h => h) hHeld (by rfl) ?_ ?_
              rotate_left
              · intro w hSw; (try dsimp only at hSw); have hSa := hSw.1; have hSb := hSw.2.1; have hSc := hSw.2.2.1; have hSd := hSw.2.2.2.1; have hSe := hSw.2.2.2.2.1; have hSf := hSw.2.2.2.2.2.1; have hSg := hSw.2.2.2.2.2.2.1; have hSh := hSw.2.2.2.2.2.2.2.1; have hSi := hSw.2.2.2.2.2.2.2.2; clear hSw; go_simp; (try with_reducible rfl)
              simp only [List.set_cons_zero, List.set_cons_succ]
              refine takeC 29 rfl (by kernel_rfl) (by rfl) (fun K hK => ?_)
              go_simp
              refine (sameBytes_any _ (hv13.below (h13d.via hd15)) (huv.below hd15)).mono ?_; rintro e w16 ⟨⟨z16, rfl, hz16⟩, hb16⟩; obtain rfl : z16 = sameB t u := by {rw [hz16.out, enc_same HR.out HRU.out]}; have hd16 := hd15.via hb16.below; (try go_wp2_with fail)
              refine hK.out _ _ ?_ (fun hHeld => ?_)
              · (try dsimp only); exact ⟨cell_later ((hb14.via hb15).via hb16.below) x0, cell_later ((hb14.via hb15).via hb16.below) x1, cell_later ((hb14.via hb15).via hb16.below) x2, cell_later ((hb14.via hb15).via hb16.below) n0, cell_later ((hb14.via hb15).via hb16.below) n1, cell_later ((hb14.via hb15).via hb16.below) n2, cell_later ((hb14.via hb15).via hb16.below) m0, cell_later ((hb14.via hb15).via hb16.below) m1, cell_later ((hb14.via hb15).via hb16.below) m2⟩
              clear hK K
              refine takeC 32 rfl (by kernel_rfl) (by rfl) (fun K hK => ?_)
              go_simp
              refine (tequal_any _ (hn.below (h0d.via hd16)) (hu.below (h0d.via hd16)) hsz hsz').mono ?_; rintro e w17 ⟨⟨z17, rfl, hz17⟩, hb17⟩; obtain rfl : z17 = sameB t u := by {rw [hz17.out]; unfold eqB; rw [HR.out, HRU.out]; rfl}; have hd17 := hd16.via hb17; (try go_wp2_with fail)
              refine hK.out _ _ ?_ (fun hHeld => ?_)
              · (try dsimp only); exact ⟨cell_later (((hb14.via hb15).via hb16.below).via hb17) x0, cell_later (((hb14.via hb15).via hb16.below).via hb17) x1, cell_later (((hb14.via hb15).via hb16.below).via hb17) x2, cell_later (((hb14.via hb15).via hb16.below).via hb17) n0, cell_later (((hb14.via hb15).via hb16.below).via hb17) n1, cell_later (((hb14.via hb15).via hb16.below).via hb17) n2, cell_later (((hb14.via hb15).via hb16.below).via hb17) m0, cell_later (((hb14.via hb15).via hb16.below).via hb17) m1, cell_later (((hb14.via hb15).via hb16.below).via hb17) m2⟩
              clear hK K
              refine takeT 33 115 (v := ?_) rfl rfl (by kernel_rfl) (by kernel_rfl) (by kernel_rfl) (fun _ _ _ h => h) hHeld (by rfl) ?_ ?_
              rotate_left
              · intro w hSw; (try dsimp only at hSw); have hSa := hSw.1; have hSb := hSw.2.1; have hSc := hSw.2.2.1; have hSd := hSw.2.2.2.1; have hSe := hSw.2.2.2.2.1; have hSf := hSw.2.2.2.2.2.1; have hSg := hSw.2.2.2.2.2.2.1; have hSh := hSw.2.2.2.2.2.2.2.1; have hSi := hSw.2.2.2.2.2.2.2.2; clear hSw; go_simp; (try with_reducible rfl)
              simp only [List.set_cons_zero, List.set_cons_succ]
              refine takeT 34 116 (v := ?_) rfl rfl (by kernel_rfl) (by kernel_rfl) (by kernel_rfl) (fun _ _ _ h => h) hHeld (by rfl) ?_ ?_
              rotate_left
              · intro w hSw; (try dsimp only at hSw); have hSa := hSw.1; have hSb := hSw.2.1; have hSc := hSw.2.2.1; have hSd := hSw.2.2.2.1; have hSe := hSw.2.2.2.2.1; have hSf := hSw.2.2.2.2.2.1; have hSg := hSw.2.2.2.2.2.2.1; have hSh := hSw.2.2.2.2.2.2.2.1; have hSi := hSw.2.2.2.2.2.2.2.2; clear hSw; go_simp; (try with_reducible rfl)
              simp only [List.set_cons_zero, List.set_cons_succ]
              refine takeT 35 117 (v := ?_) rfl rfl (by kernel_rfl) (by kernel_rfl) (by kernel_rfl) (fun _ _ _ h => h) hHeld (by rfl) ?_ ?_
              rotate_left
              · intro w hSw; (try dsimp only at hSw); have hSa := hSw.1; have hSb := hSw.2.1; have hSc := hSw.2.2.1; have hSd := hSw.2.2.2.1; have hSe := hSw.2.2.2.2.1; have hSf := hSw.2.2.2.2.2.1; have hSg := hSw.2.2.2.2.2.2.1; have hSh := hSw.2.2.2.2.2.2.2.1; have hSi := hSw.2.2.2.2.2.2.2.2; clear hSw; go_simp; (try with_reducible rfl)
              simp only [List.set_cons_zero, List.set_cons_succ]
              refine wpAnyH_done (by kernel_rfl) ?_ _
              go_wp2_with fail
              go_meet
              exact hcd.via hd17
            · have hue2 : (eu == 0) = false := by simp [hue]
              go_wp2_with fail
              refine wp_region_held_drew (S := fun w' => w'.cell? ⟨w6.heap.size, 0, none⟩ = some (.int .i64 t.kind) ∧ w'.cell? ⟨w6.heap.size, 1, none⟩ = some (.slice A6 t.bytes.length d6) ∧ w'.cell? ⟨w6.heap.size, 2, none⟩ = some (.slice B6 t.kids.length e6) ∧ w'.cell? ⟨w.heap.size, 0, none⟩ = some (.int .i64 t.kind) ∧ w'.cell? ⟨w.heap.size, 1, none⟩ = some (.slice A t.bytes.length c) ∧ w'.cell? ⟨w.heap.size, 2, none⟩ = some (.slice B t.kids.length d) ∧ w'.cell? ⟨w.heap.size + 1, 0, none⟩ = some (.int .i64 u.kind) ∧ w'.cell? ⟨w.heap.size + 1, 1, none⟩ = some (.slice A' u.bytes.length c') ∧ w'.cell? ⟨w.heap.size + 1, 2, none⟩ = some (.slice B' u.kids.length d')) (by kernel_rfl) ?_ (fun hHeld => ?_)
              · (try dsimp only); exact ⟨x0, x1, x2, n0, n1, n2, m0, m1, m2⟩
              refine takeT 0 82 (v := ?_) rfl rfl (by kernel_rfl) (by kernel_rfl) (by kernel_rfl) (fun _ _ _ h => h) hHeld (by rfl) ?_ ?_
              rotate_left
              · intro w hSw; (try dsimp only at hSw); have hSa := hSw.1; have hSb := hSw.2.1; have hSc := hSw.2.2.1; have hSd := hSw.2.2.2.1; have hSe := hSw.2.2.2.2.1; have hSf := hSw.2.2.2.2.2.1; have hSg := hSw.2.2.2.2.2.2.1; have hSh := hSw.2.2.2.2.2.2.2.1; have hSi := hSw.2.2.2.2.2.2.2.2; clear hSw; go_simp; (try with_reducible rfl)
              simp only [List.set_cons_zero, List.set_cons_succ]
              refine takeT 1 83 (v := ?_) rfl rfl (by kernel_rfl) (by kernel_rfl) (by kernel_rfl) (fun _ _ _ h => h) hHeld (by rfl) ?_ ?_
              rotate_left
              · intro w hSw; (try dsimp only at hSw); have hSa := hSw.1; have hSb := hSw.2.1; have hSc := hSw.2.2.1; have hSd := hSw.2.2.2.1; have hSe := hSw.2.2.2.2.1; have hSf := hSw.2.2.2.2.2.1; have hSg := hSw.2.2.2.2.2.2.1; have hSh := hSw.2.2.2.2.2.2.2.1; have hSi := hSw.2.2.2.2.2.2.2.2; clear hSw; go_simp; (try with_reducible rfl)
              simp only [List.set_cons_zero, List.set_cons_succ]
              refine takeT 2 84 (v := ?_) rfl rfl (by kernel_rfl) (by kernel_rfl) (by kernel_rfl) (fun _ _ _ h => h) hHeld (by rfl) ?_ ?_
              rotate_left
              · intro w hSw; (try dsimp only at hSw); have hSa := hSw.1; have hSb := hSw.2.1; have hSc := hSw.2.2.1; have hSd := hSw.2.2.2.1; have hSe := hSw.2.2.2.2.1; have hSf := hSw.2.2.2.2.2.1; have hSg := hSw.2.2.2.2.2.2.1; have hSh := hSw.2.2.2.2.2.2.2.1; have hSi := hSw.2.2.2.2.2.2.2.2; clear hSw; go_simp; (try with_reducible rfl)
              simp only [List.set_cons_zero, List.set_cons_succ]
              refine takeT 3 85 (v := ?_) rfl rfl (by kernel_rfl) (by kernel_rfl) (by kernel_rfl) (fun _ _ _ h => h) hHeld (by rfl) ?_ ?_
              rotate_left
              · intro w hSw; (try dsimp only at hSw); have hSa := hSw.1; have hSb := hSw.2.1; have hSc := hSw.2.2.1; have hSd := hSw.2.2.2.1; have hSe := hSw.2.2.2.2.1; have hSf := hSw.2.2.2.2.2.1; have hSg := hSw.2.2.2.2.2.2.1; have hSh := hSw.2.2.2.2.2.2.2.1; have hSi := hSw.2.2.2.2.2.2.2.2; clear hSw; go_simp; (try with_reducible rfl)
              simp only [List.set_cons_zero, List.set_cons_succ]
              refine takeT 4 86 (v := ?_) rfl rfl (by kernel_rfl) (by kernel_rfl) (by kernel_rfl) (fun _ _ _ h => h) hHeld (by rfl) ?_ ?_
              rotate_left
              · intro w hSw; (try dsimp only at hSw); have hSa := hSw.1; have hSb := hSw.2.1; have hSc := hSw.2.2.1; have hSd := hSw.2.2.2.1; have hSe := hSw.2.2.2.2.1; have hSf := hSw.2.2.2.2.2.1; have hSg := hSw.2.2.2.2.2.2.1; have hSh := hSw.2.2.2.2.2.2.2.1; have hSi := hSw.2.2.2.2.2.2.2.2; clear hSw; go_simp; (try with_reducible rfl)
              simp only [List.set_cons_zero, List.set_cons_succ]
              refine takeC 5 rfl (by kernel_rfl) (by rfl) (fun K hK => ?_)
              go_simp
              refine (tequal_any _ (hn6.below (h6d.via (below_dr _))) (hn.below (h0d.via (below_dr _))) hsz hsz).mono ?_; rintro e w14 ⟨⟨z14, rfl, hz14⟩, hb14⟩; obtain rfl : z14 = true := by {rw [hz14.out]; unfold eqB; rw [HR.out, (sameB_iff _ _).2 rfl]; rfl}; have hd14 := (below_dr _).via hb14; (try go_wp2_with fail)
              refine hK.out _ _ ?_ (fun hHeld => ?_)
              · (try dsimp only); exact ⟨cell_later hb14 x0, cell_later hb14 x1, cell_later hb14 x2, cell_later hb14 n0, cell_later hb14 n1, cell_later hb14 n2, cell_later hb14 m0, cell_later hb14 m1, cell_later hb14 m2⟩
              clear hK K
              refine takeT 6 88 (v := ?_) rfl rfl (by kernel_rfl) (by kernel_rfl) (by kernel_rfl) (fun _ _ _ h => h) hHeld (by rfl) ?_ ?_
              rotate_left
              · intro w hSw; (try dsimp only at hSw); have hSa := hSw.1; have hSb := hSw.2.1; have hSc := hSw.2.2.1; have hSd := hSw.2.2.2.1; have hSe := hSw.2.2.2.2.1; have hSf := hSw.2.2.2.2.2.1; have hSg := hSw.2.2.2.2.2.2.1; have hSh := hSw.2.2.2.2.2.2.2.1; have hSi := hSw.2.2.2.2.2.2.2.2; clear hSw; go_simp; (try with_reducible rfl)
              simp only [List.set_cons_zero, List.set_cons_succ]
              refine takeT 7 89 (v := ?_) rfl rfl (by kernel_rfl) (by kernel_rfl) (by kernel_rfl) (fun _ _ _ h => h) hHeld (by rfl) ?_ ?_
              rotate_left
              · intro w hSw; (try dsimp only at hSw); have hSa := hSw.1; have hSb := hSw.2.1; have hSc := hSw.2.2.1; have hSd := hSw.2.2.2.1; have hSe := hSw.2.2.2.2.1; have hSf := hSw.2.2.2.2.2.1; have hSg := hSw.2.2.2.2.2.2.1; have hSh := hSw.2.2.2.2.2.2.2.1; have hSi := hSw.2.2.2.2.2.2.2.2; clear hSw; go_simp; (try with_reducible rfl)
              simp only [List.set_cons_zero, List.set_cons_succ]
              refine takeT 8 90 (v := ?_) rfl rfl (by kernel_rfl) (by kernel_rfl) (by kernel_rfl) (fun _ _ _ h => h) hHeld (by rfl) ?_ ?_
              rotate_left
              · intro w hSw; (try dsimp only at hSw); have hSa := hSw.1; have hSb := hSw.2.1; have hSc := hSw.2.2.1; have hSd := hSw.2.2.2.1; have hSe := hSw.2.2.2.2.1; have hSf := hSw.2.2.2.2.2.1; have hSg := hSw.2.2.2.2.2.2.1; have hSh := hSw.2.2.2.2.2.2.2.1; have hSi := hSw.2.2.2.2.2.2.2.2; clear hSw; go_simp; (try with_reducible rfl)
              simp only [List.set_cons_zero, List.set_cons_succ]
              refine takeT 9 91 (v := ?_) rfl rfl (by kernel_rfl) (by kernel_rfl) (by kernel_rfl) (fun _ _ _ h => h) hHeld (by rfl) ?_ ?_
              rotate_left
              · intro w hSw; (try dsimp only at hSw); have hSa := hSw.1; have hSb := hSw.2.1; have hSc := hSw.2.2.1; have hSd := hSw.2.2.2.1; have hSe := hSw.2.2.2.2.1; have hSf := hSw.2.2.2.2.2.1; have hSg := hSw.2.2.2.2.2.2.1; have hSh := hSw.2.2.2.2.2.2.2.1; have hSi := hSw.2.2.2.2.2.2.2.2; clear hSw; go_simp; (try with_reducible rfl)
              simp only [List.set_cons_zero, List.set_cons_succ]
              refine takeT 10 92 (v := ?_) rfl rfl (by kernel_rfl) (by kernel_rfl) (by kernel_rfl) (fun _ _ _ h => h) hHeld (by rfl) ?_ ?_
              rotate_left
              · intro w hSw; (try dsimp only at hSw); have hSa := hSw.1; have hSb := hSw.2.1; have hSc := hSw.2.2.1; have hSd := hSw.2.2.2.1; have hSe := hSw.2.2.2.2.1; have hSf := hSw.2.2.2.2.2.1; have hSg := hSw.2.2.2.2.2.2.1; have hSh := hSw.2.2.2.2.2.2.2.1; have hSi := hSw.2.2.2.2.2.2.2.2; clear hSw; go_simp; (try with_reducible rfl)
              simp only [List.set_cons_zero, List.set_cons_succ]
              refine takeT 11 93 (v := ?_) rfl rfl (by kernel_rfl) (by kernel_rfl) (by kernel_rfl) (fun _ _ _ h => h) hHeld (by rfl) ?_ ?_
              rotate_left
              · intro w hSw; (try dsimp only at hSw); have hSa := hSw.1; have hSb := hSw.2.1; have hSc := hSw.2.2.1; have hSd := hSw.2.2.2.1; have hSe := hSw.2.2.2.2.1; have hSf := hSw.2.2.2.2.2.1; have hSg := hSw.2.2.2.2.2.2.1; have hSh := hSw.2.2.2.2.2.2.2.1; have hSi := hSw.2.2.2.2.2.2.2.2; clear hSw; go_simp; (try with_reducible rfl)
              simp only [List.set_cons_zero, List.set_cons_succ]
              refine takeC 12 rfl (by kernel_rfl) (by rfl) (fun K hK => ?_)
              go_simp
              refine (psize_any _ (hn.below (h0d.via hd14)) hsz).mono ?_; rw [HST.out]; rintro e w15 ⟨rfl, hb15⟩; have hd15 := hd14.via hb15; (try go_wp2_with fail)
              refine hK.out _ _ ?_ (fun hHeld => ?_)
              · (try dsimp only); exact ⟨cell_later (hb14.via hb15) x0, cell_later (hb14.via hb15) x1, cell_later (hb14.via hb15) x2, cell_later (hb14.via hb15) n0, cell_later (hb14.via hb15) n1, cell_later (hb14.via hb15) n2, cell_later (hb14.via hb15) m0, cell_later (hb14.via hb15) m1, cell_later (hb14.via hb15) m2⟩
              clear hK K
              refine takeT 13 95 (v := ?_) rfl rfl (by kernel_rfl) (by kernel_rfl) (by kernel_rfl) (fun _ _ _ h => h) hHeld (by rfl) ?_ ?_
              rotate_left
              · intro w hSw; (try dsimp only at hSw); have hSa := hSw.1; have hSb := hSw.2.1; have hSc := hSw.2.2.1; have hSd := hSw.2.2.2.1; have hSe := hSw.2.2.2.2.1; have hSf := hSw.2.2.2.2.2.1; have hSg := hSw.2.2.2.2.2.2.1; have hSh := hSw.2.2.2.2.2.2.2.1; have hSi := hSw.2.2.2.2.2.2.2.2; clear hSw; go_simp; (try with_reducible rfl)
              simp only [List.set_cons_zero, List.set_cons_succ]
              refine takeT 14 96 (v := ?_) rfl rfl (by kernel_rfl) (by kernel_rfl) (by kernel_rfl) (fun _ _ _ h => h) hHeld (by rfl) ?_ ?_
              rotate_left
              · intro w hSw; (try dsimp only at hSw); have hSa := hSw.1; have hSb := hSw.2.1; have hSc := hSw.2.2.1; have hSd := hSw.2.2.2.1; have hSe := hSw.2.2.2.2.1; have hSf := hSw.2.2.2.2.2.1; have hSg := hSw.2.2.2.2.2.2.1; have hSh := hSw.2.2.2.2.2.2.2.1; have hSi := hSw.2.2.2.2.2.2.2.2; clear hSw; go_simp; (try with_reducible rfl)
              simp only [List.set_cons_zero, List.set_cons_succ]
              refine takeT 15 97 (v := ?_) rfl rfl (by kernel_rfl) (by kernel_rfl) (by kernel_rfl) (fun _ _ _ h => h) hHeld (by rfl) ?_ ?_
              rotate_left
              · intro w hSw; (try dsimp only at hSw); have hSa := hSw.1; have hSb := hSw.2.1; have hSc := hSw.2.2.1; have hSd := hSw.2.2.2.1; have hSe := hSw.2.2.2.2.1; have hSf := hSw.2.2.2.2.2.1; have hSg := hSw.2.2.2.2.2.2.1; have hSh := hSw.2.2.2.2.2.2.2.1; have hSi := hSw.2.2.2.2.2.2.2.2; clear hSw; go_simp; (try with_reducible rfl)
              simp only [List.set_cons_zero, List.set_cons_succ]
              refine takeT 16 98 (v := ?_) rfl rfl (by kernel_rfl) (by kernel_rfl) (by kernel_rfl) (fun _ _ _ h => h) hHeld (by rfl) ?_ ?_
              rotate_left
              · intro w hSw; (try dsimp only at hSw); have hSa := hSw.1; have hSb := hSw.2.1; have hSc := hSw.2.2.1; have hSd := hSw.2.2.2.1; have hSe := hSw.2.2.2.2.1; have hSf := hSw.2.2.2.2.2.1; have hSg := hSw.2.2.2.2.2.2.1; have hSh := hSw.2.2.2.2.2.2.2.1; have hSi := hSw.2.2.2.2.2.2.2.2; clear hSw; go_simp; (try with_reducible rfl)
              simp only [List.set_cons_zero, List.set_cons_succ]
              refine takeT 17 99 (v := ?_) rfl rfl (by kernel_rfl) (by kernel_rfl) (by kernel_rfl) (fun _ _ _ h => h) hHeld (by rfl) ?_ ?_
              rotate_left
              · intro w hSw; (try dsimp only at hSw); have hSa := hSw.1; have hSb := hSw.2.1; have hSc := hSw.2.2.1; have hSd := hSw.2.2.2.1; have hSe := hSw.2.2.2.2.1; have hSf := hSw.2.2.2.2.2.1; have hSg := hSw.2.2.2.2.2.2.1; have hSh := hSw.2.2.2.2.2.2.2.1; have hSi := hSw.2.2.2.2.2.2.2.2; clear hSw; go_simp; (try with_reducible rfl)
              simp only [List.set_cons_zero, List.set_cons_succ]
              refine takeT 18 100 (v := ?_) rfl rfl (by kernel_rfl) (by kernel_rfl) (by kernel_rfl) (fun _ _ _ h => h) hHeld (by rfl) ?_ ?_
              rotate_left
              · intro w hSw; (try dsimp only at hSw); have hSa := hSw.1; have hSb := hSw.2.1; have hSc := hSw.2.2.1; have hSd := hSw.2.2.2.1; have hSe := hSw.2.2.2.2.1; have hSf := hSw.2.2.2.2.2.1; have hSg := hSw.2.2.2.2.2.2.1; have hSh := hSw.2.2.2.2.2.2.2.1; have hSi := hSw.2.2.2.2.2.2.2.2; clear hSw; go_simp; (try with_reducible rfl)
              simp only [List.set_cons_zero, List.set_cons_succ]
              refine takeT 19 101 (v := ?_) rfl rfl (by kernel_rfl) (by kernel_rfl) (by kernel_rfl) (fun _ _ _ h => h) hHeld (by rfl) ?_ ?_
              rotate_left
              · intro w hSw; (try dsimp only at hSw); have hSa := hSw.1; have hSb := hSw.2.1; have hSc := hSw.2.2.1; have hSd := hSw.2.2.2.1; have hSe := hSw.2.2.2.2.1; have hSf := hSw.2.2.2.2.2.1; have hSg := hSw.2.2.2.2.2.2.1; have hSh := hSw.2.2.2.2.2.2.2.1; have hSi := hSw.2.2.2.2.2.2.2.2; clear hSw; go_simp; (try with_reducible rfl)
              simp only [List.set_cons_zero, List.set_cons_succ]
              refine takeT 20 102 (v := ?_) rfl rfl (by kernel_rfl) (by kernel_rfl) (by kernel_rfl) (fun _ _ _ h => h) hHeld (by rfl) ?_ ?_
              rotate_left
              · intro w hSw; (try dsimp only at hSw); have hSa := hSw.1; have hSb := hSw.2.1; have hSc := hSw.2.2.1; have hSd := hSw.2.2.2.1; have hSe := hSw.2.2.2.2.1; have hSf := hSw.2.2.2.2.2.1; have hSg := hSw.2.2.2.2.2.2.1; have hSh := hSw.2.2.2.2.2.2.2.1; have hSi := hSw.2.2.2.2.2.2.2.2; clear hSw; go_simp; (try with_reducible rfl)
              simp only [List.set_cons_zero, List.set_cons_succ]
              refine takeT 21 103 (v := ?_) rfl rfl (by kernel_rfl) (by kernel_rfl) (by kernel_rfl) (fun _ _ _ h => h) hHeld (by rfl) ?_ ?_
              rotate_left
              · intro w hSw; (try dsimp only at hSw); have hSa := hSw.1; have hSb := hSw.2.1; have hSc := hSw.2.2.1; have hSd := hSw.2.2.2.1; have hSe := hSw.2.2.2.2.1; have hSf := hSw.2.2.2.2.2.1; have hSg := hSw.2.2.2.2.2.2.1; have hSh := hSw.2.2.2.2.2.2.2.1; have hSi := hSw.2.2.2.2.2.2.2.2; clear hSw; go_simp; (try with_reducible rfl)
              simp only [List.set_cons_zero, List.set_cons_succ]
              refine takeT 22 104 (v := ?_) rfl rfl (by kernel_rfl) (by kernel_rfl) (by kernel_rfl) (fun _ _ _ h => h) hHeld (by rfl) ?_ ?_
              rotate_left
              · intro w hSw; (try dsimp only at hSw); have hSa := hSw.1; have hSb := hSw.2.1; have hSc := hSw.2.2.1; have hSd := hSw.2.2.2.1; have hSe := hSw.2.2.2.2.1; have hSf := hSw.2.2.2.2.2.1; have hSg := hSw.2.2.2.2.2.2.1; have hSh := hSw.2.2.2.2.2.2.2.1; have hSi := hSw.2.2.2.2.2.2.2.2; clear hSw; go_simp; (try with_reducible rfl)
              simp only [List.set_cons_zero, List.set_cons_succ]
              refine takeT 23 105 (v := ?_) rfl rfl (by kernel_rfl) (by kernel_rfl) (by kernel_rfl) (fun _ _ _ h => h) hHeld (by rfl) ?_ ?_
              rotate_left
              · intro w hSw; (try dsimp only at hSw); have hSa := hSw.1; have hSb := hSw.2.1; have hSc := hSw.2.2.1; have hSd := hSw.2.2.2.1; have hSe := hSw.2.2.2.2.1; have hSf := hSw.2.2.2.2.2.1; have hSg := hSw.2.2.2.2.2.2.1; have hSh := hSw.2.2.2.2.2.2.2.1; have hSi := hSw.2.2.2.2.2.2.2.2; clear hSw; go_simp; (try with_reducible rfl)
              simp only [List.set_cons_zero, List.set_cons_succ]
              refine takeT 24 106 (v := ?_) rfl rfl (by kernel_rfl) (by kernel_rfl) (by kernel_rfl) (fun _ _ _ h => h) hHeld (by rfl) ?_ ?_
              rotate_left
              · intro w hSw; (try dsimp only at hSw); have hSa := hSw.1; have hSb := hSw.2.1; have hSc := hSw.2.2.1; have hSd := hSw.2.2.2.1; have hSe := hSw.2.2.2.2.1; have hSf := hSw.2.2.2.2.2.1; have hSg := hSw.2.2.2.2.2.2.1; have hSh := hSw.2.2.2.2.2.2.2.1; have hSi := hSw.2.2.2.2.2.2.2.2; clear hSw; go_simp; (try with_reducible rfl)
              simp only [List.set_cons_zero, List.set_cons_succ]
              refine takeT 25 107 (v := ?_) rfl rfl (by kernel_rfl) (by kernel_rfl) (by kernel_rfl) (fun _ _ _ h => h) hHeld (by rfl) ?_ ?_
              rotate_left
              · intro w hSw; (try dsimp only at hSw); have hSa := hSw.1; have hSb := hSw.2.1; have hSc := hSw.2.2.1; have hSd := hSw.2.2.2.1; have hSe := hSw.2.2.2.2.1; have hSf := hSw.2.2.2.2.2.1; have hSg := hSw.2.2.2.2.2.2.1; have hSh := hSw.2.2.2.2.2.2.2.1; have hSi := hSw.2.2.2.2.2.2.2.2; clear hSw; go_simp; (try with_reducible rfl)
              simp only [List.set_cons_zero, List.set_cons_succ]
              refine takeT 26 108 (v := ?_) rfl rfl (by kernel_rfl) (by kernel_rfl) (by kernel_rfl) (fun _ _ _ h => h) hHeld (by rfl) ?_ ?_
              rotate_left
              · intro w hSw; (try dsimp only at hSw); have hSa := hSw.1; have hSb := hSw.2.1; have hSc := hSw.2.2.1; have hSd := hSw.2.2.2.1; have hSe := hSw.2.2.2.2.1; have hSf := hSw.2.2.2.2.2.1; have hSg := hSw.2.2.2.2.2.2.1; have hSh := hSw.2.2.2.2.2.2.2.1; have hSi := hSw.2.2.2.2.2.2.2.2; clear hSw; go_simp; (try with_reducible rfl)
              simp only [List.set_cons_zero, List.set_cons_succ]
              refine takeS 27 109 rfl rfl (by kernel_rfl) (by kernel_rfl) (by kernel_rfl) (fun _ _ _ h => h) hHeld (by rfl) ?_
              simp only [List.set_cons_zero, List.set_cons_succ]
              refine takeS 28 110 rfl rfl (by kernel_rfl) (by kernel_rfl) (by kernel_rfl) (fun _ _ _ h => h) hHeld (by rfl) ?_
              simp only [List.set_cons_zero, List.set_cons_succ]
              refine takeS 29 111 rfl rfl (by kernel_rfl) (by kernel_rfl) (by kernel_rfl) (fun _ _ _ h => h) hHeld (by rfl) ?_
              simp only [List.set_cons_zero, List.set_cons_succ]
              refine takeS 30 112 rfl rfl (by kernel_rfl) (by kernel_rfl) (by kernel_rfl) (fun _ _ _ h => h) hHeld (by rfl) ?_
              simp only [List.set_cons_zero, List.set_cons_succ]
              refine takeS 31 113 rfl rfl (by kernel_rfl) (by kernel_rfl) (by kernel_rfl) (fun _ _ _ h => h) hHeld (by rfl) ?_
              simp only [List.set_cons_zero, List.set_cons_succ]
              refine takeS 32 114 rfl rfl (by kernel_rfl) (by kernel_rfl) (by kernel_rfl) (fun _ _ _ h => h) hHeld (by rfl) ?_
              simp only [List.set_cons_zero, List.set_cons_succ]
              refine takeS 33 115 rfl rfl (by kernel_rfl) (by kernel_rfl) (by kernel_rfl) (fun _ _ _ h => h) hHeld (by rfl) ?_
              simp only [List.set_cons_zero, List.set_cons_succ]
              refine takeT 34 116 (v := ?_) rfl rfl (by kernel_rfl) (by kernel_rfl) (by kernel_rfl) (fun _ _ _ h => h) hHeld (by rfl) ?_ ?_
              rotate_left
              · intro w hSw; (try dsimp only at hSw); have hSa := hSw.1; have hSb := hSw.2.1; have hSc := hSw.2.2.1; have hSd := hSw.2.2.2.1; have hSe := hSw.2.2.2.2.1; have hSf := hSw.2.2.2.2.2.1; have hSg := hSw.2.2.2.2.2.2.1; have hSh := hSw.2.2.2.2.2.2.2.1; have hSi := hSw.2.2.2.2.2.2.2.2; clear hSw; go_simp; (try with_reducible rfl)
              simp only [List.set_cons_zero, List.set_cons_succ]
              refine takeT 35 117 (v := ?_) rfl rfl (by kernel_rfl) (by kernel_rfl) (by kernel_rfl) (fun _ _ _ h => h) hHeld (by rfl) ?_ ?_
              rotate_left
              · intro w hSw; (try dsimp only at hSw); have hSa := hSw.1; have hSb := hSw.2.1; have hSc := hSw.2.2.1; have hSd := hSw.2.2.2.1; have hSe := hSw.2.2.2.2.1; have hSf := hSw.2.2.2.2.2.1; have hSg := hSw.2.2.2.2.2.2.1; have hSh := hSw.2.2.2.2.2.2.2.1; have hSi := hSw.2.2.2.2.2.2.2.2; clear hSw; go_simp; (try with_reducible rfl)
              simp only [List.set_cons_zero, List.set_cons_succ]
              refine wpAnyH_done (by kernel_rfl) ?_ _
              go_wp2_with fail
              go_meet
              exact hcd.via hd15
          · simp only [Prod.mk.injEq] at hE
            obtain ⟨rfl, rfl⟩ := hE
            go_wp2_with fail
            go_meet
            exact Below.refl _ _
          · simp only [Prod.mk.injEq] at hE
            obtain ⟨rfl, rfl⟩ := hE
            go_wp2_with fail
            go_meet
            exact Below.refl _ _
        case rest =>
          have h0 := (h05.via hb6).via hcut
          go_wp2_with fail
          refine (open_any wc (hv.below h0)).mono ?_
          have HOC := Lib.hid (pOpen_cases l)
          have HOA : Hid ((pOpen l).2 = 0 → rightB (pOpen l).1 = true ∧ enc (pOpen l).1 = l ∧ l.length ≤ 4096) := pOpen_all
          have hszo := pOpen_sz l
          generalize pOpen l = po at *
          obtain ⟨t9, e9⟩ := po
          dsimp only at *
          rintro e w20 ⟨hb20, c0, c1, c2, rfl, hn20⟩
          obtain ⟨A20, d20, B20, e20, hcs⟩ := nd_form hn20
          simp only [List.cons.injEq, and_true] at hcs
          obtain ⟨rfl, rfl, rfl⟩ := hcs
          have hb21 := below_new w20 (Obj.cells #[.int .i64 t9.kind, .slice A20 t9.bytes.length d20, .slice B20 t9.kids.length e20] 28)
          have hX21 := heap_alloc_new w20 (Obj.cells #[.int .i64 t9.kind, .slice A20 t9.bytes.length d20, .slice B20 t9.kids.length e20] 28)
          have hs21 : (w20.alloc (Obj.cells #[.int .i64 t9.kind, .slice A20 t9.bytes.length d20, .slice B20 t9.kids.length e20] 28)).heap.size = w20.heap.size + 1 := by simp
          go_wp2_with fail
          generalize w20.alloc (Obj.cells #[.int .i64 t9.kind, .slice A20 t9.bytes.length d20, .slice B20 t9.kids.length e20] 28) = w21 at *
          refine (pack_any w21 (hn20.below hb21) hszo).mono ?_
          rintro e w22 ⟨⟨v22, rfl, hv22⟩, hb22⟩
          have HPT := Lib.hid (pPack_cases t9)
          generalize hppt : pPack t9 = pt at *
          obtain ⟨pb9, g9⟩ := pt
          clear hppt
          dsimp only at *
          have h21 := (h0.via hb20).via hb21
          have h22 := h21.via hb22
          have hn22 := (hn20.below hb21).below hb22
          have hX22 := (hb22.block w20.heap.size (by omega)).trans hX21
          clear n0 n1 n2 m0 m1 m2
          have ⟨x0, x1, x2⟩ := cells3 hX22
          by_cases h9 : e9 = 0
          · subst h9
            obtain ⟨hR9, hE9, hL9⟩ := HOA.out rfl
            have HR9 := Lib.hid hR9
            have HE9 := Lib.hid hE9
            obtain ⟨rfl, rfl⟩ : pb9 = enc t9 ∧ g9 = 0 := by
              rcases HPT.out with ⟨_, _, h⟩ | ⟨_, h2, _⟩ | ⟨h1, _⟩
              · simpa using h
              · rw [hE9] at h2; omega
              · rw [hR9] at h1; cases h1
            clear hR9 hE9 HOC HOA HPT
            go_wp2_with fail
            refine (right_is w22 hn22 hszo).mono ?_
            rintro e w23 ⟨⟨z, rfl, hz⟩, hb23⟩
            obtain rfl : z = true := by rw [hz.out, HR9.out]
            clear hz
            go_wp2_with fail
            refine (sameBytes_any w23 (hv22.below hb23) (hv.below (h22.via hb23))).mono ?_
            rintro e w24 ⟨⟨z, rfl, hz⟩, hb24⟩
            obtain rfl : z = true := by rw [hz.out, HE9.out]; exact beq_self_eq_true _
            clear hz
            go_wp2_with fail
            go_ret
            exact ⟨rfl, (h22.via hb23).via hb24.below⟩
          · have h9b : (e9 != 0) = true := by simp [h9]
            obtain rfl : t9 = .mk 0 [] [] := by
              rcases HOC.out with ⟨t', h⟩ | h
              · simp only [Prod.mk.injEq] at h
                exact absurd h.2 h9
              · simp only [Prod.mk.injEq] at h
                exact h.1
            go_wp2_with fail
            refine (sameNode_any _ (.mk 0 [] []) _ (fun _ => True) w22 _ _ _ _ _ _ hn22 (nd_zero _ _)).mono ?_
            rintro e w23 ⟨⟨z, rfl, hz⟩, hb23⟩
            obtain rfl : z = true := by rw [hz.out]; exact (sameB_iff _ _).2 rfl
            clear hz
            go_wp2_with fail
            go_ret
            exact ⟨rfl, h22.via hb23⟩
end Pk
end Go.Proofs.YtgfgdlnlafngnaaDoor
