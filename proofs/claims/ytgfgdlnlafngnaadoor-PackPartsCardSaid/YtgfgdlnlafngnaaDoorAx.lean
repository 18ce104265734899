/- Walks: spencelaw09's example. -/
import Derived.Test.YtgfgdlnlafngnaaDoorAw
import Derived.Test.YtgfgdlnlafngnaaDoorWx
import Derived.Test.YtgfgdlnlafngnaaDoorEx
import Derived.Lib.SlBytesConst
namespace Go.Proofs.YtgfgdlnlafngnaaDoor
namespace Pk
open Go.RowKit

/-- Bytes that have just been laid. -/
theorem bs_lit {W : World} {l : List UInt8} {n : Nat} {ty : TypeId} {cs : Array Value} (hn : n = W.heap.size) (hcs : cs = (bcs l).toArray) (hl : l.length ≤ 9223372036854775807) : BsAt (fun k => k = n) (W.alloc (.cells cs ty)) (.slice (some ⟨n, 0, none⟩) l.length l.length) l := by
  subst hcs
  exact ⟨_, _, rfl, Nat.le_refl _, by omega, Rd.new hn⟩

theorem Rd.of_blk {w : World} {cs : Array Value} {t : TypeId} {n : Nat} {fr : Nat × Nat} (h : w.heap[n]? = some (.cells cs t fr)) : Rd w (fun k => k = n) (some ⟨n, 0, none⟩) cs.toList := fun _ => by
  refine ⟨_, rfl, rfl, fun j u hu => ?_⟩
  have ea : (⟨n, 0, none⟩ : Addr).add j = ⟨n, j, none⟩ := by unfold Addr.add; split <;> simp_all
  rw [ea, cell_of_row _ _ _ cs t fr h, ← hu]
  simp
/-- The example in memory. -/
theorem ex_nd (w : World) : NdAt (fun k => w.heap.size ≤ k) (((w.alloc (.cells #[.int .u8 97, .int .u8 98] 5 (2, 3))).alloc (.cells #[.string ⟨#[120]⟩, .int .i64 1, .slice (some ⟨w.heap.size, 0, none⟩) 2 2, .slice none 0 0] 57)).alloc
    (.cells #[.int .i64 4, .slice none 0 0, .slice (some ⟨w.heap.size + 1, 0, none⟩) 1 1] 28)) exN [.int .i64 4, .slice none 0 0, .slice (some ⟨w.heap.size + 1, 0, none⟩) 1 1] := by
  have r1 := Rd.of_blk (blk_new' (blk_new' (alloc_at w (.cells #[.int .u8 97, .int .u8 98] 5 (2, 3)) rfl) (.cells #[.string ⟨#[120]⟩, .int .i64 1, .slice (some ⟨w.heap.size, 0, none⟩) 2 2, .slice none 0 0] 57)) (.cells #[.int .i64 4, .slice none 0 0, .slice (some ⟨w.heap.size + 1, 0, none⟩) 1 1] 28))
  have r2 := Rd.of_blk (blk_new' (alloc_at (w.alloc (.cells #[.int .u8 97, .int .u8 98] 5 (2, 3))) (.cells #[.string ⟨#[120]⟩, .int .i64 1, .slice (some ⟨w.heap.size, 0, none⟩) 2 2, .slice none 0 0] 57) (n := w.heap.size + 1) (by simp)) (.cells #[.int .i64 4, .slice none 0 0, .slice (some ⟨w.heap.size + 1, 0, none⟩) 1 1] 28))
  unfold exN NdAt
  refine ⟨_, _, _, _, rfl, BsAt.nil _ _, Nat.le_refl _, by omega, r2.mono (fun k hk => by omega), ?_⟩
  unfold KsAt
  refine ⟨[.int .i64 1, .slice (some ⟨w.heap.size, 0, none⟩) 2 2, .slice none 0 0], [], rfl, ?_, by unfold KsAt; rfl⟩
  unfold exX NdAt
  exact ⟨_, _, _, [], rfl, ⟨_, _, rfl, Nat.le_refl _, by omega, r1.mono (fun k hk => by omega)⟩, by simp, by omega, Rd.nil _ _ _, by unfold KsAt; rfl⟩

set_option maxRecDepth 100000 in
set_option maxHeartbeats 2000000 in
theorem awake_any (w : World) : Calls Tryd.prog 9 #[] w fun e w' => e = .returned (.bool true) ∧ Below w.heap.size w w' := by
  have kc := fun (w : World) (C : Array Value) (n c : Nat) => Lib.run_convert_bytes_const (P := Tryd.prog) w 22 5 C n c Tryd.underlying22 Tryd.underlying5
  go_enter Tryd.func9, Tryd.ntmps9
  go_wp2_with fail
  have hx := ex_nd w
  have hb1 : Below w.heap.size w (((w.alloc (.cells #[.int .u8 97, .int .u8 98] 5 (2, 3))).alloc (.cells #[.string ⟨#[120]⟩, .int .i64 1, .slice (some ⟨w.heap.size, 0, none⟩) 2 2, .slice none 0 0] 57)).alloc
    (.cells #[.int .i64 4, .slice none 0 0, .slice (some ⟨w.heap.size + 1, 0, none⟩) 1 1] 28)) := ((below_new w _).via (below_new _ _)).via (below_new _ _)
  have hN1 := alloc_at ((w.alloc (.cells #[.int .u8 97, .int .u8 98] 5 (2, 3))).alloc (.cells #[.string ⟨#[120]⟩, .int .i64 1, .slice (some ⟨w.heap.size, 0, none⟩) 2 2, .slice none 0 0] 57))
    (.cells #[.int .i64 4, .slice none 0 0, .slice (some ⟨w.heap.size + 1, 0, none⟩) 1 1] 28) (n := w.heap.size + 2) (by simp)
  have hs1 : (((w.alloc (.cells #[.int .u8 97, .int .u8 98] 5 (2, 3))).alloc (.cells #[.string ⟨#[120]⟩, .int .i64 1, .slice (some ⟨w.heap.size, 0, none⟩) 2 2, .slice none 0 0] 57)).alloc
    (.cells #[.int .i64 4, .slice none 0 0, .slice (some ⟨w.heap.size + 1, 0, none⟩) 1 1] 28)).heap.size = w.heap.size + 3 := by simp
  generalize ((w.alloc (.cells #[.int .u8 97, .int .u8 98] 5 (2, 3))).alloc (.cells #[.string ⟨#[120]⟩, .int .i64 1, .slice (some ⟨w.heap.size, 0, none⟩) 2 2, .slice none 0 0] 57)).alloc
    (.cells #[.int .i64 4, .slice none 0 0, .slice (some ⟨w.heap.size + 1, 0, none⟩) 1 1] 28) = w1 at *
  clear kc
  refine (pack_any w1 hx (by unfold exN exX Sz; simp [SzK, Sz, ByteArray.size])).mono ?_
  have hpp : pPack exN = (exB, 0) := by
    unfold pPack
    rw [ex_right, if_pos rfl, if_pos (by rw [ex_enc]; simp [exB]), ex_enc]
  rw [hpp]
  rintro e w2 ⟨⟨v2, rfl, hv2⟩, hb2⟩
  clear hpp
  have hN2 := (hb2.block (w.heap.size + 2) (by omega)).trans hN1
  have hs2 := hb2.size
  have h02 := hb1.via hb2
  go_wp2_with fail
  refine (at_any w2 ⟨#[120]⟩ hv2 (by simp [ByteArray.size])).mono ?_
  rw [ex_at]
  rintro e w3 ⟨hb3, v3, rfl, hv3⟩
  have hN3 := (hb3.block (w.heap.size + 2) (by omega)).trans hN2
  have hs3 := hb3.size
  have h03 := h02.via hb3
  have hv2 := hv2.below hb3
  go_wp2_with fail
  refine (open_any w3 hv2).mono ?_
  rw [ex_open]
  rintro e w4 ⟨hb4, c0, c1, c2, rfl, hn4⟩
  obtain ⟨A1, d1, B1, e1, hcs⟩ := nd_form hn4
  simp only [List.cons.injEq, and_true] at hcs
  obtain ⟨rfl, rfl, rfl⟩ := hcs
  have hN4 := (hb4.block (w.heap.size + 2) (by omega)).trans hN3
  have hs4 := hb4.size
  have h04 := h03.via hb4
  have hv2 := hv2.below hb4
  have hv3 := hv3.below hb4
  have hx4 := hx.below (hb2.via (hb3.via hb4))
  go_wp2_with fail
  have hb5 := below_new w4 (Obj.cells #[.int .i64 exN.kind, .slice A1 exN.bytes.length d1, .slice B1 exN.kids.length e1] 28)
  have hM5 := heap_alloc_new w4 (Obj.cells #[.int .i64 exN.kind, .slice A1 exN.bytes.length d1, .slice B1 exN.kids.length e1] 28)
  have hs5 : (w4.alloc (Obj.cells #[.int .i64 exN.kind, .slice A1 exN.bytes.length d1, .slice B1 exN.kids.length e1] 28)).heap.size = w4.heap.size + 1 := by simp
  have hN5 := (hb5.block (w.heap.size + 2) (by omega)).trans hN4
  generalize w4.alloc (Obj.cells #[.int .i64 exN.kind, .slice A1 exN.bytes.length d1, .slice B1 exN.kids.length e1] 28) = w5 at *
  have hl6 := bs_lit (W := w5) (l := exB) (n := w4.heap.size + 1) (ty := 5) (cs := #[.int .u8 4, .int .u8 1, .int .u8 1, .int .u8 120, .int .u8 1, .int .u8 2, .int .u8 97, .int .u8 98]) hs5.symm rfl (by simp [exB])
  have hb6 := below_new w5 (Obj.cells #[.int .u8 4, .int .u8 1, .int .u8 1, .int .u8 120, .int .u8 1, .int .u8 2, .int .u8 97, .int .u8 98] 5)
  have hs6 : (w5.alloc (Obj.cells #[.int .u8 4, .int .u8 1, .int .u8 1, .int .u8 120, .int .u8 1, .int .u8 2, .int .u8 97, .int .u8 98] 5)).heap.size = w4.heap.size + 2 := by simp [hs5]
  generalize w5.alloc (Obj.cells #[.int .u8 4, .int .u8 1, .int .u8 1, .int .u8 120, .int .u8 1, .int .u8 2, .int .u8 97, .int .u8 98] 5) = w6 at *
  have h46 := hb5.via hb6
  have hN6 := (hb6.block (w.heap.size + 2) (by omega)).trans hN5
  have hM6 := (hb6.block w4.heap.size (by omega)).trans hM5
  refine (sameBytes_any w6 (hv2.below h46) hl6).mono ?_
  rintro e w7 ⟨⟨z, rfl, hz⟩, hd7⟩
  have hb7 := hd7.below
  obtain rfl : z = true := by rw [hz.out]; exact beq_self_eq_true _
  clear hz
  have hN7 := (hb7.block (w.heap.size + 2) (by omega)).trans hN6
  have hM7 := (hb7.block w4.heap.size (by omega)).trans hM6
  have hs7 := hb7.size
  go_wp2_with fail
  have hl8 := bs_lit (W := w7) (l := [1, 2, 97, 98]) (n := w7.heap.size) (ty := 5) (cs := #[.int .u8 1, .int .u8 2, .int .u8 97, .int .u8 98]) rfl rfl (by simp)
  have hb8 := below_new w7 (Obj.cells #[.int .u8 1, .int .u8 2, .int .u8 97, .int .u8 98] 5)
  generalize w7.alloc (Obj.cells #[.int .u8 1, .int .u8 2, .int .u8 97, .int .u8 98] 5) = w8 at *
  refine (sameBytes_any w8 (hv3.below (h46.via (hb7.via hb8))) hl8).mono ?_
  rintro e w9 ⟨⟨z, rfl, hz⟩, hd9⟩
  obtain rfl : z = true := by rw [hz.out]; exact beq_self_eq_true _
  clear hz
  have hb79 := hb8.via hd9.below
  have hN9 := (hb79.block (w.heap.size + 2) (by omega)).trans hN7
  have hM9 := (hb79.block w4.heap.size (by omega)).trans hM7
  have n0 : w9.cell? ⟨w.heap.size + 1 + 1, 0, none⟩ = some (.int .i64 4) := by rw [show w.heap.size + 1 + 1 = w.heap.size + 2 from rfl, blk_cell' hN9]; rfl
  have n1 : w9.cell? ⟨w.heap.size + 1 + 1, 1, none⟩ = some (.slice none 0 0) := by rw [show w.heap.size + 1 + 1 = w.heap.size + 2 from rfl, blk_cell' hN9]; rfl
  have n2 : w9.cell? ⟨w.heap.size + 1 + 1, 2, none⟩ = some (.slice (some ⟨w.heap.size + 1, 0, none⟩) 1 1) := by rw [show w.heap.size + 1 + 1 = w.heap.size + 2 from rfl, blk_cell' hN9]; rfl
  have ⟨m0, m1, m2⟩ := cells3 hM9
  have h49 := (h46.via hb7).via hb79
  go_wp2_with fail
  refine (sameNode_any exN exN _ _ w9 _ _ _ _ _ _ (hn4.below h49) (hx4.below h49)).mono ?_
  rintro e w10 ⟨⟨z, rfl, hz⟩, hb10⟩
  obtain rfl : z = true := by rw [hz.out]; exact (sameB_iff _ _).2 rfl
  go_wp2_with fail
  go_ret
  exact ⟨rfl, (h04.via h49).via hb10⟩
end Pk
end Go.Proofs.YtgfgdlnlafngnaaDoor
