/- Walks: spencelaw08's example. -/
import Derived.Test.YtgfgdlnlafngnaaDoorPu
import Derived.Test.YtgfgdlnlafngnaaDoorEy
import Derived.Lib.SlBytesConst
namespace Go.Proofs.YtgfgdlnlafngnaaDoor
namespace Pk
open Go.RowKit

theorem add_lit (a : Addr) (j : Nat) (h : 0 < j) : a.add j = ⟨a.block, a.off + j, none⟩ := by
  have := add_field' a 0 j h
  rwa [Nat.zero_add, add_zero] at this
set_option maxRecDepth 100000 in
set_option maxHeartbeats 2000000 in
theorem awake8_any (w : World) : Calls Tryd.prog 30 #[] w fun e w' => e = .returned (.bool true) ∧ Below w.heap.size w w' := by
  have kc := fun (w : World) (C : Array Value) (n c : Nat) => Lib.run_convert_bytes_const (P := Tryd.prog) w 22 5 C n c Tryd.underlying22 Tryd.underlying5
  go_enter Tryd.func30, Tryd.ntmps30
  go_wp2_with fail
  clear kc
  have hb1 := below_new w (.cells #[.int .u8 120] 5 (1, 2))
  have r1 := Rd.of_blk' (alloc_at w (.cells #[.int .u8 120] 5 (1, 2)) rfl)
  have hx1 : NdAt (fun k => k = w.heap.size) (w.alloc (.cells #[.int .u8 120] 5 (1, 2))) eyX [.int .i64 1, .slice (some ⟨w.heap.size, 0, none⟩) 1 1, .slice none 0 0] := by
    unfold eyX NdAt
    exact ⟨_, _, _, [], rfl, ⟨_, _, rfl, Nat.le_refl _, by omega, r1⟩, by simp, by omega, Rd.nil _ _ _, by unfold KsAt; rfl⟩
  generalize w.alloc (.cells #[.int .u8 120] 5 (1, 2)) = w1 at *
  refine (putNew_any w1 ⟨#[97, 47, 98]⟩ eyN ey_way (by simp [eyN]) (by simp [ByteArray.size]) hx1 ey_rightX (by simp [eyX, Sz, SzK]) ey_right (by simp [eyN, eyX, chainT, Sz, SzK, ByteArray.size])).mono ?_
  rintro e w2 ⟨hb2, c0, c1, c2, rfl, hn2⟩
  obtain ⟨A, d, B, d2, hcs⟩ := nd_form hn2
  simp only [List.cons.injEq, and_true] at hcs
  obtain ⟨rfl, rfl, rfl⟩ := hcs
  go_wp2_with fail
  have hb3 := below_new w2 (Obj.cells #[.int .i64 (chainT eyN eyX).kind, .slice A (chainT eyN eyX).bytes.length d, .slice B (chainT eyN eyX).kids.length d2] 28)
  generalize w2.alloc (Obj.cells #[.int .i64 (chainT eyN eyX).kind, .slice A (chainT eyN eyX).bytes.length d, .slice B (chainT eyN eyX).kids.length d2] 28) = w3 at *
  refine (ways_any w3 (hn2.below hb3) (by simp [eyN, eyX, chainT, Sz, SzK, ByteArray.size])).mono ?_
  rw [ey_ways]
  rintro e w4 ⟨hb4, v, rfl, how⟩
  obtain ⟨W, wc, rfl⟩ := own_form how
  have hrd := Rd.of_own how
  obtain ⟨ad, rfl, _, z0⟩ := hrd.at_ (j := 0) (by simp)
  obtain ⟨ad', e1, _, z1⟩ := hrd.at_ (j := 1) (by simp)
  obtain ⟨ad'', e2, _, z2⟩ := hrd.at_ (j := 2) (by simp)
  injection e1 with e1
  injection e2 with e2
  subst e1 e2
  simp at z0 z1 z2
  rw [add_zero] at z0
  rw [add_lit _ _ (by omega)] at z1 z2
  clear how hrd
  go_wp2_with fail
  go_ret
  exact ⟨rfl, ((hb1.via hb2).via hb3).via hb4⟩
end Pk
end Go.Proofs.YtgfgdlnlafngnaaDoor
