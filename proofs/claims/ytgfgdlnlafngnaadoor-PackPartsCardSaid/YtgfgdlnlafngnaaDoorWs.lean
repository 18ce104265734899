/- Walks: pack.packed, Pack, Size. -/
import Derived.Test.YtgfgdlnlafngnaaDoorWr
namespace Go.Proofs.YtgfgdlnlafngnaaDoor
namespace Pk
open Go.RowKit

theorem done_any {l : List UInt8} {R : Option Nat} {m : Nat} (w : World) (hm : Mk w m l R) (hl : l.length ≤ 140737488355328) :
    Calls Tryd.prog 77 #[.pointer (some ⟨m, 0, none⟩)] w fun e w' => (∃ v, e = .returned (.tuple #[v, .int .i64 0]) ∧ BsAt (fun k => w.heap.size ≤ k) w' v l) ∧ Below w.heap.size w w' := by
  obtain ⟨A, c, h1, h2, rfl⟩ := hm
  have c0 : w.cell? ⟨m, 0, none⟩ = some (.slice A l.length c) := by rw [blk_cell' h1]; rfl
  have c1 : w.cell? ⟨m, 1, none⟩ = some (.bool false) := by rw [blk_cell' h1]; rfl
  have hb := BsAt.of_own h2
  clear h1 h2
  go_enter Tryd.func77, Tryd.ntmps77
  go_wp2_with fail
  refine (clone_any w hb hl).mono ?_
  rintro e w1 ⟨⟨v, rfl, hv⟩, hb1⟩
  go_wp2_with fail
  go_ret2
  exact ⟨⟨v, rfl, hv⟩, hb1⟩

set_option maxRecDepth 100000 in
theorem packed_any {t : Nd} {S : Nat → Prop} {cs : List Value} (w : World) (hn : NdAt S w t cs) (hall : allB t = true) (hl : (enc t).length ≤ 140737488355328) :
    Calls Tryd.prog 49 #[.agg cs.toArray] w fun e w' => (∃ v, e = .returned v ∧ BsAt (fun k => w.heap.size ≤ k) w' v (enc t)) ∧ Below w.heap.size w w' := by
  obtain ⟨A, c, B, c2, rfl⟩ := nd_form hn
  have hn0 := hn.bound
  go_enter Tryd.func49, Tryd.ntmps49
  go_wp2_with fail
  have hs1 : (w.alloc (Obj.cells #[.int .i64 t.kind, .slice A t.bytes.length c, .slice B t.kids.length c2] 28)).heap.size = w.heap.size + 1 := by simp
  have hb2 := below_new2 w (Obj.cells #[.int .i64 t.kind, .slice A t.bytes.length c, .slice B t.kids.length c2] 28) (Obj.cells #[.slice none 0 0, .bool false] 105)
  have hM := heap_alloc_new (w.alloc (Obj.cells #[.int .i64 t.kind, .slice A t.bytes.length c, .slice B t.kids.length c2] 28)) (Obj.cells #[.slice none 0 0, .bool false] 105)
  rw [hs1] at hM
  generalize (w.alloc (Obj.cells #[.int .i64 t.kind, .slice A t.bytes.length c, .slice B t.kids.length c2] 28)).alloc (Obj.cells #[.slice none 0 0, .bool false] 105) = w2 at *
  have hm2 : Mk w2 (w.heap.size + 1) [] none := ⟨none, 0, hM, ⟨rfl, .inl ⟨rfl, rfl⟩⟩, rfl⟩
  refine (put_any t w2 (w.heap.size + 1) [] none _ _ hm2 (hn0.below hb2) (fun k hk => ⟨by omega, by simp⟩) hall (by simpa using hl)).mono ?_
  rintro e w3 ⟨rfl, R3, hm3, hk3⟩
  go_wp2_with fail
  refine (done_any w3 hm3 (by simpa using hl)).mono ?_
  rintro e w4 ⟨⟨v, rfl, hv⟩, hb4⟩
  go_wp2_with fail
  go_ret
  have hs3 := hk3.2.size
  have hs2 := hb2.size
  refine ⟨⟨v, rfl, hv.mono (fun k hk => by omega)⟩, ?_⟩
  exact (((Chs.of_below hb2).trans hk3.2).trans (Chs.of_below hb4)).below (fun k hk e => by rcases e with e | e; omega; cases e)

/-- What pack.Pack answers. -/
def pPack (t : Nd) : List UInt8 × Int := if rightB t then (if (enc t).length ≤ 4096 then (enc t, 0) else ([], 3)) else ([], 2)

set_option maxRecDepth 100000 in
theorem pack_any {t : Nd} {S : Nat → Prop} {cs : List Value} (w : World) (hn : NdAt S w t cs) (hsz : Sz t) :
    Calls Tryd.prog 21 #[.agg cs.toArray] w fun e w' => (∃ v, e = .returned (.tuple #[v, .int .i64 (pPack t).2]) ∧ BsAt (fun k => w.heap.size ≤ k) w' v (pPack t).1) ∧ Below w.heap.size w w' := by
  obtain ⟨A, c, B, c2, rfl⟩ := nd_form hn
  go_enter Tryd.func21, Tryd.ntmps21
  go_wp2_with fail
  have hb1 := below_new w (Obj.cells #[.int .i64 t.kind, .slice A t.bytes.length c, .slice B t.kids.length c2] 28)
  have hN1 := heap_alloc_new w (Obj.cells #[.int .i64 t.kind, .slice A t.bytes.length c, .slice B t.kids.length c2] 28)
  have hs1 : (w.alloc (Obj.cells #[.int .i64 t.kind, .slice A t.bytes.length c, .slice B t.kids.length c2] 28)).heap.size = w.heap.size + 1 := by simp
  generalize w.alloc (Obj.cells #[.int .i64 t.kind, .slice A t.bytes.length c, .slice B t.kids.length c2] 28) = w1 at *
  refine (right_is w1 (hn.below hb1) hsz).mono ?_
  rintro e w2 ⟨⟨z, rfl, hz⟩, hb2⟩
  have hN2 := (hb2.block w.heap.size (by omega)).trans hN1
  have n0 : w2.cell? ⟨w.heap.size, 0, none⟩ = some (.int .i64 t.kind) := by rw [blk_cell' hN2]; rfl
  have n1 : w2.cell? ⟨w.heap.size, 1, none⟩ = some (.slice A t.bytes.length c) := by rw [blk_cell' hN2]; rfl
  have n2 : w2.cell? ⟨w.heap.size, 2, none⟩ = some (.slice B t.kids.length c2) := by rw [blk_cell' hN2]; rfl
  have hs2 := hb2.size
  cases z with
  | false =>
    have HP : Hid (pPack t = ([], 2)) := by
      show _ = _
      unfold pPack
      rw [← hz.out]
      rfl
    go_wp2_with fail
    go_ret2
    exact ⟨⟨_, by rw [HP.out]; rfl, by rw [HP.out]; exact BsAt.nil _ _⟩, hb1.via hb2⟩
  | true =>
    have hright := hz.out.symm
    have hel := enc_right hright
    go_wp2_with fail
    refine (packed_any w2 ((hn.below hb1).below hb2) (by simp only [rightB, Bool.and_eq_true] at hright; exact hright.1.1) (by omega)).mono ?_
    rintro e w3 ⟨⟨v, rfl, hv⟩, hb3⟩
    obtain ⟨A3, c3, rfl, h1, h2, h3⟩ := hv
    have hv : BsAt (fun k => w2.heap.size ≤ k) w3 (.slice A3 (enc t).length c3) (enc t) := ⟨A3, c3, rfl, h1, h2, h3⟩
    by_cases hlen : (enc t).length ≤ 4096
    · have HP : Hid (pPack t = (enc t, 0)) := by
        show _ = _
        unfold pPack
        rw [hright, if_pos rfl, if_pos hlen]
      go_wp2_with fail
      go_ret2
      exact ⟨⟨_, by rw [HP.out]; rfl, by rw [HP.out]; exact hv.mono (fun k hk => by omega)⟩, (hb1.via hb2).via hb3⟩
    · have HP : Hid (pPack t = ([], 3)) := by
        show _ = _
        unfold pPack
        rw [hright, if_pos rfl, if_neg hlen]
      go_wp2_with fail
      go_ret2
      exact ⟨⟨_, by rw [HP.out]; rfl, by rw [HP.out]; exact BsAt.nil _ _⟩, (hb1.via hb2).via hb3⟩

def pSize (t : Nd) : Nat := if rightB t then (enc t).length else 0
set_option maxRecDepth 100000 in
theorem psize_any {t : Nd} {S : Nat → Prop} {cs : List Value} (w : World) (hn : NdAt S w t cs) (hsz : Sz t) :
    Calls Tryd.prog 23 #[.agg cs.toArray] w fun e w' => e = .returned (.int .i64 (pSize t)) ∧ Below w.heap.size w w' := by
  obtain ⟨A, c, B, c2, rfl⟩ := nd_form hn
  go_enter Tryd.func23, Tryd.ntmps23
  go_wp2_with fail
  have hb1 := below_new w (Obj.cells #[.int .i64 t.kind, .slice A t.bytes.length c, .slice B t.kids.length c2] 28)
  have hN1 := heap_alloc_new w (Obj.cells #[.int .i64 t.kind, .slice A t.bytes.length c, .slice B t.kids.length c2] 28)
  have hs1 : (w.alloc (Obj.cells #[.int .i64 t.kind, .slice A t.bytes.length c, .slice B t.kids.length c2] 28)).heap.size = w.heap.size + 1 := by simp
  generalize w.alloc (Obj.cells #[.int .i64 t.kind, .slice A t.bytes.length c, .slice B t.kids.length c2] 28) = w1 at *
  refine (right_is w1 (hn.below hb1) hsz).mono ?_
  rintro e w2 ⟨⟨z, rfl, hz⟩, hb2⟩
  have hN2 := (hb2.block w.heap.size (by omega)).trans hN1
  have n0 : w2.cell? ⟨w.heap.size, 0, none⟩ = some (.int .i64 t.kind) := by rw [blk_cell' hN2]; rfl
  have n1 : w2.cell? ⟨w.heap.size, 1, none⟩ = some (.slice A t.bytes.length c) := by rw [blk_cell' hN2]; rfl
  have n2 : w2.cell? ⟨w.heap.size, 2, none⟩ = some (.slice B t.kids.length c2) := by rw [blk_cell' hN2]; rfl
  cases z with
  | false =>
    have HP : Hid (pSize t = 0) := by
      show _ = _
      unfold pSize
      rw [← hz.out]
      rfl
    go_wp2_with fail
    go_ret
    exact ⟨by rw [HP.out]; rfl, hb1.via hb2⟩
  | true =>
    have hright := hz.out.symm
    have hel := enc_right hright
    go_wp2_with fail
    refine (packed_any w2 ((hn.below hb1).below hb2) (by simp only [rightB, Bool.and_eq_true] at hright; exact hright.1.1) (by omega)).mono ?_
    rintro e w3 ⟨⟨v, rfl, hv⟩, hb3⟩
    obtain ⟨A3, c3, rfl, h1, h2, h3⟩ := hv
    have HP : Hid (pSize t = (enc t).length) := by
      show _ = _
      unfold pSize
      rw [hright]
      rfl
    clear hright
    go_wp2_with fail
    go_ret
    exact ⟨by rw [HP.out]; rfl, (hb1.via hb2).via hb3⟩
end Pk
end Go.Proofs.YtgfgdlnlafngnaaDoor
