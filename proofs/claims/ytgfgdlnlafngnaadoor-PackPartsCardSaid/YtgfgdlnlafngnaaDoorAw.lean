/- Walks: pack.At. -/
import Derived.Test.YtgfgdlnlafngnaaDoorFi
import Derived.Test.YtgfgdlnlafngnaaDoorWs
import Derived.Test.YtgfgdlnlafngnaaDoorWn
namespace Go.Proofs.YtgfgdlnlafngnaaDoor
namespace Pk
open Go.RowKit

theorem pOpen_sz (l : List UInt8) : Sz (pOpen l).1 := by
  unfold pOpen
  split
  · unfold Sz; simp [SzK]
  · split
    · rename_i h
      split
      · exact pNode_sz _ _ _ _ _ _ h
      · unfold Sz; simp [SzK]
    · unfold Sz; simp [SzK]

set_option maxRecDepth 100000 in
set_option maxHeartbeats 2000000 in
theorem at_any {v : Value} {l : List UInt8} {S : Nat → Prop} (w : World) (way : ByteArray) (hv : BsAt S w v l) (hws : way.size ≤ 1099511627776) :
    Calls Tryd.prog 13 #[v, .string way] w fun e w' => Below w.heap.size w w' ∧ ∃ u, e = .returned (.tuple #[u, .int .i64 (pAt l way).2]) ∧ BsAt (fun k => w.heap.size ≤ k) w' u (pAt l way).1 := by
  obtain ⟨A, c, rfl, hlc, hcm, hr⟩ := hv
  have hv : BsAt S w (.slice A l.length c) l := ⟨A, c, rfl, hlc, hcm, hr⟩
  go_enter Tryd.func13, Tryd.ntmps13
  go_wp2_with fail
  refine (open_any w hv).mono ?_
  rintro e w1 ⟨hb1, c0, c1, c2, rfl, hn1⟩
  obtain ⟨A1, d1, B1, e1, hcs⟩ := nd_form hn1
  simp only [List.cons.injEq, and_true] at hcs
  obtain ⟨rfl, rfl, rfl⟩ := hcs
  have hsz := pOpen_sz l
  have HPA : Hid (pAt l way = if (pOpen l).2 = 0 then if (pFind (pOpen l).1 way).2 = 0 then (enc (pFind (pOpen l).1 way).1, 0) else ([], (pFind (pOpen l).1 way).2) else ([], (pOpen l).2)) := rfl
  have HAL : Hid ((pOpen l).2 = 0 → rightB (pOpen l).1 = true ∧ enc (pOpen l).1 = l ∧ l.length ≤ 4096) := pOpen_all
  generalize pOpen l = po at *
  obtain ⟨t, e0⟩ := po
  dsimp only at *
  by_cases h0 : e0 = 0
  · subst h0
    obtain ⟨hrt, henc, hlen⟩ := HAL.out rfl
    have HRT := Lib.hid hrt
    have HPB : Hid (pAt l way = if (pFind t way).2 = 0 then (enc (pFind t way).1, 0) else ([], (pFind t way).2)) := by
      show _ = _
      rw [HPA.out, if_pos rfl]
    have HENC := Lib.hid henc
    have HLEN := Lib.hid hlen
    clear HPA HAL hrt henc hlen
    go_wp2_with fail
    have hb2 := below_new w1 (Obj.cells #[.int .i64 t.kind, .slice A1 t.bytes.length d1, .slice B1 t.kids.length e1] 28)
    generalize w1.alloc (Obj.cells #[.int .i64 t.kind, .slice A1 t.bytes.length d1, .slice B1 t.kids.length e1] 28) = w2 at *
    have h02 := hb1.via hb2
    refine (tfind_any w2 way (hn1.below hb2) hsz hws).mono ?_
    rintro e w3 ⟨hb3, c0, c1, c2, rfl, hn3⟩
    have hs2 := h02.size
    obtain ⟨A3, d3, B3, e3, hcs⟩ := nd_form hn3
    simp only [List.cons.injEq, and_true] at hcs
    obtain ⟨rfl, rfl, rfl⟩ := hcs
    have h03 := h02.via hb3
    have hfc := pFind_cases t way
    generalize pFind t way = pf at *
    obtain ⟨x, f0⟩ := pf
    dsimp only at *
    have hb4 := below_new w3 (Obj.cells #[.int .i64 x.kind, .slice A3 x.bytes.length d3, .slice B3 x.kids.length e3] 28)
    by_cases h1 : f0 = 0
    · subst h1
      have hx : allB x = true ∧ (enc x).length ≤ 4096 := by
        rcases hfc with ⟨x', hx1, _, _, hx2⟩ | ⟨_, h | h | h⟩
        · simp only [Prod.mk.injEq, and_true] at hx1
          subst hx1
          have hr := HRT.out
          simp only [rightB, Bool.and_eq_true] at hr
          obtain ⟨h1, pre, post, h2⟩ := at_within _ hx2 hr.1.1
          refine ⟨h1, ?_⟩
          have := HENC.out
          have h3 := HLEN.out
          rw [h2] at this
          rw [← this] at h3
          simp only [List.length_append] at h3
          omega
        · omega
        · omega
        · omega
      clear hfc
      have HP : Hid (pAt l way = (enc x, 0)) := by
        show _ = _
        rw [HPB.out, if_pos rfl]
      go_wp2_with fail
      refine (packed_any _ (hn3.below hb4) hx.1 (by omega)).mono ?_
      rintro e w5 ⟨⟨u, rfl, hu⟩, hb5⟩
      have hs3 := h03.size
      have hs4 := hb4.size
      go_wp2_with fail
      go_ret2
      exact ⟨(h03.via hb4).via hb5, u, by rw [HP.out]; rfl, by rw [HP.out]; exact hu.mono (fun k hk => by omega)⟩
    · have hz1 : (f0 != 0) = true := by simp [h1]
      have HP : Hid (pAt l way = ([], f0)) := by
        show _ = _
        rw [HPB.out, if_neg h1]
      clear hfc
      go_wp2_with fail
      go_ret2
      exact ⟨h03.via hb4, _, by rw [HP.out]; rfl, by rw [HP.out]; exact BsAt.nil _ _⟩
  · have hz1 : (e0 != 0) = true := by simp [h0]
    have HP : Hid (pAt l way = ([], e0)) := by
      show _ = _
      rw [HPA.out, if_neg h0]
    go_wp2_with fail
    go_ret2
    exact ⟨hb1.via (below_new _ _), _, by rw [HP.out]; rfl, by rw [HP.out]; exact BsAt.nil _ _⟩
end Pk
end Go.Proofs.YtgfgdlnlafngnaaDoor
