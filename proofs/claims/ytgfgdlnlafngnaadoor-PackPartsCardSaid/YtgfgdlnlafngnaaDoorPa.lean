/- Walks: spencelaw09.PackParts. -/
import Derived.Test.YtgfgdlnlafngnaaDoorYs
import Derived.Test.YtgfgdlnlafngnaaDoorPp
import Derived.Test.YtgfgdlnlafngnaaDoorAx
import Derived.Test.YtgfgdlnlafngnaaDoorWt
namespace Go.Proofs.YtgfgdlnlafngnaaDoor
namespace Pk
open Go.RowKit

theorem at_top_err {l : List UInt8} (h : (pOpen l).2 ≠ 0) (way : ByteArray) : pAt l way = ([], (pOpen l).2) := by
  unfold pAt
  rw [if_neg h]

/-- What a way of a right tree leads to. -/
theorem way_ok {t : Nd} {way : ByteArray} (h : rightB t = true) (hw : way ∈ pWays t ∨ way = ⟨#[]⟩) : ∃ x, pFind t way = (x, 0) ∧ rightB x = true ∧ (∃ pre post, enc t = pre ++ (enc x ++ post)) ∧ way.size ≤ 1000 := by
  have hall : allB t = true ∧ dep t ≤ 8 := by
    simp only [rightB, Bool.and_eq_true, decide_eq_true_eq] at h
    exact ⟨h.1.1, h.2⟩
  have h2 : ∃ x, pFind t way = (x, 0) ∧ way.size ≤ 1000 := by
    rcases hw with hw | rfl
    · unfold pWays at hw
      rw [h, if_pos rfl, List.mem_map] at hw
      obtain ⟨p, hp, rfl⟩ := hw
      have := way_size t _ p hp hall.1
      simp only [str_size, List.length_nil] at this
      exact ⟨p.2, find_way h hp, by omega⟩
    · exact ⟨t, find_top h, by simp [ByteArray.size]⟩
  obtain ⟨x, hx, hs⟩ := h2
  refine ⟨x, hx, ?_⟩
  rcases pFind_cases t way with ⟨x', h3, _, _, h4⟩ | ⟨_, h3⟩
  · rw [hx] at h3
    simp only [Prod.mk.injEq, and_true] at h3
    subst h3
    exact ⟨at_right h4 h, (at_within _ h4 hall.1).2, hs⟩
  · rw [hx] at h3
    dsimp only at h3
    omega
theorem allB_sz : ∀ t, allB t = true → Sz t := by
  refine Nd.ind fun k b ks ih => ?_
  intro h
  obtain ⟨_, hri, hk⟩ := all_kids h
  unfold Sz
  exact SzK.of_mem fun x hx => ⟨by have := (name_size (rises_mem ks none hri x hx)).2; omega, ih x hx (hk x hx)⟩
theorem enc_pos (t : Nd) : 1 ≤ (enc t).length := by
  have := num_length_pos t.kind.toNat
  obtain ⟨k, b, ks⟩ := t
  rw [enc]
  split
  · have := num_length_pos 4
    simp only [List.length_append]
    omega
  · simp only [List.length_append]
    exact Nat.le_trans this (Nat.le_add_right _ _)

set_option maxRecDepth 100000 in
set_option maxHeartbeats 4000000 in
theorem packParts_any {v : Value} {l : List UInt8} {S : Nat → Prop} (w : World) (a : Int) (hv : BsAt S w v l) :
    Calls Tryd.prog 5 #[v, .int .i64 a] w fun e w' => e = .returned (.bool true) ∧ Below w.heap.size w w' := by
  obtain ⟨L, lc, rfl, hlc, hcm, hr⟩ := hv
  have hv : BsAt S w (.slice L l.length lc) l := ⟨L, lc, rfl, hlc, hcm, hr⟩
  go_enter Tryd.func5, Tryd.ntmps5
  go_wp2_with fail
  refine (awake_any w).mono ?_
  rintro e w1 ⟨rfl, hb1⟩
  by_cases hlen : 6000 < l.length
  · go_wp2_with fail
    go_ret
    exact ⟨rfl, hb1⟩
  · go_wp2_with fail
    have hv1 := hv.below hb1
    refine (open_any w1 hv1).mono ?_
    have HTE : Hid ((pOpen l).2 ≠ 0 → ∀ way, pAt l way = ([], (pOpen l).2)) := fun h way => at_top_err h way
    have HOA : Hid ((pOpen l).2 = 0 → rightB (pOpen l).1 = true ∧ enc (pOpen l).1 = l ∧ l.length ≤ 4096) := pOpen_all
    have HPA : Hid (∀ way, pAt l way = if (pOpen l).2 = 0 then if (pFind (pOpen l).1 way).2 = 0 then (enc (pFind (pOpen l).1 way).1, 0) else ([], (pFind (pOpen l).1 way).2) else ([], (pOpen l).2)) := fun way => rfl
    have hsz := pOpen_sz l
    generalize pOpen l = po at *
    obtain ⟨t, e0⟩ := po
    dsimp only at *
    rintro e w2 ⟨hb2, c0, c1, c2, rfl, hn2⟩
    obtain ⟨A, d, B, d2, hcs⟩ := nd_form hn2
    simp only [List.cons.injEq, and_true] at hcs
    obtain ⟨rfl, rfl, rfl⟩ := hcs
    have hb3 := below_new w2 (Obj.cells #[.int .i64 t.kind, .slice A t.bytes.length d, .slice B t.kids.length d2] 28)
    have hN3 := heap_alloc_new w2 (Obj.cells #[.int .i64 t.kind, .slice A t.bytes.length d, .slice B t.kids.length d2] 28)
    have hs3 : (w2.alloc (Obj.cells #[.int .i64 t.kind, .slice A t.bytes.length d, .slice B t.kids.length d2] 28)).heap.size = w2.heap.size + 1 := by simp
    have h03 := (hb1.via hb2).via hb3
    by_cases h0 : e0 = 0
    · subst h0
      obtain ⟨hR, hE, hL⟩ := HOA.out rfl
      have HR := Lib.hid hR
      have HE := Lib.hid hE
      clear hR hE HOA HTE
      go_wp2_with fail
      generalize w2.alloc (Obj.cells #[.int .i64 t.kind, .slice A t.bytes.length d, .slice B t.kids.length d2] 28) = w3 at *
      refine (ways_any w3 (hn2.below hb3) hsz).mono ?_
      rintro e w4 ⟨hb4, vw, rfl, how⟩
      obtain ⟨A4, c4, rfl⟩ := own_form how
      have hwl : (pWays t).length ≤ 200 := by
        unfold pWays
        rw [HR.out, if_pos rfl, List.length_map, waysN_len]
        have := HR.out
        simp only [rightB, Bool.and_eq_true, decide_eq_true_eq] at this
        exact this.1.2
      obtain ⟨i0, hi0, hz0, hz1, hz2⟩ := info_parts info_str
      go_wp2_with (at_builtin; refine Stp.mk ?_)
      refine Stp.of ?_
      refine wpList_append_rd _ rfl (.tmp 43) (.tmp 44) 44 rfl w3.heap.size 9 i0 _ 1 16 Tryd.underlying44 hi0 hz0 hz1 hz2 rfl (by omega) (.slice A4 (pWays t).length c4) (pWays t).length ((pWays t).map Value.string) rfl (how.alloc _) (some ⟨w4.heap.size, 0, none⟩) 1 1 [.string ⟨#[]⟩] rfl rfl (Rd.new rfl) (by simp [Value.oneCell']) (by simp only [maxLen]; omega) (by omega) (by have := hb4.size; simp; omega) ?_
      intro v' w5 hown5 hg5 hat5
      obtain ⟨A5, c5, rfl⟩ := own_form hown5
      have hs4 := hb4.size
      have hb5 : Below w3.heap.size w3 w5 := (((Chs.of_below (T := fun k => w3.heap.size ≤ k) hb4).trans (Chs.of_below (below_new w4 _))).trans (Chs.of_grown hg5 (fun k hk => (own_lt' how hk).1))).below (fun k hk e => Nat.not_le_of_lt hk e)
      have hN5 := (hb5.block w2.heap.size (by omega)).trans hN3
      have hrd := Rd.of_own hown5
      have h05 := h03.via hb5
      have hn5 := (hn2.below hb3).below hb5
      have hs5 := hb5.size
      clear hown5 how hg5 hat5 hb4
      go_wp2_with fail
      refine (pick_any a ((pWays t).length + 1) w5 (by omega) (by omega)).mono ?_
      rintro e w6 ⟨⟨k, hk, rfl⟩, rfl⟩
      obtain ⟨ad, rfl, _, hx1⟩ := hrd.at_ (j := k) (by simp; omega)
      obtain ⟨way, hway, hx0⟩ : ∃ way, (way ∈ pWays t ∨ way = ⟨#[]⟩) ∧ w5.cell? (ad.add k) = some (.string way) := by
        rcases Nat.lt_or_ge k (pWays t).length with h | h
        · rw [List.getElem_append_left (by simpa using h), List.getElem_map] at hx1
          exact ⟨_, .inl (List.getElem_mem h), hx1⟩
        · have e : k = (pWays t).length := by omega
          subst e
          rw [List.getElem_append_right (by simp)] at hx1
          exact ⟨⟨#[]⟩, .inr rfl, by simpa using hx1⟩
      clear hx1
      obtain ⟨x, hfx, hrx, hwi, hws⟩ := way_ok HR.out hway
      have HFX := Lib.hid hfx
      have HRX := Lib.hid hrx
      have HWI := Lib.hid hwi
      have HPW : Hid (pAt l way = (enc x, 0)) := by
        show _ = _
        rw [HPA.out]
        simp [hfx]
      have hxl : (enc x).length ≤ 4096 := by
        obtain ⟨pre, post, e⟩ := hwi
        have h1 := congrArg List.length e
        rw [HE.out] at h1
        simp only [List.length_append] at h1
        omega
      clear hfx hrx hwi hway HPA hrd
      have hlw : (k : Int) < (pWays t).length + 1 := by omega
      go_wp2_with fail
      refine (at_any w5 way (hv.below h05) (by omega)).mono ?_
      rw [HPW.out]
      rintro e w7 ⟨hb7, u, rfl, hu⟩
      have hN7 := (hb7.block w2.heap.size (by omega)).trans hN5
      have hs7 := hb7.size
      go_wp2_with fail
      refine (open_any w7 hu).mono ?_
      rw [pOpen_ok.2 ⟨hxl, HRX.out, rfl⟩]
      rintro e w8 ⟨hb8, c0, c1, c2, rfl, hn8⟩
      obtain ⟨A8, d8, B8, e8, hcs⟩ := nd_form hn8
      simp only [List.cons.injEq, and_true] at hcs
      obtain ⟨rfl, rfl, rfl⟩ := hcs
      have hN8 := (hb8.block w2.heap.size (by omega)).trans hN7
      have hs8 := hb8.size
      have hb9 := below_new w8 (Obj.cells #[.int .i64 x.kind, .slice A8 x.bytes.length d8, .slice B8 x.kids.length e8] 28)
      have hM9 := heap_alloc_new w8 (Obj.cells #[.int .i64 x.kind, .slice A8 x.bytes.length d8, .slice B8 x.kids.length e8] 28)
      have hs9 : (w8.alloc (Obj.cells #[.int .i64 x.kind, .slice A8 x.bytes.length d8, .slice B8 x.kids.length e8] 28)).heap.size = w8.heap.size + 1 := by simp
      have hN9 := (hb9.block w2.heap.size (by omega)).trans hN8
      have ⟨n0, n1, n2⟩ := cells3 hN9
      go_wp2_with fail
      generalize w8.alloc (Obj.cells #[.int .i64 x.kind, .slice A8 x.bytes.length d8, .slice B8 x.kids.length e8] 28) = w9 at *
      have h59 := hb7.via (hb8.via hb9)
      refine (tfind_any w9 way (hn5.below h59) hsz (by omega)).mono ?_
      rw [HFX.out]
      rintro e w10 ⟨hb10, c0, c1, c2, rfl, hn10⟩
      obtain ⟨A10, d10, B10, e10, hcs⟩ := nd_form hn10
      simp only [List.cons.injEq, and_true] at hcs
      obtain ⟨rfl, rfl, rfl⟩ := hcs
      have hM10 := (hb10.block w8.heap.size (by omega)).trans hM9
      have hs10 := hb10.size
      have hb11 := below_new w10 (Obj.cells #[.int .i64 x.kind, .slice A10 x.bytes.length d10, .slice B10 x.kids.length e10] 28)
      have hO11 := heap_alloc_new w10 (Obj.cells #[.int .i64 x.kind, .slice A10 x.bytes.length d10, .slice B10 x.kids.length e10] 28)
      have hM11 := (hb11.block w8.heap.size (by omega)).trans hM10
      clear n0 n1 n2
      have ⟨m0, m1, m2⟩ := cells3 hM11
      have ⟨o0, o1, o2⟩ := cells3 hO11
      have hszx : Sz x := by
        have := HRX.out
        simp only [rightB, Bool.and_eq_true] at this
        exact allB_sz x this.1.1
      go_wp2_with fail
      generalize w10.alloc (Obj.cells #[.int .i64 x.kind, .slice A10 x.bytes.length d10, .slice B10 x.kids.length e10] 28) = w11 at *
      have h8b := hb9.via (hb10.via hb11)
      have h5b := h59.via (hb10.via hb11)
      refine (tequal_any w11 (hn8.below h8b) (hn10.below hb11) hszx hszx).mono ?_
      rintro e w12 ⟨⟨z, rfl, hz⟩, hb12⟩
      obtain rfl : z = true := by
        rw [hz.out]
        unfold eqB
        rw [HRX.out, (sameB_iff _ _).2 rfl]
        rfl
      clear hz
      obtain ⟨pre, post, hpp⟩ := HWI.out
      have HPP := Lib.hid hpp
      clear hpp HWI
      go_wp2_with fail
      refine (within_any w12 (hu.below ((hb8.via h8b).via hb12)) (hv.below ((h05.via h5b).via hb12)) (enc_pos x) (by omega) (HE.out.symm.trans HPP.out)).mono ?_
      rintro e w13 ⟨rfl, hb13⟩
      go_wp2_with fail
      go_ret
      exact ⟨rfl, ((h05.via h5b).via hb12).via hb13⟩
    · have hz1 : (e0 != 0) = true := by simp [h0]
      have HT2 := Lib.hid (HTE.out h0)
      clear HTE HOA HPA
      go_wp2_with fail
      generalize w2.alloc (Obj.cells #[.int .i64 t.kind, .slice A t.bytes.length d, .slice B t.kids.length d2] 28) = w3 at *
      refine (at_any w3 ⟨#[]⟩ (hv.below h03) (by simp [ByteArray.size])).mono ?_
      rw [HT2.out]
      rintro e w4 ⟨hb4, u, rfl, hu⟩
      obtain ⟨U, uc, rfl, _⟩ := hu
      go_wp2_with fail
      go_ret
      exact ⟨by simp, h03.via hb4⟩
end Pk
end Go.Proofs.YtgfgdlnlafngnaaDoor
