/- Walks: tree.Find. -/
import Derived.Test.YtgfgdlnlafngnaaDoorWz
import Derived.Test.YtgfgdlnlafngnaaDoorAt
namespace Go.Proofs.YtgfgdlnlafngnaaDoor
namespace Pk
open Go.RowKit

/-- What holds at the head of a round of tree.Find: j names are gone through. -/
structure FindInv (S : Nat → Prop) (t : Nd) (l : List ByteArray) (nb : Nat) (w : World) (j : Nat) (wr : World) : Prop where
  out : ∃ t' A c B d, wr.heap[nb]? = some (.cells #[.int .i64 t'.kind, .slice A t'.bytes.length c, .slice B t'.kids.length d] 28 (0, 0)) ∧ NdAt S wr t' [.int .i64 t'.kind, .slice A t'.bytes.length c, .slice B t'.kids.length d] ∧
    allB t' = true ∧ atNames t l = atNames t' (l.drop j) ∧ Chs (fun k => k = nb) w wr

theorem nd_kids {S : Nat → Prop} {w : World} {t : Nd} {c0 c1 : Value} {B : Option Addr} {n d : Nat} (h : NdAt S w t [c0, c1, .slice B n d]) : ∃ cells, Rd w S B cells ∧ KsAt S w t.kids cells := by
  obtain ⟨k, b, ks⟩ := t
  unfold NdAt at h
  obtain ⟨vb, B', d', cells, e, _, _, _, h1, h2⟩ := h
  simp only [List.cons.injEq, Value.slice.injEq, and_true] at e
  obtain ⟨_, _, rfl, _⟩ := e
  exact ⟨cells, h1, h2⟩
theorem chs_set3 {T : Nat → Prop} (w : World) (g : Nat) (x y z : Value) (hT : T g) : Chs T w (((w.setCell ⟨g, 0, none⟩ x).setCell ⟨g, 1, none⟩ y).setCell ⟨g, 2, none⟩ z) :=
  ((Chs.set w _ x hT).trans (Chs.set _ _ y hT)).trans (Chs.set _ _ z hT)
theorem blk_set3 {w : World} {g : Nat} {t : TypeId} {x y z : Value} (h : w.heap[g]? = some (.cells #[x, y, z] t (0, 0))) (x' y' z' : Value) :
    (((w.setCell ⟨g, 0, none⟩ x').setCell ⟨g, 1, none⟩ y').setCell ⟨g, 2, none⟩ z').heap[g]? = some (.cells #[x', y', z'] t (0, 0)) := blk_set' (blk_set' (blk_set' h 0 x') 1 y') 2 z'
theorem cells3 {w : World} {g : Nat} {t : TypeId} {x y z : Value} (h : w.heap[g]? = some (.cells #[x, y, z] t (0, 0))) : w.cell? ⟨g, 0, none⟩ = some x ∧ w.cell? ⟨g, 1, none⟩ = some y ∧ w.cell? ⟨g, 2, none⟩ = some z := by
  refine ⟨?_, ?_, ?_⟩ <;> rw [blk_cell' h] <;> rfl

set_option maxRecDepth 100000 in
set_option maxHeartbeats 4000000 in
theorem tfind_any {t : Nd} {S : Nat → Prop} {cs : List Value} (w : World) (way : ByteArray) (hn : NdAt S w t cs) (hsz : Sz t) (hws : way.size ≤ 1099511627776) :
    Calls Tryd.prog 27 #[.agg cs.toArray, .string way] w fun e w' => Below w.heap.size w w' ∧ ∃ c0 c1 c2, e = .returned (.tuple #[.agg #[c0, c1, c2], .int .i64 (pFind t way).2]) ∧ NdAt (fun k => w.heap.size ≤ k) w' (pFind t way).1 [c0, c1, c2] := by
  obtain ⟨A, c, B, c2, rfl⟩ := nd_form hn
  have hn0 := hn.bound
  go_enter Tryd.func27, Tryd.ntmps27
  go_wp2_with fail
  have hb1 := below_new2 w (Obj.cells #[.int .i64 t.kind, .slice A t.bytes.length c, .slice B t.kids.length c2] 28) (Obj.cells node0 28)
  have hN1 := blk_new' (heap_alloc_new w (Obj.cells #[.int .i64 t.kind, .slice A t.bytes.length c, .slice B t.kids.length c2] 28)) (Obj.cells node0 28)
  have hO1 := heap_alloc_new (w.alloc (Obj.cells #[.int .i64 t.kind, .slice A t.bytes.length c, .slice B t.kids.length c2] 28)) (Obj.cells node0 28)
  rw [show (w.alloc (Obj.cells #[.int .i64 t.kind, .slice A t.bytes.length c, .slice B t.kids.length c2] 28)).heap.size = w.heap.size + 1 from by simp] at hO1
  have hs1 : ((w.alloc (Obj.cells #[.int .i64 t.kind, .slice A t.bytes.length c, .slice B t.kids.length c2] 28)).alloc (Obj.cells node0 28)).heap.size = w.heap.size + 2 := by simp
  generalize (w.alloc (Obj.cells #[.int .i64 t.kind, .slice A t.bytes.length c, .slice B t.kids.length c2] 28)).alloc (Obj.cells node0 28) = w1 at *
  refine (right_is w1 (hn.below hb1) hsz).mono ?_
  rintro e w2 ⟨⟨z, rfl, hz⟩, hb2⟩
  have hN2 := (hb2.block w.heap.size (by omega)).trans hN1
  have hO2 := (hb2.block (w.heap.size + 1) (by omega)).trans hO1
  have hs2 := hb2.size
  have h02 := hb1.via hb2
  cases z with
  | false =>
    have HP : Hid (pFind t way = (.mk 0 [] [], 2)) := by
      show _ = _
      unfold pFind
      rw [← hz.out]
      rfl
    have ⟨m0, m1, m2⟩ := cells3 hO2
    have f0 := blk_frozen' hO2 0
    have f1 := blk_frozen' hO2 1
    have f2 := blk_frozen' hO2 2
    go_wp2_with fail
    rw [set3_same hO2]
    refine bodyPost_ret (v := .tuple #[.agg #[.int .i64 0, .slice none 0 0, .slice none 0 0], .int .i64 2]) (by simp [results, Tryd.results27, go_sem, m0, m1, m2]) rfl ?_
    exact ⟨h02, _, _, _, by rw [HP.out], by rw [HP.out]; exact nd_zero _ _⟩
  | true =>
    have hright := Lib.hid hz.out.symm
    go_wp2_with fail
    refine (way_any w2 way hws).mono ?_
    rintro e w3 ⟨hb3, L, lc, rfl, hlc, hL⟩
    have hN3 := (hb3.block w.heap.size (by omega)).trans hN2
    have hO3 := (hb3.block (w.heap.size + 1) (by omega)).trans hO2
    have hs3 := hb3.size
    have h03 := h02.via hb3
    have hpl := pWay_len way
    have HPF : Hid (pFind t way = if (pWay way).2 = 0 then (atNames t (pWay way).1).elim (.mk 0 [] [], 5) fun x => (x, 0) else (.mk 0 [] [], (pWay way).2)) := by
      show _ = _
      unfold pFind
      rw [hright.out]
      rfl
    rcases pWay_cases way with hc | ⟨hc, _⟩
    · generalize hnames : (pWay way).1 = names at *
      have HN := Lib.hid hnames
      have HPG : Hid (pFind t way = (atNames t names).elim (.mk 0 [] [], 5) fun x => (x, 0)) := by
        show _ = _
        rw [HPF.out, if_pos hc]
      rw [hc]
      clear hnames hc HPF
      go_wp2_with fail
      go_loopw [26] (fun i wr => ∃ j : Nat, j ≤ names.length ∧ i = .int .i64 j ∧ FindInv (fun k => S k ∧ k < w.heap.size) t names w.heap.size w3 j wr) (fun i _ => names.length - (intOf i).toNat)
      case atStart =>
        have hall : allB t = true := by
          have := hright.out
          simp only [rightB, Bool.and_eq_true] at this
          exact this.1.1
        exact ⟨0, by omega, rfl, ⟨t, A, c, B, c2, hN3, hn0.below h03, hall, rfl, Chs.refl _ _⟩⟩
      case round =>
        obtain ⟨j, hj, rfl, ⟨t', A', c', B', d', hNr, hnr, hall', hat, hch⟩⟩ := hrel
        have HAT := Lib.hid hat
        clear hat
        by_cases hlt : j < names.length
        · obtain ⟨ad, rfl, hge, hx⟩ := (hL.keep (hch.stays (fun k hk _ e => by omega))).at_ (j := j) (by simpa using hlt)
          rw [List.getElem_map] at hx
          have hOr := (hch.block (w.heap.size + 1) (by omega) (by omega)).trans hO3
          have hrs := hch.size
          have ⟨n0, n1, n2⟩ := cells3 hNr
          obtain ⟨hk200, hri, hkids⟩ := all_kids hall'
          have HRI := Lib.hid hri
          have HKIDS := Lib.hid hkids
          clear hri hkids
          have HDR : Hid (names.drop j = names[j] :: names.drop (j + 1)) := List.drop_eq_getElem_cons hlt
          go_wp2_with fail
          refine (find_any wr names[j] hnr hk200 HRI.out).mono ?_
          rintro e w4 ⟨rfl, hb4⟩
          have hs4 := hb4.size
          have hN4 := (hb4.block w.heap.size (by omega)).trans hNr
          have hO4 := (hb4.block (w.heap.size + 1) (by omega)).trans hOr
          have hch4 := hch.trans (Chs.of_below hb4)
          clear n0 n1 n2
          have ⟨n0, n1, n2⟩ := cells3 hN4
          have g0 := blk_frozen' hN4 0
          have g1 := blk_frozen' hN4 1
          have g2 := blk_frozen' hN4 2
          have ⟨m0, m1, m2⟩ := cells3 hO4
          have f0 := blk_frozen' hO4 0
          have f1 := blk_frozen' hO4 1
          have f2 := blk_frozen' hO4 2
          cases hth : isThere t'.kids names[j] with
          | false =>
            have HP : Hid (pFind t way = (.mk 0 [] [], 5)) := by
              show _ = _
              rw [HPG.out, HAT.out, HDR.out, at_none hth]
              rfl
            clear hth
            go_wp2_with fail
            rw [set3_same hO4]
            refine bodyPost_ret (v := .tuple #[.agg #[.int .i64 0, .slice none 0 0, .slice none 0 0], .int .i64 5]) (by simp [results, Tryd.results27, go_sem, m0, m1, m2]) rfl ?_
            exact ⟨((Chs.of_below h03).trans hch4).below (fun k hk e => by omega), _, _, _, by rw [HP.out], by rw [HP.out]; exact nd_zero _ _⟩
          | true =>
            have hpl2 := there_lt hth
            have HTH := Lib.hid hth
            clear hth
            obtain ⟨cells, hrk, hks⟩ := nd_kids (hnr.below hb4)
            generalize hp : posK t'.kids names[j] = p at *
            have HPOS := Lib.hid hp
            clear hp
            obtain ⟨kd, A1, c1, B1, d1, rfl, _, x0, x1, x2, x3, hn1⟩ := kid_form hrk hks p hpl2
            have HNX : Hid (atNames t names = atNames t'.kids[p].2 (names.drop (j + 1))) := by
              show _ = _
              rw [HAT.out, HDR.out, at_there HTH.out HPOS.out hpl2]
            go_wp2_with fail
            go_roundw
            · have hst := chs_set3 (T := fun k => k = w.heap.size) w4 w.heap.size (.int .i64 t'.kids[p].2.kind) (.slice A1 t'.kids[p].2.bytes.length c1) (.slice B1 t'.kids[p].2.kids.length d1) rfl
              exact ⟨j + 1, by omega, by simp, ⟨_, A1, c1, B1, d1, blk_set3 hN4 _ _ _, hn1.chs hst (fun k hk _ e => by omega), HKIDS.out _ (List.getElem_mem hpl2), HNX.out, hch4.trans hst⟩⟩
            · simp [intOf]; omega
        · have HP : Hid (pFind t way = (t', 0)) := by
            show _ = _
            have e1 : names.drop j = [] := List.drop_eq_nil_iff.2 (by omega)
            rw [HPG.out, HAT.out, e1]
            rfl
          have hOr := (hch.block (w.heap.size + 1) (by omega) (by omega)).trans hO3
          have hrs := hch.size
          have ⟨n0, n1, n2⟩ := cells3 hNr
          go_wp2_with fail
          refine (own_any t' wr _ _ hnr hall').mono ?_
          rintro e w5 ⟨hb5, v0, v1, v2, rfl, hn5⟩
          obtain ⟨A5, d5, B5, d6, hcs⟩ := nd_form hn5
          simp only [List.cons.injEq, and_true] at hcs
          obtain ⟨rfl, rfl, rfl⟩ := hcs
          have hO5 := (hb5.block (w.heap.size + 1) (by omega)).trans hOr
          have ⟨m0, m1, m2⟩ := cells3 hO5
          have f0 := blk_frozen' hO5 0
          have f1 := blk_frozen' hO5 1
          have f2 := blk_frozen' hO5 2
          have hs5 := hb5.size
          go_wp2_with fail
          have hst := chs_set3 (T := fun k => k = w.heap.size + 1) w5 (w.heap.size + 1) (.int .i64 t'.kind) (.slice A5 t'.bytes.length d5) (.slice B5 t'.kids.length d6) rfl
          have hO6 := blk_set3 hO5 (.int .i64 t'.kind) (.slice A5 t'.bytes.length d5) (.slice B5 t'.kids.length d6)
          generalize ((w5.setCell ⟨w.heap.size + 1, 0, none⟩ (.int .i64 t'.kind)).setCell ⟨w.heap.size + 1, 1, none⟩ (.slice A5 t'.bytes.length d5)).setCell ⟨w.heap.size + 1, 2, none⟩ (.slice B5 t'.kids.length d6) = w6 at *
          have ⟨k0, k1, k2⟩ := cells3 hO6
          refine bodyPost_ret (v := .tuple #[.agg #[(.int .i64 t'.kind), (.slice A5 t'.bytes.length d5), (.slice B5 t'.kids.length d6)], .int .i64 0]) (by simp [results, Tryd.results27, go_sem, k0, k1, k2]) rfl ?_
          refine ⟨((((Chs.of_below (T := fun k => w.heap.size ≤ k) h03).trans (hch.mono (fun k _ e => by omega))).trans (Chs.of_below hb5)).trans (hst.mono (fun k _ e => by omega))).below (fun k hk e => by omega), (.int .i64 t'.kind), (.slice A5 t'.bytes.length d5), (.slice B5 t'.kids.length d6), by rw [HP.out], ?_⟩
          rw [HP.out]
          exact NdAt.mono (fun k hk => by omega) _ _ (hn5.chs hst (fun k hk _ e => by omega))
    · have HP : Hid (pFind t way = (.mk 0 [] [], 4)) := by
        show _ = _
        rw [HPF.out, if_neg (by omega), hc]
      have ⟨m0, m1, m2⟩ := cells3 hO3
      have f0 := blk_frozen' hO3 0
      have f1 := blk_frozen' hO3 1
      have f2 := blk_frozen' hO3 2
      clear HPF
      rw [hc]
      clear hc
      go_wp2_with fail
      rw [set3_same hO3]
      refine bodyPost_ret (v := .tuple #[.agg #[.int .i64 0, .slice none 0 0, .slice none 0 0], .int .i64 4]) (by simp [results, Tryd.results27, go_sem, m0, m1, m2]) rfl ?_
      exact ⟨h03, _, _, _, by rw [HP.out], by rw [HP.out]; exact nd_zero _ _⟩
end Pk
end Go.Proofs.YtgfgdlnlafngnaaDoor
