/- Walks: tree.Equal. -/
import Derived.Test.YtgfgdlnlafngnaaDoorWm
namespace Go.Proofs.YtgfgdlnlafngnaaDoor
namespace Pk
open Go.RowKit

theorem bytesEqual_any {S S' : Nat → Prop} {v v' : Value} {l l' : List UInt8} (w : World) (h : BsAt S w v l) (h' : BsAt S' w v' l') :
    Calls Tryd.prog 83 #[v, v'] w fun e w' => RetB (l == l') e ∧ w = w' := by
  have h1 := conv_str h
  have h2 := conv_str h'
  obtain ⟨A, c, rfl, _⟩ := h
  obtain ⟨A', c', rfl, _⟩ := h'
  go_enter Tryd.func83, Tryd.ntmps83
  go_wp2_with fail
  go_ret
  refine ⟨.mk ?_, rfl⟩
  show Value.bool ((str l).toList == (str l').toList) = _
  rw [toList_data, toList_data, str_data, str_data]

/-- tree.same. -/
def TSameOk (t : Nd) : Prop := ∀ (t' : Nd) (w : World) (S S' : Nat → Prop) (cs cs' : List Value), NdAt S w t cs → NdAt S' w t' cs' →
  Calls Tryd.prog 53 #[.agg cs.toArray, .agg cs'.toArray] w fun e w' => RetB (sameB t t') e ∧ Below w.heap.size w w'

set_option maxRecDepth 100000 in
theorem tsame1_any {t t' : Nd} (ih : TSameOk t) {nm nm' : ByteArray} {S S' : Nat → Prop} {cs cs' : List Value} (w : World) (h : NdAt S w t cs) (h' : NdAt S' w t' cs') :
    Calls Tryd.prog 85 #[.agg (.string nm :: cs).toArray, .agg (.string nm' :: cs').toArray] w fun e w' => RetB (nm.toList == nm'.toList && sameB t t') e ∧ Below w.heap.size w w' := by
  obtain ⟨A, c, B, c2, rfl⟩ := nd_form h
  obtain ⟨A', c', B', c2', rfl⟩ := nd_form h'
  have hb2 := below_new2 w (Obj.cells #[.string nm, .int .i64 t.kind, .slice A t.bytes.length c, .slice B t.kids.length c2] 57) (Obj.cells #[.string nm', .int .i64 t'.kind, .slice A' t'.bytes.length c', .slice B' t'.kids.length c2'] 57)
  go_enter Tryd.func85, Tryd.ntmps85
  cases hnm : (nm.toList == nm'.toList) with
  | false =>
    go_wp2_with fail
    go_ret
    exact ⟨.mk rfl, hb2⟩
  | true =>
    go_wp2_with fail
    refine (ih t' _ S S' _ _ (h.below hb2) (h'.below hb2)).mono ?_
    rintro e w1 ⟨⟨z, rfl, hz⟩, hb3⟩
    go_wp2_with fail
    go_ret
    exact ⟨.mk (by rw [← hz.out]; rfl), hb2.via hb3⟩

set_option maxRecDepth 100000 in
set_option maxHeartbeats 1000000 in
theorem teqf_any {ks ks' : List (ByteArray × Nd)} (ih : ∀ x ∈ ks, TSameOk x.2) {S S' : Nat → Prop} {A A' : Option Addr} {c c' : Nat} {ca ca' : List Value} (w : World) (hr : Rd w S A ca) (ha : KsAt S w ks ca) (hr' : Rd w S' A' ca') (ha' : KsAt S' w ks' ca')
    (hl : ks.length ≤ 9223372036854775807) (_hl' : ks'.length ≤ 9223372036854775807) :
    Calls Tryd.prog 84 #[.slice A ks.length c, .slice A' ks'.length c', .func (.func 85) #[] #[]] w fun e w' => RetB (sameK ks ks') e ∧ Below w.heap.size w w' := by
  by_cases hlen : ks.length = ks'.length
  · rw [← hlen]
    have HL := Lib.hid hlen
    clear hlen
    go_enter Tryd.func84, Tryd.ntmps84
    go_wp2_with fail
    go_loopw [17] (fun i wr => ∃ j : Nat, j ≤ ks.length ∧ i = .int .i64 j ∧ sameK ks ks' = sameK (ks.drop j) (ks'.drop j) ∧ Below w.heap.size w wr) (fun i _ => ks.length - (intOf i).toNat)
    case atStart => exact ⟨0, by omega, rfl, rfl, Below.refl _ _⟩
    case round =>
      obtain ⟨j, hj, rfl, heq, hbl⟩ := hrel
      have HE := Lib.hid heq
      clear heq
      by_cases hlt : j < ks.length
      · have hlt' : j < ks'.length := by rw [← HL.out]; exact hlt
        obtain ⟨ad, A1, c1, B1, d1, rfl, _, x0, x1, x2, x3, hn1⟩ := kid_form (hr.below hbl) (ha.below hbl) j hlt
        obtain ⟨ad', A2, c2, B2, d2, rfl, _, x0', x1', x2', x3', hn2⟩ := kid_form (hr'.below hbl) (ha'.below hbl) j hlt'
        have hal := lt_of_cell x0
        have hal' := lt_of_cell x0'
        have hb2 := below_new2 wr (Obj.cells #[.string ks[j].1, .int .i64 ks[j].2.kind, .slice A1 ks[j].2.bytes.length c1, .slice B1 ks[j].2.kids.length d1] 57) (Obj.cells #[.string ks'[j].1, .int .i64 ks'[j].2.kind, .slice A2 ks'[j].2.bytes.length c2, .slice B2 ks'[j].2.kids.length d2] 57)
        have HD : Hid (sameK ks ks' = ((ks[j].1.toList == ks'[j].1.toList && sameB ks[j].2 ks'[j].2) && sameK (ks.drop (j + 1)) (ks'.drop (j + 1)))) := by
          show _ = _
          rw [HE.out, List.drop_eq_getElem_cons hlt, List.drop_eq_getElem_cons hlt']
          rfl
        go_wp2_with fail
        refine (tsame1_any (ih _ (List.getElem_mem hlt)) _ (hn1.below hb2) (hn2.below hb2)).mono ?_
        rintro e w3 ⟨⟨z, rfl, hz⟩, hb3⟩
        cases z with
        | false =>
          go_wp2_with fail
          go_ret
          exact ⟨.mk (by rw [HD.out, ← hz.out]; rfl), (hbl.via hb2).via hb3⟩
        | true =>
          go_wp2_with fail
          go_roundw
          · exact ⟨j + 1, by omega, rfl, by rw [HD.out, ← hz.out]; rfl, (hbl.via hb2).via hb3⟩
          · simp [intOf]; omega
      · go_wp2_with fail
        go_ret
        have e1 : ks.drop j = [] := List.drop_eq_nil_iff.2 (by omega)
        have e2 : ks'.drop j = [] := List.drop_eq_nil_iff.2 (by have := HL.out; omega)
        exact ⟨.mk (by rw [HE.out, e1, e2]; rfl), hbl⟩
  · have hne : ¬ (ks.length : Int) = ks'.length := by omega
    have HF : Hid (sameK ks ks' = false) := by
      show _ = _
      rw [Bool.eq_false_iff]
      intro h
      rw [sameK_iff] at h
      exact hlen (by rw [h])
    go_enter Tryd.func84, Tryd.ntmps84
    go_wp2_with fail
    go_ret
    exact ⟨.mk (by rw [HF.out]; rfl), Below.refl _ _⟩

set_option maxRecDepth 100000 in
set_option maxHeartbeats 1000000 in
theorem tsame_any : ∀ t, TSameOk t := by
  refine Nd.ind fun k b ks ih => ?_
  intro t' w S S' cs cs' h h'
  obtain ⟨k', b', ks'⟩ := t'
  unfold NdAt at h h'
  obtain ⟨vb, B, d, cells, rfl, hb, hd1, hd2, hr, hks⟩ := h
  obtain ⟨vb', B', d', cells', rfl, hb', hd1', hd2', hr', hks'⟩ := h'
  obtain ⟨A, c, rfl, hh⟩ := hb
  obtain ⟨A', c', rfl, hh'⟩ := hb'
  have hb : BsAt S w (.slice A b.length c) b := ⟨A, c, rfl, hh⟩
  have hb' : BsAt S' w (.slice A' b'.length c') b' := ⟨A', c', rfl, hh'⟩
  clear hh hh'
  have hb2 := below_new2 w (Obj.cells #[.int .i64 k, .slice A b.length c, .slice B ks.length d] 28) (Obj.cells #[.int .i64 k', .slice A' b'.length c', .slice B' ks'.length d'] 28)
  go_enter Tryd.func53, Tryd.ntmps53
  cases hk : (k == k') with
  | false =>
    have HF : Hid (sameB (.mk k b ks) (.mk k' b' ks') = false) := by
      show _ = _
      rw [sameB, hk]
      rfl
    go_wp2_with fail
    go_ret
    exact ⟨.mk (by rw [HF.out]; rfl), hb2⟩
  | true =>
    have HF : Hid (sameB (.mk k b ks) (.mk k' b' ks') = (b == b' && sameK ks ks')) := by
      show _ = _
      rw [sameB, hk]
      rfl
    go_wp2_with fail
    refine (bytesEqual_any _ (hb.below hb2) (hb'.below hb2)).mono ?_
    rintro e w1 ⟨⟨z, rfl, hz⟩, rfl⟩
    cases z with
    | false =>
      go_wp2_with fail
      go_ret
      exact ⟨.mk (by rw [HF.out, ← hz.out]; rfl), hb2⟩
    | true =>
      go_wp2_with fail
      refine (teqf_any ih _ (hr.below hb2) (hks.below hb2) (hr'.below hb2) (hks'.below hb2) (by omega) (by omega)).mono ?_
      rintro e w3 ⟨⟨z, rfl, hz2⟩, hb3⟩
      go_wp2_with fail
      go_ret
      exact ⟨.mk (by rw [HF.out, ← hz.out, ← hz2.out]; rfl), hb2.via hb3⟩

/-- tree.Equal. -/
def eqB (t t' : Nd) : Bool := rightB t && (rightB t' && sameB t t')

set_option maxRecDepth 100000 in
set_option maxHeartbeats 1000000 in
theorem tequal_any {t t' : Nd} {S S' : Nat → Prop} {cs cs' : List Value} (w : World) (h : NdAt S w t cs) (h' : NdAt S' w t' cs') (hsz : Sz t) (hsz' : Sz t') :
    Calls Tryd.prog 24 #[.agg cs.toArray, .agg cs'.toArray] w fun e w' => RetB (eqB t t') e ∧ Below w.heap.size w w' := by
  obtain ⟨A, c, B, d, rfl⟩ := nd_form h
  obtain ⟨A', c', B', d', rfl⟩ := nd_form h'
  have hb2 := below_new2 w (Obj.cells #[.int .i64 t.kind, .slice A t.bytes.length c, .slice B t.kids.length d] 28) (Obj.cells #[.int .i64 t'.kind, .slice A' t'.bytes.length c', .slice B' t'.kids.length d'] 28)
  have hN1 := blk_new' (heap_alloc_new w (Obj.cells #[.int .i64 t.kind, .slice A t.bytes.length c, .slice B t.kids.length d] 28)) (Obj.cells #[.int .i64 t'.kind, .slice A' t'.bytes.length c', .slice B' t'.kids.length d'] 28)
  have hN2 := heap_alloc_new (w.alloc (Obj.cells #[.int .i64 t.kind, .slice A t.bytes.length c, .slice B t.kids.length d] 28)) (Obj.cells #[.int .i64 t'.kind, .slice A' t'.bytes.length c', .slice B' t'.kids.length d'] 28)
  rw [show (w.alloc (Obj.cells #[.int .i64 t.kind, .slice A t.bytes.length c, .slice B t.kids.length d] 28)).heap.size = w.heap.size + 1 from by simp] at hN2
  have hs2 : ((w.alloc (Obj.cells #[.int .i64 t.kind, .slice A t.bytes.length c, .slice B t.kids.length d] 28)).alloc (Obj.cells #[.int .i64 t'.kind, .slice A' t'.bytes.length c', .slice B' t'.kids.length d'] 28)).heap.size = w.heap.size + 2 := by simp
  go_enter Tryd.func24, Tryd.ntmps24
  go_wp2_with fail
  generalize (w.alloc (Obj.cells #[.int .i64 t.kind, .slice A t.bytes.length c, .slice B t.kids.length d] 28)).alloc (Obj.cells #[.int .i64 t'.kind, .slice A' t'.bytes.length c', .slice B' t'.kids.length d'] 28) = w2 at *
  refine (right_is w2 (h.below hb2) hsz).mono ?_
  rintro e w3 ⟨⟨z, rfl, hz⟩, hb3⟩
  have hM1 := (hb3.block w.heap.size (by omega)).trans hN1
  have hM2 := (hb3.block (w.heap.size + 1) (by omega)).trans hN2
  have a0 : w3.cell? ⟨w.heap.size, 0, none⟩ = some (.int .i64 t.kind) := by rw [blk_cell' hM1]; rfl
  have a1 : w3.cell? ⟨w.heap.size, 1, none⟩ = some (.slice A t.bytes.length c) := by rw [blk_cell' hM1]; rfl
  have a2 : w3.cell? ⟨w.heap.size, 2, none⟩ = some (.slice B t.kids.length d) := by rw [blk_cell' hM1]; rfl
  have b0 : w3.cell? ⟨w.heap.size + 1, 0, none⟩ = some (.int .i64 t'.kind) := by rw [blk_cell' hM2]; rfl
  have b1 : w3.cell? ⟨w.heap.size + 1, 1, none⟩ = some (.slice A' t'.bytes.length c') := by rw [blk_cell' hM2]; rfl
  have b2 : w3.cell? ⟨w.heap.size + 1, 2, none⟩ = some (.slice B' t'.kids.length d') := by rw [blk_cell' hM2]; rfl
  have hb23 := hb2.via hb3
  cases z with
  | false =>
    go_wp2_with fail
    go_ret
    exact ⟨.mk (by rw [eqB, ← hz.out]; rfl), hb23⟩
  | true =>
    go_wp2_with fail
    refine (right_is w3 (h'.below hb23) hsz').mono ?_
    rintro e w4 ⟨⟨z, rfl, hz2⟩, hb4⟩
    have a0' := cell_later hb4 a0
    have a1' := cell_later hb4 a1
    have a2' := cell_later hb4 a2
    have b0' := cell_later hb4 b0
    have b1' := cell_later hb4 b1
    have b2' := cell_later hb4 b2
    have hb24 := hb23.via hb4
    cases z with
    | false =>
      go_wp2_with fail
      go_ret
      exact ⟨.mk (by rw [eqB, ← hz.out, ← hz2.out]; rfl), hb24⟩
    | true =>
      go_wp2_with fail
      refine (tsame_any t t' w4 S S' _ _ (h.below hb24) (h'.below hb24)).mono ?_
      rintro e w5 ⟨⟨z, rfl, hz3⟩, hb5⟩
      go_wp2_with fail
      go_ret
      exact ⟨.mk (by rw [eqB, ← hz.out, ← hz2.out, ← hz3.out]; rfl), hb24.via hb5⟩
end Pk
end Go.Proofs.YtgfgdlnlafngnaaDoor
