/- Walks: trees held against trees. -/
import Derived.Test.YtgfgdlnlafngnaaDoorWa
import Derived.Deep.RegionHeld3
namespace Go.Proofs.YtgfgdlnlafngnaaDoor
namespace Pk
open Go.RowKit

/-- What SameNode comes to at a tree. -/
def SameNodeAt (t : Nd) : Prop := ∀ (t' : Nd) (S S' : Nat → Prop) (w : World) (c0 c1 c2 d0 d1 d2 : Value), NdAt S w t [c0, c1, c2] → NdAt S' w t' [d0, d1, d2] →
    Calls Tryd.prog 15 #[.agg #[c0, c1, c2], .agg #[d0, d1, d2]] w fun e w' => RetB (sameB t t') e ∧ Below w.heap.size w w'

set_option maxHeartbeats 400000 in
theorem sameKid_any {t t' : Nd} (ht : SameNodeAt t) {S S' : Nat → Prop} {nm nm' : ByteArray} {c0 c1 c2 d0 d1 d2 : Value} (w : World) (ha : NdAt S w t [c0, c1, c2]) (hb : NdAt S' w t' [d0, d1, d2]) :
    Calls Tryd.prog 78 #[.agg #[.string nm, c0, c1, c2], .agg #[.string nm', d0, d1, d2]] w fun e w' => RetB (nm.toList == nm'.toList && sameB t t') e ∧ Below w.heap.size w w' := by
  cases e : (nm.toList == nm'.toList)
  · go_enter Tryd.func78, Tryd.ntmps78
    go_wp2
    go_ret
    exact ⟨.mk rfl, below_new2 _ _ _⟩
  · go_enter Tryd.func78, Tryd.ntmps78
    go_wp2_with fail
    have hn := below_new2 w (Obj.cells #[Value.string nm, c0, c1, c2] 57) (Obj.cells #[Value.string nm', d0, d1, d2] 57)
    refine (ht t' S S' _ c0 c1 c2 d0 d1 d2 (ha.below hn) (hb.below hn)).mono ?_
    rintro e2 w1 ⟨⟨z, rfl, HZ⟩, hb1⟩
    go_wp2
    go_ret
    exact ⟨.mk (by rw [Bool.true_and, ← HZ.out]; rfl), hn.via hb1⟩

set_option maxHeartbeats 1000000 in
theorem sameKids_any {ks ks' : List (ByteArray × Nd)} (hk : ∀ x ∈ ks, SameNodeAt x.2) {S S' : Nat → Prop} {A B : Option Addr} {c d : Nat} {ca cb : List Value} (w : World)
    (hla : ks.length ≤ 9223372036854775807) (hra : Rd w S A ca) (ha : KsAt S w ks ca) (hrb : Rd w S' B cb) (hb : KsAt S' w ks' cb) :
    Calls Tryd.prog 50 #[.slice A ks.length c, .slice B ks'.length d] w fun e w' => RetB (sameK ks ks') e ∧ Below w.heap.size w w' := by
  by_cases hl : ks.length = ks'.length
  · have hl0 : ((ks.length : Int) != (ks'.length : Int)) = false := by simp [hl]
    have HL := Lib.hid hl
    clear hl
    have HK := Lib.hid hk
    clear hk
    go_enter Tryd.func50, Tryd.ntmps50
    go_wp2
    go_loopw [5] (fun i wr => ∃ k : Nat, k ≤ ks.length ∧ i = .int .i64 k ∧ sameK ks ks' = sameK (ks.drop k) (ks'.drop k) ∧ Below w.heap.size w wr) (fun i _ => ks.length - (intOf i).toNat)
    case atStart => exact ⟨0, by omega, rfl, rfl, Below.refl _ _⟩
    case round =>
      obtain ⟨k, hk, rfl, ht, hbl⟩ := hrel
      have HT := Lib.hid ht
      clear ht
      by_cases hlt : k < ks.length
      · have hltb : k < ks'.length := by rw [← HL.out]; exact hlt
        have hra1 := hra.below hbl
        have hrb1 := hrb.below hbl
        have ha1 := ha.below hbl
        have hb1 := hb.below hbl
        obtain ⟨ad, v0, v1, v2, rfl, _, x0, x1, x2, x3, hn⟩ := kid_cells hra1 ha1 k hlt
        obtain ⟨bd, u0, u1, u2, rfl, _, y0, y1, y2, y3, hm⟩ := kid_cells hrb1 hb1 k hltb
        have hkk := HK.out ks[k] (List.getElem_mem hlt)
        go_wp2_with fail
        go_region_held3 (fun w' => w'.cell? (ad.add (k * 4)) = some (Value.string ks[k].fst) ∧ w'.cell? ⟨(ad.add (k * 4)).block, (ad.add (k * 4)).off + 1, none⟩ = some v0 ∧ w'.cell? ⟨(ad.add (k * 4)).block, (ad.add (k * 4)).off + 2, none⟩ = some v1 ∧ w'.cell? ⟨(ad.add (k * 4)).block, (ad.add (k * 4)).off + 3, none⟩ = some v2 ∧
            w'.cell? (bd.add (k * 4)) = some (Value.string ks'[k].fst) ∧ w'.cell? ⟨(bd.add (k * 4)).block, (bd.add (k * 4)).off + 1, none⟩ = some u0 ∧ w'.cell? ⟨(bd.add (k * 4)).block, (bd.add (k * 4)).off + 2, none⟩ = some u1 ∧ w'.cell? ⟨(bd.add (k * 4)).block, (bd.add (k * 4)).off + 3, none⟩ = some u2)
          (first | go_keep | exact ⟨cell_later hbq x0, cell_later hbq x1, cell_later hbq x2, cell_later hbq x3, cell_later hbq y0, cell_later hbq y1, cell_later hbq y2, cell_later hbq y3⟩)
          ((go_at_call 78; refine (sameKid_any hkk _ (hn.below (below_dr _)) (hm.below (below_dr _))).mono ?_; rintro e w1 ⟨⟨z, rfl, HZ⟩, hbq⟩))
        have hdr : ks.drop k = ks[k] :: ks.drop (k + 1) := List.drop_eq_getElem_cons hlt
        have hdr' : ks'.drop k = ks'[k] :: ks'.drop (k + 1) := List.drop_eq_getElem_cons hltb
        have HX : Hid (sameK ks ks' = ((ks[k].1.toList == ks'[k].1.toList && sameB ks[k].2 ks'[k].2) && sameK (ks.drop (k + 1)) (ks'.drop (k + 1)))) := by
          have := HT.out
          rw [hdr, hdr'] at this
          exact this
        clear hdr hdr' HT
        cases z
        · go_wp2
          go_ret
          exact ⟨.mk (by rw [HX.out, ← HZ.out]; rfl), (hbl.via (below_dr _)).via hbq⟩
        · go_wp2
          go_roundw
          case rel => exact ⟨k + 1, hlt, by go_num, by rw [HX.out, ← HZ.out]; rfl, (hbl.via (below_dr _)).via hbq⟩
          case measure => simp [intOf]; omega
      · go_wp2
        go_ret
        have e1 : ks.drop k = [] := List.drop_eq_nil_iff.2 (by omega)
        have e2 : ks'.drop k = [] := List.drop_eq_nil_iff.2 (by have := HL.out; omega)
        have := HT.out
        rw [e1, e2] at this
        exact ⟨.mk (by rw [this]; rfl), hbl⟩
  · have hl0 : ((ks.length : Int) != (ks'.length : Int)) = true := by simp; omega
    have hs : sameK ks ks' = false := by
      cases hs : sameK ks ks'
      · rfl
      · exact absurd (congrArg List.length ((sameK_iff _ _).1 hs)) hl
    have HS := Lib.hid hs
    clear hs
    go_enter Tryd.func50, Tryd.ntmps50
    go_wp2
    go_ret
    exact ⟨.mk (by rw [HS.out]; rfl), Below.refl _ _⟩
set_option maxHeartbeats 1000000 in
theorem sameNode_any : ∀ t : Nd, SameNodeAt t := Nd.ind (by
  rintro k b ks ih ⟨k', b', ks'⟩ S S' w c0 c1 c2 d0 d1 d2 ha hb
  have ha0 := ha
  have hb0 := hb
  unfold NdAt at ha hb
  obtain ⟨va, A, c, ca, ea, hba, hla, hlc, hra, hka⟩ := ha
  obtain ⟨vb, B, d, cb, eb, hbb, hlb, hld, hrb, hkb⟩ := hb
  simp only [List.cons.injEq, and_true] at ea eb
  obtain ⟨rfl, rfl, rfl⟩ := ea
  obtain ⟨rfl, rfl, rfl⟩ := eb
  have IH := Lib.hid ih
  clear ih
  have hn := below_new2 w (Obj.cells #[Value.int .i64 k, c1, .slice A ks.length c] 28) (Obj.cells #[Value.int .i64 k', d1, .slice B ks'.length d] 28)
  have HE : sameB (.mk k b ks) (.mk k' b' ks') = (k == k' && (b == b' && sameK ks ks')) := by simp [sameB]
  cases e : (k == k')
  · rw [HE, e]
    clear HE
    go_enter Tryd.func15, Tryd.ntmps15
    go_wp2
    go_ret
    exact ⟨.mk rfl, hn⟩
  · rw [HE, e]
    clear HE
    go_enter Tryd.func15, Tryd.ntmps15
    go_wp2_with fail
    refine (sameBytes_any _ (hba.below hn) (hbb.below hn)).mono ?_
    rintro e1 w1 ⟨⟨z, rfl, HZ⟩, hd⟩
    have hb1 := hn.via hd.below
    cases z
    · go_wp2
      go_ret
      exact ⟨.mk (by rw [← HZ.out]; rfl), hb1⟩
    · have h0 : w1.cell? ⟨w.heap.size, 2, none⟩ = some (.slice A ks.length c) := cell_later hd.below (by simp)
      have h1 : w1.cell? ⟨w.heap.size + 1, 2, none⟩ = some (.slice B ks'.length d) := cell_later hd.below (by simp)
      go_wp2_with fail
      refine (sameKids_any IH.out _ (by omega) (hra.below hb1) (hka.below hb1) (hrb.below hb1) (hkb.below hb1)).mono ?_
      rintro e2 w2 ⟨⟨z, rfl, HZ2⟩, hb2⟩
      go_wp2
      go_ret
      exact ⟨.mk (by rw [← HZ.out, ← HZ2.out]; rfl), hb1.via hb2⟩)
end Pk
end Go.Proofs.YtgfgdlnlafngnaaDoor
