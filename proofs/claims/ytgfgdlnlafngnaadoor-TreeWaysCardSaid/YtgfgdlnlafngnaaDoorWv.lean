/- Walks: tree.find. -/
import Derived.Test.YtgfgdlnlafngnaaDoorWu
import Derived.Test.YtgfgdlnlafngnaaDoorFind
import Derived.Test.YtgfgdlnlafngnaaDoorShelf
namespace Go.Proofs.YtgfgdlnlafngnaaDoor
namespace Pk
open Go.RowKit

theorem cmp_lt : ∀ a b : List UInt8, decide (Lib.compareBytes a b < 0) = Op.bytesLess a b
  | [], [] => rfl
  | [], _ :: _ => rfl
  | _ :: _, [] => rfl
  | x :: a, y :: b => by
    have ih := cmp_lt a b
    simp only [Lib.compareBytes, Op.bytesLess]
    by_cases h1 : x < y
    · simp [h1]
    · by_cases h2 : y < x
      · have h3 : ¬ x = y := fun e => by subst e; exact h1 h2
        simp [h1, h2, h3]
      · have h3 : x = y := UInt8.toNat_inj.1 (by simp only [UInt8.lt_iff_toNat_lt] at h1 h2; omega)
        subst h3
        simp [h1, ih]
theorem cmp_eq : ∀ a b : List UInt8, (Lib.compareBytes a b == 0) = (a == b)
  | [], [] => rfl
  | [], _ :: _ => rfl
  | _ :: _, [] => rfl
  | x :: a, y :: b => by
    have ih := cmp_eq a b
    simp only [Lib.compareBytes, List.cons_beq_cons]
    by_cases h1 : x < y
    · have h3 : ¬ x = y := fun e => by subst e; simp [UInt8.lt_irrefl] at h1
      simp [h1, h3]
    · by_cases h2 : y < x
      · have h3 : ¬ x = y := fun e => by subst e; exact h1 h2
        simp [h1, h2, h3]
      · have h3 : x = y := UInt8.toNat_inj.1 (by simp only [UInt8.lt_iff_toNat_lt] at h1 h2; omega)
        subst h3
        simp [h1, ih]

theorem find1_any {t : Nd} {nm s : ByteArray} {S : Nat → Prop} {cs : List Value} (w : World) (h : NdAt S w t cs) :
    Calls Tryd.prog 91 #[.agg (.string nm :: cs).toArray, .string s] w fun e w' => e = .returned (.int .i64 (Lib.compareBytes nm.data.toList s.data.toList)) ∧ Below w.heap.size w w' := by
  obtain ⟨A, c, B, c2, rfl⟩ := nd_form h
  go_enter Tryd.func91, Tryd.ntmps91
  go_wp2_with fail
  refine (Tryd.strings_Compare nm s _).mono ?_
  rintro e w1 ⟨rfl, rfl⟩
  go_wp2_with fail
  go_ret
  exact ⟨rfl, below_new _ _⟩

set_option maxRecDepth 100000 in
set_option maxHeartbeats 1000000 in
theorem bsearch_any {ks : List (ByteArray × Nd)} {S : Nat → Prop} {A : Option Addr} {c : Nat} {ca : List Value} (w : World) (nm : ByteArray) (hr : Rd w S A ca) (ha : KsAt S w ks ca) (hl : ks.length ≤ 4611686018427387903) (hri : risesB none ks = true) :
    Calls Tryd.prog 90 #[.slice A ks.length c, .string nm, .func (.func 91) #[] #[]] w fun e w' =>
      e = .returned (.tuple #[.int .i64 (posK ks nm), .bool (isThere ks nm)]) ∧ Below w.heap.size w w' := by
  have HRI := Lib.hid hri
  clear hri
  go_enter Tryd.func90, Tryd.ntmps90
  go_wp2_with fail
  go_loopw [9, 10] (fun a b wr => ∃ i j : Nat, i ≤ j ∧ j ≤ ks.length ∧ a = .int .i64 i ∧ b = .int .i64 j ∧ (∀ x (_ : x < i) (hx : x < ks.length), ltB ks[x].1 nm = true) ∧ (∀ x (_ : j ≤ x) (hx : x < ks.length), ltB ks[x].1 nm = false) ∧ Below w.heap.size w wr) (fun a b _ => (intOf b).toNat - (intOf a).toNat)
  case atStart => exact ⟨0, ks.length, by omega, by omega, rfl, rfl, fun x h _ => by omega, fun x h hx => by omega, Below.refl _ _⟩
  case round =>
    obtain ⟨i, j, hij, hj, rfl, rfl, h1, h2, hbl⟩ := hrel
    have H1 := Lib.hid h1
    have H2 := Lib.hid h2
    clear h1 h2
    by_cases hlt : i < j
    · obtain ⟨ad, A1, c1, B1, d1, rfl, _, x0, x1, x2, x3, hn1⟩ := kid_form (hr.below hbl) (ha.below hbl) ((i + j) / 2) (by omega)
      go_wp2_with fail
      refine (find1_any (nm := ks[(i + j) / 2].1) (s := nm) wr hn1).mono ?_
      rintro e w2 ⟨rfl, hb2⟩
      have HC : Hid (decide (Lib.compareBytes ks[(i + j) / 2].1.data.toList nm.data.toList < 0) = ltB ks[(i + j) / 2].1 nm) := cmp_lt _ _
      generalize Lib.compareBytes ks[(i + j) / 2].1.data.toList nm.data.toList = cv at *
      by_cases hcv : cv < 0
      · have HL : Hid (ltB ks[(i + j) / 2].1 nm = true) := by
          show _ = _
          rw [← HC.out]
          simp [hcv]
        clear HC
        go_wp2_with fail
        go_roundw
        · refine ⟨(i + j) / 2 + 1, j, by omega, hj, by simp, rfl, fun x hx1 hx2 => ?_, H2.out, hbl.via hb2⟩
          rcases Nat.lt_or_ge x ((i + j) / 2) with h | h
          · exact ltB_trans (rises_lt HRI.out h (by omega)) HL.out
          · have e : x = (i + j) / 2 := by omega
            subst e
            exact HL.out
        · simp [intOf]; omega
      · have HL : Hid (ltB ks[(i + j) / 2].1 nm = false) := by
          show _ = _
          rw [← HC.out]
          simp [hcv]
        clear HC
        go_wp2_with fail
        go_roundw
        · refine ⟨i, (i + j) / 2, by omega, by omega, rfl, by simp, H1.out, fun x hx1 hx2 => ?_, hbl.via hb2⟩
          rcases Nat.lt_or_ge ((i + j) / 2) x with h | h
          · rw [Bool.eq_false_iff]
            intro h3
            have := ltB_trans (rises_lt HRI.out h hx2) h3
            rw [HL.out] at this
            cases this
          · have e : x = (i + j) / 2 := by omega
            subst e
            exact HL.out
        · simp [intOf]; omega
    · have hije : i = j := by omega
      subst hije
      have HP : Hid (posK ks nm = i) := posK_eq hj H1.out (fun hx => H2.out i (by omega) hx)
      by_cases hin : i < ks.length
      · obtain ⟨ad, A1, c1, B1, d1, rfl, _, x0, x1, x2, x3, hn1⟩ := kid_form (hr.below hbl) (ha.below hbl) i hin
        have HI : Hid (isThere ks nm = (ks[i].1.data.toList == nm.data.toList)) := by
          show _ = _
          unfold isThere
          rw [HP.out, List.getElem?_eq_getElem hin, ← toList_data, ← toList_data]
          rfl
        go_wp2_with fail
        refine (find1_any (nm := ks[i].1) (s := nm) wr hn1).mono ?_
        rintro e w2 ⟨rfl, hb2⟩
        have HC : Hid ((Lib.compareBytes ks[i].1.data.toList nm.data.toList == 0) = (ks[i].1.data.toList == nm.data.toList)) := cmp_eq _ _
        generalize Lib.compareBytes ks[i].1.data.toList nm.data.toList = cv at *
        go_wp2_with fail
        go_ret2
        exact ⟨by rw [HP.out, HI.out, ← HC.out]; rfl, hbl.via hb2⟩
      · have HI : Hid (isThere ks nm = false) := by
          show _ = _
          unfold isThere
          rw [HP.out, List.getElem?_eq_none (by omega)]
          rfl
        go_wp2_with fail
        go_ret2
        exact ⟨by rw [HP.out, HI.out]; rfl, hbl⟩

set_option maxRecDepth 100000 in
theorem find_any {t : Nd} {S : Nat → Prop} {cs : List Value} (w : World) (nm : ByteArray) (h : NdAt S w t cs) (hl : t.kids.length ≤ 200) (hri : risesB none t.kids = true) :
    Calls Tryd.prog 56 #[.agg cs.toArray, .string nm] w fun e w' => e = .returned (.tuple #[.int .i64 (posK t.kids nm), .bool (isThere t.kids nm)]) ∧ Below w.heap.size w w' := by
  obtain ⟨k, b, ks⟩ := t
  unfold NdAt at h
  obtain ⟨vb, B, d, cells, rfl, ⟨A, c, rfl, _⟩, _, _, hr, hks⟩ := h
  have hb := below_new w (Obj.cells #[.int .i64 k, .slice A b.length c, .slice B ks.length d] 28)
  dsimp only [Nd.kids] at hl hri ⊢
  go_enter Tryd.func56, Tryd.ntmps56
  go_wp2_with fail
  refine (bsearch_any _ nm (hr.below hb) (hks.below hb) (by omega) hri).mono ?_
  rintro e w1 ⟨rfl, hb1⟩
  go_wp2_with fail
  go_ret2
  exact ⟨rfl, hb.via hb1⟩
end Pk
end Go.Proofs.YtgfgdlnlafngnaaDoor
