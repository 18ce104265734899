/- Walks: names. -/
import Derived.Test.YtgfgdlnlafngnaaDoorWa
import Derived.Test.YtgfgdlnlafngnaaDoorSign
import Derived.Test.YtgfgdlnlafngnaaDoorShelf
import Derived.Laws.RangeAny
namespace Go.Proofs.YtgfgdlnlafngnaaDoor
namespace Pk
open Go.RowKit

set_option maxRecDepth 100000 in
set_option maxHeartbeats 1000000 in
theorem sign_any (c : Int) (w : World) (h0 : 0 ≤ c) (h1 : c ≤ 2147483647) : Calls Tryd.prog 110 #[.int .i32 c] w fun e w' => RetB (sgn c) e ∧ w = w' := by
  by_cases h : c < 128
  · have hs := sgn_small h0 h
    obtain ⟨b, hb⟩ : ∃ b, bits .or .i32 c 32 = b := ⟨_, rfl⟩
    have hl : low c = b := hb
    rw [hl] at hs
    have HS := Lib.hid hs
    clear hs hl
    by_cases hl : 65 ≤ c ∧ 97 ≤ b ∧ b ≤ 122
    · obtain ⟨g1, g2, g3⟩ := hl
      go_enter Tryd.func110, Tryd.ntmps110
      go_wp2
      go_ret
      exact ⟨.mk (by rw [HS.out]; simp [g1, g2, g3]), rfl⟩
    · have hcs : (c < 65 ∧ 48 ≤ c ∧ c ≤ 57) ∨ (c < 48) ∨ (c < 65 ∧ 57 < c) ∨ (65 ≤ c ∧ b < 97) ∨ (65 ≤ c ∧ 97 ≤ b ∧ 122 < b) := by omega
      clear hl
      rcases hcs with ⟨g1, g2, g3⟩ | g1 | ⟨g1, g2⟩ | ⟨g1, g2⟩ | ⟨g1, g2, g3⟩
      · go_enter Tryd.func110, Tryd.ntmps110
        go_wp2
        go_ret
        exact ⟨.mk (by rw [HS.out]; simp [g2, g3]), rfl⟩
      all_goals
        go_enter Tryd.func110, Tryd.ntmps110
        go_wp2_with (go_at_call 121; refine (Tryd.strings_IndexByte _ _ _).mono ?_; rintro e w1 ⟨rfl, rfl⟩)
        go_ret
        refine ⟨.mk ?_, rfl⟩
        rw [HS.out, marks]
        generalize decide (0 ≤ Lib.indexByte [46, 95, 43, 45] (UInt8.ofNat c.toNat)) = q
        refine congrArg Value.bool ?_
        cases q <;> rw [Bool.eq_iff_iff] <;> simp <;> omega
  · go_enter Tryd.func110, Tryd.ntmps110
    go_wp2
    go_ret
    exact ⟨.mk (by rw [sgn_big (by omega)]; rfl), rfl⟩
theorem signB_high {c : UInt8} (h : 128 ≤ c.toNat) : signB c = false := by
  have : ∀ c : UInt8, 128 ≤ c.toNat → signB c = false := by
    intro c hc
    simp only [signB, Bool.or_eq_false_iff, Bool.and_eq_false_iff, decide_eq_false_iff_not, beq_eq_false_iff_ne, UInt8.le_iff_toNat_le]
    refine ⟨⟨⟨⟨⟨⟨.inr ?_, .inr ?_⟩, .inr ?_⟩, ?_⟩, ?_⟩, ?_⟩, ?_⟩
    · show ¬ c.toNat ≤ 90
      omega
    · show ¬ c.toNat ≤ 122
      omega
    · show ¬ c.toNat ≤ 57
      omega
    all_goals
      rintro rfl
      revert hc
      decide
  exact this c h
theorem all_take_succ {l : List UInt8} {k : Nat} (h : k < l.length) (p : UInt8 → Bool) : (l.take (k + 1)).all p = ((l.take k).all p && p l[k]) := by
  rw [List.take_succ_eq_append_getElem h, List.all_append]
  simp
theorem nameB_not {s : ByteArray} {k : Nat} (h : k < s.data.toList.length) (hp : signB s.data.toList[k] = false) : nameB s = false := by
  have : s.data.toList.all signB = false := by
    rw [List.all_eq_false]
    exact ⟨_, List.getElem_mem h, by rw [hp]; decide⟩
  simp [nameB, this]

set_option maxRecDepth 100000 in
set_option maxHeartbeats 1000000 in
theorem name_any (s : ByteArray) (w : World) (hs : s.size ≤ 9223372036854775807) : Calls Tryd.prog 89 #[.string s] w fun e w' => RetB (nameB s) e ∧ Below w.heap.size w w' := by
  go_enter Tryd.func89, Tryd.ntmps89
  go_wp2
  go_loopw [4] (fun _ wr => ∃ pos : Nat, pos ≤ s.size ∧ wr = w.iter s pos ∧ (s.data.toList.take pos).all signB = true) (fun _ wr => s.size - wr.iterPos w.heap.size)
  case atStart => exact ⟨0, by omega, rfl, rfl⟩
  case round =>
    obtain ⟨pos, hp, rfl, ha⟩ := hrel
    have HA := Lib.hid ha
    clear ha
    have hbl : Below w.heap.size w (w.iter s pos) := below_new _ _
    by_cases hlt : pos < s.size
    · have hlt2 : pos < s.data.toList.length := by rw [size_data]; exact hlt
      have hge : s.data.toList[pos] = s[pos] := by simp; rfl
      by_cases h128 : (s[pos]'hlt).toNat < 128
      · have hn := fun ty => run_next_ascii (P := Tryd.prog) w s pos ty hlt h128
        have hsg : sgn ((s[pos].toNat : Nat) : Int) = signB s[pos] := by
          unfold sgn
          rw [decide_eq_true (by omega), Bool.true_and, Int.toNat_natCast]
          simp
        have hbl2 : Below w.heap.size w (w.iter s (pos + 1)) := below_new _ _
        have HG := Lib.hid hge
        have HSG := Lib.hid hsg
        clear hge hsg
        go_wp2_with fail
        refine (sign_any _ _ (by omega) (by omega)).mono ?_
        rintro e w1 ⟨⟨z, rfl, HZ⟩, rfl⟩
        cases z
        · go_wp2
          go_ret
          refine ⟨.mk (by rw [nameB_not hlt2 (by rw [HG.out, ← HSG.out]; exact HZ.out.symm)]; rfl), hbl2⟩
        · go_wp2
          go_roundw
          case rel => exact ⟨pos + 1, hlt, rfl, by rw [all_take_succ hlt2, HA.out, HG.out, ← HSG.out]; exact HZ.out.symm⟩
          case measure => simp; omega
      · have hn := fun ty => run_next_any (P := Tryd.prog) w s pos ty hlt
        have hh := decode_high s pos hlt (by omega)
        have hle := decode_le s pos
        have hs1 : signB s.data.toList[pos] = false := by rw [hge]; exact signB_high (by omega)
        have HF := Lib.hid (nameB_not hlt2 hs1)
        clear hge hs1
        obtain ⟨h1, _⟩ := hh
        have hbl2 : Below w.heap.size w (w.iter s (pos + (Utf8.decode s pos).2)) := below_new _ _
        generalize (Utf8.decode s pos).2 = q at *
        generalize (Utf8.decode s pos).1 = r at *
        go_wp2_with fail
        refine (sign_any _ _ (by omega) (by omega)).mono ?_
        rintro e w1 ⟨⟨z, rfl, HZ⟩, rfl⟩
        have hz : z = false := by rw [HZ.out]; exact sgn_big (by omega)
        subst hz
        go_wp2
        go_ret
        exact ⟨.mk (by rw [HF.out]; rfl), hbl2⟩
    · have hn := fun ty => run_next_end (P := Tryd.prog) w s pos ty hlt
      have hall : s.data.toList.all signB = true := by
        have := HA.out
        rw [List.take_of_length_le (by rw [size_data]; omega)] at this
        exact this
      have HL := Lib.hid hall
      clear hall
      by_cases h0 : s.size = 0
      · have he : s.toList.isEmpty = true := by
          rw [toList_data]
          have := size_data s
          rw [h0] at this
          rw [List.length_eq_zero_iff.1 this]
          rfl
        have HF : Hid (nameB s = false) := by
          show nameB s = false
          simp [nameB, h0]
        have hne : ¬ 0 < s.size := by omega
        clear h0
        go_wp2
        go_ret
        exact ⟨.mk (by rw [HF.out]; rfl), hbl⟩
      · have h1 : 0 < s.size := by omega
        clear h0
        have he : s.toList.isEmpty = false := by
          rw [toList_data]
          have := size_data s
          cases hs : s.data.toList with
          | nil => rw [hs] at this; simp at this; omega
          | cons x l => rfl
        by_cases h24 : s.size ≤ 24
        · have hhd : s.data.toList.head? = some s[0] := by
            have := size_data s
            rw [List.head?_eq_getElem?, List.getElem?_eq_getElem (by omega)]
            simp
            rfl
          have HF : Hid (nameB s = ((s[0].toNat : Int) != 46)) := by
            show nameB s = ((s[0].toNat : Int) != 46)
            unfold nameB
            rw [HL.out, decide_eq_true (by omega), decide_eq_true h24, hhd]
            rw [Bool.eq_iff_iff]
            simp only [Bool.true_and, decide_eq_true_eq, bne_iff_ne, ne_eq, Option.some.injEq]
            constructor
            · intro h e
              exact h (UInt8.toNat_inj.1 (by simp; omega))
            · intro h e
              rw [e] at h
              exact h rfl
          clear hhd
          go_wp2
          go_ret
          exact ⟨.mk (by rw [HF.out]; rfl), hbl⟩
        · have HF : Hid (nameB s = false) := by
            show nameB s = false
            simp [nameB, h24]
          go_wp2
          go_ret
          exact ⟨.mk (by rw [HF.out]; rfl), hbl⟩
end Pk
end Go.Proofs.YtgfgdlnlafngnaaDoor
