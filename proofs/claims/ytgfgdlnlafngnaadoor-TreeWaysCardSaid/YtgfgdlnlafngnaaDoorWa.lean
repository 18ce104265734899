/- Walks: bytes held against bytes. -/
import Derived.Test.YtgfgdlnlafngnaaDoorProg
import Derived.Test.YtgfgdlnlafngnaaDoorMem
import Derived.WalkKit
import Derived.WalkSpells
import Derived.WalkLawsBesides
import Derived.Deep.QuietTactic
import Derived.BigQuiet
import Derived.Lib.Hide
namespace Go.Proofs.YtgfgdlnlafngnaaDoor
namespace Pk
open Go.RowKit

/-- The walk stops here: its next operation is met by hand. -/
def Stp (p : Prop) : Prop := p
theorem Stp.mk {p : Prop} (h : Stp p) : p := h
theorem Stp.of {p : Prop} (h : p) : Stp p := h
theorem bcs_get {l : List UInt8} {k : Nat} (h : k < (bcs l).length) : (bcs l)[k] = u8v (l[k]'(by simpa using h)) := by simp
theorem BsAt.cell {S : Nat → Prop} {w : World} {A : Option Addr} {n c : Nat} {l : List UInt8} (h : BsAt S w (.slice A n c) l) (k : Nat) (hk : k < l.length) :
    ∃ ad, A = some ad ∧ w.cell? (ad.add k) = some (u8v l[k]) := by
  obtain ⟨A', c', e, _, _, hr⟩ := h
  simp only [Value.slice.injEq] at e
  obtain ⟨rfl, rfl, rfl⟩ := e
  obtain ⟨ad, e, _, hc⟩ := hr.at_ (j := k) (by simpa using hk)
  exact ⟨ad, e, by rw [hc, bcs_get]⟩
theorem take_eq_succ {a b : List UInt8} {k : Nat} (ha : k < a.length) (hb : k < b.length) (h : a.take k = b.take k) (e : a[k] = b[k]) : a.take (k + 1) = b.take (k + 1) := by
  rw [List.take_succ_eq_append_getElem ha, List.take_succ_eq_append_getElem hb, h, e]
theorem ne_of_get {a b : List UInt8} {k : Nat} (ha : k < a.length) (hb : k < b.length) (e : a[k] ≠ b[k]) : (a == b) = false := by
  rw [beq_eq_false_iff_ne]
  rintro rfl
  exact e rfl

set_option maxHeartbeats 400000 in
theorem sameBytes_any {S S' : Nat → Prop} {va vb : Value} {a b : List UInt8} (w : World) (ha : BsAt S w va a) (hb : BsAt S' w vb b) :
    Calls Tryd.prog 16 #[va, vb] w fun e w' => RetB (a == b) e ∧ Dr w w' := by
  have ha0 := ha
  have hb0 := hb
  obtain ⟨A, c, rfl, h1, h2, hra⟩ := ha
  obtain ⟨B, d, rfl, h3, h4, hrb⟩ := hb
  by_cases hl : a.length = b.length
  · have hl0 : ((a.length : Int) != (b.length : Int)) = false := by simp [hl]
    have HL := Lib.hid hl
    clear hl
    go_enter Tryd.func16, Tryd.ntmps16
    go_wp2
    go_loopw [5] (fun i wr => ∃ k n : Nat, k ≤ a.length ∧ i = .int .i64 k ∧ a.take k = b.take k ∧ wr = w.drewN n) (fun i _ => a.length - (intOf i).toNat)
    case atStart => exact ⟨0, 0, by omega, rfl, rfl, rfl⟩
    case round =>
      obtain ⟨k, n, hk, rfl, ht, rfl⟩ := hrel
      have HT := Lib.hid ht
      clear ht
      by_cases hlt : k < a.length
      · have hltb : k < b.length := by rw [← HL.out]; exact hlt
        obtain ⟨ad, rfl, hca⟩ := ha0.cell k hlt
        obtain ⟨bd, rfl, hcb⟩ := hb0.cell k hltb
        by_cases e : a[k] = b[k]
        · have he : ((a[k].toNat : Int) != (b[k].toNat : Int)) = false := by simp [e]
          have hs := take_eq_succ hlt hltb HT.out e
          have HS := Lib.hid hs
          clear hs e
          go_wp2_with fail
          go_quiet (fail)
          go_wp2
          go_roundw
          case rel => exact ⟨k + 1, _, hlt, by go_num, HS.out, rfl⟩
          case measure => simp [intOf]; omega
        · have he : ((a[k].toNat : Int) != (b[k].toNat : Int)) = true := by
            simp only [bne_iff_ne, ne_eq]
            intro e2
            exact e (UInt8.toNat_inj.1 (by omega))
          have hs := ne_of_get hlt hltb e
          have HS := Lib.hid hs
          clear hs e
          go_wp2_with fail
          go_quiet (fail)
          go_wp2
          go_ret
          exact ⟨.mk (by rw [HS.out]; rfl), (Dr.then_ ⟨n, rfl⟩ _)⟩
      · go_wp2
        go_ret
        refine ⟨?_, ⟨n, rfl⟩⟩
        have e1 : a.take k = a := List.take_of_length_le (by omega)
        have e2 : b.take k = b := List.take_of_length_le (by have := HL.out; omega)
        have := HT.out
        rw [e1, e2] at this
        exact .mk (by rw [this]; simp)
  · have hl0 : ((a.length : Int) != (b.length : Int)) = true := by simp; omega
    have hs : (a == b) = false := by
      rw [beq_eq_false_iff_ne]
      rintro rfl
      exact hl rfl
    have HS := Lib.hid hs
    clear hs
    go_enter Tryd.func16, Tryd.ntmps16
    go_wp2
    go_ret
    exact ⟨.mk (by rw [HS.out]; rfl), Dr.refl _⟩
end Pk
end Go.Proofs.YtgfgdlnlafngnaaDoor
