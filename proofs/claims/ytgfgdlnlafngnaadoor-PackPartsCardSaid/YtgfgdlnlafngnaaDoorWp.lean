/- Walks: the maker. -/
import Derived.Test.YtgfgdlnlafngnaaDoorWo
import Derived.LoopN
namespace Go.Proofs.YtgfgdlnlafngnaaDoor
namespace Pk
open Go.RowKit

theorem allow_any {l : List UInt8} {R : Option Nat} {m n most : Nat} (w : World) (hm : Mk w m l R) (h : n ≤ most) (h2 : most ≤ 1099511627776) :
    Calls Tryd.prog 115 #[.pointer (some ⟨m, 0, none⟩), .int .i64 n, .int .i64 most] w fun e w' => e = .returned (.bool true) ∧ w = w' := by
  obtain ⟨A, c, h1, _⟩ := hm
  have c1 : w.cell? ⟨m, 1, none⟩ = some (.bool false) := by rw [blk_cell' h1]; rfl
  clear h1
  go_enter Tryd.func115, Tryd.ntmps115
  go_wp2
  go_ret
  exact ⟨rfl, rfl⟩

set_option maxRecDepth 100000 in
theorem raw_any {l t : List UInt8} {R : Option Nat} {m : Nat} {S : Nat → Prop} {v : Value} (w : World) (hm : Mk w m l R) (hv : BsAt S w v t) (hl : l.length + t.length ≤ 140737488355328) :
    Calls Tryd.prog 117 #[.pointer (some ⟨m, 0, none⟩), v] w fun e w' => e = .returned (.pointer (some ⟨m, 0, none⟩)) ∧ ∃ R', Mk w' m (l ++ t) R' ∧ Kp w w' m R R' := by
  obtain ⟨A1, c1, rfl, hlc, hcm, hr⟩ := hv
  obtain ⟨A, c, hmb, hown, rfl⟩ := hm
  have c0 : w.cell? ⟨m, 0, none⟩ = some (.slice A l.length c) := by rw [blk_cell' hmb]; rfl
  have hml : m < w.heap.size := (Array.getElem?_eq_some_iff.1 hmb).1
  have HM := Lib.hid hmb
  have HO := Lib.hid hown
  obtain ⟨i0, hi0, hz0, hz1, hz2⟩ := info_parts info_byte
  clear hmb hown
  go_enter Tryd.func117, Tryd.ntmps117
  go_wp2_with (at_builtin; refine Stp.mk ?_)
  refine Stp.of ?_
  refine wpList_append_rd _ rfl (.tmp 12) (.tmp 13) 22 rfl (m + 1) 5 i0 _ 1 1 Tryd.underlying22 hi0 hz0 hz1 hz2 rfl (by omega) (.slice A l.length c) l.length (bcs l) rfl HO.out A1 t.length c1 (bcs t) rfl (by simp) hr (bcs_one _) (by simp only [maxLen]; omega) (by omega) (by omega) ?_
  intro v' w5 hown5 hg5 hat5
  obtain ⟨A5, c5, rfl, hm5, hmk5, hkp5⟩ := Mk.stored HM.out HO.out rfl hown5 hg5 hat5
  have f5 := blk_frozen' hm5 0
  have c5' : w5.cell? ⟨m, 0, none⟩ = some (.slice A l.length c) := by rw [blk_cell' hm5]; rfl
  have HK5 := Lib.hid hkp5
  have HM5 := Lib.hid hmk5
  clear hm5 hown5 hg5 hat5 hkp5 hmk5
  go_wp2
  go_ret
  exact ⟨rfl, _, HM5.out, HK5.out⟩

/-- Numbers, one behind the other. -/
def nums (ns : List Nat) : List UInt8 := ns.flatMap num
theorem nums_take (ns : List Nat) (j : Nat) (h : j < ns.length) : nums (ns.take (j + 1)) = nums (ns.take j) ++ num ns[j] := by
  rw [nums, nums, List.take_succ_eq_append_getElem h, List.flatMap_append, List.flatMap_singleton]
theorem nums_take_le (ns : List Nat) (j : Nat) : (nums (ns.take j)).length ≤ (nums ns).length := by
  have : nums ns = nums (ns.take j) ++ nums (ns.drop j) := by
    unfold nums
    rw [← List.flatMap_append, List.take_append_drop]
  rw [this]
  simp

set_option maxRecDepth 100000 in
theorem mnum_any {l : List UInt8} {R : Option Nat} {m : Nat} {ns : List Nat} {S : Nat → Prop} {A : Option Addr} {c : Nat} (w : World) (hm : Mk w m l R) (hr : Rd w S A (ns.map fun (n : Nat) => Value.int .i64 n)) (hS : ∀ k, S k → k ≠ m ∧ R ≠ some k)
    (hl : l.length + (nums ns).length ≤ 140737488355328) (hn : ∀ n ∈ ns, n ≤ 1099511627776) (hnl : ns.length ≤ 1000) :
    Calls Tryd.prog 105 #[.pointer (some ⟨m, 0, none⟩), .slice A ns.length c] w fun e w' => e = .returned (.pointer (some ⟨m, 0, none⟩)) ∧ ∃ R', Mk w' m (l ++ nums ns) R' ∧ Kp w w' m R R' := by
  have HN := Lib.hid hn
  clear hn
  go_enter Tryd.func105, Tryd.ntmps105
  go_wp2
  go_loopw [11] (fun i wr => ∃ (j : Nat) (R1 : Option Nat), j ≤ ns.length ∧ i = .int .i64 j ∧ Mk wr m (l ++ nums (ns.take j)) R1 ∧ Kp w wr m R R1) (fun i _ => ns.length - (intOf i).toNat)
  case atStart => exact ⟨0, R, by omega, rfl, by simpa [nums] using hm, Kp.refl _ _ _⟩
  case round =>
    obtain ⟨j, R1, hj, rfl, hmj, hkp⟩ := hrel
    by_cases hlt : j < ns.length
    · have hrj := hr.bound.keep (hkp.2.stays (fun k hk _ ht => by
        rcases ht with h | h
        · exact (hS k hk.1).1 h
        · exact (hS k hk.1).2 h))
      obtain ⟨ad, rfl, _, hc⟩ := hrj.at_ (j := j) (by simpa using hlt)
      simp only [List.getElem_map] at hc
      have hnj := HN.out _ (List.getElem_mem hlt)
      have htk := nums_take_le ns (j + 1)
      rw [nums_take ns j hlt, List.length_append] at htk
      have HT := Lib.hid htk
      clear htk hrj
      go_wp2_with fail
      refine (allow_any (n := ns[j]) (most := 1099511627776) wr hmj hnj (by omega)).mono ?_
      rintro e w1 ⟨rfl, rfl⟩
      go_wp2_with fail
      refine (number_any (n := ns[j]) wr hmj (by omega) (by have := HT.out; rw [List.length_append]; omega)).mono ?_
      rintro e w2 ⟨rfl, R2, hm2, hk2⟩
      go_wp2_with fail
      go_roundw
      · refine ⟨j + 1, R2, by omega, rfl, ?_, hkp.trans hk2⟩
        rw [nums_take ns j hlt, ← List.append_assoc]
        exact hm2
      · simp [intOf]; omega
    · go_wp2_with fail
      go_ret
      have e1 : ns.take j = ns := List.take_of_length_le (by omega)
      rw [e1] at hmj
      exact ⟨rfl, R1, hmj, hkp⟩
end Pk
end Go.Proofs.YtgfgdlnlafngnaaDoor
