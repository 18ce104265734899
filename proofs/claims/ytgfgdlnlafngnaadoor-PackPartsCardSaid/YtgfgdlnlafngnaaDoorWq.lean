/- Walks: the maker's texts. -/
import Derived.Test.YtgfgdlnlafngnaaDoorWp
namespace Go.Proofs.YtgfgdlnlafngnaaDoor
namespace Pk
open Go.RowKit

theorem kp_keep {w w' : World} {m : Nat} {R R' : Option Nat} (h : Kp w w' m R R') {S : Nat → Prop} (hS : ∀ k, S k → k ≠ m ∧ R ≠ some k) : Stays S w w' :=
  h.2.stays (fun k hk _ ht => by
    rcases ht with e | e
    · exact (hS k hk).1 e
    · exact (hS k hk).2 e)

set_option maxRecDepth 100000 in
set_option maxHeartbeats 1000000 in
theorem text1_any {l t : List UInt8} {R : Option Nat} {m : Nat} {S : Nat → Prop} {A : Option Addr} {c : Nat} {v : Value} (w : World) (hm : Mk w m l R) (hr : Rd w S A [v]) (hv : BsAt S w v t) (hS : ∀ k, S k → k ≠ m ∧ R ≠ some k)
    (hl : l.length + (num t.length).length + t.length ≤ 140737488355328) (ht : t.length ≤ 1048576) :
    Calls Tryd.prog 106 #[.pointer (some ⟨m, 0, none⟩), .slice A 1 c] w fun e w' => e = .returned (.pointer (some ⟨m, 0, none⟩)) ∧ ∃ R', Mk w' m (l ++ (num t.length ++ t)) R' ∧ Kp w w' m R R' := by
  go_enter Tryd.func106, Tryd.ntmps106
  go_wp2
  go_loopw [9] (fun i wr => ∃ (j : Nat) (R1 : Option Nat), j ≤ 1 ∧ i = .int .i64 j ∧ Mk wr m (l ++ (if j = 0 then [] else num t.length ++ t)) R1 ∧ Kp w wr m R R1) (fun i _ => 1 - (intOf i).toNat)
  case atStart => exact ⟨0, R, by omega, rfl, by simpa using hm, Kp.refl _ _ _⟩
  case round =>
    obtain ⟨j, R1, hj, rfl, hmj, hkp⟩ := hrel
    by_cases hlt : j < 1
    · obtain rfl : j = 0 := by omega
      simp only [if_true, List.append_nil] at hmj
      obtain ⟨ad, rfl, _, hc⟩ := (hr.keep (kp_keep hkp hS)).at_ (j := 0) (by simp)
      simp only [List.getElem_cons_zero, Addr.add, if_true] at hc
      have hvj := hv.bound.keep (kp_keep hkp (fun k hk => hS k hk.1))
      obtain ⟨A1, c1, rfl, hlc, hcm, hrt⟩ := hvj
      have hvj : BsAt _ wr (.slice A1 t.length c1) t := ⟨A1, c1, rfl, hlc, hcm, hrt⟩
      have hml := hmj.lt
      have HV := Lib.hid hvj
      clear hvj hrt hv hr
      go_wp2_with fail
      refine (allow_any (n := t.length) (most := 1048576) wr hmj ht (by omega)).mono ?_
      rintro e w1 ⟨rfl, rfl⟩
      go_wp2_with fail
      have hb2 := below_new wr (Obj.cells #[.int .i64 t.length] 3)
      refine (mnum_any (ns := [t.length]) _ (hmj.below hb2) (Rd.new rfl) (fun k hk => ?_) (by simp only [nums, List.flatMap_cons, List.flatMap_nil, List.append_nil]; omega) (by simp; omega) (by simp)).mono ?_
      · subst hk
        exact ⟨by omega, fun e => by have := hmj.row _ e; omega⟩
      rintro e w3 ⟨rfl, R3, hm3, hk3⟩
      go_wp2_with fail
      have hv3 := (HV.out.below hb2).bound.keep (kp_keep hk3 (fun k hk => ⟨(hS k hk.1.1).1, fun e => by
        rcases hkp.1 k e with h | h
        · exact (hS k hk.1.1).2 h
        · have := hk.1.2
          omega⟩))
      refine (raw_any w3 hm3 hv3 (by simp only [nums, List.flatMap_cons, List.flatMap_nil, List.append_nil, List.length_append]; omega)).mono ?_
      rintro e w4 ⟨rfl, R4, hm4, hk4⟩
      go_wp2_with fail
      go_roundw
      · refine ⟨1, R4, by omega, rfl, ?_, ((hkp.trans (Kp.of_below hb2 _ _)).trans hk3).trans hk4⟩
        simpa [nums] using hm4
      · simp [intOf]
    · obtain rfl : j = 1 := by omega
      go_wp2_with fail
      go_ret
      exact ⟨rfl, R1, by simpa using hmj, hkp⟩
end Pk
end Go.Proofs.YtgfgdlnlafngnaaDoor
