/- Walks: spencekit.Pick, spencelaw09.within. -/
import Derived.Test.YtgfgdlnlafngnaaDoorWa
import Derived.Test.YtgfgdlnlafngnaaDoorWz
namespace Go.Proofs.YtgfgdlnlafngnaaDoor
namespace Pk
open Go.RowKit

theorem pick_any (a : Int) (n : Nat) (w : World) (h1 : 1 ≤ n) (h2 : n ≤ 4611686018427387903) :
    Calls Tryd.prog 26 #[.int .i64 a, .int .i64 n] w fun e w' => (∃ k : Nat, k < n ∧ e = .returned (.int .i64 k)) ∧ w = w' := by
  have hm : -(n : Int) < a.tmod n ∧ a.tmod n < n := by
    have h3 : (a.tmod (n : Int)).natAbs = a.natAbs % (n : Int).natAbs := Int.natAbs_tmod a n
    have h4 := Nat.mod_lt a.natAbs (show 0 < (n : Int).natAbs by omega)
    omega
  have hm1 := hm.1
  have hm2 := hm.2
  have HH : ∀ z : Int, 0 ≤ z → z < n → ∃ k : Nat, k < n ∧ Ending.returned (.int .i64 z) = .returned (.int .i64 k) := fun z hz1 hz2 => ⟨z.toNat, by omega, by rw [Int.toNat_of_nonneg hz1]⟩
  have HX := Lib.hid HH
  clear hm HH
  go_enter Tryd.func26, Tryd.ntmps26
  go_wp2_with fail
  all_goals (go_ret; exact ⟨HX.out _ (by omega) (by omega), rfl⟩)

theorem BsAt.sub {S : Nat → Prop} {w : World} {ad : Addr} {n c : Nat} {l : List UInt8} (h : BsAt S w (.slice (some ad) n c) l) (i m : Nat) (h1 : i + m ≤ l.length) (hm : 1 ≤ m) : BsAt S w (.slice (some (ad.add i)) m (c - i)) ((l.drop i).take m) := by
  obtain ⟨A', c', e, h2, h3, hr⟩ := h
  simp only [Value.slice.injEq] at e
  obtain ⟨rfl, rfl, rfl⟩ := e
  have hl : ((l.drop i).take m).length = m := by
    rw [List.length_take, List.length_drop]
    omega
  refine ⟨some (ad.add i), c - i, by rw [hl], by omega, by omega, fun _ => ?_⟩
  obtain ⟨ad', e, hs, hc⟩ := hr (fun e => by
    have := congrArg List.length e
    simp at this
    subst this
    simp at h1
    omega)
  injection e with e
  subst e
  refine ⟨_, rfl, by rw [blk_add]; exact hs, fun k u hu => ?_⟩
  rw [add_add']
  refine hc _ _ ?_
  obtain ⟨hk, e⟩ := List.getElem?_eq_some_iff.1 hu
  simp only [bcs, List.length_map, hl] at hk
  rw [List.getElem?_eq_getElem (by simp; omega), ← e]
  simp
theorem sub_eq {a b pre post : List UInt8} (h : b = pre ++ (a ++ post)) : (b.drop pre.length).take a.length = a := by
  subst h
  simp
set_option maxRecDepth 100000 in
set_option maxHeartbeats 1000000 in
theorem within_any {S S' : Nat → Prop} {va vb : Value} {a b : List UInt8} (w : World) (ha : BsAt S w va a) (hb : BsAt S' w vb b) (h1 : 1 ≤ a.length) (hl : b.length ≤ 100000) {pre post : List UInt8} (h : b = pre ++ (a ++ post)) :
    Calls Tryd.prog 28 #[va, vb] w fun e w' => e = .returned (.bool true) ∧ Below w.heap.size w w' := by
  have hab := congrArg List.length h
  simp only [List.length_append] at hab
  have hab2 : pre.length + a.length ≤ b.length := by omega
  clear hab
  have HSE := Lib.hid (sub_eq h)
  have ha0 := ha
  have hb0 := hb
  obtain ⟨A, c, rfl, h2, h3, hra⟩ := ha
  obtain ⟨B, d, rfl, h4, h5, hrb⟩ := hb
  obtain ⟨bd, rfl, _⟩ := hrb.at_ (j := 0) (by simp; omega)
  clear h hra
  go_enter Tryd.func28, Tryd.ntmps28
  go_wp2_with fail
  go_loopw [5] (fun i wr => ∃ j : Nat, j ≤ pre.length ∧ i = .int .i64 j ∧ Below w.heap.size w wr) (fun i _ => pre.length - (intOf i).toNat)
  case atStart => exact ⟨0, by omega, rfl, Below.refl _ _⟩
  case round =>
    obtain ⟨j, hj, rfl, hbr⟩ := hrel
    go_wp2_with fail
    have hx := (hb0.below hbr).sub j a.length (by omega) h1
    refine (sameBytes_any wr hx (ha0.below hbr)).mono ?_
    rintro e w2 ⟨⟨z, rfl, hz⟩, hd⟩
    cases z with
    | true =>
      go_wp2_with fail
      go_ret
      exact ⟨rfl, hbr.via hd.below⟩
    | false =>
      have hne : j ≠ pre.length := by
        rintro rfl
        have := hz.out
        rw [HSE.out] at this
        simp at this
      clear hz
      go_wp2_with fail
      go_roundw
      · exact ⟨j + 1, by omega, by simp, hbr.via hd.below⟩
      · simp [intOf]; omega
end Pk
end Go.Proofs.YtgfgdlnlafngnaaDoor
