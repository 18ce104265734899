/- Walks: the maker's numbers. -/
import Derived.Test.YtgfgdlnlafngnaaDoorWn
namespace Go.Proofs.YtgfgdlnlafngnaaDoor
namespace Pk
open Go.RowKit

theorem info_byte : (Tryd.prog.info? 5).map (fun i => (i.zero, i.size, i.bytes)) = some (some (.int .u8 0), 1, 1) := by kernel_rfl

/-- A maker in block m: the bytes that it gathered, in a row of its own in block R. -/
def Mk (w : World) (m : Nat) (l : List UInt8) (R : Option Nat) : Prop :=
  ∃ A c, w.heap[m]? = some (.cells #[.slice A l.length c, .bool false] 105 (0, 0)) ∧ w.ownsRow (m + 1) 5 1 (.slice A l.length c) l.length (bcs l) ∧ A.map (·.block) = R
/-- What a maker's deeds leave as it was. -/
def Kp (w w' : World) (m : Nat) (R R' : Option Nat) : Prop := (∀ k, R' = some k → R = some k ∨ w.heap.size ≤ k) ∧ Chs (fun k => k = m ∨ R = some k) w w'
theorem Kp.refl (w : World) (m : Nat) (R : Option Nat) : Kp w w m R R := ⟨fun _ h => .inl h, Chs.refl _ _⟩
theorem Kp.trans {w w1 w2 : World} {m : Nat} {R R1 R2 : Option Nat} (h : Kp w w1 m R R1) (k : Kp w1 w2 m R1 R2) : Kp w w2 m R R2 := by
  have hs := h.2.size
  refine ⟨fun i hi => ?_, ⟨k.2.os.trans h.2.os, k.2.tape.trans h.2.tape, k.2.output.trans h.2.output, Nat.le_trans hs k.2.size, fun i hi hn => ?_⟩⟩
  · rcases k.1 i hi with h1 | h1
    · exact h.1 i h1
    · exact .inr (by omega)
  · refine (k.2.block i (by omega) ?_).trans (h.2.block i hi hn)
    rintro (e | e)
    · exact hn (.inl e)
    · rcases h.1 i e with h1 | h1
      · exact hn (.inr h1)
      · omega
theorem Kp.of_below {w w' : World} (h : Below w.heap.size w w') (m : Nat) (R : Option Nat) : Kp w w' m R R := ⟨fun _ h => .inl h, Chs.of_below h⟩
theorem own_block (B : Option Addr) (n c : Nat) : (Value.slice B n c).ownBlock = B.map (·.block) := by cases B <;> rfl
theorem Mk.row {w : World} {m : Nat} {l : List UInt8} {R : Option Nat} (h : Mk w m l R) : ∀ k, R = some k → m < k ∧ k < w.heap.size := by
  obtain ⟨A, c, _, h2, rfl⟩ := h
  intro k hk
  have := own_lt' h2 (by rw [own_block]; exact hk)
  omega
theorem Mk.lt {w : World} {m : Nat} {l : List UInt8} {R : Option Nat} (h : Mk w m l R) : m < w.heap.size := by
  obtain ⟨A, c, h, _⟩ := h
  exact (Array.getElem?_eq_some_iff.1 h).1
theorem Mk.keep {w w' : World} {m : Nat} {l : List UInt8} {R : Option Nat} (h : Mk w m l R) {T : Nat → Prop} (hc : Chs T w w') (hm : ¬ T m) (hR : ∀ k, R = some k → ¬ T k) : Mk w' m l R := by
  obtain ⟨A, c, h1, h2, rfl⟩ := h
  refine ⟨A, c, (hc.block m (Array.getElem?_eq_some_iff.1 h1).1 hm).trans h1, own_move' h2 (fun k hk hl _ => hc.block k hl (hR k (by rw [← own_block]; exact hk))), rfl⟩
theorem Mk.below {w w' : World} {m : Nat} {l : List UInt8} {R : Option Nat} (h : Mk w m l R) (hb : Below w.heap.size w w') : Mk w' m l R :=
  h.keep (T := fun _ => False) (Chs.of_below hb) (by simp) (by simp)
/-- What was appended is stored. -/
theorem Mk.stored {W w' : World} {m n : Nat} {l x : List UInt8} {A : Option Addr} {c : Nat} {v' : Value} (hm : W.heap[m]? = some (.cells #[.slice A l.length c, .bool false] 105 (0, 0)))
    (hown : W.ownsRow (m + 1) 5 1 (.slice A l.length c) l.length (bcs l)) (hx : n = x.length) (hown' : w'.ownsRow (m + 1) 5 1 v' (l.length + n) (bcs l ++ bcs x)) (hg : W.grownBy w' (Value.slice A l.length c).ownBlock)
    (hat : v'.ownBlock = (Value.slice A l.length c).ownBlock ∨ v'.ownBlock = some W.heap.size) :
    ∃ A5 c5, v' = .slice A5 (l.length + n) c5 ∧ w'.heap[m]? = some (.cells #[.slice A l.length c, .bool false] 105 (0, 0)) ∧
      Mk (w'.setCell ⟨m, 0, none⟩ v') m (l ++ x) (A5.map (·.block)) ∧ Kp W (w'.setCell ⟨m, 0, none⟩ v') m (A.map (·.block)) (A5.map (·.block)) := by
  subst hx
  obtain ⟨A5, c5, rfl⟩ := own_form hown'
  have hml := (Array.getElem?_eq_some_iff.1 hm).1
  have hrow : ∀ k, A.map (·.block) = some k → m < k ∧ k < W.heap.size := fun k hk => by
    have := own_lt' hown (by rw [own_block]; exact hk)
    omega
  rw [own_block, own_block] at hat
  rw [own_block] at hg
  have hm' : w'.heap[m]? = some (.cells #[.slice A l.length c, .bool false] 105 (0, 0)) := (World.grownBy.block hg m hml (fun e => by have := hrow m e.symm; omega)).trans hm
  have hne : ∀ k, k ≠ m → (w'.setCell ⟨m, 0, none⟩ (.slice A5 (l.length + x.length) c5)).heap[k]? = w'.heap[k]? := fun k hk => Below.heap_setCell w' _ _ k hk
  refine ⟨A5, c5, rfl, hm', ⟨A5, c5, ?_, ?_, rfl⟩, fun k hk => ?_, ?_⟩
  · have := blk_set' hm' 0 (.slice A5 (l.length + x.length) c5)
    rw [List.length_append]
    exact this
  · have := own_move' (w' := w'.setCell ⟨m, 0, none⟩ (.slice A5 (l.length + x.length) c5)) hown' (fun k hk1 hk2 hk3 => hne k (by omega))
    rw [List.length_append, show bcs (l ++ x) = bcs l ++ bcs x from List.map_append]
    exact this
  · rcases hat with h | h
    · exact .inl (h.symm.trans hk)
    · rw [hk] at h
      injection h with h
      exact .inr (by omega)
  · exact (Chs.of_grown (T := fun k => k = m ∨ A.map (·.block) = some k) hg (fun k hk => .inr hk)).trans (Chs.set w' ⟨m, 0, none⟩ _ (.inl rfl))

theorem or_top : ∀ x : Fin 256, bits .or .u8 (x.val : Int) 128 = ((x.val % 128 + 128 : Nat) : Int) := by decide +kernel

set_option maxRecDepth 100000 in
set_option maxHeartbeats 1000000 in
theorem number_any {l : List UInt8} {R : Option Nat} {m n : Nat} (w : World) (hm : Mk w m l R) (hn : n < 18446744073709551616) (hl : l.length + (num n).length ≤ 140737488355328) :
    Calls Tryd.prog 116 #[.pointer (some ⟨m, 0, none⟩), .int .u64 n] w fun e w' => e = .returned (.tuple #[]) ∧ ∃ R', Mk w' m (l ++ num n) R' ∧ Kp w w' m R R' := by
  go_enter Tryd.func116, Tryd.ntmps116
  go_wp2_with fail
  go_loopw [1] (fun x wr => ∃ (k : Nat) (q : List UInt8) (R1 : Option Nat), x = .int .u64 k ∧ k < 18446744073709551616 ∧ l ++ num n = q ++ num k ∧ Mk wr m q R1 ∧ Kp w wr m R R1) (fun x _ => (intOf x).toNat)
  case atStart => exact ⟨n, l, R, rfl, hn, rfl, hm, Kp.refl _ _ _⟩
  case round =>
    obtain ⟨k, q, R1, rfl, hk, heq, ⟨A, c, hmb, hown, rfl⟩, hkp⟩ := hrel
    have c0 : wr.cell? ⟨m, 0, none⟩ = some (.slice A q.length c) := by rw [blk_cell' hmb]; rfl
    have hml : m < wr.heap.size := (Array.getElem?_eq_some_iff.1 hmb).1
    have hlp : q.length + (num k).length = l.length + (num n).length := by
      have := congrArg List.length heq
      rw [List.length_append, List.length_append] at this
      omega
    have HQ := Lib.hid heq
    have HM := Lib.hid hmb
    have HO := Lib.hid hown
    have hpos := num_length_pos k
    obtain ⟨i0, hi0, hz0, hz1, hz2⟩ := info_parts info_byte
    clear heq hmb hown
    by_cases hlt : k < 128
    · go_wp2_with (at_builtin; refine Stp.mk ?_)
      refine Stp.of ?_
      have e1 : [Value.int .u8 (k : Int)] = bcs [UInt8.ofNat k] := by
        have : ((UInt8.ofNat k).toNat : Int) = k := by simp; omega
        simp only [bcs, List.map_cons, List.map_nil, u8v, this]
      refine wpList_append_rd _ rfl (.tmp 24) (.tmp 27) 22 rfl (m + 1) 5 i0 _ 1 1 Tryd.underlying22 hi0 hz0 hz1 hz2 rfl (by omega) (.slice A q.length c) q.length (bcs q) rfl (HO.out.alloc _) (some ⟨wr.heap.size, 0, none⟩) 1 1 [.int .u8 (k : Int)] rfl rfl (Rd.new rfl) (by rw [e1]; exact bcs_one _) (by simp only [maxLen]; omega) (by omega) (by simp; omega) ?_
      intro v' w5 hown5 hg5 hat5
      rw [e1] at hown5
      obtain ⟨A5, c5, rfl, hm5, hmk5, hkp5⟩ := Mk.stored (blk_new' HM.out _) (HO.out.alloc _) rfl hown5 hg5 hat5
      have f5 := blk_frozen' hm5 0
      have c5' : w5.cell? ⟨m, 0, none⟩ = some (.slice A q.length c) := by rw [blk_cell' hm5]; rfl
      have HK5 := Lib.hid hkp5
      have HM5 := Lib.hid hmk5
      clear hm5 hown5 hg5 hat5 hkp5 hmk5
      clear e1
      go_wp2
      go_end0
      refine ⟨rfl, _, ?_, hkp.trans ((Kp.of_below (below_new _ _) _ _).trans HK5.out)⟩
      rw [HQ.out, num_small hlt]
      exact HM5.out
    · go_wp2_with (at_builtin; refine Stp.mk ?_)
      refine Stp.of ?_
      have e1 : bits .or .u8 ((k : Int) % 256) 128 = ((UInt8.ofNat (k % 128 + 128)).toNat : Int) := by
        have := or_top ⟨k % 256, by omega⟩
        simp only at this
        rw [show ((k : Int) % 256) = ((k % 256 : Nat) : Int) from by omega, this]
        simp
        omega
      rw [e1]
      refine wpList_append_rd _ rfl (.tmp 12) (.tmp 16) 22 rfl (m + 1) 5 i0 _ 1 1 Tryd.underlying22 hi0 hz0 hz1 hz2 rfl (by omega) (.slice A q.length c) q.length (bcs q) rfl (HO.out.alloc _) (some ⟨wr.heap.size, 0, none⟩) 1 1 (bcs [UInt8.ofNat (k % 128 + 128)]) rfl rfl (Rd.new rfl) (bcs_one _) (by simp only [maxLen]; omega) (by omega) (by simp; omega) ?_
      intro v' w5 hown5 hg5 hat5
      obtain ⟨A5, c5, rfl, hm5, hmk5, hkp5⟩ := Mk.stored (blk_new' HM.out _) (HO.out.alloc _) rfl hown5 hg5 hat5
      have f5 := blk_frozen' hm5 0
      have c5' : w5.cell? ⟨m, 0, none⟩ = some (.slice A q.length c) := by rw [blk_cell' hm5]; rfl
      have HK5 := Lib.hid hkp5
      have HM5 := Lib.hid hmk5
      clear hm5 hown5 hg5 hat5 hkp5 hmk5
      clear e1
      go_wp2
      go_roundw
      · refine ⟨k / 128, q ++ [UInt8.ofNat (k % 128 + 128)], _, by simp, by omega, ?_, HM5.out, hkp.trans ((Kp.of_below (below_new _ _) _ _).trans HK5.out)⟩
        rw [HQ.out, num_big hlt]
        simp
      · simp [intOf]; omega
end Pk
end Go.Proofs.YtgfgdlnlafngnaaDoor
