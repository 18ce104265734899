/- Walks: a number got. -/
import Derived.Test.YtgfgdlnlafngnaaDoorWe
import Derived.Test.YtgfgdlnlafngnaaDoorBits
import Derived.Deep.LoopGhost
namespace Go.Proofs.YtgfgdlnlafngnaaDoor
namespace Pk
open Go.RowKit

theorem pNum_of_none {most : Nat} {r : List UInt8} (h : scan r 0 0 = none) : pNum most (some r) = (0, none) := by simp [pNum, getNum, h]
theorem pNum_of_some {most : Nat} {r : List UInt8} {n m : Nat} (h : scan r 0 0 = some (n, m)) :
    pNum most (some r) = if m = (num n).length ∧ n ≤ 1099511627776 ∧ n ≤ most then (n, some (r.drop m)) else (0, none) := by
  simp only [pNum, getNum, h]
  by_cases h1 : m = (num n).length ∧ n ≤ 1099511627776
  · rw [if_pos h1]
    simp [h1]
  · rw [if_neg h1, if_neg (fun h2 => h1 ⟨h2.1, h2.2.1⟩)]
theorem pow_le6 {k m : Nat} (h : k ≤ 6) (hm : m < 128 ^ k) : m < 4398046511104 := by
  have : 128 ^ k ≤ 128 ^ 6 := Nat.pow_le_pow_right (by decide) h
  omega

set_option maxRecDepth 100000 in
set_option maxHeartbeats 1000000 in
theorem num_some {r : List UInt8} {g : Nat} (most : Nat) (w : World) (h : CurAt w g (some r)) (_hm : most ≤ 1099511627776) :
    Calls Tryd.prog 69 #[.pointer (some ⟨g, 0, none⟩), .int .i64 most] w fun e w' => e = .returned (.int .i64 (pNum most (some r)).1) ∧ CurAt w' g (pNum most (some r)).2 ∧ Ch g w w' := by
  have h0 := h
  obtain ⟨A, c, h, h1, h2, h3, h4⟩ := h
  have c0 : w.cell? ⟨g, 0, none⟩ = some (.slice A r.length c) := by rw [blk_cell' h]; rfl
  have c1 : w.cell? ⟨g, 1, none⟩ = some (.int .i64 0) := by rw [blk_cell' h]; rfl
  have f0 := blk_frozen' h 0
  have H := Lib.hid h
  clear h
  go_enter Tryd.func69, Tryd.ntmps69
  go_wp2
  go_step3
  go_wp2
  go_step3
  go_wp2
  go_loop [5, 6, 7, 8, 16] (fun n many _ _ i => ∃ (k m : Nat), k ≤ r.length ∧ k ≤ 6 ∧ m < 128 ^ k ∧ n = .int .u64 m ∧ many = .int .i64 0 ∧ i = .int .i64 k ∧ scan r 0 0 = scan (r.drop k) k m) (fun _ _ _ _ i => r.length - (intOf i).toNat)
  case atStart => exact ⟨0, 0, by omega, by omega, by omega, rfl, rfl, rfl, rfl⟩
  case round =>
    obtain ⟨k, m, hk, hk6, hm, rfl, rfl, rfl, hs⟩ := hrel
    have HM := Lib.hid hm
    have HS := Lib.hid hs
    clear hm hs
    by_cases hlt : k < r.length
    · have hd : r.drop k = r[k] :: r.drop (k + 1) := List.drop_eq_getElem_cons hlt
      obtain ⟨ad, rfl, hca⟩ := BsAt.cell (w := w) (S := fun k => k < g) ⟨A, c, rfl, h1, h2, h4⟩ k hlt
      by_cases h6 : k = 6
      · have hs := HS.out
        rw [hd, scan, if_pos h6] at hs
        have HP := Lib.hid (pNum_of_none (most := most) hs)
        clear hs hd
        have h6b : ((k : Int) == 6) = true := by rw [h6]; rfl
        have H6 := Lib.hid h6
        clear h6
        go_wp2_with (go_at_call 99; refine (fail_any 4 _ h0 (by omega)).mono ?_; rintro e w1 ⟨rfl, hc1, hch⟩)
        rw [Exit.noGoto_ret]
        go_ret
        rw [HP.out]
        exact ⟨rfl, hc1, hch⟩
      · have hk5 : k < 6 := by omega
        have hx256 : r[k].toNat < 256 := r[k].toNat_lt
        by_cases hx : r[k].toNat < 128
        · have hxi : ((r[k].toNat : Int) < 128) := by omega
          have h6b : ((k : Int) == 6) = false := by simp; omega
          have hq := or_join hk5 HM.out hx256
          have hs := HS.out
          rw [hd, scan, if_neg h6, if_pos hx] at hs
          have hN : m + r[k].toNat * 128 ^ k < 4398046511104 := by
            refine pow_le6 (k := k + 1) (by omega) ?_
            have := HM.out
            rw [Nat.pow_succ]
            have h2 : r[k].toNat * 128 ^ k ≤ 127 * 128 ^ k := Nat.mul_le_mul_right _ (by omega)
            omega
          generalize m + r[k].toNat * 128 ^ k = N at hq hs hN
          have HP := Lib.hid (pNum_of_some (most := most) hs)
          clear hs hd h6
          go_wp2_with fail
          refine (length_any _ _ (by omega)).mono ?_
          rintro e w1 ⟨rfl, rfl⟩
          have hk1b : ((k : Int) + 1 == 0) = false := by simp; omega
          by_cases hl : k + 1 = (num N).length
          · have hlb : ((k : Int) + 1 != ((num N).length : Int)) = false := by simp; omega
            have HL := Lib.hid hl
            clear hl
            by_cases hm : N ≤ most
            · have hm0 : N ≤ 1099511627776 := by omega
              have hp : pNum most (some r) = (N, some (r.drop (k + 1))) := by rw [HP.out, if_pos ⟨HL.out, hm0, hm⟩]
              have HQ := Lib.hid hp
              clear hp
              have hr5 := (h4.drop (k := k + 1) (by simp) h1 : Rd w _ _ ((bcs r).drop ((k + 1) * 1)))
              rw [Nat.mul_one, ← List.map_drop] at hr5
              have hr6 := hr5.keep (w' := w.setCell ⟨g, 0, none⟩ (.slice (some ⟨ad.block, ad.off + (k + 1), none⟩) (r.length - (k + 1)) (c - (k + 1)))) (Stays.set (S := fun k => k < g) (p := ⟨g, 0, none⟩) (fun k h => Nat.ne_of_lt h) _)
              clear hr5
              by_cases hcap : c = k + 1
              · have hd0 : r.drop (k + 1) = [] := List.drop_eq_nil_iff.2 (by omega)
                have HR := Lib.hid hd0
                clear hd0 hr6
                go_wp2_with fail
                rw [Exit.noGoto_ret]
                go_ret
                rw [HQ.out]
                exact ⟨rfl, ⟨_, _, by rw [List.length_drop]; exact blk_set' H.out 0 _, by rw [List.length_drop]; omega, by omega, by rw [List.length_drop]; omega, by rw [HR.out]; exact Rd.nil _ _ _⟩, Ch.set _ _ _ _⟩
              · rw [if_neg hcap] at hr6
                have e1 : ad.add (k + 1) = ⟨ad.block, ad.off + (k + 1), none⟩ := by simp [Addr.add]
                simp only [Option.map_some, e1] at hr6
                have HR := Lib.hid hr6
                clear hr6 e1
                go_wp2_with fail
                rw [Exit.noGoto_ret]
                go_ret
                rw [HQ.out]
                exact ⟨rfl, ⟨_, _, by rw [List.length_drop]; exact blk_set' H.out 0 _, by rw [List.length_drop]; omega, by omega, by rw [List.length_drop]; omega, HR.out⟩, Ch.set _ _ _ _⟩
            · have hp : pNum most (some r) = (0, none) := by rw [HP.out, if_neg (by omega)]
              have HQ := Lib.hid hp
              clear hp
              by_cases hm2 : 1099511627776 < N
              · go_wp2_with (go_at_call 99; refine (fail_any 4 _ h0 (by omega)).mono ?_; rintro e w1 ⟨rfl, hc1, hch⟩)
                rw [Exit.noGoto_ret]
                go_ret
                rw [HQ.out]
                exact ⟨rfl, hc1, hch⟩
              · go_wp2_with (go_at_call 99; refine (fail_any 4 _ h0 (by omega)).mono ?_; rintro e w1 ⟨rfl, hc1, hch⟩)
                rw [Exit.noGoto_ret]
                go_ret
                rw [HQ.out]
                exact ⟨rfl, hc1, hch⟩
          · have hlb : ((k : Int) + 1 != ((num N).length : Int)) = true := by simp; omega
            have hp : pNum most (some r) = (0, none) := by rw [HP.out, if_neg (fun h => hl h.1)]
            have HQ := Lib.hid hp
            clear hp hl
            go_wp2_with (go_at_call 99; refine (fail_any 4 _ h0 (by omega)).mono ?_; rintro e w1 ⟨rfl, hc1, hch⟩)
            rw [Exit.noGoto_ret]
            go_ret
            rw [HQ.out]
            exact ⟨rfl, hc1, hch⟩
        · have hxi : ¬ ((r[k].toNat : Int) < 128) := by omega
          have h6b : ((k : Int) == 6) = false := by simp; omega
          have hq := or_more hk5 HM.out hx256 (by omega)
          have hs := HS.out
          rw [hd, scan, if_neg h6, if_neg hx] at hs
          have hN : m + (r[k].toNat - 128) * 128 ^ k < 128 ^ (k + 1) := by
            have := HM.out
            rw [Nat.pow_succ]
            have h2 : (r[k].toNat - 128) * 128 ^ k ≤ 127 * 128 ^ k := Nat.mul_le_mul_right _ (by omega)
            omega
          generalize m + (r[k].toNat - 128) * 128 ^ k = N at hq hs hN
          have HS2 := Lib.hid hs
          have HN := Lib.hid hN
          clear hs hd h6 hN
          go_wp2
          exact ⟨⟨k + 1, N, hlt, hk5, HN.out, rfl, rfl, by go_num, HS2.out⟩, by simp [intOf]; omega⟩
    · have hs := HS.out
      have hd : r.drop k = [] := List.drop_eq_nil_iff.2 (by omega)
      rw [hd, scan] at hs
      have HP := Lib.hid (pNum_of_none (most := most) hs)
      clear hs hd
      go_wp2_with (go_at_call 99; refine (fail_any 4 _ h0 (by omega)).mono ?_; rintro e w1 ⟨rfl, hc1, hch⟩)
      rw [Exit.noGoto_ret]
      go_ret
      rw [HP.out]
      exact ⟨rfl, hc1, hch⟩
set_option maxRecDepth 100000 in
set_option maxHeartbeats 1000000 in
theorem num_none {g : Nat} (most : Nat) (w : World) (h : CurAt w g none) :
    Calls Tryd.prog 69 #[.pointer (some ⟨g, 0, none⟩), .int .i64 most] w fun e w' => e = .returned (.int .i64 (0 : Nat)) ∧ CurAt w' g none ∧ Ch g w w' := by
  have h0 := h
  obtain ⟨e1, he1, h⟩ := h
  have c0 : w.cell? ⟨g, 0, none⟩ = some (.slice none 0 0) := by rw [blk_cell' h]; rfl
  clear h
  go_enter Tryd.func69, Tryd.ntmps69
  go_wp2
  go_step3
  go_wp2
  go_step3
  go_wp2
  go_loop [5, 6, 7, 8, 16] (fun n many _ _ i => n = .int .u64 0 ∧ many = .int .i64 0 ∧ i = .int .i64 0) (fun _ _ _ _ _ => 0)
  case atStart => exact ⟨rfl, rfl, rfl⟩
  case round =>
    obtain ⟨rfl, rfl, rfl⟩ := hrel
    go_wp2_with (go_at_call 99; refine (fail_any 4 _ h0 (by omega)).mono ?_; rintro e w1 ⟨rfl, hc1, hch⟩)
    rw [Exit.noGoto_ret]
    go_ret
    exact ⟨rfl, hc1, hch⟩

theorem num_any {g : Nat} {st : St} (most : Nat) (w : World) (h : CurAt w g st) (hm : most ≤ 1099511627776) :
    Calls Tryd.prog 69 #[.pointer (some ⟨g, 0, none⟩), .int .i64 most] w fun e w' => e = .returned (.int .i64 (pNum most st).1) ∧ CurAt w' g (pNum most st).2 ∧ Ch g w w' := by
  cases st with
  | none => exact num_none most w h
  | some r => exact num_some most w h hm

set_option maxRecDepth 100000 in
set_option maxHeartbeats 1000000 in
theorem raw_some {g : Nat} {r : List UInt8} (many : Nat) (w : World) (h : CurAt w g (some r)) (hm : many ≤ 1099511627776) :
    Calls Tryd.prog 100 #[.pointer (some ⟨g, 0, none⟩), .int .i64 many] w fun e w' => 
      (∃ v, e = .returned v ∧ BsAt (fun k => w.heap.size ≤ k) w' v (if many ≤ r.length then r.take many else [])) ∧ CurAt w' g (if many ≤ r.length then some (r.drop many) else none) ∧ Ch g w w' := by
  have h0 := h
  have hg := h.lt
  obtain ⟨A, c, h, h1, h2, h3, h4⟩ := h
  have c0 : w.cell? ⟨g, 0, none⟩ = some (.slice A r.length c) := by rw [blk_cell' h]; rfl
  have c1 : w.cell? ⟨g, 1, none⟩ = some (.int .i64 0) := by rw [blk_cell' h]; rfl
  have f0 := blk_frozen' h 0
  have H := Lib.hid h
  clear h
  by_cases hl : many ≤ r.length
  · rw [if_pos hl, if_pos hl]
    have htl : (r.take many).length = many := by rw [List.length_take]; omega
    have hcl : BsAt (fun k => k < g) w (.slice A many c) (r.take many) := ⟨A, c, by rw [htl], by omega, h2, by have := h4.take many; rw [← List.map_take] at this; exact this⟩
    have hr5 := (h4.drop (k := many) (by simp) h1 : Rd w _ _ ((bcs r).drop (many * 1)))
    rw [Nat.mul_one, ← List.map_drop] at hr5
    have HT := Lib.hid htl
    clear htl
    by_cases hcap : c = many
    · subst hcap
      have hd0 : r.drop c = [] := List.drop_eq_nil_iff.2 (by omega)
      have HR := Lib.hid hd0
      clear hd0 hr5
      go_enter Tryd.func100, Tryd.ntmps100
      go_wp2_with fail
      refine (clone_any _ hcl (by rw [HT.out]; omega)).mono ?_
      rintro e w1 ⟨⟨v, rfl, hv⟩, hb⟩
      have d0 := cell_later hb c0
      have g0 := (hb.frozen (p := ⟨g, 0, none⟩) hg).trans f0
      have h1g : w1.heap[g]? = some (.cells #[.slice A r.length c, .int .i64 0] 97 (0, 0)) := (hb.block g hg).trans H.out
      have H1 := Lib.hid h1g
      clear h1g
      go_wp2
      go_ret
      refine ⟨⟨_, rfl, hv.keep (Stays.set (p := ⟨g, 0, none⟩) (fun k hk => by simp at hk ⊢; omega) _)⟩, ⟨_, _, by rw [List.length_drop, show r.length - c = 0 from by omega]; exact blk_set' H1.out 0 _, by rw [List.length_drop]; omega, by omega, by rw [List.length_drop]; omega, by rw [HR.out]; exact Rd.nil _ _ _⟩, (Ch.of_below hb).trans (Ch.set _ _ _ _)⟩
    · rw [if_neg hcap] at hr5
      have HR := Lib.hid hr5
      clear hr5
      go_enter Tryd.func100, Tryd.ntmps100
      go_wp2_with fail
      refine (clone_any _ hcl (by rw [HT.out]; omega)).mono ?_
      rintro e w1 ⟨⟨v, rfl, hv⟩, hb⟩
      have d0 := cell_later hb c0
      have g0 := (hb.frozen (p := ⟨g, 0, none⟩) hg).trans f0
      have h1g : w1.heap[g]? = some (.cells #[.slice A r.length c, .int .i64 0] 97 (0, 0)) := (hb.block g hg).trans H.out
      have H1 := Lib.hid h1g
      clear h1g
      go_wp2
      go_ret
      refine ⟨⟨_, rfl, hv.keep (Stays.set (p := ⟨g, 0, none⟩) (fun k hk => by simp at hk ⊢; omega) _)⟩, ⟨_, _, by rw [List.length_drop]; exact blk_set' H1.out 0 _, by rw [List.length_drop]; omega, by omega, by rw [List.length_drop]; omega, (HR.out.below hb).keep (Stays.set (S := fun k => k < g) (p := ⟨g, 0, none⟩) (fun k h => Nat.ne_of_lt h) _)⟩, (Ch.of_below hb).trans (Ch.set _ _ _ _)⟩
  · rw [if_neg hl, if_neg hl]
    go_enter Tryd.func100, Tryd.ntmps100
    go_wp2_with (go_at_call 99; refine (fail_any 4 _ h0 (by omega)).mono ?_; rintro e w1 ⟨rfl, hc1, hch⟩)
    go_ret
    exact ⟨⟨_, rfl, BsAt.nil _ _⟩, hc1, hch⟩

set_option maxRecDepth 100000 in
set_option maxHeartbeats 1000000 in
theorem text_any {g : Nat} {st : St} (most : Nat) (w : World) (h : CurAt w g st) (_hm : most ≤ 1099511627776) :
    Calls Tryd.prog 70 #[.pointer (some ⟨g, 0, none⟩), .int .i64 most] w fun e w' =>
      (∃ v, e = .returned v ∧ BsAt (fun k => w.heap.size ≤ k) w' v (pText most st).1) ∧ CurAt w' g (pText most st).2 ∧ Ch g w w' := by
  have hbig := num_any (g := g) (st := st) 1099511627776 w h (Nat.le_refl _)
  have e1 : ((1099511627776 : Nat) : Int) = 1099511627776 := rfl
  rw [e1] at hbig
  have HB := Lib.hid hbig
  clear hbig e1
  have hst : pText most st = match pNum 1099511627776 st with
      | (n, some r') => if n ≤ most ∧ n ≤ r'.length then (r'.take n, some (r'.drop n)) else ([], none)
      | (_, none) => ([], none) := by
    cases st with
    | none => rfl
    | some r =>
      simp only [pText, pNum]
      cases hgn : getNum r with
      | none => rfl
      | some x =>
        obtain ⟨n, r'⟩ := x
        have := (getNum_back hgn).2
        simp [this]
  have hle : (pNum 1099511627776 st).1 ≤ 1099511627776 := by
    cases st with
    | none => simp [pNum]
    | some r =>
      simp only [pNum]
      split
      · omega
      · split <;> simp_all
  generalize pNum 1099511627776 st = x at hst hle HB
  obtain ⟨n, st1⟩ := x
  cases st1 with
  | none =>
    simp only at hst
    have HS := Lib.hid hst
    clear hst
    go_enter Tryd.func70, Tryd.ntmps70
    go_wp2_with fail
    refine HB.out.mono ?_
    rintro e w1 ⟨rfl, hc1, hch⟩
    have hc2 := hc1
    obtain ⟨e1, he1, hh⟩ := hc1
    have c1 : w1.cell? ⟨g, 1, none⟩ = some (.int .i64 e1) := by rw [blk_cell' hh]; rfl
    have hq : (e1 != 0) = true := by simp [he1]
    clear hh
    go_wp2
    go_ret
    rw [HS.out]
    exact ⟨⟨_, rfl, BsAt.nil _ _⟩, hc2, hch⟩
  | some r1 =>
    simp only at hst hle
    have hst0 := Lib.hid hst
    clear hst
    go_enter Tryd.func70, Tryd.ntmps70
    go_wp2_with fail
    refine HB.out.mono ?_
    rintro e w1 ⟨rfl, hc1, hch⟩
    have hc2 := hc1
    obtain ⟨A, c, hh, h1, h2, h3, h4⟩ := hc1
    have c1 : w1.cell? ⟨g, 1, none⟩ = some (.int .i64 0) := by rw [blk_cell' hh]; rfl
    clear hh h4
    by_cases hn : n ≤ most
    · go_wp2_with fail
      refine (raw_some n w1 hc2 (by omega)).mono ?_
      rintro e w2 ⟨⟨v, rfl, hv⟩, hc3, hch2⟩
      go_wp2
      go_ret
      rw [hst0.out]
      by_cases hl : n ≤ r1.length
      · rw [if_pos hl] at hv hc3
        rw [if_pos ⟨hn, hl⟩]
        exact ⟨⟨_, rfl, hv.mono (fun k hk => Nat.le_trans hch.size hk)⟩, hc3, hch.trans hch2⟩
      · rw [if_neg hl] at hv hc3
        rw [if_neg (fun h => hl h.2)]
        exact ⟨⟨_, rfl, hv.mono (fun k hk => Nat.le_trans hch.size hk)⟩, hc3, hch.trans hch2⟩
    · go_wp2_with (go_at_call 99; refine (fail_any 3 _ hc2 (by omega)).mono ?_; rintro e w2 ⟨rfl, hc3, hch2⟩)
      go_ret
      rw [hst0.out, if_neg (fun h => hn h.1)]
      exact ⟨⟨_, rfl, BsAt.nil _ _⟩, hc3, hch.trans hch2⟩
end Pk
end Go.Proofs.YtgfgdlnlafngnaaDoor
