/- Walks: kids' names. -/
import Derived.Test.YtgfgdlnlafngnaaDoorWi
import Derived.Test.YtgfgdlnlafngnaaDoorWb
import Derived.Deep.RegionHeld3
import Derived.Test.YtgfgdlnlafngnaaDoorReg
namespace Go.Proofs.YtgfgdlnlafngnaaDoor
namespace Pk
open Go.RowKit

/-- The name ahead of the k-th kid. -/
def prevAt (ks : List (ByteArray × Nd)) : Nat → Option ByteArray
  | 0 => none
  | k + 1 => ks[k]?.map (·.1)

theorem name_is (s : ByteArray) (w : World) (hs : s.size ≤ 9223372036854775807) {b : Bool} (h : nameB s = b) : Calls Tryd.prog 89 #[.string s] w fun e w' => e = .returned (.bool b) ∧ Below w.heap.size w w' :=
  (name_any s w hs).mono fun e w' ⟨⟨z, he, hz⟩, hb⟩ => ⟨by rw [he, hz, h], hb⟩

set_option maxRecDepth 100000 in
set_option maxHeartbeats 2000000 in
theorem named_any {ks : List (ByteArray × Nd)} {S : Nat → Prop} {A : Option Addr} {c : Nat} {ca : List Value} (w : World)
    (hla : ks.length ≤ 9223372036854775807) (hra : Rd w S A ca) (ha : KsAt S w ks ca) (hsz : ∀ x ∈ ks, x.1.size ≤ 9223372036854775807) :
    Calls Tryd.prog 108 #[.slice A ks.length c] w fun e w' => RetB (risesB none ks) e ∧ Below w.heap.size w w' := by
  have HSZ := Lib.hid hsz
  clear hsz
  go_enter Tryd.func108, Tryd.ntmps108
  go_wp2
  go_loopw [7] (fun i wr => ∃ k : Nat, k ≤ ks.length ∧ i = .int .i64 k ∧ risesB none ks = risesB (prevAt ks k) (ks.drop k) ∧ Below w.heap.size w wr) (fun i _ => ks.length - (intOf i).toNat)
  case atStart => exact ⟨0, by omega, rfl, rfl, Below.refl _ _⟩
  case round =>
    obtain ⟨k, hk, rfl, ht, hbl⟩ := hrel
    have HT := Lib.hid ht
    clear ht
    by_cases hlt : k < ks.length
    · obtain ⟨ad, A1, c1, B1, d1, rfl, _, x0, x1, x2, x3, hn⟩ := kid_form (hra.below hbl) (ha.below hbl) k hlt
      have hns := HSZ.out ks[k] (List.getElem_mem hlt)
      have HX : Hid (risesB none ks = (nameB ks[k].1 && (match prevAt ks k with | none => true | some q => ltB q ks[k].1) && risesB (prevAt ks (k + 1)) (ks.drop (k + 1)))) := by
        have := HT.out
        rw [List.drop_eq_getElem_cons hlt] at this
        show _ = _
        rw [this]
        have e : prevAt ks (k + 1) = some ks[k].1 := by simp [prevAt, List.getElem?_eq_getElem hlt]
        rw [e]
        rfl
      go_wp2_with fail
      have hb2 := below_new wr (Obj.cells #[.string ks[k].1, .int .i64 ks[k].2.kind, .slice A1 ks[k].2.bytes.length c1, .slice B1 ks[k].2.kids.length d1] 57)
      have y0 : (wr.alloc (Obj.cells #[.string ks[k].1, .int .i64 ks[k].2.kind, .slice A1 ks[k].2.bytes.length c1, .slice B1 ks[k].2.kids.length d1] 57)).cell? ⟨wr.heap.size, 0, none⟩ = some (.string ks[k].1) := by simp
      have hra2 := (hra.below hbl).below hb2
      have ha2 := (ha.below hbl).below hb2
      have hbl2 := hbl.via hb2
      generalize wr.alloc (Obj.cells #[.string ks[k].1, .int .i64 ks[k].2.kind, .slice A1 ks[k].2.bytes.length c1, .slice B1 ks[k].2.kids.length d1] 57) = W at *
      cases hnm : nameB ks[k].1 with
      | false =>
        have HNM := Lib.hid hnm
        clear hnm
        refine wp_region_held_drew (S := fun w' => w'.cell? ⟨wr.heap.size, 0, none⟩ = some (.string ks[k].1)) (by kernel_rfl) ?_ (fun hHeld => ?_)
        · (try dsimp only); exact y0
        refine takeT 0 12 (v := ?_) rfl rfl (by kernel_rfl) (by kernel_rfl) (by kernel_rfl) (fun _ _ _ h => h) hHeld (by rfl) ?_ ?_
        rotate_left
        · intro w hSw; (try dsimp only at hSw); go_simp; (try with_reducible rfl)
        simp only [List.set_cons_zero, List.set_cons_succ]
        refine takeT 1 13 (v := ?_) rfl rfl (by kernel_rfl) (by kernel_rfl) (by kernel_rfl) (fun _ _ _ h => h) hHeld (by rfl) ?_ ?_
        rotate_left
        · intro w hSw; (try dsimp only at hSw); go_simp; (try with_reducible rfl)
        simp only [List.set_cons_zero, List.set_cons_succ]
        refine takeC 2 rfl (by kernel_rfl) (by rfl) (fun K hK => ?_)
        go_simp
        refine (name_is ks[k].1 _ hns HNM.out).mono ?_; rintro e w1 ⟨rfl, hbq⟩; (try go_wp2_with fail)
        refine hK.out _ _ ?_ (fun hHeld => ?_)
        · (try dsimp only); exact cell_later hbq y0
        clear hK K
        refine takeT 3 15 (v := ?_) rfl rfl (by kernel_rfl) (by kernel_rfl) (by kernel_rfl) (fun _ _ _ h => h) hHeld (by rfl) ?_ ?_
        rotate_left
        · intro w hSw; (try dsimp only at hSw); go_simp; (try with_reducible rfl)
        simp only [List.set_cons_zero, List.set_cons_succ]
        refine takeT 4 16 (v := ?_) rfl rfl (by kernel_rfl) (by kernel_rfl) (by kernel_rfl) (fun _ _ _ h => h) hHeld (by rfl) ?_ ?_
        rotate_left
        · intro w hSw; (try dsimp only at hSw); go_simp; (try with_reducible rfl)
        simp only [List.set_cons_zero, List.set_cons_succ]
        refine takeS 5 17 rfl rfl (by kernel_rfl) (by kernel_rfl) (by kernel_rfl) (fun _ _ _ h => h) hHeld (by rfl) ?_
        simp only [List.set_cons_zero, List.set_cons_succ]
        refine takeS 6 18 rfl rfl (by kernel_rfl) (by kernel_rfl) (by kernel_rfl) (fun _ _ _ h => h) hHeld (by rfl) ?_
        simp only [List.set_cons_zero, List.set_cons_succ]
        refine takeS 7 19 rfl rfl (by kernel_rfl) (by kernel_rfl) (by kernel_rfl) (fun _ _ _ h => h) hHeld (by rfl) ?_
        simp only [List.set_cons_zero, List.set_cons_succ]
        refine takeS 8 20 rfl rfl (by kernel_rfl) (by kernel_rfl) (by kernel_rfl) (fun _ _ _ h => h) hHeld (by rfl) ?_
        simp only [List.set_cons_zero, List.set_cons_succ]
        refine takeS 9 21 rfl rfl (by kernel_rfl) (by kernel_rfl) (by kernel_rfl) (fun _ _ _ h => h) hHeld (by rfl) ?_
        simp only [List.set_cons_zero, List.set_cons_succ]
        refine takeS 10 22 rfl rfl (by kernel_rfl) (by kernel_rfl) (by kernel_rfl) (fun _ _ _ h => h) hHeld (by rfl) ?_
        simp only [List.set_cons_zero, List.set_cons_succ]
        refine takeS 11 23 rfl rfl (by kernel_rfl) (by kernel_rfl) (by kernel_rfl) (fun _ _ _ h => h) hHeld (by rfl) ?_
        simp only [List.set_cons_zero, List.set_cons_succ]
        refine takeS 12 24 rfl rfl (by kernel_rfl) (by kernel_rfl) (by kernel_rfl) (fun _ _ _ h => h) hHeld (by rfl) ?_
        simp only [List.set_cons_zero, List.set_cons_succ]
        refine takeS 13 25 rfl rfl (by kernel_rfl) (by kernel_rfl) (by kernel_rfl) (fun _ _ _ h => h) hHeld (by rfl) ?_
        simp only [List.set_cons_zero, List.set_cons_succ]
        refine takeS 14 26 rfl rfl (by kernel_rfl) (by kernel_rfl) (by kernel_rfl) (fun _ _ _ h => h) hHeld (by rfl) ?_
        simp only [List.set_cons_zero, List.set_cons_succ]
        refine takeS 15 27 rfl rfl (by kernel_rfl) (by kernel_rfl) (by kernel_rfl) (fun _ _ _ h => h) hHeld (by rfl) ?_
        simp only [List.set_cons_zero, List.set_cons_succ]
        refine takeS 16 28 rfl rfl (by kernel_rfl) (by kernel_rfl) (by kernel_rfl) (fun _ _ _ h => h) hHeld (by rfl) ?_
        simp only [List.set_cons_zero, List.set_cons_succ]
        refine takeS 17 29 rfl rfl (by kernel_rfl) (by kernel_rfl) (by kernel_rfl) (fun _ _ _ h => h) hHeld (by rfl) ?_
        simp only [List.set_cons_zero, List.set_cons_succ]
        refine takeT 18 30 (v := ?_) rfl rfl (by kernel_rfl) (by kernel_rfl) (by kernel_rfl) (fun _ _ _ h => h) hHeld (by rfl) ?_ ?_
        rotate_left
        · intro w hSw; (try dsimp only at hSw); go_simp; (try with_reducible rfl)
        simp only [List.set_cons_zero, List.set_cons_succ]
        refine wpAnyH_done (by kernel_rfl) ?_ _
        go_wp2
        go_ret
        exact ⟨.mk (by rw [HX.out, HNM.out]; rfl), (hbl2.via (below_dr _)).via hbq⟩
      | true =>
        have HNM := Lib.hid hnm
        clear hnm
        cases k with
        | zero =>
          refine wp_region_held_drew (S := fun w' => w'.cell? ⟨wr.heap.size, 0, none⟩ = some (.string ks[0].1)) (by kernel_rfl) ?_ (fun hHeld => ?_)
          · (try dsimp only); exact y0
          refine takeT 0 12 (v := ?_) rfl rfl (by kernel_rfl) (by kernel_rfl) (by kernel_rfl) (fun _ _ _ h => h) hHeld (by rfl) ?_ ?_
          rotate_left
          · intro w hSw; (try dsimp only at hSw); go_simp; (try with_reducible rfl)
          simp only [List.set_cons_zero, List.set_cons_succ]
          refine takeT 1 13 (v := ?_) rfl rfl (by kernel_rfl) (by kernel_rfl) (by kernel_rfl) (fun _ _ _ h => h) hHeld (by rfl) ?_ ?_
          rotate_left
          · intro w hSw; (try dsimp only at hSw); go_simp; (try with_reducible rfl)
          simp only [List.set_cons_zero, List.set_cons_succ]
          refine takeC 2 rfl (by kernel_rfl) (by rfl) (fun K hK => ?_)
          go_simp
          refine (name_is _ _ hns HNM.out).mono ?_; rintro e w1 ⟨rfl, hbq⟩; (try go_wp2_with fail)
          refine hK.out _ _ ?_ (fun hHeld => ?_)
          · (try dsimp only); exact cell_later hbq y0
          clear hK K
          refine takeT 3 15 (v := ?_) rfl rfl (by kernel_rfl) (by kernel_rfl) (by kernel_rfl) (fun _ _ _ h => h) hHeld (by rfl) ?_ ?_
          rotate_left
          · intro w hSw; (try dsimp only at hSw); go_simp; (try with_reducible rfl)
          simp only [List.set_cons_zero, List.set_cons_succ]
          refine takeT 4 16 (v := ?_) rfl rfl (by kernel_rfl) (by kernel_rfl) (by kernel_rfl) (fun _ _ _ h => h) hHeld (by rfl) ?_ ?_
          rotate_left
          · intro w hSw; (try dsimp only at hSw); go_simp; (try with_reducible rfl)
          simp only [List.set_cons_zero, List.set_cons_succ]
          refine takeT 5 17 (v := ?_) rfl rfl (by kernel_rfl) (by kernel_rfl) (by kernel_rfl) (fun _ _ _ h => h) hHeld (by rfl) ?_ ?_
          rotate_left
          · intro w hSw; (try dsimp only at hSw); go_simp; (try with_reducible rfl)
          simp only [List.set_cons_zero, List.set_cons_succ]
          refine takeT 6 18 (v := ?_) rfl rfl (by kernel_rfl) (by kernel_rfl) (by kernel_rfl) (fun _ _ _ h => h) hHeld (by rfl) ?_ ?_
          rotate_left
          · intro w hSw; (try dsimp only at hSw); go_simp; (try with_reducible rfl)
          simp only [List.set_cons_zero, List.set_cons_succ]
          refine takeT 7 19 (v := ?_) rfl rfl (by kernel_rfl) (by kernel_rfl) (by kernel_rfl) (fun _ _ _ h => h) hHeld (by rfl) ?_ ?_
          rotate_left
          · intro w hSw; (try dsimp only at hSw); go_simp; (try with_reducible rfl)
          simp only [List.set_cons_zero, List.set_cons_succ]
          refine takeS 8 20 rfl rfl (by kernel_rfl) (by kernel_rfl) (by kernel_rfl) (fun _ _ _ h => h) hHeld (by rfl) ?_
          simp only [List.set_cons_zero, List.set_cons_succ]
          refine takeS 9 21 rfl rfl (by kernel_rfl) (by kernel_rfl) (by kernel_rfl) (fun _ _ _ h => h) hHeld (by rfl) ?_
          simp only [List.set_cons_zero, List.set_cons_succ]
          refine takeS 10 22 rfl rfl (by kernel_rfl) (by kernel_rfl) (by kernel_rfl) (fun _ _ _ h => h) hHeld (by rfl) ?_
          simp only [List.set_cons_zero, List.set_cons_succ]
          refine takeS 11 23 rfl rfl (by kernel_rfl) (by kernel_rfl) (by kernel_rfl) (fun _ _ _ h => h) hHeld (by rfl) ?_
          simp only [List.set_cons_zero, List.set_cons_succ]
          refine takeS 12 24 rfl rfl (by kernel_rfl) (by kernel_rfl) (by kernel_rfl) (fun _ _ _ h => h) hHeld (by rfl) ?_
          simp only [List.set_cons_zero, List.set_cons_succ]
          refine takeS 13 25 rfl rfl (by kernel_rfl) (by kernel_rfl) (by kernel_rfl) (fun _ _ _ h => h) hHeld (by rfl) ?_
          simp only [List.set_cons_zero, List.set_cons_succ]
          refine takeS 14 26 rfl rfl (by kernel_rfl) (by kernel_rfl) (by kernel_rfl) (fun _ _ _ h => h) hHeld (by rfl) ?_
          simp only [List.set_cons_zero, List.set_cons_succ]
          refine takeS 15 27 rfl rfl (by kernel_rfl) (by kernel_rfl) (by kernel_rfl) (fun _ _ _ h => h) hHeld (by rfl) ?_
          simp only [List.set_cons_zero, List.set_cons_succ]
          refine takeS 16 28 rfl rfl (by kernel_rfl) (by kernel_rfl) (by kernel_rfl) (fun _ _ _ h => h) hHeld (by rfl) ?_
          simp only [List.set_cons_zero, List.set_cons_succ]
          refine takeT 17 29 (v := ?_) rfl rfl (by kernel_rfl) (by kernel_rfl) (by kernel_rfl) (fun _ _ _ h => h) hHeld (by rfl) ?_ ?_
          rotate_left
          · intro w hSw; (try dsimp only at hSw); go_simp; (try with_reducible rfl)
          simp only [List.set_cons_zero, List.set_cons_succ]
          refine takeT 18 30 (v := ?_) rfl rfl (by kernel_rfl) (by kernel_rfl) (by kernel_rfl) (fun _ _ _ h => h) hHeld (by rfl) ?_ ?_
          rotate_left
          · intro w hSw; (try dsimp only at hSw); go_simp; (try with_reducible rfl)
          simp only [List.set_cons_zero, List.set_cons_succ]
          refine wpAnyH_done (by kernel_rfl) ?_ _
          go_wp2
          go_roundw
          · exact ⟨1, by omega, rfl, by rw [HX.out, HNM.out]; rfl, (hbl2.via (below_dr _)).via hbq⟩
          · simp [intOf]; omega
        | succ j =>
          obtain ⟨ad', _, _, _, _, e0, _, z0, _⟩ := kid_form hra2 ha2 j (by omega)
          injection e0 with e0
          subst e0
          have hjw : IntKind.i64.wrap (j : Int) = j := by
            simp [IntKind.wrap, IntKind.bits, IntKind.signed]
            omega
          have hjl : (j : Int) < ks.length := by omega
          have HP : Hid (prevAt ks (j + 1) = some ks[j].1) := by
            show _ = _
            simp [prevAt, List.getElem?_eq_getElem (show j < ks.length by omega)]
          cases hd : Op.bytesLess ks[j].1.toList ks[j + 1].1.toList with
          | false =>
            have HD := Lib.hid hd
            refine wp_region_held_drew (S := fun w' => w'.cell? ⟨wr.heap.size, 0, none⟩ = some (.string ks[j + 1].1) ∧ w'.cell? (ad.add (j * 4)) = some (.string ks[j].1)) (by kernel_rfl) ?_ (fun hHeld => ?_)
            · (try dsimp only); exact ⟨y0, z0⟩
            refine takeT 0 12 (v := ?_) rfl rfl (by kernel_rfl) (by kernel_rfl) (by kernel_rfl) (fun _ _ _ h => h) hHeld (by rfl) ?_ ?_
            rotate_left
            · intro w hSw; (try dsimp only at hSw); have hSa := hSw.1; have hSb := hSw.2; clear hSw; go_simp; (try with_reducible rfl)
            simp only [List.set_cons_zero, List.set_cons_succ]
            refine takeT 1 13 (v := ?_) rfl rfl (by kernel_rfl) (by kernel_rfl) (by kernel_rfl) (fun _ _ _ h => h) hHeld (by rfl) ?_ ?_
            rotate_left
            · intro w hSw; (try dsimp only at hSw); have hSa := hSw.1; have hSb := hSw.2; clear hSw; go_simp; (try with_reducible rfl)
            simp only [List.set_cons_zero, List.set_cons_succ]
            refine takeC 2 rfl (by kernel_rfl) (by rfl) (fun K hK => ?_)
            go_simp
            refine (name_is _ _ hns HNM.out).mono ?_; rintro e w1 ⟨rfl, hbq⟩; (try go_wp2_with fail)
            refine hK.out _ _ ?_ (fun hHeld => ?_)
            · (try dsimp only); exact ⟨cell_later hbq y0, cell_later hbq z0⟩
            clear hK K
            refine takeT 3 15 (v := ?_) rfl rfl (by kernel_rfl) (by kernel_rfl) (by kernel_rfl) (fun _ _ _ h => h) hHeld (by rfl) ?_ ?_
            rotate_left
            · intro w hSw; (try dsimp only at hSw); have hSa := hSw.1; have hSb := hSw.2; clear hSw; go_simp; (try with_reducible rfl)
            simp only [List.set_cons_zero, List.set_cons_succ]
            refine takeT 4 16 (v := ?_) rfl rfl (by kernel_rfl) (by kernel_rfl) (by kernel_rfl) (fun _ _ _ h => h) hHeld (by rfl) ?_ ?_
            rotate_left
            · intro w hSw; (try dsimp only at hSw); have hSa := hSw.1; have hSb := hSw.2; clear hSw; go_simp; (try with_reducible rfl)
            simp only [List.set_cons_zero, List.set_cons_succ]
            refine takeT 5 17 (v := ?_) rfl rfl (by kernel_rfl) (by kernel_rfl) (by kernel_rfl) (fun _ _ _ h => h) hHeld (by rfl) ?_ ?_
            rotate_left
            · intro w hSw; (try dsimp only at hSw); have hSa := hSw.1; have hSb := hSw.2; clear hSw; go_simp; (try with_reducible rfl)
            simp only [List.set_cons_zero, List.set_cons_succ]
            refine takeT 6 18 (v := ?_) rfl rfl (by kernel_rfl) (by kernel_rfl) (by kernel_rfl) (fun _ _ _ h => h) hHeld (by rfl) ?_ ?_
            rotate_left
            · intro w hSw; (try dsimp only at hSw); have hSa := hSw.1; have hSb := hSw.2; clear hSw; go_simp; (try with_reducible rfl)
            simp only [List.set_cons_zero, List.set_cons_succ]
            refine takeT 7 19 (v := ?_) rfl rfl (by kernel_rfl) (by kernel_rfl) (by kernel_rfl) (fun _ _ _ h => h) hHeld (by rfl) ?_ ?_
            rotate_left
            · intro w hSw; (try dsimp only at hSw); have hSa := hSw.1; have hSb := hSw.2; clear hSw; go_simp; (try with_reducible rfl)
            simp only [List.set_cons_zero, List.set_cons_succ]
            refine takeT 8 20 (v := ?_) rfl rfl (by kernel_rfl) (by kernel_rfl) (by kernel_rfl) (fun _ _ _ h => h) hHeld (by rfl) ?_ ?_
            rotate_left
            · intro w hSw; (try dsimp only at hSw); have hSa := hSw.1; have hSb := hSw.2; clear hSw; go_simp; (try with_reducible rfl)
            simp only [List.set_cons_zero, List.set_cons_succ]
            refine takeT 9 21 (v := ?_) rfl rfl (by kernel_rfl) (by kernel_rfl) (by kernel_rfl) (fun _ _ _ h => h) hHeld (by rfl) ?_ ?_
            rotate_left
            · intro w hSw; (try dsimp only at hSw); have hSa := hSw.1; have hSb := hSw.2; clear hSw; go_simp; (try with_reducible rfl)
            simp only [List.set_cons_zero, List.set_cons_succ]
            refine takeT 10 22 (v := ?_) rfl rfl (by kernel_rfl) (by kernel_rfl) (by kernel_rfl) (fun _ _ _ h => h) hHeld (by rfl) ?_ ?_
            rotate_left
            · intro w hSw; (try dsimp only at hSw); have hSa := hSw.1; have hSb := hSw.2; clear hSw; go_simp; (try with_reducible rfl)
            simp only [List.set_cons_zero, List.set_cons_succ]
            refine takeT 11 23 (v := ?_) rfl rfl (by kernel_rfl) (by kernel_rfl) (by kernel_rfl) (fun _ _ _ h => h) hHeld (by rfl) ?_ ?_
            rotate_left
            · intro w hSw; (try dsimp only at hSw); have hSa := hSw.1; have hSb := hSw.2; clear hSw; go_simp; (try with_reducible rfl)
            simp only [List.set_cons_zero, List.set_cons_succ]
            refine takeT 12 24 (v := ?_) rfl rfl (by kernel_rfl) (by kernel_rfl) (by kernel_rfl) (fun _ _ _ h => h) hHeld (by rfl) ?_ ?_
            rotate_left
            · intro w hSw; (try dsimp only at hSw); have hSa := hSw.1; have hSb := hSw.2; clear hSw; go_simp; (try with_reducible rfl)
            simp only [List.set_cons_zero, List.set_cons_succ]
            refine takeT 13 25 (v := ?_) rfl rfl (by kernel_rfl) (by kernel_rfl) (by kernel_rfl) (fun _ _ _ h => h) hHeld (by rfl) ?_ ?_
            rotate_left
            · intro w hSw; (try dsimp only at hSw); have hSa := hSw.1; have hSb := hSw.2; clear hSw; go_simp; (try with_reducible rfl)
            simp only [List.set_cons_zero, List.set_cons_succ]
            refine takeT 14 26 (v := ?_) rfl rfl (by kernel_rfl) (by kernel_rfl) (by kernel_rfl) (fun _ _ _ h => h) hHeld (by rfl) ?_ ?_
            rotate_left
            · intro w hSw; (try dsimp only at hSw); have hSa := hSw.1; have hSb := hSw.2; clear hSw; go_simp; (try with_reducible rfl)
            simp only [List.set_cons_zero, List.set_cons_succ]
            refine takeT 15 27 (v := ?_) rfl rfl (by kernel_rfl) (by kernel_rfl) (by kernel_rfl) (fun _ _ _ h => h) hHeld (by rfl) ?_ ?_
            rotate_left
            · intro w hSw; (try dsimp only at hSw); have hSa := hSw.1; have hSb := hSw.2; clear hSw; go_simp; (try with_reducible rfl)
            simp only [List.set_cons_zero, List.set_cons_succ]
            refine takeT 16 28 (v := ?_) rfl rfl (by kernel_rfl) (by kernel_rfl) (by kernel_rfl) (fun _ _ _ h => h) hHeld (by rfl) ?_ ?_
            rotate_left
            · intro w hSw; (try dsimp only at hSw); have hSa := hSw.1; have hSb := hSw.2; clear hSw; go_simp; (try with_reducible rfl)
            simp only [List.set_cons_zero, List.set_cons_succ]
            refine takeT 17 29 (v := ?_) rfl rfl (by kernel_rfl) (by kernel_rfl) (by kernel_rfl) (fun _ _ _ h => h) hHeld (by rfl) ?_ ?_
            rotate_left
            · intro w hSw; (try dsimp only at hSw); have hSa := hSw.1; have hSb := hSw.2; clear hSw; go_simp; (try with_reducible rfl)
            simp only [List.set_cons_zero, List.set_cons_succ]
            refine takeT 18 30 (v := ?_) rfl rfl (by kernel_rfl) (by kernel_rfl) (by kernel_rfl) (fun _ _ _ h => h) hHeld (by rfl) ?_ ?_
            rotate_left
            · intro w hSw; (try dsimp only at hSw); have hSa := hSw.1; have hSb := hSw.2; clear hSw; go_simp; (try with_reducible rfl)
            simp only [List.set_cons_zero, List.set_cons_succ]
            refine wpAnyH_done (by kernel_rfl) ?_ _
            go_wp2
            go_ret
            exact ⟨.mk (by rw [HX.out, HNM.out, HP.out]; simp [ltB, ← toList_data, HD.out]), (hbl2.via (below_dr _)).via hbq⟩
          | true =>
            have HD := Lib.hid hd
            refine wp_region_held_drew (S := fun w' => w'.cell? ⟨wr.heap.size, 0, none⟩ = some (.string ks[j + 1].1) ∧ w'.cell? (ad.add (j * 4)) = some (.string ks[j].1)) (by kernel_rfl) ?_ (fun hHeld => ?_)
            · (try dsimp only); exact ⟨y0, z0⟩
            refine takeT 0 12 (v := ?_) rfl rfl (by kernel_rfl) (by kernel_rfl) (by kernel_rfl) (fun _ _ _ h => h) hHeld (by rfl) ?_ ?_
            rotate_left
            · intro w hSw; (try dsimp only at hSw); have hSa := hSw.1; have hSb := hSw.2; clear hSw; go_simp; (try with_reducible rfl)
            simp only [List.set_cons_zero, List.set_cons_succ]
            refine takeT 1 13 (v := ?_) rfl rfl (by kernel_rfl) (by kernel_rfl) (by kernel_rfl) (fun _ _ _ h => h) hHeld (by rfl) ?_ ?_
            rotate_left
            · intro w hSw; (try dsimp only at hSw); have hSa := hSw.1; have hSb := hSw.2; clear hSw; go_simp; (try with_reducible rfl)
            simp only [List.set_cons_zero, List.set_cons_succ]
            refine takeC 2 rfl (by kernel_rfl) (by rfl) (fun K hK => ?_)
            go_simp
            refine (name_is _ _ hns HNM.out).mono ?_; rintro e w1 ⟨rfl, hbq⟩; (try go_wp2_with fail)
            refine hK.out _ _ ?_ (fun hHeld => ?_)
            · (try dsimp only); exact ⟨cell_later hbq y0, cell_later hbq z0⟩
            clear hK K
            refine takeT 3 15 (v := ?_) rfl rfl (by kernel_rfl) (by kernel_rfl) (by kernel_rfl) (fun _ _ _ h => h) hHeld (by rfl) ?_ ?_
            rotate_left
            · intro w hSw; (try dsimp only at hSw); have hSa := hSw.1; have hSb := hSw.2; clear hSw; go_simp; (try with_reducible rfl)
            simp only [List.set_cons_zero, List.set_cons_succ]
            refine takeT 4 16 (v := ?_) rfl rfl (by kernel_rfl) (by kernel_rfl) (by kernel_rfl) (fun _ _ _ h => h) hHeld (by rfl) ?_ ?_
            rotate_left
            · intro w hSw; (try dsimp only at hSw); have hSa := hSw.1; have hSb := hSw.2; clear hSw; go_simp; (try with_reducible rfl)
            simp only [List.set_cons_zero, List.set_cons_succ]
            refine takeT 5 17 (v := ?_) rfl rfl (by kernel_rfl) (by kernel_rfl) (by kernel_rfl) (fun _ _ _ h => h) hHeld (by rfl) ?_ ?_
            rotate_left
            · intro w hSw; (try dsimp only at hSw); have hSa := hSw.1; have hSb := hSw.2; clear hSw; go_simp; (try with_reducible rfl)
            simp only [List.set_cons_zero, List.set_cons_succ]
            refine takeT 6 18 (v := ?_) rfl rfl (by kernel_rfl) (by kernel_rfl) (by kernel_rfl) (fun _ _ _ h => h) hHeld (by rfl) ?_ ?_
            rotate_left
            · intro w hSw; (try dsimp only at hSw); have hSa := hSw.1; have hSb := hSw.2; clear hSw; go_simp; (try with_reducible rfl)
            simp only [List.set_cons_zero, List.set_cons_succ]
            refine takeT 7 19 (v := ?_) rfl rfl (by kernel_rfl) (by kernel_rfl) (by kernel_rfl) (fun _ _ _ h => h) hHeld (by rfl) ?_ ?_
            rotate_left
            · intro w hSw; (try dsimp only at hSw); have hSa := hSw.1; have hSb := hSw.2; clear hSw; go_simp; (try with_reducible rfl)
            simp only [List.set_cons_zero, List.set_cons_succ]
            refine takeT 8 20 (v := ?_) rfl rfl (by kernel_rfl) (by kernel_rfl) (by kernel_rfl) (fun _ _ _ h => h) hHeld (by rfl) ?_ ?_
            rotate_left
            · intro w hSw; (try dsimp only at hSw); have hSa := hSw.1; have hSb := hSw.2; clear hSw; go_simp; (try with_reducible rfl)
            simp only [List.set_cons_zero, List.set_cons_succ]
            refine takeT 9 21 (v := ?_) rfl rfl (by kernel_rfl) (by kernel_rfl) (by kernel_rfl) (fun _ _ _ h => h) hHeld (by rfl) ?_ ?_
            rotate_left
            · intro w hSw; (try dsimp only at hSw); have hSa := hSw.1; have hSb := hSw.2; clear hSw; go_simp; (try with_reducible rfl)
            simp only [List.set_cons_zero, List.set_cons_succ]
            refine takeT 10 22 (v := ?_) rfl rfl (by kernel_rfl) (by kernel_rfl) (by kernel_rfl) (fun _ _ _ h => h) hHeld (by rfl) ?_ ?_
            rotate_left
            · intro w hSw; (try dsimp only at hSw); have hSa := hSw.1; have hSb := hSw.2; clear hSw; go_simp; (try with_reducible rfl)
            simp only [List.set_cons_zero, List.set_cons_succ]
            refine takeT 11 23 (v := ?_) rfl rfl (by kernel_rfl) (by kernel_rfl) (by kernel_rfl) (fun _ _ _ h => h) hHeld (by rfl) ?_ ?_
            rotate_left
            · intro w hSw; (try dsimp only at hSw); have hSa := hSw.1; have hSb := hSw.2; clear hSw; go_simp; (try with_reducible rfl)
            simp only [List.set_cons_zero, List.set_cons_succ]
            refine takeT 12 24 (v := ?_) rfl rfl (by kernel_rfl) (by kernel_rfl) (by kernel_rfl) (fun _ _ _ h => h) hHeld (by rfl) ?_ ?_
            rotate_left
            · intro w hSw; (try dsimp only at hSw); have hSa := hSw.1; have hSb := hSw.2; clear hSw; go_simp; (try with_reducible rfl)
            simp only [List.set_cons_zero, List.set_cons_succ]
            refine takeT 13 25 (v := ?_) rfl rfl (by kernel_rfl) (by kernel_rfl) (by kernel_rfl) (fun _ _ _ h => h) hHeld (by rfl) ?_ ?_
            rotate_left
            · intro w hSw; (try dsimp only at hSw); have hSa := hSw.1; have hSb := hSw.2; clear hSw; go_simp; (try with_reducible rfl)
            simp only [List.set_cons_zero, List.set_cons_succ]
            refine takeT 14 26 (v := ?_) rfl rfl (by kernel_rfl) (by kernel_rfl) (by kernel_rfl) (fun _ _ _ h => h) hHeld (by rfl) ?_ ?_
            rotate_left
            · intro w hSw; (try dsimp only at hSw); have hSa := hSw.1; have hSb := hSw.2; clear hSw; go_simp; (try with_reducible rfl)
            simp only [List.set_cons_zero, List.set_cons_succ]
            refine takeT 15 27 (v := ?_) rfl rfl (by kernel_rfl) (by kernel_rfl) (by kernel_rfl) (fun _ _ _ h => h) hHeld (by rfl) ?_ ?_
            rotate_left
            · intro w hSw; (try dsimp only at hSw); have hSa := hSw.1; have hSb := hSw.2; clear hSw; go_simp; (try with_reducible rfl)
            simp only [List.set_cons_zero, List.set_cons_succ]
            refine takeT 16 28 (v := ?_) rfl rfl (by kernel_rfl) (by kernel_rfl) (by kernel_rfl) (fun _ _ _ h => h) hHeld (by rfl) ?_ ?_
            rotate_left
            · intro w hSw; (try dsimp only at hSw); have hSa := hSw.1; have hSb := hSw.2; clear hSw; go_simp; (try with_reducible rfl)
            simp only [List.set_cons_zero, List.set_cons_succ]
            refine takeT 17 29 (v := ?_) rfl rfl (by kernel_rfl) (by kernel_rfl) (by kernel_rfl) (fun _ _ _ h => h) hHeld (by rfl) ?_ ?_
            rotate_left
            · intro w hSw; (try dsimp only at hSw); have hSa := hSw.1; have hSb := hSw.2; clear hSw; go_simp; (try with_reducible rfl)
            simp only [List.set_cons_zero, List.set_cons_succ]
            refine takeT 18 30 (v := ?_) rfl rfl (by kernel_rfl) (by kernel_rfl) (by kernel_rfl) (fun _ _ _ h => h) hHeld (by rfl) ?_ ?_
            rotate_left
            · intro w hSw; (try dsimp only at hSw); have hSa := hSw.1; have hSb := hSw.2; clear hSw; go_simp; (try with_reducible rfl)
            simp only [List.set_cons_zero, List.set_cons_succ]
            refine wpAnyH_done (by kernel_rfl) ?_ _
            go_wp2
            go_roundw
            · exact ⟨j + 1 + 1, by omega, rfl, by rw [HX.out, HNM.out, HP.out]; simp [ltB, ← toList_data, HD.out], (hbl2.via (below_dr _)).via hbq⟩
            · simp [intOf]; omega
    · go_wp2_with fail
      go_ret
      have e1 : ks.drop k = [] := List.drop_eq_nil_iff.2 (by omega)
      exact ⟨.mk (by rw [HT.out, e1]; rfl), hbl⟩
end Pk
end Go.Proofs.YtgfgdlnlafngnaaDoor
