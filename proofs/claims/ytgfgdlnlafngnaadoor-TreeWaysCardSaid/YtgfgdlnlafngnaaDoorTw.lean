/- Walks: spencelaw08.TreeWays. -/
import Derived.Test.YtgfgdlnlafngnaaDoorW8
import Derived.Test.YtgfgdlnlafngnaaDoorAy
import Derived.Test.YtgfgdlnlafngnaaDoorCo
import Derived.Test.YtgfgdlnlafngnaaDoorBe
import Derived.Test.YtgfgdlnlafngnaaDoorPp
import Derived.Test.YtgfgdlnlafngnaaDoorNam
import Derived.Test.YtgfgdlnlafngnaaDoorWy
import Derived.Deep.DeepCutAuto
import Derived.Deep.LoopGhost
import Derived.IntWalk
namespace Go.Proofs.YtgfgdlnlafngnaaDoor
namespace Pk
open Go.RowKit

/-- What is known of the ways of a right tree. -/
structure WaysOk (t : Nd) (ps : List (ByteArray × Nd)) : Prop where
  find : ∀ i (h : i < ps.length), pFind t ps[i].1 = (ps[i].2, 0)
  size : ∀ i (h : i < ps.length), ps[i].1.size ≤ 1000
  bytes : ∀ i (h : i < ps.length), ps[i].2.bytes.length ≤ 2048
  right : ∀ i (h : i < ps.length), rightB ps[i].2 = true
  apart : ∀ i (h : i + 1 < ps.length), (ps[i + 1].1.toList == (ps[i]'(by omega)).1.toList) = false
theorem bytes_le {t : Nd} (h : allB t = true) : t.bytes.length ≤ 2048 := by
  obtain ⟨k, b, ks⟩ := t
  simp only [allB, Bool.and_eq_true] at h
  by_cases hk4 : k = 4
  · subst hk4
    show b.length ≤ 2048
    rw [(alone4 h.1).1]
    simp
  · exact (alone_not4 h.1 hk4).2.2.1
theorem ways_are {t : Nd} (h : rightB t = true) : WaysOk t (waysN (str []) t) := by
  have hall : allB t = true ∧ dep t ≤ 8 := by
    simp only [rightB, Bool.and_eq_true, decide_eq_true_eq] at h
    exact ⟨h.1.1, h.2⟩
  have hr : ∀ i (hi : i < (waysN (str []) t).length), rightB (waysN (str []) t)[i].2 = true := fun i hi => by
    obtain ⟨names, h1, _, _⟩ := mem_waysN t _ _ (List.getElem_mem hi) hall.1
    exact at_right h1 h
  refine ⟨fun i hi => find_way h (List.getElem_mem hi), fun i hi => ?_, fun i hi => ?_, hr, fun i hi => ?_⟩
  · have := way_size t _ _ (List.getElem_mem hi) hall.1
    simp only [str_size, List.length_nil] at this
    omega
  · have := hr i hi
    simp only [rightB, Bool.and_eq_true] at this
    exact bytes_le this.1.1
  · have hnd := ways_nodup hall.1
    rw [beq_eq_false_iff_ne]
    intro e
    rw [toList_data, toList_data] at e
    have e2 := bytes_ext e
    have h1 : ((waysN (str []) t).map Prod.fst)[i + 1]'(by simpa using hi) = ((waysN (str []) t).map Prod.fst)[i]'(by simp; omega) := by simpa using e2
    rw [List.nodup_iff_pairwise_ne, List.pairwise_iff_getElem] at hnd
    exact hnd i (i + 1) (by simp; omega) (by simpa using hi) (by omega) h1.symm
/-- tree.Find, where it is known what is found. -/
theorem find_at {t x : Nd} {S : Nat → Prop} {cs : List Value} (w : World) {way : ByteArray} (h : pFind t way = (x, 0)) (hn : NdAt S w t cs) (hsz : Sz t) (hws : way.size ≤ 100000) :
    Calls Tryd.prog 27 #[.agg cs.toArray, .string way] w fun e w' => Below w.heap.size w w' ∧ ∃ c0 c1 c2, e = .returned (.tuple #[.agg #[c0, c1, c2], .int .i64 0]) ∧ NdAt (fun k => w.heap.size ≤ k) w' x [c0, c1, c2] := by
  have := tfind_any w way hn hsz (by omega)
  rw [h] at this
  exact this
theorem begins_sfx {s v : ByteArray} (h : beginsB s v = true) (hv : v.size ≠ 0) (hne : (s.toList != v.toList) = true) : v.size + 1 ≤ s.size ∧ s = v ++ ⟨#[47]⟩ ++ s.extract (v.size + 1) s.size := by
  unfold beginsB at h
  have h1 : v.toList.isEmpty = false := by
    rw [toList_data, List.isEmpty_eq_false_iff, ← List.length_pos_iff, size_data]
    omega
  have h2 : (s.toList == v.toList) = false := by simpa using hne
  rw [h1, h2] at h
  simp only [Bool.false_or, Bool.and_eq_true, decide_eq_true_eq, beq_iff_eq] at h
  refine ⟨by omega, ?_⟩
  have h3 := h.2
  rw [toList_data, toList_data] at h3
  apply bytes_ext
  rw [data_append, ← h3, ext_take, ext_drop, str_data, str_data, List.take_append_drop]
theorem sum_le {t : Nd} {ps : List (ByteArray × Nd)} (h : WaysOk t ps) (j : Nat) : sumB (ps.take j) ≤ 2048 * ps.length := by
  have h1 := sumB_le (ps.take j) (fun x hx => by
    obtain ⟨i, hi, rfl⟩ := List.mem_iff_getElem.1 (List.mem_of_mem_take hx)
    exact h.bytes i hi)
  have h2 := List.length_take_le j ps
  rw [List.length_take] at h1
  have h3 : min j ps.length ≤ ps.length := Nat.min_le_right _ _
  omega
theorem sumB_take (ps : List (ByteArray × Nd)) (j : Nat) (h : j < ps.length) : sumB (ps.take (j + 1)) = sumB (ps.take j) + ps[j].2.bytes.length := by
  rw [List.take_succ_eq_append_getElem h, sumB_append]
  simp [sumB]

set_option maxRecDepth 100000 in
set_option maxHeartbeats 4000000 in
theorem treeWays_any {t : Nd} {S : Nat → Prop} {cs : List Value} (w : World) (a : Int) (hn : NdAt S w t cs) (hsz : Sz t) :
    Calls Tryd.prog 7 #[.agg cs.toArray, .int .i64 a] w fun e w' => e = .returned (.bool true) ∧ Below w.heap.size w w' := by
  obtain ⟨A, c, B, d, rfl⟩ := nd_form hn
  go_enter Tryd.func7, Tryd.ntmps7
  go_wp2_with fail
  have hb1 := below_new w (Obj.cells #[.int .i64 t.kind, .slice A t.bytes.length c, .slice B t.kids.length d] 28)
  have hN1 := heap_alloc_new w (Obj.cells #[.int .i64 t.kind, .slice A t.bytes.length c, .slice B t.kids.length d] 28)
  have hs1 : (w.alloc (Obj.cells #[.int .i64 t.kind, .slice A t.bytes.length c, .slice B t.kids.length d] 28)).heap.size = w.heap.size + 1 := by simp
  generalize w.alloc (Obj.cells #[.int .i64 t.kind, .slice A t.bytes.length c, .slice B t.kids.length d] 28) = w1 at *
  refine (awake8_any w1).mono ?_
  rintro e w2 ⟨rfl, hb2⟩
  have hN2 := (hb2.block w.heap.size (by omega)).trans hN1
  have hs2 := hb2.size
  have h02 := hb1.via hb2
  have ⟨n0, n1, n2⟩ := cells3 hN2
  go_wp2_with fail
  refine (size8_any t w2 _ _ _ (hn.below h02)).mono ?_
  rintro e w3 ⟨⟨z, rfl⟩, hb3⟩
  have hN3 := (hb3.block w.heap.size (by omega)).trans hN2
  have hs3 := hb3.size
  have h03 := h02.via hb3
  clear n0 n1 n2
  have ⟨n0, n1, n2⟩ := cells3 hN3
  by_cases hz : 1500 < z
  · go_wp2_with fail
    go_ret
    exact ⟨rfl, h03⟩
  · go_wp2_with fail
    refine (ways_any w3 (hn.below h03) hsz).mono ?_
    rintro e w4 ⟨hb4, v4, rfl, how⟩
    obtain ⟨L, lc, rfl⟩ := own_form how
    have hN4 := (hb4.block w.heap.size (by omega)).trans hN3
    have hs4 := hb4.size
    have h04 := h03.via hb4
    clear n0 n1 n2
    have ⟨n0, n1, n2⟩ := cells3 hN4
    have HRD := Rd.of_own how
    clear how
    go_wp2_with fail
    refine (count_any w4 (hn.below h04) hsz).mono ?_
    rintro e w5 ⟨hb5, rfl⟩
    have hN5 := (hb5.block w.heap.size (by omega)).trans hN4
    have hs5 := hb5.size
    have h05 := h04.via hb5
    have hrd := HRD.below hb5
    clear n0 n1 n2 HRD
    have ⟨n0, n1, n2⟩ := cells3 hN5
    go_wp2_with fail
    refine (right_is w5 (hn.below h05) hsz).mono ?_
    rintro e w6 ⟨⟨y, rfl, hy⟩, hb6⟩
    have hN6 := (hb6.block w.heap.size (by omega)).trans hN5
    have hs6 := hb6.size
    have h06 := h05.via hb6
    have hrd := hrd.below hb6
    clear n0 n1 n2
    have ⟨n0, n1, n2⟩ := cells3 hN6
    cases y with
    | false =>
      have e1 : pWays t = [] := by
        unfold pWays
        rw [← hy.out]
        rfl
      have e2 : pCount t = (0, 0, 0) := by
        unfold pCount
        rw [← hy.out]
        rfl
      clear hy hrd
      rw [e1, e2]
      clear e1 e2
      go_wp2_with fail
      go_ret
      exact ⟨rfl, h06⟩
    | true =>
      have HR := Lib.hid hy.out.symm
      clear hy
      have hcnt : cnt t ≤ 200 ∧ 1 ≤ dep t ∧ dep t ≤ 8 ∧ 1 ≤ cnt t := by
        have := HR.out
        simp only [rightB, Bool.and_eq_true, decide_eq_true_eq] at this
        exact ⟨this.1.2, dep_pos t, this.2, cnt_pos t⟩
      have HPS := ways_are HR.out
      have hpl := waysN_len (str []) t
      have e1 : pWays t = (waysN (str []) t).map Prod.fst := by
        unfold pWays
        rw [HR.out]
        rfl
      have e2 : pCount t = (cnt t, dep t, sumB (waysN (str []) t)) := by
        unfold pCount
        rw [HR.out]
        rfl
      rw [e1, List.map_map] at hrd
      rw [e1, e2, List.length_map]
      clear e1 e2
      generalize waysN (str []) t = ps at *
      rw [← hpl] at hcnt ⊢
      obtain ⟨hc1, hd1, hd2, hc2⟩ := hcnt
      generalize dep t = dp at *
      have hdi : ((dp : Int) < 1) = False := by simp; omega
      have hdj : ((8 : Int) < dp) = False := by simp; omega
      clear hpl
      go_wp2_with fail
      refine (pick_any a ps.length w6 (by omega) (by omega)).mono ?_
      rintro e w7 ⟨⟨k, hk, rfl⟩, rfl⟩
      obtain ⟨ad, rfl, _, hjunk⟩ := hrd.at_ (j := k) (by simpa using hk)
      clear hjunk
      have hcell : ∀ (wx : World), Below w6.heap.size w6 wx → ∀ j (h : j < ps.length), wx.cell? (ad.add j) = some (.string ps[j].1) := fun wx hb j h => by
        obtain ⟨ad', e, _, hx⟩ := (hrd.below hb).at_ (j := j) (by simpa using h)
        injection e with e
        subst e
        rw [hx]
        simp
      have HC := Lib.hid hcell
      have x0 := hcell w6 (Below.refl _ _) k hk
      clear hcell hrd
      have hfk := HPS.find k hk
      have hsk := HPS.size k hk
      have hrk := HPS.right k hk
      generalize hpk : ps[k] = pk at *
      obtain ⟨way, top⟩ := pk
      clear hpk
      dsimp only at *
      have HFK := Lib.hid hfk
      have HRK := Lib.hid hrk
      have HP := Lib.hid HPS
      clear hfk hrk HPS
      go_wp2_with fail
      refine (tfind_any w6 way (hn.below h06) hsz (by omega)).mono ?_
      rw [HFK.out]
      rintro e w7 ⟨hb7, c0, c1, c2, rfl, hn7⟩
      obtain ⟨A7, d7, B7, e7, hcs⟩ := nd_form hn7
      simp only [List.cons.injEq, and_true] at hcs
      obtain ⟨rfl, rfl, rfl⟩ := hcs
      go_wp2_with fail
      have hb78 := below_new w7 (Obj.cells #[.int .i64 top.kind, .slice A7 top.bytes.length d7, .slice B7 top.kids.length e7] 28)
      have hT8 := heap_alloc_new w7 (Obj.cells #[.int .i64 top.kind, .slice A7 top.bytes.length d7, .slice B7 top.kids.length e7] 28)
      have hs8 : (w7.alloc (Obj.cells #[.int .i64 top.kind, .slice A7 top.bytes.length d7, .slice B7 top.kids.length e7] 28)).heap.size = w7.heap.size + 1 := by simp
      have hN8 := ((hb7.via hb78).block w.heap.size (by omega)).trans hN6
      have hn8 := hn7.below hb78
      have hb68 := hb7.via hb78
      have hs7 := hb7.size
      clear n0 n1 n2 x0
      generalize w7.alloc (Obj.cells #[.int .i64 top.kind, .slice A7 top.bytes.length d7, .slice B7 top.kids.length e7] 28) = w8 at *
      go_wp2_with fail
      go_loopg [12, 13] ps.length (fun gk s12 s13 wr => ∃ j : Nat, gk = ps.length - j ∧ j ≤ ps.length ∧ s12 = .int .i64 (sumB (ps.take j)) ∧ s13 = .int .i64 j ∧ Below w8.heap.size w8 wr)
      case atStart => exact ⟨0, rfl, by omega, rfl, rfl, Below.refl _ _⟩
      case round =>
        obtain ⟨j, rfl, hj, rfl, rfl, hbr⟩ := hrel
        have hNr := (hbr.block w.heap.size (by omega)).trans hN8
        have hTr := (hbr.block w7.heap.size (by omega)).trans hT8
        have ⟨n0, n1, n2⟩ := cells3 hNr
        have ⟨t0, t1, t2⟩ := cells3 hTr
        by_cases hlt : j < ps.length
        · have xj := HC.out wr (hb68.via hbr) j hlt
          have hfj := HP.out.find j hlt
          have hsj := HP.out.size j hlt
          have hbj := HP.out.bytes j hlt
          have hrj := Lib.hid (HP.out.right j hlt)
          have hsum := Lib.hid (sumB_take ps j hlt)
          have hap : Hid (∀ h : 0 < j, (ps[j].1.toList == (ps[j - 1]'(by omega)).1.toList) = false) := fun h => by
            have := HP.out.apart (j - 1) (by omega)
            have e : j - 1 + 1 = j := by omega
            simp only [e] at this
            exact this
          generalize hpj : ps[j] = pj at *
          have HPJ := Lib.hid hpj
          clear hpj
          go_upto_region 17 with fail
          go_cut [14, 15] (fun s14 s15 wx => ∃ g A9 d9 B9 e9, s14 = .pointer (some ⟨g, 0, none⟩) ∧ s15 = .int .i64 0 ∧ wx.heap[g]? = some (.cells #[.int .i64 pj.2.kind, .slice A9 pj.2.bytes.length d9, .slice B9 pj.2.kids.length e9] 28 (0, 0)) ∧ NdAt (fun _ => True) wx pj.2 [.int .i64 pj.2.kind, .slice A9 pj.2.bytes.length d9, .slice B9 pj.2.kids.length e9] ∧ Below wr.heap.size wr wx)
          case first =>
            refine wp_region_held_drew (S := fun w' => w'.cell? ⟨w.heap.size, 0, none⟩ = some (Value.int .i64 t.kind) ∧ w'.cell? ⟨w.heap.size, 1, none⟩ = some (Value.slice A t.bytes.length c) ∧ w'.cell? ⟨w.heap.size, 2, none⟩ = some (Value.slice B t.kids.length d) ∧ w'.cell? (ad.add j) = some (Value.string pj.1)) (by kernel_rfl) ?_ (fun hHeld => ?_)
            · (try dsimp only); exact ⟨n0, n1, n2, xj⟩
            refine takeT 0 77 (v := ?_) rfl rfl (by kernel_rfl) (by kernel_rfl) (by kernel_rfl) (fun _ _ _ h => h) hHeld (by rfl) ?_ ?_
            rotate_left
            · intro w hSw; (try dsimp only at hSw); have hSa := hSw.1; have hSb := hSw.2.1; have hSc := hSw.2.2.1; have hSd := hSw.2.2.2; clear hSw; go_simp; (try with_reducible rfl)
            simp only [List.set_cons_zero, List.set_cons_succ]
            refine takeT 1 78 (v := ?_) rfl rfl (by kernel_rfl) (by kernel_rfl) (by kernel_rfl) (fun _ _ _ h => h) hHeld (by rfl) ?_ ?_
            rotate_left
            · intro w hSw; (try dsimp only at hSw); have hSa := hSw.1; have hSb := hSw.2.1; have hSc := hSw.2.2.1; have hSd := hSw.2.2.2; clear hSw; go_simp; (try with_reducible rfl)
            simp only [List.set_cons_zero, List.set_cons_succ]
            refine takeT 2 79 (v := ?_) rfl rfl (by kernel_rfl) (by kernel_rfl) (by kernel_rfl) (fun _ _ _ h => h) hHeld (by rfl) ?_ ?_
            rotate_left
            · intro w hSw; (try dsimp only at hSw); have hSa := hSw.1; have hSb := hSw.2.1; have hSc := hSw.2.2.1; have hSd := hSw.2.2.2; clear hSw; go_simp; (try with_reducible rfl)
            simp only [List.set_cons_zero, List.set_cons_succ]
            refine takeT 3 80 (v := ?_) rfl rfl (by kernel_rfl) (by kernel_rfl) (by kernel_rfl) (fun _ _ _ h => h) hHeld (by rfl) ?_ ?_
            rotate_left
            · intro w hSw; (try dsimp only at hSw); have hSa := hSw.1; have hSb := hSw.2.1; have hSc := hSw.2.2.1; have hSd := hSw.2.2.2; clear hSw; go_simp; (try with_reducible rfl)
            simp only [List.set_cons_zero, List.set_cons_succ]
            refine takeT 4 81 (v := ?_) rfl rfl (by kernel_rfl) (by kernel_rfl) (by kernel_rfl) (fun _ _ _ h => h) hHeld (by rfl) ?_ ?_
            rotate_left
            · intro w hSw; (try dsimp only at hSw); have hSa := hSw.1; have hSb := hSw.2.1; have hSc := hSw.2.2.1; have hSd := hSw.2.2.2; clear hSw; go_simp; (try with_reducible rfl)
            simp only [List.set_cons_zero, List.set_cons_succ]
            refine takeC2 5 9 rfl rfl (by kernel_rfl) (by rfl) (by rfl) (fun K hK => ?_) (fun K hK => ?_)
            · skip
              go_simp
              refine (find_at (wr.drew) hfj (hn.below ((h06.via hb68).via (hbr.via (below_dr _)))) hsz (by omega)).mono ?_
              rintro e wq ⟨hbq, c0, c1, c2, rfl, hnq⟩
              obtain ⟨A9, d9, B9, e9, hcs⟩ := nd_form hnq
              simp only [List.cons.injEq, and_true] at hcs
              obtain ⟨rfl, rfl, rfl⟩ := hcs
              (try go_wp2_with fail)
              have hbc : Below wr.heap.size wr wq := (below_dr _).via hbq
              refine hK.out _ _ ?_ (fun hHeld => ?_)
              · (try dsimp only); exact ⟨cell_later hbc n0, cell_later hbc n1, cell_later hbc n2, cell_later hbc xj⟩
              clear hK
              refine takeT 6 76 (v := ?_) rfl rfl (by kernel_rfl) (by kernel_rfl) (by kernel_rfl) (fun _ _ _ h => h) hHeld (by rfl) ?_ ?_
              rotate_left
              · intro w hSw; (try dsimp only at hSw); have hSa := hSw.1; have hSb := hSw.2.1; have hSc := hSw.2.2.1; have hSd := hSw.2.2.2; clear hSw; go_simp; (try with_reducible rfl)
              simp only [List.set_cons_zero, List.set_cons_succ]
              refine takeT 7 83 (v := ?_) rfl rfl (by kernel_rfl) (by kernel_rfl) (by kernel_rfl) (fun _ _ _ h => h) hHeld (by rfl) ?_ ?_
              rotate_left
              · intro w hSw; (try dsimp only at hSw); have hSa := hSw.1; have hSb := hSw.2.1; have hSc := hSw.2.2.1; have hSd := hSw.2.2.2; clear hSw; go_simp; (try with_reducible rfl)
              simp only [List.set_cons_zero, List.set_cons_succ]
              refine takeT 8 84 (v := ?_) rfl rfl (by kernel_rfl) (by kernel_rfl) (by kernel_rfl) (fun _ _ _ h => h) hHeld (by rfl) ?_ ?_
              rotate_left
              · intro w hSw; (try dsimp only at hSw); have hSa := hSw.1; have hSb := hSw.2.1; have hSc := hSw.2.2.1; have hSd := hSw.2.2.2; clear hSw; go_simp; (try with_reducible rfl)
              simp only [List.set_cons_zero, List.set_cons_succ]
              refine takeC 9 rfl (by kernel_rfl) (by rfl) (fun K hK => ?_)
              go_simp
              have hbl := hbc.via (below_new wq (Obj.cells node0 28))
              have hL := heap_alloc_new wq (Obj.cells node0 28)
              have hnl := hnq.bound.below (below_new wq (Obj.cells node0 28))
              have hsq := hbc.size
              generalize hgq : wq.heap.size = g at *
              generalize wq.alloc (Obj.cells node0 28) = wl at *
              refine hK.out _ _ ?_ (fun hHeld => ?_)
              · (try dsimp only); exact ⟨cell_later hbl n0, cell_later hbl n1, cell_later hbl n2, cell_later hbl xj⟩
              clear hK
              have ⟨b0, b1, b2⟩ := cells3 hL
              have g0 := blk_frozen' hL 0
              have g1 := blk_frozen' hL 1
              have g2 := blk_frozen' hL 2
              refine takeC 10 rfl (by kernel_rfl) (by rfl) (fun K hK => ?_)
              go_simp
              have hst := chs_set3 (T := fun k => k = g) wl g (.int .i64 pj.2.kind) (.slice A9 pj.2.bytes.length d9) (.slice B9 pj.2.kids.length e9) rfl
              have hL2 := blk_set3 hL (.int .i64 pj.2.kind) (.slice A9 pj.2.bytes.length d9) (.slice B9 pj.2.kids.length e9)
              generalize ((wl.setCell ⟨g, 0, none⟩ (.int .i64 pj.2.kind)).setCell ⟨g, 1, none⟩ (.slice A9 pj.2.bytes.length d9)).setCell ⟨g, 2, none⟩ (.slice B9 pj.2.kids.length e9) = wz at *
              have hbz : Below wr.heap.size wr wz := ((Chs.of_below hbl).trans hst).below (fun k hk e => by have : k = g := e; omega)
              refine hK.out _ _ ?_ (fun hHeld => ?_)
              · (try dsimp only); exact ⟨cell_later hbz n0, cell_later hbz n1, cell_later hbz n2, cell_later hbz xj⟩
              clear hK
              refine takeT 11 15 (v := ?_) rfl rfl (by kernel_rfl) (by kernel_rfl) (by kernel_rfl) (fun _ _ _ h => h) hHeld (by rfl) ?_ ?_
              rotate_left
              · intro w hSw; (try dsimp only at hSw); have hSa := hSw.1; have hSb := hSw.2.1; have hSc := hSw.2.2.1; have hSd := hSw.2.2.2; clear hSw; go_simp; (try with_reducible rfl)
              simp only [List.set_cons_zero, List.set_cons_succ]
              refine wpAnyH_done (by kernel_rfl) ?_ _
              have hnz := NdAt.mono (S' := fun _ => True) (fun _ _ => trivial) _ _ (hnl.chs hst (fun k hk _ e => by have h1 := hk.2; have : k = g := e; omega))
              go_wp2_with fail
              go_meet
              exact ⟨_, A9, d9, B9, e9, rfl, rfl, hL2, hnz, hbz⟩
            · go_simp
              have hbl : Below wr.heap.size wr (wr.alloc (Obj.cells node0 28)).drew := (below_new wr _).via (below_dr _)
              have hL : (wr.alloc (Obj.cells node0 28)).drew.heap[wr.heap.size]? = some (.cells node0 28 (0, 0)) := heap_alloc_new wr _
              have hsl : wr.heap.size < (wr.alloc (Obj.cells node0 28)).drew.heap.size := by simp
              generalize (wr.alloc (Obj.cells node0 28)).drew = wk at *
              refine hK.out _ _ ?_ (fun hHeld => ?_)
              · (try dsimp only); exact ⟨cell_later hbl n0, cell_later hbl n1, cell_later hbl n2, cell_later hbl xj⟩
              clear hK
              refine takeC 5 rfl (by kernel_rfl) (by rfl) (fun K hK => ?_)
              go_simp
              refine (find_at (wk) hfj (hn.below ((h06.via hb68).via (hbr.via hbl))) hsz (by omega)).mono ?_
              rintro e wq ⟨hbq, c0, c1, c2, rfl, hnq⟩
              obtain ⟨A9, d9, B9, e9, hcs⟩ := nd_form hnq
              simp only [List.cons.injEq, and_true] at hcs
              obtain ⟨rfl, rfl, rfl⟩ := hcs
              (try go_wp2_with fail)
              have hbc := hbl.via hbq
              have hL := (hbq.block wr.heap.size hsl).trans hL
              refine hK.out _ _ ?_ (fun hHeld => ?_)
              · (try dsimp only); exact ⟨cell_later hbc n0, cell_later hbc n1, cell_later hbc n2, cell_later hbc xj⟩
              clear hK
              refine takeT 6 76 (v := ?_) rfl rfl (by kernel_rfl) (by kernel_rfl) (by kernel_rfl) (fun _ _ _ h => h) hHeld (by rfl) ?_ ?_
              rotate_left
              · intro w hSw; (try dsimp only at hSw); have hSa := hSw.1; have hSb := hSw.2.1; have hSc := hSw.2.2.1; have hSd := hSw.2.2.2; clear hSw; go_simp; (try with_reducible rfl)
              simp only [List.set_cons_zero, List.set_cons_succ]
              refine takeT 7 83 (v := ?_) rfl rfl (by kernel_rfl) (by kernel_rfl) (by kernel_rfl) (fun _ _ _ h => h) hHeld (by rfl) ?_ ?_
              rotate_left
              · intro w hSw; (try dsimp only at hSw); have hSa := hSw.1; have hSb := hSw.2.1; have hSc := hSw.2.2.1; have hSd := hSw.2.2.2; clear hSw; go_simp; (try with_reducible rfl)
              simp only [List.set_cons_zero, List.set_cons_succ]
              refine takeT 8 84 (v := ?_) rfl rfl (by kernel_rfl) (by kernel_rfl) (by kernel_rfl) (fun _ _ _ h => h) hHeld (by rfl) ?_ ?_
              rotate_left
              · intro w hSw; (try dsimp only at hSw); have hSa := hSw.1; have hSb := hSw.2.1; have hSc := hSw.2.2.1; have hSd := hSw.2.2.2; clear hSw; go_simp; (try with_reducible rfl)
              simp only [List.set_cons_zero, List.set_cons_succ]
              have ⟨b0, b1, b2⟩ := cells3 hL
              have g0 := blk_frozen' hL 0
              have g1 := blk_frozen' hL 1
              have g2 := blk_frozen' hL 2
              refine takeC 10 rfl (by kernel_rfl) (by rfl) (fun K hK => ?_)
              go_simp
              have hst := chs_set3 (T := fun k => k = wr.heap.size) wq wr.heap.size (.int .i64 pj.2.kind) (.slice A9 pj.2.bytes.length d9) (.slice B9 pj.2.kids.length e9) rfl
              have hL2 := blk_set3 hL (.int .i64 pj.2.kind) (.slice A9 pj.2.bytes.length d9) (.slice B9 pj.2.kids.length e9)
              generalize ((wq.setCell ⟨wr.heap.size, 0, none⟩ (.int .i64 pj.2.kind)).setCell ⟨wr.heap.size, 1, none⟩ (.slice A9 pj.2.bytes.length d9)).setCell ⟨wr.heap.size, 2, none⟩ (.slice B9 pj.2.kids.length e9) = wz at *
              have hbz : Below wr.heap.size wr wz := ((Chs.of_below hbc).trans hst).below (fun k hk e => by have : k = wr.heap.size := e; omega)
              refine hK.out _ _ ?_ (fun hHeld => ?_)
              · (try dsimp only); exact ⟨cell_later hbz n0, cell_later hbz n1, cell_later hbz n2, cell_later hbz xj⟩
              clear hK
              refine takeT 11 15 (v := ?_) rfl rfl (by kernel_rfl) (by kernel_rfl) (by kernel_rfl) (fun _ _ _ h => h) hHeld (by rfl) ?_ ?_
              rotate_left
              · intro w hSw; (try dsimp only at hSw); have hSa := hSw.1; have hSb := hSw.2.1; have hSc := hSw.2.2.1; have hSd := hSw.2.2.2; clear hSw; go_simp; (try with_reducible rfl)
              simp only [List.set_cons_zero, List.set_cons_succ]
              refine wpAnyH_done (by kernel_rfl) ?_ _
              have hnz := NdAt.mono (S' := fun _ => True) (fun _ _ => trivial) _ _ (hnq.chs hst (fun k hk _ e => by have : k = wr.heap.size := e; omega))
              go_wp2_with fail
              go_meet
              exact ⟨_, A9, d9, B9, e9, rfl, rfl, hL2, hnz, hbz⟩
          case rest =>
            obtain ⟨g, A9, d9, B9, e9, rfl, rfl, hX9, hx9, hbc⟩ := hcut
            rename World => wb
            have hbrc := hbr.via hbc
            clear n0 n1 n2 t0 t1 t2 xj
            have hNc := (hbc.block w.heap.size (Array.getElem?_eq_some_iff.1 hNr).1).trans hNr
            have hTc := (hbc.block w7.heap.size (Array.getElem?_eq_some_iff.1 hTr).1).trans hTr
            have xj : wb.cell? (ad.add j) = some (.string pj.1) := by
              have := HC.out wb (hb68.via hbrc) j hlt
              rw [HPJ.out] at this
              exact this
            have ⟨m0, m1, m2⟩ := cells3 hX9
            go_upto_region 18 with fail
            go_cut [106] (fun s wx => s = .bool false ∧ Dr wb wx)
            case first =>
              by_cases hj0 : j = 0
              · have hd0 : decide (0 < j) = false := by simp; omega
                clear hj0
                refine wp_region_held_drew (S := fun w' => w'.cell? (ad.add j) = some (Value.string pj.1)) (by kernel_rfl) ?_ (fun hHeld => ?_)
                · (try dsimp only); exact xj
                refine takeT 0 85 (v := ?_) rfl rfl (by kernel_rfl) (by kernel_rfl) (by kernel_rfl) (fun _ _ _ h => h) hHeld (by rfl) ?_ ?_
                rotate_left
                · intro w hSw; (try dsimp only at hSw); have hSa := hSw; clear hSw; go_simp; (try with_reducible rfl)
                simp only [List.set_cons_zero, List.set_cons_succ]
                refine takeT 1 86 (v := ?_) rfl rfl (by kernel_rfl) (by kernel_rfl) (by kernel_rfl) (fun _ _ _ h => h) hHeld (by rfl) ?_ ?_
                rotate_left
                · intro w hSw; (try dsimp only at hSw); have hSa := hSw; clear hSw; go_simp; (try with_reducible rfl)
                simp only [List.set_cons_zero, List.set_cons_succ]
                refine takeT 2 87 (v := ?_) rfl rfl (by kernel_rfl) (by kernel_rfl) (by kernel_rfl) (fun _ _ _ h => h) hHeld (by rfl) ?_ ?_
                rotate_left
                · intro w hSw; (try dsimp only at hSw); have hSa := hSw; clear hSw; go_simp; (try with_reducible rfl)
                simp only [List.set_cons_zero, List.set_cons_succ]
                refine takeT 3 88 (v := ?_) rfl rfl (by kernel_rfl) (by kernel_rfl) (by kernel_rfl) (fun _ _ _ h => h) hHeld (by rfl) ?_ ?_
                rotate_left
                · intro w hSw; (try dsimp only at hSw); have hSa := hSw; clear hSw; go_simp; (try with_reducible rfl)
                simp only [List.set_cons_zero, List.set_cons_succ]
                refine takeT 4 89 (v := ?_) rfl rfl (by kernel_rfl) (by kernel_rfl) (by kernel_rfl) (fun _ _ _ h => h) hHeld (by rfl) ?_ ?_
                rotate_left
                · intro w hSw; (try dsimp only at hSw); have hSa := hSw; clear hSw; go_simp; (try with_reducible rfl)
                simp only [List.set_cons_zero, List.set_cons_succ]
                refine takeT 5 90 (v := ?_) rfl rfl (by kernel_rfl) (by kernel_rfl) (by kernel_rfl) (fun _ _ _ h => h) hHeld (by rfl) ?_ ?_
                rotate_left
                · intro w hSw; (try dsimp only at hSw); have hSa := hSw; clear hSw; go_simp; (try with_reducible rfl)
                simp only [List.set_cons_zero, List.set_cons_succ]
                refine takeT 6 91 (v := ?_) rfl rfl (by kernel_rfl) (by kernel_rfl) (by kernel_rfl) (fun _ _ _ h => h) hHeld (by rfl) ?_ ?_
                rotate_left
                · intro w hSw; (try dsimp only at hSw); have hSa := hSw; clear hSw; go_simp; (try with_reducible rfl)
                simp only [List.set_cons_zero, List.set_cons_succ]
                refine takeT 7 92 (v := ?_) rfl rfl (by kernel_rfl) (by kernel_rfl) (by kernel_rfl) (fun _ _ _ h => h) hHeld (by rfl) ?_ ?_
                rotate_left
                · intro w hSw; (try dsimp only at hSw); have hSa := hSw; clear hSw; go_simp; (try with_reducible rfl)
                simp only [List.set_cons_zero, List.set_cons_succ]
                refine takeT 8 93 (v := ?_) rfl rfl (by kernel_rfl) (by kernel_rfl) (by kernel_rfl) (fun _ _ _ h => h) hHeld (by rfl) ?_ ?_
                rotate_left
                · intro w hSw; (try dsimp only at hSw); have hSa := hSw; clear hSw; go_simp; (try with_reducible rfl)
                simp only [List.set_cons_zero, List.set_cons_succ]
                refine takeT 9 94 (v := ?_) rfl rfl (by kernel_rfl) (by kernel_rfl) (by kernel_rfl) (fun _ _ _ h => h) hHeld (by rfl) ?_ ?_
                rotate_left
                · intro w hSw; (try dsimp only at hSw); have hSa := hSw; clear hSw; go_simp; (try with_reducible rfl)
                simp only [List.set_cons_zero, List.set_cons_succ]
                refine takeS 10 95 rfl rfl (by kernel_rfl) (by kernel_rfl) (by kernel_rfl) (fun _ _ _ h => h) hHeld (by rfl) ?_
                simp only [List.set_cons_zero, List.set_cons_succ]
                refine takeS 11 96 rfl rfl (by kernel_rfl) (by kernel_rfl) (by kernel_rfl) (fun _ _ _ h => h) hHeld (by rfl) ?_
                simp only [List.set_cons_zero, List.set_cons_succ]
                refine takeS 12 97 rfl rfl (by kernel_rfl) (by kernel_rfl) (by kernel_rfl) (fun _ _ _ h => h) hHeld (by rfl) ?_
                simp only [List.set_cons_zero, List.set_cons_succ]
                refine takeS 13 98 rfl rfl (by kernel_rfl) (by kernel_rfl) (by kernel_rfl) (fun _ _ _ h => h) hHeld (by rfl) ?_
                simp only [List.set_cons_zero, List.set_cons_succ]
                refine takeS 14 99 rfl rfl (by kernel_rfl) (by kernel_rfl) (by kernel_rfl) (fun _ _ _ h => h) hHeld (by rfl) ?_
                simp only [List.set_cons_zero, List.set_cons_succ]
                refine takeS 15 100 rfl rfl (by kernel_rfl) (by kernel_rfl) (by kernel_rfl) (fun _ _ _ h => h) hHeld (by rfl) ?_
                simp only [List.set_cons_zero, List.set_cons_succ]
                refine takeS 16 101 rfl rfl (by kernel_rfl) (by kernel_rfl) (by kernel_rfl) (fun _ _ _ h => h) hHeld (by rfl) ?_
                simp only [List.set_cons_zero, List.set_cons_succ]
                refine takeS 17 102 rfl rfl (by kernel_rfl) (by kernel_rfl) (by kernel_rfl) (fun _ _ _ h => h) hHeld (by rfl) ?_
                simp only [List.set_cons_zero, List.set_cons_succ]
                refine takeS 18 103 rfl rfl (by kernel_rfl) (by kernel_rfl) (by kernel_rfl) (fun _ _ _ h => h) hHeld (by rfl) ?_
                simp only [List.set_cons_zero, List.set_cons_succ]
                refine takeS 19 104 rfl rfl (by kernel_rfl) (by kernel_rfl) (by kernel_rfl) (fun _ _ _ h => h) hHeld (by rfl) ?_
                simp only [List.set_cons_zero, List.set_cons_succ]
                refine takeT 20 105 (v := ?_) rfl rfl (by kernel_rfl) (by kernel_rfl) (by kernel_rfl) (fun _ _ _ h => h) hHeld (by rfl) ?_ ?_
                rotate_left
                · intro w hSw; (try dsimp only at hSw); have hSa := hSw; clear hSw; go_simp; (try with_reducible rfl)
                simp only [List.set_cons_zero, List.set_cons_succ]
                refine takeT 21 106 (v := ?_) rfl rfl (by kernel_rfl) (by kernel_rfl) (by kernel_rfl) (fun _ _ _ h => h) hHeld (by rfl) ?_ ?_
                rotate_left
                · intro w hSw; (try dsimp only at hSw); have hSa := hSw; clear hSw; go_simp; (try with_reducible rfl)
                simp only [List.set_cons_zero, List.set_cons_succ]
                refine wpAnyH_done (by kernel_rfl) ?_ _
                go_wp2_with fail
                go_meet
                exact ⟨by simp, _, rfl⟩
              · have hd0 : decide (0 < j) = true := by simp; omega
                have hx1 := HC.out wb (hb68.via hbrc) (j - 1) (by omega)
                have hap1 := hap.out (by omega)
                generalize (ps[j - 1]'(by omega)).1 = pq at *
                have hj1 : (1 : Int) ≤ (j : Int) := by omega
                have hj2 : ((j : Int) - 1).toNat = j - 1 := by omega
                have hj3 : (j : Int) - 1 < ps.length := by omega
                have hj4 : IntKind.i64.wrap ((j : Int) - 1) = (j : Int) - 1 := IntWalk.i64_in _ (by omega)
                refine wp_region_held_drew (S := fun w' => w'.cell? (ad.add j) = some (Value.string pj.1) ∧ w'.cell? (ad.add (j - 1)) = some (Value.string pq)) (by kernel_rfl) ?_ (fun hHeld => ?_)
                · (try dsimp only); exact ⟨xj, hx1⟩
                refine takeT 0 85 (v := ?_) rfl rfl (by kernel_rfl) (by kernel_rfl) (by kernel_rfl) (fun _ _ _ h => h) hHeld (by rfl) ?_ ?_
                rotate_left
                · intro w hSw; (try dsimp only at hSw); have hSa := hSw.1; have hSb := hSw.2; clear hSw; go_simp; (try with_reducible rfl)
                simp only [List.set_cons_zero, List.set_cons_succ]
                refine takeT 1 86 (v := ?_) rfl rfl (by kernel_rfl) (by kernel_rfl) (by kernel_rfl) (fun _ _ _ h => h) hHeld (by rfl) ?_ ?_
                rotate_left
                · intro w hSw; (try dsimp only at hSw); have hSa := hSw.1; have hSb := hSw.2; clear hSw; go_simp; (try with_reducible rfl)
                simp only [List.set_cons_zero, List.set_cons_succ]
                refine takeT 2 87 (v := ?_) rfl rfl (by kernel_rfl) (by kernel_rfl) (by kernel_rfl) (fun _ _ _ h => h) hHeld (by rfl) ?_ ?_
                rotate_left
                · intro w hSw; (try dsimp only at hSw); have hSa := hSw.1; have hSb := hSw.2; clear hSw; go_simp; (try with_reducible rfl)
                simp only [List.set_cons_zero, List.set_cons_succ]
                refine takeT 3 88 (v := ?_) rfl rfl (by kernel_rfl) (by kernel_rfl) (by kernel_rfl) (fun _ _ _ h => h) hHeld (by rfl) ?_ ?_
                rotate_left
                · intro w hSw; (try dsimp only at hSw); have hSa := hSw.1; have hSb := hSw.2; clear hSw; go_simp; (try with_reducible rfl)
                simp only [List.set_cons_zero, List.set_cons_succ]
                refine takeT 4 89 (v := ?_) rfl rfl (by kernel_rfl) (by kernel_rfl) (by kernel_rfl) (fun _ _ _ h => h) hHeld (by rfl) ?_ ?_
                rotate_left
                · intro w hSw; (try dsimp only at hSw); have hSa := hSw.1; have hSb := hSw.2; clear hSw; go_simp; (try with_reducible rfl)
                simp only [List.set_cons_zero, List.set_cons_succ]
                refine takeT 5 90 (v := ?_) rfl rfl (by kernel_rfl) (by kernel_rfl) (by kernel_rfl) (fun _ _ _ h => h) hHeld (by rfl) ?_ ?_
                rotate_left
                · intro w hSw; (try dsimp only at hSw); have hSa := hSw.1; have hSb := hSw.2; clear hSw; go_simp; (try with_reducible rfl)
                simp only [List.set_cons_zero, List.set_cons_succ]
                refine takeT 6 91 (v := ?_) rfl rfl (by kernel_rfl) (by kernel_rfl) (by kernel_rfl) (fun _ _ _ h => h) hHeld (by rfl) ?_ ?_
                rotate_left
                · intro w hSw; (try dsimp only at hSw); have hSa := hSw.1; have hSb := hSw.2; clear hSw; go_simp; (try with_reducible rfl)
                simp only [List.set_cons_zero, List.set_cons_succ]
                refine takeT 7 92 (v := ?_) rfl rfl (by kernel_rfl) (by kernel_rfl) (by kernel_rfl) (fun _ _ _ h => h) hHeld (by rfl) ?_ ?_
                rotate_left
                · intro w hSw; (try dsimp only at hSw); have hSa := hSw.1; have hSb := hSw.2; clear hSw; go_simp; (try with_reducible rfl)
                simp only [List.set_cons_zero, List.set_cons_succ]
                refine takeT 8 93 (v := ?_) rfl rfl (by kernel_rfl) (by kernel_rfl) (by kernel_rfl) (fun _ _ _ h => h) hHeld (by rfl) ?_ ?_
                rotate_left
                · intro w hSw; (try dsimp only at hSw); have hSa := hSw.1; have hSb := hSw.2; clear hSw; go_simp; (try with_reducible rfl)
                simp only [List.set_cons_zero, List.set_cons_succ]
                refine takeT 9 94 (v := ?_) rfl rfl (by kernel_rfl) (by kernel_rfl) (by kernel_rfl) (fun _ _ _ h => h) hHeld (by rfl) ?_ ?_
                rotate_left
                · intro w hSw; (try dsimp only at hSw); have hSa := hSw.1; have hSb := hSw.2; clear hSw; go_simp; (try with_reducible rfl)
                simp only [List.set_cons_zero, List.set_cons_succ]
                refine takeT 10 95 (v := ?_) rfl rfl (by kernel_rfl) (by kernel_rfl) (by kernel_rfl) (fun _ _ _ h => h) hHeld (by rfl) ?_ ?_
                rotate_left
                · intro w hSw; (try dsimp only at hSw); have hSa := hSw.1; have hSb := hSw.2; clear hSw; go_simp; (try with_reducible rfl)
                simp only [List.set_cons_zero, List.set_cons_succ]
                refine takeT 11 96 (v := ?_) rfl rfl (by kernel_rfl) (by kernel_rfl) (by kernel_rfl) (fun _ _ _ h => h) hHeld (by rfl) ?_ ?_
                rotate_left
                · intro w hSw; (try dsimp only at hSw); have hSa := hSw.1; have hSb := hSw.2; clear hSw; go_simp; (try with_reducible rfl)
                simp only [List.set_cons_zero, List.set_cons_succ]
                refine takeT 12 97 (v := ?_) rfl rfl (by kernel_rfl) (by kernel_rfl) (by kernel_rfl) (fun _ _ _ h => h) hHeld (by rfl) ?_ ?_
                rotate_left
                · intro w hSw; (try dsimp only at hSw); have hSa := hSw.1; have hSb := hSw.2; clear hSw; go_simp; (try with_reducible rfl)
                simp only [List.set_cons_zero, List.set_cons_succ]
                refine takeT 13 98 (v := ?_) rfl rfl (by kernel_rfl) (by kernel_rfl) (by kernel_rfl) (fun _ _ _ h => h) hHeld (by rfl) ?_ ?_
                rotate_left
                · intro w hSw; (try dsimp only at hSw); have hSa := hSw.1; have hSb := hSw.2; clear hSw; go_simp; (try with_reducible rfl)
                simp only [List.set_cons_zero, List.set_cons_succ]
                refine takeT 14 99 (v := ?_) rfl rfl (by kernel_rfl) (by kernel_rfl) (by kernel_rfl) (fun _ _ _ h => h) hHeld (by rfl) ?_ ?_
                rotate_left
                · intro w hSw; (try dsimp only at hSw); have hSa := hSw.1; have hSb := hSw.2; clear hSw; go_simp; (try with_reducible rfl)
                simp only [List.set_cons_zero, List.set_cons_succ]
                refine takeT 15 100 (v := ?_) rfl rfl (by kernel_rfl) (by kernel_rfl) (by kernel_rfl) (fun _ _ _ h => h) hHeld (by rfl) ?_ ?_
                rotate_left
                · intro w hSw; (try dsimp only at hSw); have hSa := hSw.1; have hSb := hSw.2; clear hSw; go_simp; (try with_reducible rfl)
                simp only [List.set_cons_zero, List.set_cons_succ]
                refine takeT 16 101 (v := ?_) rfl rfl (by kernel_rfl) (by kernel_rfl) (by kernel_rfl) (fun _ _ _ h => h) hHeld (by rfl) ?_ ?_
                rotate_left
                · intro w hSw; (try dsimp only at hSw); have hSa := hSw.1; have hSb := hSw.2; clear hSw; go_simp; (try with_reducible rfl)
                simp only [List.set_cons_zero, List.set_cons_succ]
                refine takeT 17 102 (v := ?_) rfl rfl (by kernel_rfl) (by kernel_rfl) (by kernel_rfl) (fun _ _ _ h => h) hHeld (by rfl) ?_ ?_
                rotate_left
                · intro w hSw; (try dsimp only at hSw); have hSa := hSw.1; have hSb := hSw.2; clear hSw; go_simp; (try with_reducible rfl)
                simp only [List.set_cons_zero, List.set_cons_succ]
                refine takeT 18 103 (v := ?_) rfl rfl (by kernel_rfl) (by kernel_rfl) (by kernel_rfl) (fun _ _ _ h => h) hHeld (by rfl) ?_ ?_
                rotate_left
                · intro w hSw; (try dsimp only at hSw); have hSa := hSw.1; have hSb := hSw.2; clear hSw; go_simp; (try with_reducible rfl)
                simp only [List.set_cons_zero, List.set_cons_succ]
                refine takeT 19 104 (v := ?_) rfl rfl (by kernel_rfl) (by kernel_rfl) (by kernel_rfl) (fun _ _ _ h => h) hHeld (by rfl) ?_ ?_
                rotate_left
                · intro w hSw; (try dsimp only at hSw); have hSa := hSw.1; have hSb := hSw.2; clear hSw; go_simp; (try with_reducible rfl)
                simp only [List.set_cons_zero, List.set_cons_succ]
                refine takeT 20 105 (v := ?_) rfl rfl (by kernel_rfl) (by kernel_rfl) (by kernel_rfl) (fun _ _ _ h => h) hHeld (by rfl) ?_ ?_
                rotate_left
                · intro w hSw; (try dsimp only at hSw); have hSa := hSw.1; have hSb := hSw.2; clear hSw; go_simp; (try with_reducible rfl)
                simp only [List.set_cons_zero, List.set_cons_succ]
                refine takeT 21 106 (v := ?_) rfl rfl (by kernel_rfl) (by kernel_rfl) (by kernel_rfl) (fun _ _ _ h => h) hHeld (by rfl) ?_ ?_
                rotate_left
                · intro w hSw; (try dsimp only at hSw); have hSa := hSw.1; have hSb := hSw.2; clear hSw; go_simp; (try with_reducible rfl)
                simp only [List.set_cons_zero, List.set_cons_succ]
                refine wpAnyH_done (by kernel_rfl) ?_ _
                go_wp2_with fail
                go_meet
                exact ⟨by simp, _, rfl⟩
            case rest =>
              obtain ⟨rfl, hdr⟩ := hcut
              rename World => wd
              have hbd := hdr.below
              have hbrd := hbrc.via hbd
              have xj := cell_later hbd xj
              have hXd := (hbd.block g (Array.getElem?_eq_some_iff.1 hX9).1).trans hX9
              have hTd := (hbd.block w7.heap.size (Array.getElem?_eq_some_iff.1 hTc).1).trans hTc
              have hxd := hx9.below hbd
              clear m0 m1 m2 hX9 hx9 hTc hNc hdr
              have ⟨m0, m1, m2⟩ := cells3 hXd
              have ⟨t0, t1, t2⟩ := cells3 hTd
              have hsl := sum_le HP.out j
              have hsb : sumB (ps.take j) ≤ 409600 := by omega
              go_upto_region 21 with fail
              go_cut [129] (fun s wx => ∃ b, s = .bool b ∧ (b = true → way.size ≠ 0 ∧ way.size + 1 ≤ pj.1.size ∧ pj.1 = way ++ ⟨#[47]⟩ ++ pj.1.extract (way.size + 1) pj.1.size) ∧ wd = wx)
              case first =>
                by_cases hw : way.size = 0
                · have he : way.toList.isEmpty = true := by
                    rw [toList_data, List.isEmpty_iff, ← List.length_eq_zero_iff, size_data]
                    exact hw
                  clear hw
                  go_wp2_with fail
                  go_meet
                  exact ⟨false, rfl, fun h => (by cases h), rfl⟩
                · have he : way.toList.isEmpty = false := by
                    rw [toList_data, List.isEmpty_eq_false_iff, ← List.length_pos_iff, size_data]
                    omega
                  have HW := Lib.hid hw
                  clear hw
                  go_wp2_with fail
                  refine (begins_any pj.1 way wd (by omega)).mono ?_
                  rintro e wq ⟨⟨z9, rfl, hz9⟩, rfl⟩
                  cases z9 with
                  | false =>
                    go_wp2_with fail
                    go_meet
                    exact ⟨false, rfl, fun h => (by cases h), rfl⟩
                  | true =>
                    go_wp2_with fail
                    go_meet
                    exact ⟨_, rfl, fun h => ⟨HW.out, begins_sfx hz9.out.symm HW.out h⟩, rfl⟩
              case rest =>
                obtain ⟨b, rfl, hbs, rfl⟩ := hcut
                cases b with
                | false =>
                  clear hbs
                  go_wp2_with fail
                  go_roundg (ps.length - (j + 1))
                  case measure => omega
                  case rel => exact ⟨j + 1, rfl, by omega, by rw [hsum.out]; simp, by simp, hbrd⟩
                | true =>
                  obtain ⟨hw1, hw2, hw3⟩ := hbs rfl
                  clear hbs
                  have HFB := Lib.hid (find_below HFK.out (hw3 ▸ hfj) hw1)
                  clear hw3
                  have hsx : (pj.1.extract (way.size + 1) pj.1.size).size ≤ 100000 := by
                    rw [ext_drop, str_size, List.length_drop, size_data]
                    omega
                  have hw4 : (way.size : Int) + 1 ≤ pj.1.size := by omega
                  have hw5 : ((way.size : Int) + 1).toNat = way.size + 1 := by omega
                  have hw6 : (0 : Int) ≤ (way.size : Int) + 1 := by omega
                  have hwr : IntKind.i64.wrap ((way.size : Int) + 1) = (way.size : Int) + 1 := IntWalk.i64_in _ (by omega)
                  have hszt : Sz top := by
                    have := HRK.out
                    simp only [rightB, Bool.and_eq_true] at this
                    exact allB_sz top this.1.1
                  have hszx : Sz pj.2 := by
                    have := hrj.out
                    simp only [rightB, Bool.and_eq_true] at this
                    exact allB_sz _ this.1.1
                  go_upto_region 22 with fail
                  go_cut [16, 17] (fun s16 s17 wx => ∃ g2 A8 d8 B8 e8, s16 = .pointer (some ⟨g2, 0, none⟩) ∧ s17 = .int .i64 0 ∧ wx.heap[g2]? = some (.cells #[.int .i64 pj.2.kind, .slice A8 pj.2.bytes.length d8, .slice B8 pj.2.kids.length e8] 28 (0, 0)) ∧ NdAt (fun _ => True) wx pj.2 [.int .i64 pj.2.kind, .slice A8 pj.2.bytes.length d8, .slice B8 pj.2.kids.length e8] ∧ Below wd.heap.size wd wx)
                  case first =>
                    refine wp_region_held_drew (S := fun w' => w'.cell? ⟨w7.heap.size, 0, none⟩ = some (Value.int .i64 top.kind) ∧ w'.cell? ⟨w7.heap.size, 1, none⟩ = some (Value.slice A7 top.bytes.length d7) ∧ w'.cell? ⟨w7.heap.size, 2, none⟩ = some (Value.slice B7 top.kids.length e7) ∧ w'.cell? (ad.add j) = some (Value.string pj.1)) (by kernel_rfl) ?_ (fun hHeld => ?_)
                    · (try dsimp only); exact ⟨t0, t1, t2, xj⟩
                    refine takeT 0 131 (v := ?_) rfl rfl (by kernel_rfl) (by kernel_rfl) (by kernel_rfl) (fun _ _ _ h => h) hHeld (by rfl) ?_ ?_
                    rotate_left
                    · intro w hSw; (try dsimp only at hSw); have hSa := hSw.1; have hSb := hSw.2.1; have hSc := hSw.2.2.1; have hSd := hSw.2.2.2; clear hSw; go_simp; (try with_reducible rfl)
                    simp only [List.set_cons_zero, List.set_cons_succ]
                    refine takeT 1 132 (v := ?_) rfl rfl (by kernel_rfl) (by kernel_rfl) (by kernel_rfl) (fun _ _ _ h => h) hHeld (by rfl) ?_ ?_
                    rotate_left
                    · intro w hSw; (try dsimp only at hSw); have hSa := hSw.1; have hSb := hSw.2.1; have hSc := hSw.2.2.1; have hSd := hSw.2.2.2; clear hSw; go_simp; (try with_reducible rfl)
                    simp only [List.set_cons_zero, List.set_cons_succ]
                    refine takeT 2 133 (v := ?_) rfl rfl (by kernel_rfl) (by kernel_rfl) (by kernel_rfl) (fun _ _ _ h => h) hHeld (by rfl) ?_ ?_
                    rotate_left
                    · intro w hSw; (try dsimp only at hSw); have hSa := hSw.1; have hSb := hSw.2.1; have hSc := hSw.2.2.1; have hSd := hSw.2.2.2; clear hSw; go_simp; (try with_reducible rfl)
                    simp only [List.set_cons_zero, List.set_cons_succ]
                    refine takeT 3 134 (v := ?_) rfl rfl (by kernel_rfl) (by kernel_rfl) (by kernel_rfl) (fun _ _ _ h => h) hHeld (by rfl) ?_ ?_
                    rotate_left
                    · intro w hSw; (try dsimp only at hSw); have hSa := hSw.1; have hSb := hSw.2.1; have hSc := hSw.2.2.1; have hSd := hSw.2.2.2; clear hSw; go_simp; (try with_reducible rfl)
                    simp only [List.set_cons_zero, List.set_cons_succ]
                    refine takeT 4 135 (v := ?_) rfl rfl (by kernel_rfl) (by kernel_rfl) (by kernel_rfl) (fun _ _ _ h => h) hHeld (by rfl) ?_ ?_
                    rotate_left
                    · intro w hSw; (try dsimp only at hSw); have hSa := hSw.1; have hSb := hSw.2.1; have hSc := hSw.2.2.1; have hSd := hSw.2.2.2; clear hSw; go_simp; (try with_reducible rfl)
                    simp only [List.set_cons_zero, List.set_cons_succ]
                    refine takeT 5 136 (v := ?_) rfl rfl (by kernel_rfl) (by kernel_rfl) (by kernel_rfl) (fun _ _ _ h => h) hHeld (by rfl) ?_ ?_
                    rotate_left
                    · intro w hSw; (try dsimp only at hSw); have hSa := hSw.1; have hSb := hSw.2.1; have hSc := hSw.2.2.1; have hSd := hSw.2.2.2; clear hSw; go_simp; (try with_reducible rfl)
                    simp only [List.set_cons_zero, List.set_cons_succ]
                    refine takeT 6 137 (v := ?_) rfl rfl (by kernel_rfl) (by kernel_rfl) (by kernel_rfl) (fun _ _ _ h => h) hHeld (by rfl) ?_ ?_
                    rotate_left
                    · intro w hSw; (try dsimp only at hSw); have hSa := hSw.1; have hSb := hSw.2.1; have hSc := hSw.2.2.1; have hSd := hSw.2.2.2; clear hSw; go_simp; (try with_reducible rfl)
                    simp only [List.set_cons_zero, List.set_cons_succ]
                    refine takeT 7 138 (v := ?_) rfl rfl (by kernel_rfl) (by kernel_rfl) (by kernel_rfl) (fun _ _ _ h => h) hHeld (by rfl) ?_ ?_
                    rotate_left
                    · intro w hSw; (try dsimp only at hSw); have hSa := hSw.1; have hSb := hSw.2.1; have hSc := hSw.2.2.1; have hSd := hSw.2.2.2; clear hSw; go_simp; (try with_reducible rfl)
                    simp only [List.set_cons_zero, List.set_cons_succ]
                    refine takeT 8 139 (v := ?_) rfl rfl (by kernel_rfl) (by kernel_rfl) (by kernel_rfl) (fun _ _ _ h => h) hHeld (by rfl) ?_ ?_
                    rotate_left
                    · intro w hSw; (try dsimp only at hSw); have hSa := hSw.1; have hSb := hSw.2.1; have hSc := hSw.2.2.1; have hSd := hSw.2.2.2; clear hSw; go_simp; (try with_reducible rfl)
                    simp only [List.set_cons_zero, List.set_cons_succ]
                    clear hwr hw5
                    refine takeC2 9 13 rfl rfl (by kernel_rfl) (by rfl) (by rfl) (fun K hK => ?_) (fun K hK => ?_)
                    · skip
                      go_simp
                      refine (find_at (wd.drew) HFB.out (hn8.below (hbrd.via (below_dr _))) hszt hsx).mono ?_
                      rintro e wq ⟨hbq, c0, c1, c2, rfl, hnq⟩
                      obtain ⟨A9, d9, B9, e9, hcs⟩ := nd_form hnq
                      simp only [List.cons.injEq, and_true] at hcs
                      obtain ⟨rfl, rfl, rfl⟩ := hcs
                      (try go_wp2_with fail)
                      have hbc : Below wd.heap.size wd wq := (below_dr _).via hbq
                      refine hK.out _ _ ?_ (fun hHeld => ?_)
                      · (try dsimp only); exact ⟨cell_later hbc t0, cell_later hbc t1, cell_later hbc t2, cell_later hbc xj⟩
                      clear hK
                      refine takeT 10 130 (v := ?_) rfl rfl (by kernel_rfl) (by kernel_rfl) (by kernel_rfl) (fun _ _ _ h => h) hHeld (by rfl) ?_ ?_
                      rotate_left
                      · intro w hSw; (try dsimp only at hSw); have hSa := hSw.1; have hSb := hSw.2.1; have hSc := hSw.2.2.1; have hSd := hSw.2.2.2; clear hSw; go_simp; (try with_reducible rfl)
                      simp only [List.set_cons_zero, List.set_cons_succ]
                      refine takeT 11 141 (v := ?_) rfl rfl (by kernel_rfl) (by kernel_rfl) (by kernel_rfl) (fun _ _ _ h => h) hHeld (by rfl) ?_ ?_
                      rotate_left
                      · intro w hSw; (try dsimp only at hSw); have hSa := hSw.1; have hSb := hSw.2.1; have hSc := hSw.2.2.1; have hSd := hSw.2.2.2; clear hSw; go_simp; (try with_reducible rfl)
                      simp only [List.set_cons_zero, List.set_cons_succ]
                      refine takeT 12 142 (v := ?_) rfl rfl (by kernel_rfl) (by kernel_rfl) (by kernel_rfl) (fun _ _ _ h => h) hHeld (by rfl) ?_ ?_
                      rotate_left
                      · intro w hSw; (try dsimp only at hSw); have hSa := hSw.1; have hSb := hSw.2.1; have hSc := hSw.2.2.1; have hSd := hSw.2.2.2; clear hSw; go_simp; (try with_reducible rfl)
                      simp only [List.set_cons_zero, List.set_cons_succ]
                      refine takeC 13 rfl (by kernel_rfl) (by rfl) (fun K hK => ?_)
                      go_simp
                      have hbl := hbc.via (below_new wq (Obj.cells node0 28))
                      have hL := heap_alloc_new wq (Obj.cells node0 28)
                      have hnl := hnq.bound.below (below_new wq (Obj.cells node0 28))
                      have hsq := hbc.size
                      generalize hgq : wq.heap.size = g at *
                      generalize wq.alloc (Obj.cells node0 28) = wl at *
                      refine hK.out _ _ ?_ (fun hHeld => ?_)
                      · (try dsimp only); exact ⟨cell_later hbl t0, cell_later hbl t1, cell_later hbl t2, cell_later hbl xj⟩
                      clear hK
                      have ⟨b0, b1, b2⟩ := cells3 hL
                      have g0 := blk_frozen' hL 0
                      have g1 := blk_frozen' hL 1
                      have g2 := blk_frozen' hL 2
                      refine takeC 14 rfl (by kernel_rfl) (by rfl) (fun K hK => ?_)
                      go_simp
                      have hst := chs_set3 (T := fun k => k = g) wl g (.int .i64 pj.2.kind) (.slice A9 pj.2.bytes.length d9) (.slice B9 pj.2.kids.length e9) rfl
                      have hL2 := blk_set3 hL (.int .i64 pj.2.kind) (.slice A9 pj.2.bytes.length d9) (.slice B9 pj.2.kids.length e9)
                      generalize ((wl.setCell ⟨g, 0, none⟩ (.int .i64 pj.2.kind)).setCell ⟨g, 1, none⟩ (.slice A9 pj.2.bytes.length d9)).setCell ⟨g, 2, none⟩ (.slice B9 pj.2.kids.length e9) = wz at *
                      have hbz : Below wd.heap.size wd wz := ((Chs.of_below hbl).trans hst).below (fun k hk e => by have : k = g := e; omega)
                      refine hK.out _ _ ?_ (fun hHeld => ?_)
                      · (try dsimp only); exact ⟨cell_later hbz t0, cell_later hbz t1, cell_later hbz t2, cell_later hbz xj⟩
                      clear hK
                      refine takeT 15 17 (v := ?_) rfl rfl (by kernel_rfl) (by kernel_rfl) (by kernel_rfl) (fun _ _ _ h => h) hHeld (by rfl) ?_ ?_
                      rotate_left
                      · intro w hSw; (try dsimp only at hSw); have hSa := hSw.1; have hSb := hSw.2.1; have hSc := hSw.2.2.1; have hSd := hSw.2.2.2; clear hSw; go_simp; (try with_reducible rfl)
                      simp only [List.set_cons_zero, List.set_cons_succ]
                      refine wpAnyH_done (by kernel_rfl) ?_ _
                      have hnz := NdAt.mono (S' := fun _ => True) (fun _ _ => trivial) _ _ (hnl.chs hst (fun k hk _ e => by have h1 := hk.2; have : k = g := e; omega))
                      go_wp2_with fail
                      go_meet
                      exact ⟨_, A9, d9, B9, e9, rfl, rfl, hL2, hnz, hbz⟩
                    · go_simp
                      have hbl : Below wd.heap.size wd (wd.alloc (Obj.cells node0 28)).drew := (below_new wd _).via (below_dr _)
                      have hL : (wd.alloc (Obj.cells node0 28)).drew.heap[wd.heap.size]? = some (.cells node0 28 (0, 0)) := heap_alloc_new wd _
                      have hsl : wd.heap.size < (wd.alloc (Obj.cells node0 28)).drew.heap.size := by simp
                      generalize (wd.alloc (Obj.cells node0 28)).drew = wk at *
                      refine hK.out _ _ ?_ (fun hHeld => ?_)
                      · (try dsimp only); exact ⟨cell_later hbl t0, cell_later hbl t1, cell_later hbl t2, cell_later hbl xj⟩
                      clear hK
                      refine takeC 9 rfl (by kernel_rfl) (by rfl) (fun K hK => ?_)
                      go_simp
                      refine (find_at (wk) HFB.out (hn8.below (hbrd.via hbl)) hszt hsx).mono ?_
                      rintro e wq ⟨hbq, c0, c1, c2, rfl, hnq⟩
                      obtain ⟨A9, d9, B9, e9, hcs⟩ := nd_form hnq
                      simp only [List.cons.injEq, and_true] at hcs
                      obtain ⟨rfl, rfl, rfl⟩ := hcs
                      (try go_wp2_with fail)
                      have hbc := hbl.via hbq
                      have hL := (hbq.block wd.heap.size hsl).trans hL
                      refine hK.out _ _ ?_ (fun hHeld => ?_)
                      · (try dsimp only); exact ⟨cell_later hbc t0, cell_later hbc t1, cell_later hbc t2, cell_later hbc xj⟩
                      clear hK
                      refine takeT 10 130 (v := ?_) rfl rfl (by kernel_rfl) (by kernel_rfl) (by kernel_rfl) (fun _ _ _ h => h) hHeld (by rfl) ?_ ?_
                      rotate_left
                      · intro w hSw; (try dsimp only at hSw); have hSa := hSw.1; have hSb := hSw.2.1; have hSc := hSw.2.2.1; have hSd := hSw.2.2.2; clear hSw; go_simp; (try with_reducible rfl)
                      simp only [List.set_cons_zero, List.set_cons_succ]
                      refine takeT 11 141 (v := ?_) rfl rfl (by kernel_rfl) (by kernel_rfl) (by kernel_rfl) (fun _ _ _ h => h) hHeld (by rfl) ?_ ?_
                      rotate_left
                      · intro w hSw; (try dsimp only at hSw); have hSa := hSw.1; have hSb := hSw.2.1; have hSc := hSw.2.2.1; have hSd := hSw.2.2.2; clear hSw; go_simp; (try with_reducible rfl)
                      simp only [List.set_cons_zero, List.set_cons_succ]
                      refine takeT 12 142 (v := ?_) rfl rfl (by kernel_rfl) (by kernel_rfl) (by kernel_rfl) (fun _ _ _ h => h) hHeld (by rfl) ?_ ?_
                      rotate_left
                      · intro w hSw; (try dsimp only at hSw); have hSa := hSw.1; have hSb := hSw.2.1; have hSc := hSw.2.2.1; have hSd := hSw.2.2.2; clear hSw; go_simp; (try with_reducible rfl)
                      simp only [List.set_cons_zero, List.set_cons_succ]
                      have ⟨b0, b1, b2⟩ := cells3 hL
                      have g0 := blk_frozen' hL 0
                      have g1 := blk_frozen' hL 1
                      have g2 := blk_frozen' hL 2
                      refine takeC 14 rfl (by kernel_rfl) (by rfl) (fun K hK => ?_)
                      go_simp
                      have hst := chs_set3 (T := fun k => k = wd.heap.size) wq wd.heap.size (.int .i64 pj.2.kind) (.slice A9 pj.2.bytes.length d9) (.slice B9 pj.2.kids.length e9) rfl
                      have hL2 := blk_set3 hL (.int .i64 pj.2.kind) (.slice A9 pj.2.bytes.length d9) (.slice B9 pj.2.kids.length e9)
                      generalize ((wq.setCell ⟨wd.heap.size, 0, none⟩ (.int .i64 pj.2.kind)).setCell ⟨wd.heap.size, 1, none⟩ (.slice A9 pj.2.bytes.length d9)).setCell ⟨wd.heap.size, 2, none⟩ (.slice B9 pj.2.kids.length e9) = wz at *
                      have hbz : Below wd.heap.size wd wz := ((Chs.of_below hbc).trans hst).below (fun k hk e => by have : k = wd.heap.size := e; omega)
                      refine hK.out _ _ ?_ (fun hHeld => ?_)
                      · (try dsimp only); exact ⟨cell_later hbz t0, cell_later hbz t1, cell_later hbz t2, cell_later hbz xj⟩
                      clear hK
                      refine takeT 15 17 (v := ?_) rfl rfl (by kernel_rfl) (by kernel_rfl) (by kernel_rfl) (fun _ _ _ h => h) hHeld (by rfl) ?_ ?_
                      rotate_left
                      · intro w hSw; (try dsimp only at hSw); have hSa := hSw.1; have hSb := hSw.2.1; have hSc := hSw.2.2.1; have hSd := hSw.2.2.2; clear hSw; go_simp; (try with_reducible rfl)
                      simp only [List.set_cons_zero, List.set_cons_succ]
                      refine wpAnyH_done (by kernel_rfl) ?_ _
                      have hnz := NdAt.mono (S' := fun _ => True) (fun _ _ => trivial) _ _ (hnq.chs hst (fun k hk _ e => by have : k = wd.heap.size := e; omega))
                      go_wp2_with fail
                      go_meet
                      exact ⟨_, A9, d9, B9, e9, rfl, rfl, hL2, hnz, hbz⟩
                  case rest =>
                    clear hwr hw5
                    obtain ⟨g2, A8, d8, B8, e8, rfl, rfl, hY8, hy8, hbe⟩ := hcut
                    rename World => we
                    have hXe := (hbe.block g (Array.getElem?_eq_some_iff.1 hXd).1).trans hXd
                    clear m0 m1 m2 t0 t1 t2 xj
                    have ⟨m0, m1, m2⟩ := cells3 hXe
                    have ⟨y0, y1, y2⟩ := cells3 hY8
                    go_wp2_with fail
                    refine (tequal_any we (hxd.below hbe) hy8 hszx hszx).mono ?_
                    rintro e wf ⟨⟨z9, rfl, hz9⟩, hbf⟩
                    obtain rfl : z9 = true := by
                      rw [hz9.out]
                      unfold eqB
                      rw [hrj.out, (sameB_iff _ _).2 rfl]
                      rfl
                    clear hz9
                    go_wp2_with fail
                    go_roundg (ps.length - (j + 1))
                    case measure => omega
                    case rel => exact ⟨j + 1, rfl, by omega, by rw [hsum.out]; simp, by simp, (hbrd.via hbe).via hbf⟩
        · have e : ps.take j = ps := List.take_of_length_le (by omega)
          rw [e]
          clear e
          go_wp2_with fail
          have h0r := (h06.via hb68).via hbr
          refine wp_region_held_drew (S := fun w' => w'.cell? ⟨w.heap.size, 0, none⟩ = some (Value.int .i64 t.kind) ∧ w'.cell? ⟨w.heap.size, 1, none⟩ = some (Value.slice A t.bytes.length c) ∧ w'.cell? ⟨w.heap.size, 2, none⟩ = some (Value.slice B t.kids.length d)) (by kernel_rfl) ?_ (fun hHeld => ?_)
          · (try dsimp only); exact ⟨n0, n1, n2⟩
          refine takeT 0 151 (v := ?_) rfl rfl (by kernel_rfl) (by kernel_rfl) (by kernel_rfl) (fun _ _ _ h => h) hHeld (by rfl) ?_ ?_
          rotate_left
          · intro w hSw; (try dsimp only at hSw); have hSa := hSw.1; have hSb := hSw.2.1; have hSc := hSw.2.2; clear hSw; go_simp; (try with_reducible rfl)
          simp only [List.set_cons_zero, List.set_cons_succ]
          refine takeT 1 152 (v := ?_) rfl rfl (by kernel_rfl) (by kernel_rfl) (by kernel_rfl) (fun _ _ _ h => h) hHeld (by rfl) ?_ ?_
          rotate_left
          · intro w hSw; (try dsimp only at hSw); have hSa := hSw.1; have hSb := hSw.2.1; have hSc := hSw.2.2; clear hSw; go_simp; (try with_reducible rfl)
          simp only [List.set_cons_zero, List.set_cons_succ]
          refine takeT 2 153 (v := ?_) rfl rfl (by kernel_rfl) (by kernel_rfl) (by kernel_rfl) (fun _ _ _ h => h) hHeld (by rfl) ?_ ?_
          rotate_left
          · intro w hSw; (try dsimp only at hSw); have hSa := hSw.1; have hSb := hSw.2.1; have hSc := hSw.2.2; clear hSw; go_simp; (try with_reducible rfl)
          simp only [List.set_cons_zero, List.set_cons_succ]
          refine takeT 3 154 (v := ?_) rfl rfl (by kernel_rfl) (by kernel_rfl) (by kernel_rfl) (fun _ _ _ h => h) hHeld (by rfl) ?_ ?_
          rotate_left
          · intro w hSw; (try dsimp only at hSw); have hSa := hSw.1; have hSb := hSw.2.1; have hSc := hSw.2.2; clear hSw; go_simp; (try with_reducible rfl)
          simp only [List.set_cons_zero, List.set_cons_succ]
          refine takeT 4 155 (v := ?_) rfl rfl (by kernel_rfl) (by kernel_rfl) (by kernel_rfl) (fun _ _ _ h => h) hHeld (by rfl) ?_ ?_
          rotate_left
          · intro w hSw; (try dsimp only at hSw); have hSa := hSw.1; have hSb := hSw.2.1; have hSc := hSw.2.2; clear hSw; go_simp; (try with_reducible rfl)
          simp only [List.set_cons_zero, List.set_cons_succ]
          refine takeT 5 156 (v := ?_) rfl rfl (by kernel_rfl) (by kernel_rfl) (by kernel_rfl) (fun _ _ _ h => h) hHeld (by rfl) ?_ ?_
          rotate_left
          · intro w hSw; (try dsimp only at hSw); have hSa := hSw.1; have hSb := hSw.2.1; have hSc := hSw.2.2; clear hSw; go_simp; (try with_reducible rfl)
          simp only [List.set_cons_zero, List.set_cons_succ]
          refine takeC 6 rfl (by kernel_rfl) (by rfl) (fun K hK => ?_)
          go_simp
          refine (tequal_any _ (hn.below (h0r.via (below_dr _))) (hn.below (h0r.via (below_dr _))) hsz hsz).mono ?_; rintro e wa ⟨⟨z9, rfl, hz9⟩, hba⟩; obtain rfl : z9 = true := by {rw [hz9.out]; unfold eqB; rw [HR.out, (sameB_iff _ _).2 rfl]; rfl}; have hda := (below_dr _).via hba; (try go_wp2_with fail)
          refine hK.out _ _ ?_ (fun hHeld => ?_)
          · (try dsimp only); exact ⟨cell_later hba n0, cell_later hba n1, cell_later hba n2⟩
          clear hK K
          refine takeT 7 158 (v := ?_) rfl rfl (by kernel_rfl) (by kernel_rfl) (by kernel_rfl) (fun _ _ _ h => h) hHeld (by rfl) ?_ ?_
          rotate_left
          · intro w hSw; (try dsimp only at hSw); have hSa := hSw.1; have hSb := hSw.2.1; have hSc := hSw.2.2; clear hSw; go_simp; (try with_reducible rfl)
          simp only [List.set_cons_zero, List.set_cons_succ]
          refine takeT 8 159 (v := ?_) rfl rfl (by kernel_rfl) (by kernel_rfl) (by kernel_rfl) (fun _ _ _ h => h) hHeld (by rfl) ?_ ?_
          rotate_left
          · intro w hSw; (try dsimp only at hSw); have hSa := hSw.1; have hSb := hSw.2.1; have hSc := hSw.2.2; clear hSw; go_simp; (try with_reducible rfl)
          simp only [List.set_cons_zero, List.set_cons_succ]
          refine takeT 9 160 (v := ?_) rfl rfl (by kernel_rfl) (by kernel_rfl) (by kernel_rfl) (fun _ _ _ h => h) hHeld (by rfl) ?_ ?_
          rotate_left
          · intro w hSw; (try dsimp only at hSw); have hSa := hSw.1; have hSb := hSw.2.1; have hSc := hSw.2.2; clear hSw; go_simp; (try with_reducible rfl)
          simp only [List.set_cons_zero, List.set_cons_succ]
          refine takeT 11 162 (v := ?_) rfl rfl (by kernel_rfl) (by kernel_rfl) (by kernel_rfl) (fun _ _ _ h => h) hHeld (by rfl) ?_ ?_
          rotate_left
          · intro w hSw; (try dsimp only at hSw); have hSa := hSw.1; have hSb := hSw.2.1; have hSc := hSw.2.2; clear hSw; go_simp; (try with_reducible rfl)
          simp only [List.set_cons_zero, List.set_cons_succ]
          refine takeC 10 rfl (by kernel_rfl) (by rfl) (fun K hK => ?_)
          go_simp
          refine (copy_any _ (hn.below (h0r.via hda)) HR.out).mono ?_; rintro e we ⟨hbe, c0, c1, c2, rfl, hne⟩; obtain ⟨A9, d9, B9, e9, hcs⟩ := nd_form hne; simp only [List.cons.injEq, and_true] at hcs; obtain ⟨rfl, rfl, rfl⟩ := hcs; have hde := hda.via hbe; (try go_wp2_with fail)
          refine hK.out _ _ ?_ (fun hHeld => ?_)
          · (try dsimp only); exact ⟨cell_later (hba.via hbe) n0, cell_later (hba.via hbe) n1, cell_later (hba.via hbe) n2⟩
          clear hK K
          refine takeC 12 rfl (by kernel_rfl) (by rfl) (fun K hK => ?_)
          go_simp
          refine (tequal_any _ hne (hn.below (h0r.via hde)) hsz hsz).mono ?_; rintro e wf ⟨⟨z9, rfl, hz9⟩, hbf⟩; obtain rfl : z9 = true := by {rw [hz9.out]; unfold eqB; rw [HR.out, (sameB_iff _ _).2 rfl]; rfl}; have hdf := hde.via hbf; (try go_wp2_with fail)
          refine hK.out _ _ ?_ (fun hHeld => ?_)
          · (try dsimp only); exact ⟨cell_later ((hba.via hbe).via hbf) n0, cell_later ((hba.via hbe).via hbf) n1, cell_later ((hba.via hbe).via hbf) n2⟩
          clear hK K
          refine takeT 13 164 (v := ?_) rfl rfl (by kernel_rfl) (by kernel_rfl) (by kernel_rfl) (fun _ _ _ h => h) hHeld (by rfl) ?_ ?_
          rotate_left
          · intro w hSw; (try dsimp only at hSw); have hSa := hSw.1; have hSb := hSw.2.1; have hSc := hSw.2.2; clear hSw; go_simp; (try with_reducible rfl)
          simp only [List.set_cons_zero, List.set_cons_succ]
          refine takeT 14 4 (v := ?_) rfl rfl (by kernel_rfl) (by kernel_rfl) (by kernel_rfl) (fun _ _ _ h => h) hHeld (by rfl) ?_ ?_
          rotate_left
          · intro w hSw; (try dsimp only at hSw); have hSa := hSw.1; have hSb := hSw.2.1; have hSc := hSw.2.2; clear hSw; go_simp; (try with_reducible rfl)
          simp only [List.set_cons_zero, List.set_cons_succ]
          refine wpAnyH_done (by kernel_rfl) ?_ _
          go_wp2_with fail
          go_ret
          exact ⟨rfl, h0r.via hdf⟩
end Pk
end Go.Proofs.YtgfgdlnlafngnaaDoor
