/- Walks: tree.Way. -/
import Derived.Test.YtgfgdlnlafngnaaDoorRange
import Derived.Maps.AppendAt
namespace Go.Proofs.YtgfgdlnlafngnaaDoor
namespace Pk
open Go.RowKit Go.Shelf

theorem splitseq_any (w : World) (s : ByteArray) :
    Calls Tryd.prog 88 #[.string s, .string ⟨#[47]⟩] w fun e w' => e = .returned (.func (.func 118) #[] #[.pointer (some ⟨w.heap.size + 1, 0, none⟩), .pointer (some ⟨w.heap.size, 0, none⟩), .pointer (some ⟨w.heap.size + 2, 0, none⟩)]) ∧
      w' = ((w.alloc (.cells #[.string s] 9)).alloc (.cells #[.string ⟨#[47]⟩] 9)).alloc (.cells #[.int .i64 0] 3) := by
  go_enter Tryd.func88, Tryd.ntmps88
  go_wp2_with (go_in)
  go_ret
  exact ⟨rfl, rfl⟩

theorem alloc_at (w : World) (o : Obj) {n : Nat} (hn : n = w.heap.size) : (w.alloc o).heap[n]? = some o := by
  subst hn
  exact heap_alloc_new w o
theorem chs_put {T : Nat → Prop} (W : World) (l : Nat) (o : Obj) (hT : T l) : Chs T W (W.putObj l o) :=
  ⟨rfl, rfl, rfl, by simp, fun k _ ht => World.putObj_heap_other (fun e => ht (by rw [e]; exact hT))⟩
attribute [local go_sem] Oper.semAt_some
theorem info_str : (Tryd.prog.info? 9).map (fun i => (i.zero, i.size, i.bytes)) = some (some (.string ⟨#[]⟩), 1, 16) := by kernel_rfl
/-- What holds between two rounds: names are gathered; the loop's book-keeping. -/
structure WayI (w V : World) (rc : Obj) (pre : List ByteArray) (W : World) : Prop where
  out : ∃ v, W.heap[w.heap.size]? = some (.cells #[v] 44 (0, 0)) ∧ W.heap[w.heap.size + 1]? = some (.cells #[.int .i64 0] 29 (0, 0)) ∧ W.ownsRow (V.heap.size + 2) 9 1 v pre.length (pre.map Value.string) ∧
    (∀ x ∈ pre, nameB x = true) ∧ W.heap[V.heap.size + 1]? = some rc ∧ W.heap[V.heap.size]? = some (.deferred (some [])) ∧ Below w.heap.size w W
/-- What holds where a part was no name. -/
structure WayX (w V : World) (pre : List ByteArray) (W : World) : Prop where
  out : W.heap[w.heap.size]? = some (.cells #[.slice none 0 0] 44 (0, 0)) ∧ W.heap[w.heap.size + 1]? = some (.cells #[.int .i64 4] 29 (0, 0)) ∧
    (∃ x ∈ pre, nameB x = false) ∧ (∃ r : Loop, W.heap[V.heap.size + 1]? = some (.loop r) ∧ r.pending = some .ret ∧ r.state ≠ .busy) ∧ W.heap[V.heap.size]? = some (.deferred (some [])) ∧ Below w.heap.size w W

set_option maxRecDepth 100000 in
set_option maxHeartbeats 1000000 in
theorem way_any (w : World) (s : ByteArray) (hsz : s.size ≤ 1099511627776) :
    Calls Tryd.prog 55 #[.string s] w fun e w' => Below w.heap.size w w' ∧ ∃ A c, e = .returned (.tuple #[.slice A (pWay s).1.length c, .int .i64 (pWay s).2]) ∧ (pWay s).1.length ≤ c ∧ Rd w' (fun k => w.heap.size ≤ k) A ((pWay s).1.map Value.string) := by
  refine (callsIn_wide (n := 5)).1 ?_
  refine callsIn_of_wp_marks Tryd.func55 rfl trivial ?_ rfl
  simp only [Tryd.ntmps55, List.size_toArray, List.length_cons, List.length_nil, Nat.reduceAdd, Nat.reduceSub, Array.replicate_succ, Array.replicate_zero, List.push_toArray, List.append_toArray, List.nil_append, List.cons_append]
  by_cases h0 : s.size = 0
  · have he : s.toList.isEmpty = true := by
      rw [toList_data, List.isEmpty_iff, ← List.length_eq_zero_iff, size_data]
      exact h0
    have HP : Hid (pWay s = ([], 0)) := by
      show _ = _
      unfold pWay
      rw [if_pos h0]
    gi_wp2
    refine ⟨.tuple #[.slice none 0 0, .int .i64 0], by simp [results, Tryd.results55, go_sem], ?_⟩
    rw [HP.out]
    exact ⟨below_new2 _ _ _, none, 0, rfl, Nat.le_refl _, Rd.nil _ _ _⟩
  · have he : s.toList.isEmpty = false := by
      rw [toList_data, List.isEmpty_eq_false_iff, ← List.length_pos_iff, size_data]
      omega
    gi_wp2
    refine ⟨trivial, (callsIn_wide.2 (splitseq_any _ s)).mono ?_⟩
    rintro e w1 ⟨rfl, hw1⟩
    gi_wp2
    obtain ⟨V, hV⟩ : ∃ V, V = ((((w.alloc (Obj.cells #[.slice none 0 0] 44)).alloc (Obj.cells #[.int .i64 0] 29)).alloc (Obj.cells #[.string s] 9)).alloc (Obj.cells #[.string ⟨#[47]⟩] 9)).alloc (Obj.cells #[.int .i64 0] 3) := ⟨_, rfl⟩
    rw [← hV]
    have hVs1 : w.heap.size + 5 ≤ V.heap.size := by rw [hV]; simp
    have hVs2 : V.heap.size ≤ w.heap.size + 5 := by rw [hV]; simp
    refine range_any (gf := 118) (lb := #[.pointer (some ⟨w.heap.size + 3, 0, none⟩), .pointer (some ⟨w.heap.size + 2, 0, none⟩), .pointer (some ⟨w.heap.size + 4, 0, none⟩)]) rfl (enters_of Tryd.func118 (by kernel_rfl) rfl) (fun fn => ?_)
    generalize hrc : recOf fn _ _ _ _ _ _ _ = rc
    have hV0 : V.heap[w.heap.size]? = some (.cells #[.slice none 0 0] 44 (0, 0)) ∧ V.heap[w.heap.size + 1]? = some (.cells #[.int .i64 0] 29 (0, 0)) ∧ V.heap[w.heap.size + 2]? = some (.cells #[.string s] 9 (0, 0)) ∧
        V.heap[w.heap.size + 3]? = some (.cells #[.string ⟨#[47]⟩] 9 (0, 0)) ∧ V.heap[w.heap.size + 4]? = some (.cells #[.int .i64 0] 3 (0, 0)) := by
      rw [hV]
      exact ⟨blk_new' (blk_new' (blk_new' (blk_new' (alloc_at w _ rfl) _) _) _) _, blk_new' (blk_new' (blk_new' (alloc_at _ _ (by simp)) _) _) _, blk_new' (blk_new' (alloc_at _ _ (by simp)) _) _, blk_new' (alloc_at _ _ (by simp)) _, alloc_at _ _ (by simp)⟩
    have hbV : Below w.heap.size w V := by
      rw [hV]
      exact (((below_new2 w _ _).via (below_new _ _)).via (below_new _ _)).via (below_new _ _)
    clear hV
    obtain ⟨W1, hW1⟩ : ∃ W1, W1 = (V.alloc (.deferred (some []))).alloc rc := ⟨_, rfl⟩
    rw [← hW1]
    have hb1 : Below V.heap.size V W1 := by rw [hW1]; exact below_new2 V _ _
    have hl1 : W1.heap[V.heap.size + 1]? = some rc := by
      rw [hW1]
      have := heap_alloc_new (V.alloc (.deferred (some []))) rc
      rwa [show (V.alloc (.deferred (some []))).heap.size = V.heap.size + 1 from by simp] at this
    have hd1 : W1.heap[V.heap.size]? = some (.deferred (some [])) := by
      rw [hW1]
      exact blk_new' (heap_alloc_new V _) _
    have k := fun (i : Nat) (hi : i < 5) => hb1.block (w.heap.size + i) (by omega)
    refine (split_in 4 (V.heap.size + 1) (w.heap.size + 2) (w.heap.size + 3) (w.heap.size + 4) s (WayI w V rc) (WayX w V) W1 (by omega) ?_ ?_ (by omega) (by omega) ((k 3 (by omega)).trans hV0.2.2.2.1) ((k 2 (by omega)).trans hV0.2.2.1) ((k 4 (by omega)).trans hV0.2.2.2.2) ?_).mono ?_
    · rintro pre W v ⟨u, h1, h2, h3, h4, h5, h6, h7⟩
      have hne : ∀ x, x ≠ w.heap.size + 2 → (W.setCell ⟨w.heap.size + 2, 0, none⟩ v).heap[x]? = W.heap[x]? := fun x hx => Below.heap_setCell W _ v x hx
      exact ⟨u, (hne _ (by omega)).trans h1, (hne _ (by omega)).trans h2, own_move' h3 (fun x _ _ hx => hne x (by omega)), h4, (hne _ (by omega)).trans h5, (hne _ (by omega)).trans h6,
        ((Chs.of_below (T := fun x => x = w.heap.size + 2) h7).trans (Chs.set W _ _ rfl)).below (fun x hx e => by omega)⟩
    · rintro pre x W ⟨v, h1, h2, h3, h4, h5, h6, h7⟩ hxs hpl
      rw [← hrc] at h5
      refine round_any (a₁ := { tmps := #[.string s, undef, .pointer (some ⟨w.heap.size, 0, none⟩), .pointer (some ⟨w.heap.size + 1, 0, none⟩), .string x, .string s, .bool false, .string s, .func (.func 118) #[] #[.pointer (some ⟨w.heap.size + 3, 0, none⟩), .pointer (some ⟨w.heap.size + 2, 0, none⟩), .pointer (some ⟨w.heap.size + 4, 0, none⟩)], .string x, undef, undef, undef, undef, undef, undef, undef, undef], defers := [] }) h5 rfl ?_ ?_
      · intro K hK
        gi_wp2
        exact hK
      · gi_wp2
        refine ⟨trivial, CallsIn.inRound _ ((callsIn_wide.2 (name_any x _ (by omega))).mono ?_)⟩
        rintro e W2 ⟨⟨z, rfl, hz⟩, hb2⟩
        have hll : V.heap.size + 1 < W.heap.size := (Array.getElem?_eq_some_iff.1 h5).1
        have hps : ∀ x, x ≠ V.heap.size + 1 → x < W.heap.size → W2.heap[x]? = W.heap[x]? := fun x hx1 hx2 => (hb2.block x (by simpa using hx2)).trans (World.putObj_heap_other hx1)
        have hl2 := (hb2.block (V.heap.size + 1) (by simpa using hll)).trans (World.putObj_heap_same hll)
        have g1 := (hps _ (by omega) (by omega)).trans h1
        have g2 := (hps _ (by omega) (by omega)).trans h2
        have m1 : W2.cell? ⟨w.heap.size, 0, none⟩ = some v := by rw [blk_cell' g1]; rfl
        have m2 : W2.cell? ⟨w.heap.size + 1, 0, none⟩ = some (.int .i64 0) := by rw [blk_cell' g2]; rfl
        have n1 := blk_frozen' g1 0
        have n2 := blk_frozen' g2 0
        cases z with
        | false =>
          gi_wp2
          have hl3 := blk_far' (blk_far' hl2 (p := ⟨w.heap.size, 0, none⟩) (by simp; omega) (.slice none 0 0)) (p := ⟨w.heap.size + 1, 0, none⟩) (by simp; omega) (.int .i64 4)
          have hl4 := (Array.getElem?_eq_some_iff.1 hl3).1
          have hss : ((W2.setCell ⟨w.heap.size, 0, none⟩ (.slice none 0 0)).setCell ⟨w.heap.size + 1, 0, none⟩ (.int .i64 4)).heap.size = W2.heap.size := by simp [World.setCell]
          have g6 := (hps V.heap.size (by omega) (by omega)).trans h6
          refine ⟨_, _, run_endRound (some .ret) hl3, .inr ⟨rfl, ⟨?_, ?_, ⟨x, by simp, hz.out.symm⟩, ⟨_, World.putObj_heap_same hl4, rfl, by simp⟩, ?_, ?_⟩⟩⟩
          · rw [World.putObj_heap_other (by omega)]
            exact blk_far' (blk_set' g1 0 (.slice none 0 0)) (by simp) _
          · rw [World.putObj_heap_other (by omega)]
            exact blk_set' (blk_far' g2 (by simp) _) 0 (.int .i64 4)
          · rw [World.putObj_heap_other (by omega)]
            exact blk_far' (blk_far' g6 (by simp; omega) _) (by simp; omega) _
          · exact ((((((Chs.of_below (T := fun k => w.heap.size ≤ k) h7).trans (chs_put W _ _ (by omega))).trans (Chs.of_below hb2)).trans (Chs.set _ ⟨w.heap.size, 0, none⟩ _ (Nat.le_refl _))).trans (Chs.set _ ⟨w.heap.size + 1, 0, none⟩ _ (by simp))).trans (chs_put _ _ _ (by omega))).below (fun k hk e => by omega)
        | true =>
          obtain ⟨A, c, rfl⟩ := own_form h3
          have hown2 := own_move' (w' := W2) h3 (fun x _ hx1 hx2 => hps x (by omega) hx1)
          obtain ⟨i0, hi0, hz0, hz1, hz2⟩ := info_parts info_str
          have hs2 : W.heap.size ≤ W2.heap.size := by simpa using hb2.size
          gi_wp2_with (gi_at_builtin; refine Stp.mk ?_)
          refine Stp.of ?_
          refine wpListIn_append_own _ rfl (.tmp 13) (.tmp 15) 44 rfl (V.heap.size + 2) 9 i0 _ 1 16 Tryd.underlying44 hi0 hz0 hz1 hz2 rfl (by omega) (.slice A pre.length c) pre.length (pre.map Value.string) rfl (hown2.alloc _) ⟨W2.heap.size, 0, none⟩ 1 1 [.string x] rfl rfl (cell_one_new _ _ _) (by simp [Value.oneCell']) (by simp only [maxLen]; omega) (by omega) (by simp; omega) ?_
          intro v' W4 hown4 hg4 _
          obtain ⟨A5, c5, rfl⟩ := own_form hown4
          have g5 : W4.heap[w.heap.size]? = some (.cells #[.slice A pre.length c] 44 (0, 0)) := (World.grownBy.block hg4 _ (by simp; omega) (fun e => by have := own_lt' hown2 e.symm; omega)).trans (blk_new' g1 _)
          have n5 := blk_frozen' g5 0
          have m5 : W4.cell? ⟨w.heap.size, 0, none⟩ = some (.slice A pre.length c) := by rw [blk_cell' g5]; rfl
          gi_wp2
          have hne5 : ∀ k, W2.heap.size > k → V.heap.size + 2 > k → W4.heap[k]? = W2.heap[k]? := fun k hk1 hk2 => (World.grownBy.block hg4 _ (by simp; omega) (fun e => by have := own_lt' hown2 e.symm; omega)).trans (Below.heap_alloc W2 _ k hk1)
          have hl3 := blk_far' ((hne5 _ (by omega) (by omega)).trans hl2) (p := ⟨w.heap.size, 0, none⟩) (by simp; omega) (.slice A5 (pre.length + 1) c5)
          have hl4 := (Array.getElem?_eq_some_iff.1 hl3).1
          refine ⟨_, _, run_endRound none hl3, .inl ⟨rfl, ⟨.slice A5 (pre.length + 1) c5, ?_, ?_, ?_, ?_, ?_, ?_, ?_⟩, ?_⟩⟩
          · rw [World.putObj_heap_other (by omega)]
            exact blk_set' g5 0 _
          · rw [World.putObj_heap_other (by omega)]
            exact blk_far' ((hne5 _ (by omega) (by omega)).trans g2) (by simp) _
          · have hown5 := own_move' (w' := (W4.setCell ⟨w.heap.size, 0, none⟩ (.slice A5 (pre.length + 1) c5))) hown4 (fun k _ _ hk => Below.heap_setCell W4 _ _ k (by simp; omega))
            simp only [List.length_append, List.length_cons, List.length_nil, List.map_append, List.map_cons, List.map_nil, Nat.zero_add]
            exact own_move' hown5 (fun k _ _ hk => World.putObj_heap_other (by omega))
          · intro y hy
            rcases List.mem_append.1 hy with hy | hy
            · exact h4 y hy
            · rw [List.mem_singleton.1 hy]
              exact hz.out.symm
          · rw [← hrc]
            exact World.putObj_heap_same hl4
          · rw [World.putObj_heap_other (by omega)]
            exact blk_far' ((hne5 _ (by omega) (by omega)).trans ((hps _ (by omega) (by omega)).trans h6)) (by simp; omega) _
          · exact ((((((Chs.of_below (T := fun k => w.heap.size ≤ k) h7).trans (chs_put W _ _ (by omega))).trans (Chs.of_below hb2)).trans (Chs.of_below (below_new W2 _))).trans (Chs.of_grown hg4 (fun k hk => by have := own_lt' hown2 hk; omega))).trans (Chs.set _ ⟨w.heap.size, 0, none⟩ _ (Nat.le_refl _))).trans (chs_put _ _ _ (by omega)) |>.below (fun k hk e => by omega)
          · have q : ∀ k, k ≠ w.heap.size → k ≠ V.heap.size + 1 → k < V.heap.size → ∀ o, ((W4.setCell ⟨w.heap.size, 0, none⟩ (.slice A5 (pre.length + 1) c5)).putObj (V.heap.size + 1) o).heap[k]? = W.heap[k]? := fun k hk1 hk2 hk3 o =>
              (World.putObj_heap_other hk2).trans ((Below.heap_setCell W4 _ _ k hk1).trans ((hne5 k (by omega) (by omega)).trans (hps k hk2 (by omega))))
            exact ⟨q _ (by omega) (by omega) (by omega) _, q _ (by omega) (by omega) (by omega) _, q _ (by omega) (by omega) (by omega) _⟩
    · exact ⟨_, (k 0 (by omega)).trans hV0.1, (k 1 (by omega)).trans hV0.2.1, ⟨rfl, .inl ⟨rfl, rfl⟩⟩, by simp, hl1, hd1, hbV.via hb1⟩
    · rintro e W9 ⟨⟨v, rfl⟩, hJ | ⟨pre, hpre, hX⟩⟩
      · obtain ⟨v, h1, h2, h3, h4, h5, h6, h7⟩ := hJ
        rw [← hrc] at h5
        have HP : Hid (pWay s = ((splitB s.data.toList).map str, 0)) := by
          show _ = _
          unfold pWay
          rw [if_neg h0, if_pos (List.all_eq_true.2 h4)]
        generalize (splitB s.data.toList).map str = ps at *
        obtain ⟨A, c, rfl⟩ := own_form h3
        refine ⟨none, _, run_endLoop h5 (by simp), ?_⟩
        have hll : V.heap.size + 1 < W9.heap.size := (Array.getElem?_eq_some_iff.1 h5).1
        have p1 : ∀ (o : Obj), (W9.putObj (V.heap.size + 1) o).heap[w.heap.size]? = some (.cells #[.slice A ps.length c] 44 (0, 0)) := fun o => (World.putObj_heap_other (by omega)).trans h1
        have p2 : ∀ (o : Obj), (W9.putObj (V.heap.size + 1) o).heap[w.heap.size + 1]? = some (.cells #[.int .i64 0] 29 (0, 0)) := fun o => (World.putObj_heap_other (by omega)).trans h2
        have q1 : ∀ (o : Obj), (W9.putObj (V.heap.size + 1) o).cell? ⟨w.heap.size, 0, none⟩ = some (.slice A ps.length c) := fun o => by rw [blk_cell' (p1 o)]; rfl
        have q2 : ∀ (o : Obj), (W9.putObj (V.heap.size + 1) o).cell? ⟨w.heap.size + 1, 0, none⟩ = some (.int .i64 0) := fun o => by rw [blk_cell' (p2 o)]; rfl
        have r1 : ∀ (o : Obj), (W9.putObj (V.heap.size + 1) o).frozen? ⟨w.heap.size, 0, none⟩ = false := fun o => blk_frozen' (p1 o) 0
        have r2 : ∀ (o : Obj), (W9.putObj (V.heap.size + 1) o).frozen? ⟨w.heap.size + 1, 0, none⟩ = false := fun o => blk_frozen' (p2 o) 0
        gi_wp2
        rw [set_same (p1 _) rfl, set_same (p2 _) rfl]
        refine ⟨by simp, .inl ⟨_, _, rfl, run_takeDeferred ((World.putObj_heap_other (by omega)).trans h6), ?_⟩⟩
        have u1 : ∀ (o o' : Obj), ((W9.putObj (V.heap.size + 1) o).putObj V.heap.size o').cell? ⟨w.heap.size, 0, none⟩ = some (.slice A ps.length c) := fun o o' => by
          rw [blk_cell' ((World.putObj_heap_other (by omega)).trans (p1 o))]
          rfl
        have u2 : ∀ (o o' : Obj), ((W9.putObj (V.heap.size + 1) o).putObj V.heap.size o').cell? ⟨w.heap.size + 1, 0, none⟩ = some (.int .i64 0) := fun o o' => by
          rw [blk_cell' ((World.putObj_heap_other (by omega)).trans (p2 o))]
          rfl
        refine ⟨.tuple #[.slice A ps.length c, .int .i64 0], by simp [results, Tryd.results55, go_sem, u1, u2], ?_⟩
        rw [HP.out]
        refine ⟨(((Chs.of_below (T := fun k => w.heap.size ≤ k) h7).trans (chs_put _ _ _ (by omega))).trans (chs_put _ _ _ (by omega))).below (fun k hk e => by omega), A, c, rfl, own_le' h3, ?_⟩
        exact (((Rd.of_own h3).keep (w' := _) ((chs_put (T := fun k => k = V.heap.size + 1) W9 _ _ rfl).stays (fun k hk _ e => by omega))).keep ((chs_put (T := fun k => k = V.heap.size) _ _ _ rfl).stays (fun k hk _ e => by omega))).mono (fun k hk => by omega)
      · obtain ⟨h1, h2, h3, ⟨r, h4, h5, h8⟩, h6, h7⟩ := hX
        have HP : Hid (pWay s = ([], 4)) := by
          show _ = _
          obtain ⟨x, hx1, hx2⟩ := h3
          unfold pWay
          rw [if_neg h0, if_neg]
          intro hall
          rw [List.all_eq_true] at hall
          have := hall x (hpre.subset hx1)
          rw [hx2] at this
          cases this
        refine ⟨some .ret, _, by rw [← h5]; exact run_endLoop h4 h8, ?_⟩
        gi_wp2
        have p1 : ∀ (o : Obj), (W9.putObj (V.heap.size + 1) o).heap[w.heap.size]? = some (.cells #[.slice none 0 0] 44 (0, 0)) := fun o => (World.putObj_heap_other (by omega)).trans h1
        have p2 : ∀ (o : Obj), (W9.putObj (V.heap.size + 1) o).heap[w.heap.size + 1]? = some (.cells #[.int .i64 4] 29 (0, 0)) := fun o => (World.putObj_heap_other (by omega)).trans h2
        refine ⟨by simp, .inl ⟨_, _, rfl, run_takeDeferred ((World.putObj_heap_other (by omega)).trans h6), ?_⟩⟩
        have q1 : ∀ (o o' : Obj), ((W9.putObj (V.heap.size + 1) o).putObj V.heap.size o').cell? ⟨w.heap.size, 0, none⟩ = some (.slice none 0 0) := fun o o' => by
          rw [blk_cell' ((World.putObj_heap_other (by omega)).trans (p1 o))]
          rfl
        have q2 : ∀ (o o' : Obj), ((W9.putObj (V.heap.size + 1) o).putObj V.heap.size o').cell? ⟨w.heap.size + 1, 0, none⟩ = some (.int .i64 4) := fun o o' => by
          rw [blk_cell' ((World.putObj_heap_other (by omega)).trans (p2 o))]
          rfl
        refine ⟨.tuple #[.slice none 0 0, .int .i64 4], by simp [results, Tryd.results55, go_sem, q1, q2], ?_⟩
        rw [HP.out]
        exact ⟨(((Chs.of_below (T := fun k => w.heap.size ≤ k) h7).trans (chs_put _ _ _ (by omega))).trans (chs_put _ _ _ (by omega))).below (fun k hk e => by omega), none, 0, rfl, Nat.le_refl _, Rd.nil _ _ _⟩
end Pk
end Go.Proofs.YtgfgdlnlafngnaaDoor
