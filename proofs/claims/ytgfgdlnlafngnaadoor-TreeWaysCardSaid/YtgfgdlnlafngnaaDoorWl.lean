/- Walks: looker.right. -/
import Derived.Test.YtgfgdlnlafngnaaDoorWk
import Derived.Test.YtgfgdlnlafngnaaDoorWh
import Derived.Test.YtgfgdlnlafngnaaDoorRight
namespace Go.Proofs.YtgfgdlnlafngnaaDoor
namespace Pk
open Go.RowKit Go.MapKept

theorem info_bounds : (Tryd.prog.info? 132).map (fun i => i.zero) = some (some (.agg #[.int .i64 0, .int .i64 0, .bool false])) := by kernel_rfl
/-- What the table of kinds tells of a kind. -/
theorem lookup_kinds {w : World} {r : Nat} (h : w.heap[r]? = some kindsObj) (k : Int) :
    (Instr.lookup 91 (.map (some r)) (.int .i64 k) true).run Tryd.prog w = .ok (.tuple #[.agg #[.int .i64 (lo k), .int .i64 (hi k), .bool (kd k)], .bool (isK k)]) w := by
  obtain ⟨info, hi0, hz⟩ : ∃ info, Tryd.prog.info? 132 = some info ∧ info.zero = some (.agg #[.int .i64 0, .int .i64 0, .bool false]) := by
    cases h : Tryd.prog.info? 132 with
    | none => have := info_bounds; rw [h] at this; cases this
    | some i => have := info_bounds; rw [h] at this; exact ⟨i, rfl, by simpa using this⟩
  have go : ∀ a, Instr.findNow (.int .i64) (.int .i64 k) [⟨.int .i64 1, .agg #[.int .i64 0, .int .i64 2048, .bool false], 0⟩, ⟨.int .i64 2, .agg #[.int .i64 0, .int .i64 2048, .bool false], 1⟩,
      ⟨.int .i64 3, .agg #[.int .i64 1, .int .i64 200, .bool false], 2⟩, ⟨.int .i64 4, .agg #[.int .i64 0, .int .i64 0, .bool true], 3⟩] 0 = some a → _ :=
    fun a ha => run_lookup_int (P := Tryd.prog) k und_kinds und_kind h hi0 hz ha
  by_cases h1 : k = 1
  · subst h1; exact go _ rfl
  by_cases h2 : k = 2
  · subst h2; exact go _ rfl
  by_cases h3 : k = 3
  · subst h3; exact go _ rfl
  by_cases h4 : k = 4
  · subst h4; exact go _ rfl
  have b1 : (k == 1) = false := by simp [h1]
  have b2 : (k == 2) = false := by simp [h2]
  have b3 : (k == 3) = false := by simp [h3]
  have b4 : (k == 4) = false := by simp [h4]
  rw [go none (by simp [Instr.findNow, Instr.sameNow, b1, b2, b3, b4])]
  have e1 : isK k = false := by simp [isK]; omega
  have e2 : lo k = 0 := by simp [lo, h3]
  have e3 : hi k = 0 := by simp [hi, h1, h2, h3]
  have e4 : kd k = false := by simp [kd, h4]
  rw [e1, e2, e3, e4]
  rfl

/-- A looker in block l over the table in block r: nodes met, how deep. -/
def Lk (w : World) (l r n d : Nat) : Prop := w.heap[l]? = some (.cells #[.map (some r), .int .i64 n, .int .i64 d] 93 (0, 0)) ∧ w.heap[r]? = some kindsObj
theorem Lk.ne {w : World} {l r n d : Nat} (h : Lk w l r n d) : r ≠ l := by
  intro e
  subst e
  have := h.1.symm.trans h.2
  cases this
theorem Lk.lt {w : World} {l r n d : Nat} (h : Lk w l r n d) : l < w.heap.size ∧ r < w.heap.size := ⟨(Array.getElem?_eq_some_iff.1 h.1).1, (Array.getElem?_eq_some_iff.1 h.2).1⟩
theorem Lk.below {w w' : World} {l r n d : Nat} (h : Lk w l r n d) (hb : Below w.heap.size w w') : Lk w' l r n d := ⟨(hb.block l h.lt.1).trans h.1, (hb.block r h.lt.2).trans h.2⟩

/-- What holds at the head of each round over kids. -/
structure KRight (ks : List (ByteArray × Nd)) (S : Nat → Prop) (l r n d D : Nat) (w : World) (j : Nat) (wr : World) : Prop where
  out : ∃ n' D', Lk wr l r n' D' ∧ n' = n + 1 + cntK (ks.take j) ∧ D' = max D (d + depK (ks.take j)) ∧ rgtK ks (n + 1) (d + 1) = rgtK (ks.drop j) n' (d + 1) ∧ Chs (· = l) w wr ∧ n' ≤ 200 ∧ D' ≤ 9

def RightOk (t : Nd) : Prop := ∀ (w : World) (S : Nat → Prop) (l r n d D : Nat) (cs : List Value), NdAt S w t cs → Sz t → Lk w l r n D → n ≤ 200 → d ≤ 9 → 1 ≤ d → D ≤ 9 → (∀ k, S k → k ≠ l) →
  Calls Tryd.prog 82 #[.pointer (some ⟨l, 0, none⟩), .agg cs.toArray, .int .i64 d] w fun e w' =>
    RetB (rgtB t n d) e ∧ (∃ n' D', Lk w' l r n' D' ∧ (rgtB t n d = true → n' = n + cnt t ∧ D' = max D (d + dep t - 1))) ∧ Chs (· = l) w w'

set_option maxRecDepth 100000 in
set_option maxHeartbeats 4000000 in
theorem right_any : ∀ t, RightOk t := by
  refine Nd.ind fun k b ks ih => ?_
  intro w S l r n d D cs hn hsz hl hn200 hd9 hd1 hD9 hS
  obtain ⟨A, c, B, c2, rfl⟩ := nd_form hn
  dsimp only [Nd.kind, Nd.bytes, Nd.kids] at hn ⊢
  have hlt := hl.lt
  have hne := hl.ne
  have a0 : w.cell? ⟨l, 0, none⟩ = some (.map (some r)) := by rw [blk_cell' hl.1]; rfl
  have a1 : w.cell? ⟨l, 1, none⟩ = some (.int .i64 n) := by rw [blk_cell' hl.1]; rfl
  have a2 : w.cell? ⟨l, 2, none⟩ = some (.int .i64 D) := by rw [blk_cell' hl.1]; rfl
  have f1 := blk_frozen' hl.1 1
  have f2 := blk_frozen' hl.1 2
  have HL := Lib.hid hl
  clear hl
  go_enter Tryd.func82, Tryd.ntmps82
  go_wp2_with fail
  have hW1 := blk_set' (blk_set' HL.out.1 1 (.int .i64 (n + 1 : Nat))) 2 (.int .i64 (max D d : Nat))
  have hW2 : ((w.setCell ⟨l, 1, none⟩ (.int .i64 (n + 1 : Nat))).setCell ⟨l, 2, none⟩ (.int .i64 (max D d : Nat))).heap[r]? = some kindsObj := blk_far' (blk_far' HL.out.2 hne _) hne _
  have hch : Chs (· = l) w (((w.setCell ⟨l, 1, none⟩ (.int .i64 (n + 1 : Nat))).setCell ⟨l, 2, none⟩ (.int .i64 (max D d : Nat))).alloc (Obj.cells #[.int .i64 k, .slice A b.length c, .slice B ks.length c2] 28)) :=
    ((Chs.set (T := (· = l)) w ⟨l, 1, none⟩ _ rfl).trans (Chs.set _ ⟨l, 2, none⟩ _ rfl)).trans (Chs.of_below (below_new _ _))
  have hLW : Lk (((w.setCell ⟨l, 1, none⟩ (.int .i64 (n + 1 : Nat))).setCell ⟨l, 2, none⟩ (.int .i64 (max D d : Nat))).alloc (Obj.cells #[.int .i64 k, .slice A b.length c, .slice B ks.length c2] 28)) l r (n + 1) (max D d) :=
    ⟨blk_new' hW1 _, blk_new' hW2 _⟩
  have hNW := heap_alloc_new ((w.setCell ⟨l, 1, none⟩ (.int .i64 (n + 1 : Nat))).setCell ⟨l, 2, none⟩ (.int .i64 (max D d : Nat))) (Obj.cells #[.int .i64 k, .slice A b.length c, .slice B ks.length c2] 28)
  rw [show (((w.setCell ⟨l, 1, none⟩ (.int .i64 (n + 1 : Nat))).setCell ⟨l, 2, none⟩ (.int .i64 (max D d : Nat)))).heap.size = w.heap.size from by simp] at hNW
  have hsW : (((w.setCell ⟨l, 1, none⟩ (.int .i64 (n + 1 : Nat))).setCell ⟨l, 2, none⟩ (.int .i64 (max D d : Nat))).alloc (Obj.cells #[.int .i64 k, .slice A b.length c, .slice B ks.length c2] 28)).heap.size = w.heap.size + 1 := by simp
  have em : max (D : Int) (d : Int) = ((max D d : Nat) : Int) := by omega
  rw [em, show ((n : Int) + 1) = ((n + 1 : Nat) : Int) from rfl]
  generalize ((w.setCell ⟨l, 1, none⟩ (.int .i64 (n + 1 : Nat))).setCell ⟨l, 2, none⟩ (.int .i64 (max D d : Nat))).alloc (Obj.cells #[.int .i64 k, .slice A b.length c, .slice B ks.length c2] 28) = W at *
  have hS' : ∀ k, S k → k < w.heap.size → ¬ k = l := fun k hk _ => hS k hk
  have z0 : W.cell? ⟨l, 0, none⟩ = some (.map (some r)) := by rw [blk_cell' hLW.1]; rfl
  have y0 : W.cell? ⟨w.heap.size, 0, none⟩ = some (.int .i64 k) := by rw [blk_cell' hNW]; rfl
  refine wp_region_held_drew (S := fun w' => w'.cell? ⟨l, 0, none⟩ = some (.map (some r)) ∧ w'.cell? ⟨w.heap.size, 0, none⟩ = some (.int .i64 k) ∧ w'.heap[r]? = some kindsObj) (by kernel_rfl) ?_ (fun hHeld => ?_)
  · (try dsimp only); exact ⟨z0, y0, hLW.2⟩
  refine takeT 0 28 (v := ?_) rfl rfl (by kernel_rfl) (by kernel_rfl) (by kernel_rfl) (fun _ _ _ h => h) hHeld (by rfl) ?_ ?_
  rotate_left
  · intro w hSw; (try dsimp only at hSw); have hSa := hSw.1; have hSb := hSw.2.1; have hSc := lookup_kinds hSw.2.2 k; clear hSw; go_simp; (try with_reducible rfl)
  simp only [List.set_cons_zero, List.set_cons_succ]
  refine takeT 1 29 (v := ?_) rfl rfl (by kernel_rfl) (by kernel_rfl) (by kernel_rfl) (fun _ _ _ h => h) hHeld (by rfl) ?_ ?_
  rotate_left
  · intro w hSw; (try dsimp only at hSw); have hSa := hSw.1; have hSb := hSw.2.1; have hSc := lookup_kinds hSw.2.2 k; clear hSw; go_simp; (try with_reducible rfl)
  simp only [List.set_cons_zero, List.set_cons_succ]
  refine takeT 2 30 (v := ?_) rfl rfl (by kernel_rfl) (by kernel_rfl) (by kernel_rfl) (fun _ _ _ h => h) hHeld (by rfl) ?_ ?_
  rotate_left
  · intro w hSw; (try dsimp only at hSw); have hSa := hSw.1; have hSb := hSw.2.1; have hSc := lookup_kinds hSw.2.2 k; clear hSw; go_simp; (try with_reducible rfl)
  simp only [List.set_cons_zero, List.set_cons_succ]
  refine takeT 3 31 (v := ?_) rfl rfl (by kernel_rfl) (by kernel_rfl) (by kernel_rfl) (fun _ _ _ h => h) hHeld (by rfl) ?_ ?_
  rotate_left
  · intro w hSw; (try dsimp only at hSw); have hSa := hSw.1; have hSb := hSw.2.1; have hSc := lookup_kinds hSw.2.2 k; clear hSw; go_simp; (try with_reducible rfl)
  simp only [List.set_cons_zero, List.set_cons_succ]
  refine takeT 4 32 (v := ?_) rfl rfl (by kernel_rfl) (by kernel_rfl) (by kernel_rfl) (fun _ _ _ h => h) hHeld (by rfl) ?_ ?_
  rotate_left
  · intro w hSw; (try dsimp only at hSw); have hSa := hSw.1; have hSb := hSw.2.1; have hSc := lookup_kinds hSw.2.2 k; clear hSw; go_simp; (try with_reducible rfl)
  simp only [List.set_cons_zero, List.set_cons_succ]
  refine takeT 5 33 (v := ?_) rfl rfl (by kernel_rfl) (by kernel_rfl) (by kernel_rfl) (fun _ _ _ h => h) hHeld (by rfl) ?_ ?_
  rotate_left
  · intro w hSw; (try dsimp only at hSw); have hSa := hSw.1; have hSb := hSw.2.1; have hSc := lookup_kinds hSw.2.2 k; clear hSw; go_simp; (try with_reducible rfl)
  simp only [List.set_cons_zero, List.set_cons_succ]
  refine takeT 6 34 (v := ?_) rfl rfl (by kernel_rfl) (by kernel_rfl) (by kernel_rfl) (fun _ _ _ h => h) hHeld (by rfl) ?_ ?_
  rotate_left
  · intro w hSw; (try dsimp only at hSw); have hSa := hSw.1; have hSb := hSw.2.1; have hSc := lookup_kinds hSw.2.2 k; clear hSw; go_simp; (try with_reducible rfl)
  simp only [List.set_cons_zero, List.set_cons_succ]
  refine takeT 7 27 (v := ?_) rfl rfl (by kernel_rfl) (by kernel_rfl) (by kernel_rfl) (fun _ _ _ h => h) hHeld (by rfl) ?_ ?_
  rotate_left
  · intro w hSw; (try dsimp only at hSw); have hSa := hSw.1; have hSb := hSw.2.1; have hSc := lookup_kinds hSw.2.2 k; clear hSw; go_simp; (try with_reducible rfl)
  simp only [List.set_cons_zero, List.set_cons_succ]
  refine takeT 8 35 (v := ?_) rfl rfl (by kernel_rfl) (by kernel_rfl) (by kernel_rfl) (fun _ _ _ h => h) hHeld (by rfl) ?_ ?_
  rotate_left
  · intro w hSw; (try dsimp only at hSw); have hSa := hSw.1; have hSb := hSw.2.1; have hSc := lookup_kinds hSw.2.2 k; clear hSw; go_simp; (try with_reducible rfl)
  simp only [List.set_cons_zero, List.set_cons_succ]
  refine takeT 9 36 (v := ?_) rfl rfl (by kernel_rfl) (by kernel_rfl) (by kernel_rfl) (fun _ _ _ h => h) hHeld (by rfl) ?_ ?_
  rotate_left
  · intro w hSw; (try dsimp only at hSw); have hSa := hSw.1; have hSb := hSw.2.1; have hSc := lookup_kinds hSw.2.2 k; clear hSw; go_simp; (try with_reducible rfl)
  simp only [List.set_cons_zero, List.set_cons_succ]
  refine takeC 10 rfl (by kernel_rfl) (by rfl) (fun K hK => ?_)
  go_simp
  have hb1 := (below_new W (Obj.cells #[.int .i64 0, .int .i64 0, .bool false] 132)).drew
  have hL1 := hLW.below hb1
  have hB1 : ((W.alloc (Obj.cells #[.int .i64 0, .int .i64 0, .bool false] 132)).drew).heap[w.heap.size + 1]? = some (.cells #[.int .i64 0, .int .i64 0, .bool false] 132 (0, 0)) := by
    rw [← hsW]
    exact heap_alloc_new W _
  have hN1 := (hb1.block w.heap.size (by omega)).trans hNW
  generalize (W.alloc (Obj.cells #[.int .i64 0, .int .i64 0, .bool false] 132)).drew = W1 at *
  refine hK.out _ _ ?_ (fun hHeld => ?_)
  · (try dsimp only); exact ⟨by rw [blk_cell' hL1.1]; rfl, by rw [blk_cell' hN1]; rfl, hL1.2⟩
  clear hK K
  have b0 : W1.cell? ⟨w.heap.size + 1, 0, none⟩ = some (.int .i64 0) := by rw [blk_cell' hB1]; rfl
  have b1 : W1.cell? ⟨w.heap.size + 1, 1, none⟩ = some (.int .i64 0) := by rw [blk_cell' hB1]; rfl
  have b2 : W1.cell? ⟨w.heap.size + 1, 2, none⟩ = some (.bool false) := by rw [blk_cell' hB1]; rfl
  have g0 := blk_frozen' hB1 0
  have g1 := blk_frozen' hB1 1
  have g2 := blk_frozen' hB1 2
  refine takeC 11 rfl (by kernel_rfl) (by rfl) (fun K hK => ?_)
  go_simp
  have hB2 := blk_set' (blk_set' (blk_set' hB1 0 (.int .i64 (lo k))) 1 (.int .i64 (hi k))) 2 (.bool (kd k))
  have hch2 := ((Chs.set (T := (· = w.heap.size + 1)) W1 ⟨w.heap.size + 1, 0, none⟩ (.int .i64 (lo k)) rfl).trans (Chs.set _ ⟨w.heap.size + 1, 1, none⟩ (.int .i64 (hi k)) rfl)).trans (Chs.set _ ⟨w.heap.size + 1, 2, none⟩ (.bool (kd k)) rfl)
  generalize ((W1.setCell ⟨w.heap.size + 1, 0, none⟩ (.int .i64 (lo k))).setCell ⟨w.heap.size + 1, 1, none⟩ (.int .i64 (hi k))).setCell ⟨w.heap.size + 1, 2, none⟩ (.bool (kd k)) = W2 at *
  have hs1 : w.heap.size + 1 < W1.heap.size := (Array.getElem?_eq_some_iff.1 hB1).1
  have hL2 : Lk W2 l r (n + 1) (max D d) := ⟨(hch2.block l (by omega) (by omega)).trans hL1.1, (hch2.block r (by omega) (by omega)).trans hL1.2⟩
  have hN2 := (hch2.block w.heap.size (by omega) (by omega)).trans hN1
  simp only [List.setIfInBounds_toArray, List.set_cons_zero, List.set_cons_succ] at hB2
  have hall : Chs (· = l) w W2 := ((hch.trans (Chs.of_below hb1)).mono (T' := fun k => k = l ∨ k = w.heap.size + 1) (fun k _ hk => .inl hk)).trans (hch2.mono (fun k _ hk => .inr hk)) |>.mono (fun k hk1 hk2 => by omega)
  clear hB1 hL1 hN1 hb1 hch hch2 hLW hNW z0 y0 b0 b1 b2 g0 g1 g2
  refine hK.out _ _ ?_ (fun hHeld => ?_)
  · (try dsimp only); exact ⟨by rw [blk_cell' hL2.1]; rfl, by rw [blk_cell' hN2]; rfl, hL2.2⟩
  clear hK K
  refine takeT 12 8 (v := ?_) rfl rfl (by kernel_rfl) (by kernel_rfl) (by kernel_rfl) (fun _ _ _ h => h) hHeld (by rfl) ?_ ?_
  rotate_left
  · intro w hSw; (try dsimp only at hSw); go_simp; (try with_reducible rfl)
  simp only [List.set_cons_zero, List.set_cons_succ]
  refine wpAnyH_done (by kernel_rfl) ?_ _
  have u0 : W2.cell? ⟨w.heap.size + 1, 0, none⟩ = some (.int .i64 (lo k)) := by rw [blk_cell' hB2]; rfl
  have u1 : W2.cell? ⟨w.heap.size + 1, 1, none⟩ = some (.int .i64 (hi k)) := by rw [blk_cell' hB2]; rfl
  have u2 : W2.cell? ⟨w.heap.size + 1, 2, none⟩ = some (.bool (kd k)) := by rw [blk_cell' hB2]; rfl
  have v0 : W2.cell? ⟨w.heap.size, 0, none⟩ = some (.int .i64 k) := by rw [blk_cell' hN2]; rfl
  have v1 : W2.cell? ⟨w.heap.size, 1, none⟩ = some (.slice A b.length c) := by rw [blk_cell' hN2]; rfl
  have v2 : W2.cell? ⟨w.heap.size, 2, none⟩ = some (.slice B ks.length c2) := by rw [blk_cell' hN2]; rfl
  have x1 : W2.cell? ⟨l, 1, none⟩ = some (.int .i64 (n + 1 : Nat)) := by rw [blk_cell' hL2.1]; rfl
  have HA := Lib.hid hall
  have HR : Hid (rgtB (.mk k b ks) n d = (decide (n + 1 ≤ 200) && (decide (d ≤ 8) && ((isK k && (decide (lo k ≤ b.length) && (decide ((b.length : Int) ≤ hi k) && (decide (ks.length ≤ 200) && ((kd k || decide (ks.length = 0)) && risesB none ks))))) && rgtK ks (n + 1) (d + 1))))) := by
    show _ = _
    rw [rgt_node, alone_eq]
  unfold NdAt at hn
  obtain ⟨_, _, _, cells, hcs, _, _, _, hrk, hks⟩ := hn
  simp only [List.cons.injEq, Value.slice.injEq, and_true, true_and] at hcs
  obtain ⟨rfl, rfl, rfl⟩ := hcs
  have hrk2 := hrk.keep (hall.stays hS')
  have hks2 := KsAt.keep (hall.stays hS') _ _ hks
  have HSZ := Lib.hid (Sz.kids hsz)
  clear hsz hall
  by_cases hq : isK k = true ∧ n + 1 ≤ 200 ∧ d ≤ 8 ∧ lo k ≤ b.length ∧ (b.length : Int) ≤ hi k ∧ ks.length ≤ 200 ∧ (kd k = true ∨ ks.length = 0)
  · obtain ⟨q1, q2, q3, q4, q5, q6, q7⟩ := hq
    have HR2 : Hid (rgtB (.mk k b ks) n d = (risesB none ks && rgtK ks (n + 1) (d + 1))) := by
      show _ = _
      rw [HR.out]
      rcases q7 with q7 | q7 <;> simp [q1, q2, q3, q4, q5, q6, q7]
    clear HR
    have hS2 : ∀ k, S k → k < w.heap.size → ¬ k = l := hS'
    clear hB2 hN2
    have q8 : kd k = true ∨ kd k = false ∧ ¬ 0 < ks.length := by
      cases hkd : kd k
      · rcases q7 with q7 | q7
        · rw [hkd] at q7; cases q7
        · exact .inr ⟨rfl, by omega⟩
      · exact .inl rfl
    rcases q8 with hkd | ⟨hkd, hk0⟩
    all_goals
      go_wp2_with fail
      refine (named_any W2 (by omega) hrk2 hks2 (fun x hx => (SzK.mem HSZ.out x hx).1)).mono ?_
      rintro e w3 ⟨⟨z, rfl, hz⟩, hb3⟩
      have v3 : w3.cell? ⟨w.heap.size, 2, none⟩ = some (.slice B ks.length c2) := cell_later hb3 v2
      cases z with
      | false =>
        go_wp2_with fail
        go_ret
        have hbad : rgtB (.mk k b ks) n d = false := by rw [HR2.out, ← hz.out]; rfl
        exact ⟨.mk (by rw [hbad]; (try rfl)), ⟨_, _, hL2.below hb3, fun h => by rw [hbad] at h; cases h⟩, HA.out.trans (Chs.of_below hb3)⟩
      | true =>
        have HR3 : Hid (rgtB (.mk k b ks) n d = rgtK ks (n + 1) (d + 1)) := by
          show _ = _
          rw [HR2.out, ← hz.out]
          rfl
        go_wp2_with fail
        have hinv : KRight ks S l r n d D w 0 w3 := ⟨n + 1, max D d, hL2.below hb3, by simp [cntK], by simp [depK], rfl, HA.out.trans (Chs.of_below hb3), by omega, by omega⟩
        clear hL2 hrk2 hks2 u0 u1 u2 v0 v1 v2 x1 hz hb3 hHeld
        go_loopw [81] (fun i wr => ∃ j : Nat, j ≤ ks.length ∧ i = .int .i64 j ∧ KRight ks S l r n d D w j wr) (fun i _ => ks.length - (intOf i).toNat)
        case atStart => exact ⟨0, by omega, rfl, hinv⟩
        case round =>
          obtain ⟨j, hj, rfl, ⟨n', D', hLj, hn', hD', heq, hchj, hn2, hD2⟩⟩ := hrel
          have HE := Lib.hid heq
          have HN' := Lib.hid hn'
          have HD' := Lib.hid hD'
          clear heq hn' hD' hinv
          by_cases hjl : j < ks.length
          · obtain ⟨ad, A1, c1, B1, d1, rfl, _, x0, x1, x2, x3, hnj⟩ := kid_form (hrk.keep (hchj.stays hS2)) (KsAt.keep (hchj.stays hS2) _ _ hks) j hjl
            first
            | (exfalso; have := hk0; omega)
            | (
              go_wp2_with fail
              have hb2 := below_new wr (Obj.cells #[.string ks[j].1, .int .i64 ks[j].2.kind, .slice A1 ks[j].2.bytes.length c1, .slice B1 ks[j].2.kids.length d1] 57)
              rw [show ((d : Int) + 1) = ((d + 1 : Nat) : Int) from rfl]
              refine (ih ks[j] (List.getElem_mem hjl) (wr.alloc (Obj.cells #[.string ks[j].1, .int .i64 ks[j].2.kind, .slice A1 ks[j].2.bytes.length c1, .slice B1 ks[j].2.kids.length d1] 57)) S l r n' (d + 1) D' _ (hnj.below hb2) (SzK.mem HSZ.out _ (List.getElem_mem hjl)).2 (hLj.below hb2) hn2 (by omega) (by omega) hD2 hS).mono ?_
              rintro e w4 ⟨⟨z, rfl, hz⟩, ⟨n2, D2, hL4, himp⟩, hch4⟩
              have hchall := (hchj.trans (Chs.of_below hb2)).trans hch4
              have HC : Hid (rgtK ks (n + 1) (d + 1) = (z && rgtK (ks.drop (j + 1)) (n' + cnt ks[j].2) (d + 1))) := by
                show _ = _
                rw [HE.out, List.drop_eq_getElem_cons hjl, rgt_cons, hz.out]
              cases z with
              | false =>
                go_wp2_with fail
                go_ret
                have hbad : rgtB (.mk k b ks) n d = false := by rw [HR3.out, HC.out]; rfl
                exact ⟨.mk (by rw [hbad]; (try rfl)), ⟨_, _, hL4, fun h => by rw [hbad] at h; cases h⟩, hchall⟩
              | true =>
                have hx := hz.out.symm
                obtain ⟨rfl, rfl⟩ := himp hx
                go_wp2_with fail
                go_roundw
                · refine ⟨j + 1, by omega, rfl, ⟨_, _, hL4, ?_, ?_, ?_, hchall, ?_, ?_⟩⟩
                  · rw [cntK_take ks j hjl, HN'.out]; omega
                  · rw [depK_take ks j hjl, HD'.out]; omega
                  · rw [HC.out]; rfl
                  · simp only [rgtB, Bool.and_eq_true, decide_eq_true_eq] at hx; omega
                  · simp only [rgtB, Bool.and_eq_true, decide_eq_true_eq] at hx; omega
                · simp [intOf]; omega)
          · go_wp2_with fail
            go_ret
            have e1 : ks.drop j = [] := List.drop_eq_nil_iff.2 (by omega)
            have e2 : ks.take j = ks := List.take_of_length_le (by omega)
            have hgood : rgtB (.mk k b ks) n d = true := by
              rw [HR3.out, HE.out, e1]
              exact rgtK_nil hn2 (by omega)
            have e3 := HN'.out
            have e4 := HD'.out
            rw [e2] at e3 e4
            exact ⟨.mk (by rw [hgood]; (try rfl)), ⟨_, _, hLj, fun _ => by simp only [cnt, dep]; omega⟩, hchj⟩
  · have hbad : rgtB (.mk k b ks) n d = false := by
      rw [Bool.eq_false_iff]
      intro h
      apply hq
      rw [HR.out] at h
      simp only [Bool.and_eq_true, Bool.or_eq_true, decide_eq_true_eq] at h
      obtain ⟨h1, h2, ⟨h3, h4, h5, h6, h7, _⟩, _⟩ := h
      exact ⟨h3, h1, h2, h4, h5, h6, h7⟩
    have HBAD := Lib.hid hbad
    have HQ := Lib.hid hq
    clear HR hbad hq
    go_wp2_with fail
    all_goals first
      | (go_ret; exact ⟨.mk (by rw [HBAD.out]; (try rfl)), ⟨_, _, hL2, fun h => by rw [HBAD.out] at h; cases h⟩, HA.out⟩)
      | (exfalso
         have i0 : (!isK k) = true := ‹_›
         have i1 : (!isK k) = false := ‹_›
         rw [i0] at i1
         cases i1)
      | (exfalso
         have i1 : (!isK k) = false := ‹_›
         refine HQ.out ⟨by simpa using i1, by omega, by omega, by omega, by omega, by omega, ?_⟩
         first
           | exact .inl ‹_›
           | exact .inr (by omega))
end Pk
end Go.Proofs.YtgfgdlnlafngnaaDoor
