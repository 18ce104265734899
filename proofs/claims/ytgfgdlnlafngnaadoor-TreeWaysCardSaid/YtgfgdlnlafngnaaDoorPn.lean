/- Walks: tree.put into an empty directory. -/
import Derived.Test.YtgfgdlnlafngnaaDoorIn
import Derived.Test.YtgfgdlnlafngnaaDoorReg2
import Derived.Deep.DeepCutAuto
namespace Go.Proofs.YtgfgdlnlafngnaaDoor
namespace Pk
open Go.RowKit

/-- Directories, one within the other, and what is in the last one. -/
def chainT : List ByteArray → Nd → Nd
  | [], x => x
  | nm :: r, x => .mk 4 [] [(nm, chainT r x)]

/-- Cells at a place within a block. -/
def Pl (w : World) (P : Nat) (l : List Value) (cs : List Value) (ty : TypeId) : Prop := ∃ r, w.heap[P]? = some (.cells (l ++ (cs ++ r)).toArray ty (0, 0))
theorem pl_cells {w : World} {P : Nat} {l : List Value} {a b c : Value} {ty : TypeId} (h : Pl w P l [a, b, c] ty) : w.cell? ⟨P, l.length, none⟩ = some a ∧ w.cell? ⟨P, l.length + 1, none⟩ = some b ∧ w.cell? ⟨P, l.length + 2, none⟩ = some c := by
  obtain ⟨r, h⟩ := h
  refine ⟨?_, ?_, ?_⟩ <;> rw [blk_cell' h] <;> simp
theorem pl_free {w : World} {P : Nat} {l cs : List Value} {ty : TypeId} (h : Pl w P l cs ty) (i : Nat) : w.frozen? ⟨P, i, none⟩ = false := by
  obtain ⟨r, h⟩ := h
  exact blk_frozen' h i
theorem pl_lt {w : World} {P : Nat} {l cs : List Value} {ty : TypeId} (h : Pl w P l cs ty) : P < w.heap.size := by
  obtain ⟨r, h⟩ := h
  exact (Array.getElem?_eq_some_iff.1 h).1
theorem pl_set {w : World} {P : Nat} {l cs : List Value} {ty : TypeId} (h : Pl w P l cs ty) (j : Nat) (hj : j < cs.length) (u : Value) : Pl (w.setCell ⟨P, l.length + j, none⟩ u) P l (cs.set j u) ty := by
  obtain ⟨r, h⟩ := h
  have := blk_set' h (l.length + j) u
  refine ⟨r, ?_⟩
  rw [this]
  simp [List.setIfInBounds_toArray, hj]
theorem pl_set3 {w : World} {P : Nat} {l : List Value} {a b c : Value} {ty : TypeId} (h : Pl w P l [a, b, c] ty) (x y z : Value) : Pl (((w.setCell ⟨P, l.length, none⟩ x).setCell ⟨P, l.length + 1, none⟩ y).setCell ⟨P, l.length + 2, none⟩ z) P l [x, y, z] ty :=
  pl_set (pl_set (pl_set h 0 (by simp) x) 1 (by simp) y) 2 (by simp) z
theorem chs_set3' {T : Nat → Prop} (w : World) (g i : Nat) (x y z : Value) (hT : T g) : Chs T w (((w.setCell ⟨g, i, none⟩ x).setCell ⟨g, i + 1, none⟩ y).setCell ⟨g, i + 2, none⟩ z) :=
  ((Chs.set w _ x hT).trans (Chs.set _ _ y hT)).trans (Chs.set _ _ z hT)
theorem nd_dir (S : Nat → Prop) (w : World) : NdAt S w (.mk 4 [] []) [.int .i64 4, .slice none 0 0, .slice none 0 0] := by
  unfold NdAt
  exact ⟨_, none, 0, [], rfl, BsAt.nil _ _, by simp, by omega, Rd.nil _ _ _, by unfold KsAt; rfl⟩
theorem add_zero (a : Addr) : a.add 0 = a := by
  unfold Addr.add
  split <;> simp_all
theorem Rd.of_blk' {w : World} {cs : Array Value} {t : TypeId} {n : Nat} {fr : Nat × Nat} (h : w.heap[n]? = some (.cells cs t fr)) : Rd w (fun k => k = n) (some ⟨n, 0, none⟩) cs.toList := fun _ => by
  refine ⟨_, rfl, rfl, fun j u hu => ?_⟩
  have ea : (⟨n, 0, none⟩ : Addr).add j = ⟨n, j, none⟩ := by unfold Addr.add; split <;> simp_all
  rw [ea, cell_of_row _ _ _ cs t fr h, ← hu]
  simp
theorem cell_set_far {w : World} {p q : Addr} {u : Value} (h : q.block ≠ p.block) : (w.setCell p u).cell? q = w.cell? q := by
  have := Below.heap_setCell w p u q.block h
  simp only [World.cell?, this]
theorem own_new {w : World} {base : Nat} {e : TypeId} {v : Value} {a b c d : Value} (h : w.ownsRow base e 4 v (0 + 1) ([] ++ [a, b, c, d])) : ∃ G d4, v = .slice (some ⟨G, 0, none⟩) 1 d4 ∧ base ≤ G ∧ Pl w G [a] [b, c, d] e ∧ 1 ≤ d4 ∧ d4 ≤ maxLen := by
  rcases h.2 with ⟨_, h2⟩ | ⟨g, cap, cur, rfl, h1, h2, h3, h4, h5, h6⟩
  · omega
  · refine ⟨g, cap, rfl, h1, ⟨cur.toList.drop 4, ?_⟩, by omega, h4⟩
    rw [h2]
    have : cur.toList = [a, b, c, d] ++ cur.toList.drop 4 := by
      conv => lhs; rw [← List.take_append_drop 4 cur.toList]
      rw [show cur.toList.take 4 = [a, b, c, d] from by simpa using h6]
    congr 2
    apply Array.toList_inj.1
    rw [this]
    simp
theorem find_new (w : World) (nm : ByteArray) : Calls Tryd.prog 56 #[.agg #[.int .i64 4, .slice none 0 0, .slice none 0 0], .string nm] w fun e w' => e = .returned (.tuple #[.int .i64 0, .bool false]) ∧ Below w.heap.size w w' :=
  find_any (t := .mk 4 [] []) w nm (nd_dir (fun _ => True) w) (by simp [Nd.kids]) rfl
theorem pl_move {w w' : World} {P : Nat} {l cs : List Value} {ty : TypeId} (h : Pl w P l cs ty) (hb : w'.heap[P]? = w.heap[P]?) : Pl w' P l cs ty := by
  obtain ⟨r, h⟩ := h
  exact ⟨r, hb.trans h⟩

set_option maxRecDepth 100000 in
set_option maxHeartbeats 4000000 in
theorem put_new : ∀ (names : List ByteArray) (l : List Value) (P : Nat) (w : World) (ty : TypeId) (L : Option Addr) (lc : Nat) (x : Nd) (cx : List Value) (Sn Sx : Nat → Prop), Pl w P l [.int .i64 4, .slice none 0 0, .slice none 0 0] ty → Rd w Sn L (names.map Value.string) → (∀ k, Sn k → k ≠ P) → names.length ≤ lc → l.length ≤ 1000 →
    NdAt Sx w x cx → (∀ k, Sx k → k ≠ P) →
    Calls Tryd.prog 62 #[.pointer (some ⟨P, l.length, none⟩), .slice L names.length lc, .agg cx.toArray] w fun e w' => e = .returned (.int .i64 0) ∧ Chs (fun k => k = P) w w' ∧ ∃ c0 c1 c2, Pl w' P l [c0, c1, c2] ty ∧ NdAt (fun k => k ≠ P ∧ (Sx k ∨ w.heap.size ≤ k)) w' (chainT names x) [c0, c1, c2] := by
  intro names
  induction names with
  | nil =>
    intro l P w ty L lc x cx Sn Sx hP hr hSn hlc hll hx hSx
    obtain ⟨A, c, B, c2, rfl⟩ := nd_form hx
    have hb1 := below_new w (Obj.cells #[.int .i64 x.kind, .slice A x.bytes.length c, .slice B x.kids.length c2] 28)
    have hP1 := pl_move hP (hb1.block P (pl_lt hP))
    have ⟨n0, n1, n2⟩ := pl_cells hP1
    have f0 := pl_free hP1 l.length
    have f1 := pl_free hP1 (l.length + 1)
    have f2 := pl_free hP1 (l.length + 2)
    go_enter Tryd.func62, Tryd.ntmps62
    go_wp2_with fail
    go_ret
    have hst := chs_set3' (T := fun k => k = P) (w.alloc (Obj.cells #[.int .i64 x.kind, .slice A x.bytes.length c, .slice B x.kids.length c2] 28)) P l.length (.int .i64 x.kind) (.slice A x.bytes.length c) (.slice B x.kids.length c2) rfl
    refine ⟨rfl, (Chs.of_below hb1).trans hst, _, _, _, pl_set3 hP1 _ _ _, ?_⟩
    refine NdAt.mono (S := fun k => Sx k) (fun k hk => ⟨hSx k hk, .inl hk⟩) _ _ ((hx.below hb1).chs hst (fun k hk _ e => hSx k hk e))
  | cons nm r ih =>
    intro l P w ty L lc x cx Sn Sx hP hr hSn hlc hll hx hSx
    obtain ⟨A, c, B, c2, rfl⟩ := nd_form hx
    have hb1 := below_new w (Obj.cells #[.int .i64 x.kind, .slice A x.bytes.length c, .slice B x.kids.length c2] 28)
    have hP1 := pl_move hP (hb1.block P (pl_lt hP))
    have hX1 := heap_alloc_new w (Obj.cells #[.int .i64 x.kind, .slice A x.bytes.length c, .slice B x.kids.length c2] 28)
    have hs1 : (w.alloc (Obj.cells #[.int .i64 x.kind, .slice A x.bytes.length c, .slice B x.kids.length c2] 28)).heap.size = w.heap.size + 1 := by simp
    have ⟨n0, n1, n2⟩ := pl_cells hP1
    simp only [List.length_cons] at hlc
    have hz : ((r.length : Int) + 1 == 0) = false := by
      rw [beq_eq_false_iff_ne]
      omega
    go_enter Tryd.func62, Tryd.ntmps62
    obtain ⟨ad, rfl, had, hx0⟩ := hr.at_ (j := 0) (by simp)
    rw [add_zero] at hx0
    have x0 := cell_later hb1 (show w.cell? ad = some (Value.string nm) by simpa using hx0)
    go_wp2_with fail
    generalize w.alloc (Obj.cells #[.int .i64 x.kind, .slice A x.bytes.length c, .slice B x.kids.length c2] 28) = w1 at *
    refine wp_region_held_drew (S := fun w' => w'.cell? ⟨P, l.length, none⟩ = some (Value.int .i64 4) ∧ w'.cell? ⟨P, l.length + 1, none⟩ = some (Value.slice none 0 0) ∧ w'.cell? ⟨P, l.length + 2, none⟩ = some (Value.slice none 0 0) ∧ w'.cell? ad = some (Value.string nm)) (by kernel_rfl) ?_ (fun hHeld => ?_)
    · (try dsimp only); exact ⟨n0, n1, n2, x0⟩
    refine takeT 0 21 (v := ?_) rfl rfl (by kernel_rfl) (by kernel_rfl) (by kernel_rfl) (fun _ _ _ h => h) hHeld (by rfl) ?_ ?_
    rotate_left
    · intro w hSw; (try dsimp only at hSw); have hSa := hSw.1; have hSb := hSw.2.1; have hSc := hSw.2.2.1; have hSd := hSw.2.2.2; clear hSw; go_simp; (try with_reducible rfl)
    simp only [List.set_cons_zero, List.set_cons_succ]
    refine takeT 1 22 (v := ?_) rfl rfl (by kernel_rfl) (by kernel_rfl) (by kernel_rfl) (fun _ _ _ h => h) hHeld (by rfl) ?_ ?_
    rotate_left
    · intro w hSw; (try dsimp only at hSw); have hSa := hSw.1; have hSb := hSw.2.1; have hSc := hSw.2.2.1; have hSd := hSw.2.2.2; clear hSw; go_simp; (try with_reducible rfl)
    simp only [List.set_cons_zero, List.set_cons_succ]
    refine takeT 2 23 (v := ?_) rfl rfl (by kernel_rfl) (by kernel_rfl) (by kernel_rfl) (fun _ _ _ h => h) hHeld (by rfl) ?_ ?_
    rotate_left
    · intro w hSw; (try dsimp only at hSw); have hSa := hSw.1; have hSb := hSw.2.1; have hSc := hSw.2.2.1; have hSd := hSw.2.2.2; clear hSw; go_simp; (try with_reducible rfl)
    simp only [List.set_cons_zero, List.set_cons_succ]
    refine takeT 3 24 (v := ?_) rfl rfl (by kernel_rfl) (by kernel_rfl) (by kernel_rfl) (fun _ _ _ h => h) hHeld (by rfl) ?_ ?_
    rotate_left
    · intro w hSw; (try dsimp only at hSw); have hSa := hSw.1; have hSb := hSw.2.1; have hSc := hSw.2.2.1; have hSd := hSw.2.2.2; clear hSw; go_simp; (try with_reducible rfl)
    simp only [List.set_cons_zero, List.set_cons_succ]
    refine takeT 4 25 (v := ?_) rfl rfl (by kernel_rfl) (by kernel_rfl) (by kernel_rfl) (fun _ _ _ h => h) hHeld (by rfl) ?_ ?_
    rotate_left
    · intro w hSw; (try dsimp only at hSw); have hSa := hSw.1; have hSb := hSw.2.1; have hSc := hSw.2.2.1; have hSd := hSw.2.2.2; clear hSw; go_simp; (try with_reducible rfl)
    simp only [List.set_cons_zero, List.set_cons_succ]
    refine takeT 5 26 (v := ?_) rfl rfl (by kernel_rfl) (by kernel_rfl) (by kernel_rfl) (fun _ _ _ h => h) hHeld (by rfl) ?_ ?_
    rotate_left
    · intro w hSw; (try dsimp only at hSw); have hSa := hSw.1; have hSb := hSw.2.1; have hSc := hSw.2.2.1; have hSd := hSw.2.2.2; clear hSw; go_simp; (try with_reducible rfl)
    simp only [List.set_cons_zero, List.set_cons_succ]
    refine takeC 6 rfl (by kernel_rfl) (by rfl) (fun K hK => ?_)
    go_simp
    refine (find_new _ nm).mono ?_; rintro e w2 ⟨rfl, hb2⟩; (try go_wp2_with fail)
    refine hK.out _ _ ?_ (fun hHeld => ?_)
    · (try dsimp only); exact ⟨cell_later hb2 n0, cell_later hb2 n1, cell_later hb2 n2, cell_later hb2 x0⟩
    clear hK K
    refine takeT 7 20 (v := ?_) rfl rfl (by kernel_rfl) (by kernel_rfl) (by kernel_rfl) (fun _ _ _ h => h) hHeld (by rfl) ?_ ?_
    rotate_left
    · intro w hSw; (try dsimp only at hSw); have hSa := hSw.1; have hSb := hSw.2.1; have hSc := hSw.2.2.1; have hSd := hSw.2.2.2; clear hSw; go_simp; (try with_reducible rfl)
    simp only [List.set_cons_zero, List.set_cons_succ]
    refine takeT 8 28 (v := ?_) rfl rfl (by kernel_rfl) (by kernel_rfl) (by kernel_rfl) (fun _ _ _ h => h) hHeld (by rfl) ?_ ?_
    rotate_left
    · intro w hSw; (try dsimp only at hSw); have hSa := hSw.1; have hSb := hSw.2.1; have hSc := hSw.2.2.1; have hSd := hSw.2.2.2; clear hSw; go_simp; (try with_reducible rfl)
    simp only [List.set_cons_zero, List.set_cons_succ]
    refine takeT 9 29 (v := ?_) rfl rfl (by kernel_rfl) (by kernel_rfl) (by kernel_rfl) (fun _ _ _ h => h) hHeld (by rfl) ?_ ?_
    rotate_left
    · intro w hSw; (try dsimp only at hSw); have hSa := hSw.1; have hSb := hSw.2.1; have hSc := hSw.2.2.1; have hSd := hSw.2.2.2; clear hSw; go_simp; (try with_reducible rfl)
    simp only [List.set_cons_zero, List.set_cons_succ]
    refine takeT 10 7 (v := ?_) rfl rfl (by kernel_rfl) (by kernel_rfl) (by kernel_rfl) (fun _ _ _ h => h) hHeld (by rfl) ?_ ?_
    rotate_left
    · intro w hSw; (try dsimp only at hSw); have hSa := hSw.1; have hSb := hSw.2.1; have hSc := hSw.2.2.1; have hSd := hSw.2.2.2; clear hSw; go_simp; (try with_reducible rfl)
    simp only [List.set_cons_zero, List.set_cons_succ]
    refine takeT 11 8 (v := ?_) rfl rfl (by kernel_rfl) (by kernel_rfl) (by kernel_rfl) (fun _ _ _ h => h) hHeld (by rfl) ?_ ?_
    rotate_left
    · intro w hSw; (try dsimp only at hSw); have hSa := hSw.1; have hSb := hSw.2.1; have hSc := hSw.2.2.1; have hSd := hSw.2.2.2; clear hSw; go_simp; (try with_reducible rfl)
    simp only [List.set_cons_zero, List.set_cons_succ]
    refine wpAnyH_done (by kernel_rfl) ?_ _
    have hP2 := pl_move hP1 ((below_dr w1).via hb2 |>.block P (pl_lt hP1))
    clear n0 n1 n2
    have ⟨n0, n1, n2⟩ := pl_cells hP2
    have x0 := cell_later ((below_dr w1).via hb2) x0
    have h12 := (below_dr w1).via hb2
    clear hb2
    have had' : ad.block ≠ P := hSn _ had
    go_upto_region 8 with fail
    go_cut [] (fun wx => ∃ G d4, Pl wx P l [.int .i64 4, .slice none 0 0, .slice (some ⟨G, 0, none⟩) 1 d4] ty ∧ G ≠ P ∧ w2.heap.size ≤ G ∧ 1 ≤ d4 ∧ d4 ≤ maxLen ∧ Pl wx G [.string nm] [.int .i64 4, .slice none 0 0, .slice none 0 0] 57 ∧ Chs (fun k => k = P) w2 wx)
    case first =>
      refine wp_region_held_drew (S := fun w' => w'.cell? ad = some (Value.string nm)) (by kernel_rfl) ?_ (fun hHeld => ?_)
      · (try dsimp only); exact x0
      refine takeT 0 32 (v := ?_) rfl rfl (by kernel_rfl) (by kernel_rfl) (by kernel_rfl) (fun _ _ _ h => h) hHeld (by rfl) ?_ ?_
      rotate_left
      · intro w hSw; (try dsimp only at hSw); have hSa := hSw; clear hSw; go_simp; (try with_reducible rfl)
      simp only [List.set_cons_zero, List.set_cons_succ]
      refine takeT 1 33 (v := ?_) rfl rfl (by kernel_rfl) (by kernel_rfl) (by kernel_rfl) (fun _ _ _ h => h) hHeld (by rfl) ?_ ?_
      rotate_left
      · intro w hSw; (try dsimp only at hSw); have hSa := hSw; clear hSw; go_simp; (try with_reducible rfl)
      simp only [List.set_cons_zero, List.set_cons_succ]
      refine takeT 2 34 (v := ?_) rfl rfl (by kernel_rfl) (by kernel_rfl) (by kernel_rfl) (fun _ _ _ h => h) hHeld (by rfl) ?_ ?_
      rotate_left
      · intro w hSw; (try dsimp only at hSw); have hSa := hSw; clear hSw; go_simp; (try with_reducible rfl)
      simp only [List.set_cons_zero, List.set_cons_succ]
      refine takeT 3 35 (v := ?_) rfl rfl (by kernel_rfl) (by kernel_rfl) (by kernel_rfl) (fun _ _ _ h => h) hHeld (by rfl) ?_ ?_
      rotate_left
      · intro w hSw; (try dsimp only at hSw); have hSa := hSw; clear hSw; go_simp; (try with_reducible rfl)
      simp only [List.set_cons_zero, List.set_cons_succ]
      refine takeT 5 37 (v := ?_) rfl rfl (by kernel_rfl) (by kernel_rfl) (by kernel_rfl) (fun _ _ _ h => h) hHeld (by rfl) ?_ ?_
      rotate_left
      · intro w hSw; (try dsimp only at hSw); have hSa := hSw; clear hSw; go_simp; (try with_reducible rfl)
      simp only [List.set_cons_zero, List.set_cons_succ]
      refine takeT 6 38 (v := ?_) rfl rfl (by kernel_rfl) (by kernel_rfl) (by kernel_rfl) (fun _ _ _ h => h) hHeld (by rfl) ?_ ?_
      rotate_left
      · intro w hSw; (try dsimp only at hSw); have hSa := hSw; clear hSw; go_simp; (try with_reducible rfl)
      simp only [List.set_cons_zero, List.set_cons_succ]
      refine takeT 7 39 (v := ?_) rfl rfl (by kernel_rfl) (by kernel_rfl) (by kernel_rfl) (fun _ _ _ h => h) hHeld (by rfl) ?_ ?_
      rotate_left
      · intro w hSw; (try dsimp only at hSw); have hSa := hSw; clear hSw; go_simp; (try with_reducible rfl)
      simp only [List.set_cons_zero, List.set_cons_succ]
      refine takeT 8 40 (v := ?_) rfl rfl (by kernel_rfl) (by kernel_rfl) (by kernel_rfl) (fun _ _ _ h => h) hHeld (by rfl) ?_ ?_
      rotate_left
      · intro w hSw; (try dsimp only at hSw); have hSa := hSw; clear hSw; go_simp; (try with_reducible rfl)
      simp only [List.set_cons_zero, List.set_cons_succ]
      refine takeT 9 41 (v := ?_) rfl rfl (by kernel_rfl) (by kernel_rfl) (by kernel_rfl) (fun _ _ _ h => h) hHeld (by rfl) ?_ ?_
      rotate_left
      · intro w hSw; (try dsimp only at hSw); have hSa := hSw; clear hSw; go_simp; (try with_reducible rfl)
      simp only [List.set_cons_zero, List.set_cons_succ]
      refine takeT 10 42 (v := ?_) rfl rfl (by kernel_rfl) (by kernel_rfl) (by kernel_rfl) (fun _ _ _ h => h) hHeld (by rfl) ?_ ?_
      rotate_left
      · intro w hSw; (try dsimp only at hSw); have hSa := hSw; clear hSw; go_simp; (try with_reducible rfl)
      simp only [List.set_cons_zero, List.set_cons_succ]
      refine takeC2 4 11 rfl rfl (by kernel_rfl) (by rfl) (by rfl) (fun K hK => ?_) (fun K hK => ?_)
      · have n2' := cell_later (below_dr w2) n2
        go_simp
        refine hK.out _ _ ?_ (fun hHeld => ?_)
        · (try dsimp only); exact cell_later (below_dr w2) x0
        clear hK
        refine takeC 11 rfl (by kernel_rfl) (by rfl) (fun K hK => ?_)
        go_simp
        have h23 : Below w2.heap.size w2 (w2.alloc (Obj.cells #[.string nm, .int .i64 4, .slice none 0 0, .slice none 0 0] 57)).drew := (below_new w2 _).via (below_dr _)
        refine hK.out _ _ ?_ (fun hHeld => ?_)
        · (try dsimp only); exact cell_later h23 x0
        clear hK
        have hK3 : (w2.alloc (Obj.cells #[.string nm, .int .i64 4, .slice none 0 0, .slice none 0 0] 57)).drew.heap[w2.heap.size]? = some (.cells #[.string nm, .int .i64 4, .slice none 0 0, .slice none 0 0] 57 (0, 0)) := heap_alloc_new w2 _
        have hs3 : (w2.alloc (Obj.cells #[.string nm, .int .i64 4, .slice none 0 0, .slice none 0 0] 57)).drew.heap.size = w2.heap.size + 1 := by simp
        generalize (w2.alloc (Obj.cells #[.string nm, .int .i64 4, .slice none 0 0, .slice none 0 0] 57)).drew = w3 at *
        refine takeC 12 rfl (by kernel_rfl) (by rfl) (fun K hK => ?_)
        go_simp
        refine (insert_end (base := w2.heap.size + 1) (n := 0) (xs := []) (kc := [.string nm, .int .i64 4, .slice none 0 0, .slice none 0 0]) w3 (World.ownsRow_nil _ _ _ _) (Rd.of_blk' hK3) rfl (by simp [Value.oneCell']) (by omega) (by omega)).mono ?_; rintro e w4 ⟨v4, rfl, how4, hg4, hat4⟩; (try go_wp2_with fail); have h34 : Below w3.heap.size w3 w4 := (Chs.of_grown (T := fun _ => False) hg4 (fun k hk => by cases hk)).below (fun _ _ h => h)
        refine hK.out _ _ ?_ (fun hHeld => ?_)
        · (try dsimp only); exact cell_later (h23.via h34) x0
        clear hK K
        refine takeT 13 45 (v := ?_) rfl rfl (by kernel_rfl) (by kernel_rfl) (by kernel_rfl) (fun _ _ _ h => h) hHeld (by rfl) ?_ ?_
        rotate_left
        · intro w hSw; (try dsimp only at hSw); have hSa := hSw; clear hSw; go_simp; (try with_reducible rfl)
        simp only [List.set_cons_zero, List.set_cons_succ]
        refine takeT 14 46 (v := ?_) rfl rfl (by kernel_rfl) (by kernel_rfl) (by kernel_rfl) (fun _ _ _ h => h) hHeld (by rfl) ?_ ?_
        rotate_left
        · intro w hSw; (try dsimp only at hSw); have hSa := hSw; clear hSw; go_simp; (try with_reducible rfl)
        simp only [List.set_cons_zero, List.set_cons_succ]
        have h24 := h23.via h34
        have hP4 := pl_move hP2 (h24.block P (pl_lt hP2))
        have ⟨k0, k1, k2⟩ := pl_cells hP4
        have f2 := pl_free hP4 (l.length + 2)
        obtain ⟨G, d4, rfl, hG, hGb, hd4, hd4m⟩ := own_new how4
        refine takeC 15 rfl (by kernel_rfl) (by rfl) (fun K hK => ?_)
        go_simp
        refine hK.out _ _ ?_ (fun hHeld => ?_)
        · (try dsimp only); exact (cell_set_far (by exact had')).trans (cell_later h24 x0)
        clear hK
        refine wpAnyH_done (by kernel_rfl) ?_ _
        go_wp2_with fail
        go_meet
        have hGP : G ≠ P := by have := pl_lt hP2; omega
        refine ⟨G, d4, pl_set hP4 2 (by simp) _, hGP, by omega, hd4, hd4m, ?_, (Chs.of_below h24).trans (Chs.set _ _ _ rfl)⟩
        exact pl_move hGb (Below.heap_setCell _ _ _ _ hGP)
      · go_simp
        have h23 : Below w2.heap.size w2 (w2.alloc (Obj.cells #[.string nm, .int .i64 4, .slice none 0 0, .slice none 0 0] 57)).drew := (below_new w2 _).via (below_dr _)
        refine hK.out _ _ ?_ (fun hHeld => ?_)
        · (try dsimp only); exact cell_later h23 x0
        clear hK
        have n2' := cell_later h23 n2
        refine takeC 4 rfl (by kernel_rfl) (by rfl) (fun K hK => ?_)
        go_simp
        refine hK.out _ _ ?_ (fun hHeld => ?_)
        · (try dsimp only); exact cell_later h23 x0
        clear hK
        have hK3 : (w2.alloc (Obj.cells #[.string nm, .int .i64 4, .slice none 0 0, .slice none 0 0] 57)).drew.heap[w2.heap.size]? = some (.cells #[.string nm, .int .i64 4, .slice none 0 0, .slice none 0 0] 57 (0, 0)) := heap_alloc_new w2 _
        have hs3 : (w2.alloc (Obj.cells #[.string nm, .int .i64 4, .slice none 0 0, .slice none 0 0] 57)).drew.heap.size = w2.heap.size + 1 := by simp
        generalize (w2.alloc (Obj.cells #[.string nm, .int .i64 4, .slice none 0 0, .slice none 0 0] 57)).drew = w3 at *
        refine takeC 12 rfl (by kernel_rfl) (by rfl) (fun K hK => ?_)
        go_simp
        refine (insert_end (base := w2.heap.size + 1) (n := 0) (xs := []) (kc := [.string nm, .int .i64 4, .slice none 0 0, .slice none 0 0]) w3 (World.ownsRow_nil _ _ _ _) (Rd.of_blk' hK3) rfl (by simp [Value.oneCell']) (by omega) (by omega)).mono ?_; rintro e w4 ⟨v4, rfl, how4, hg4, hat4⟩; (try go_wp2_with fail); have h34 : Below w3.heap.size w3 w4 := (Chs.of_grown (T := fun _ => False) hg4 (fun k hk => by cases hk)).below (fun _ _ h => h)
        refine hK.out _ _ ?_ (fun hHeld => ?_)
        · (try dsimp only); exact cell_later (h23.via h34) x0
        clear hK K
        refine takeT 13 45 (v := ?_) rfl rfl (by kernel_rfl) (by kernel_rfl) (by kernel_rfl) (fun _ _ _ h => h) hHeld (by rfl) ?_ ?_
        rotate_left
        · intro w hSw; (try dsimp only at hSw); have hSa := hSw; clear hSw; go_simp; (try with_reducible rfl)
        simp only [List.set_cons_zero, List.set_cons_succ]
        refine takeT 14 46 (v := ?_) rfl rfl (by kernel_rfl) (by kernel_rfl) (by kernel_rfl) (fun _ _ _ h => h) hHeld (by rfl) ?_ ?_
        rotate_left
        · intro w hSw; (try dsimp only at hSw); have hSa := hSw; clear hSw; go_simp; (try with_reducible rfl)
        simp only [List.set_cons_zero, List.set_cons_succ]
        have h24 := h23.via h34
        have hP4 := pl_move hP2 (h24.block P (pl_lt hP2))
        have ⟨k0, k1, k2⟩ := pl_cells hP4
        have f2 := pl_free hP4 (l.length + 2)
        obtain ⟨G, d4, rfl, hG, hGb, hd4, hd4m⟩ := own_new how4
        refine takeC 15 rfl (by kernel_rfl) (by rfl) (fun K hK => ?_)
        go_simp
        refine hK.out _ _ ?_ (fun hHeld => ?_)
        · (try dsimp only); exact (cell_set_far (by exact had')).trans (cell_later h24 x0)
        clear hK
        refine wpAnyH_done (by kernel_rfl) ?_ _
        go_wp2_with fail
        go_meet
        have hGP : G ≠ P := by have := pl_lt hP2; omega
        refine ⟨G, d4, pl_set hP4 2 (by simp) _, hGP, by omega, hd4, hd4m, ?_, (Chs.of_below h24).trans (Chs.set _ _ _ rfl)⟩
        exact pl_move hGb (Below.heap_setCell _ _ _ _ hGP)
    case rest =>
      obtain ⟨G, d4, hPc, hGP, hG1, hd1, hd2, hGc, hchc⟩ := hcut
      have hG2 : Pl wc.drew G [.string nm] [.int .i64 4, .slice none 0 0, .slice none 0 0] 57 := pl_move hGc rfl
      have ⟨k0, k1, k2⟩ := pl_cells hPc
      have h1c : Chs (fun k => k = P) w1 wc := (Chs.of_below h12).trans hchc
      have hPl := pl_lt hP
      have hBc := (h1c.block w.heap.size (by omega) (by omega)).trans hX1
      have ⟨y0, y1, y2⟩ := cells3 hBc
      have hs12 := h12.size
      have h0c : Chs (fun k => k = P) w wc.drew := ((Chs.of_below hb1).trans h1c).trans (Chs.of_below (below_dr _))
      have hxc : NdAt (fun k => Sx k ∧ k < w.heap.size) wc.drew x [.int .i64 x.kind, .slice A x.bytes.length c, .slice B x.kids.length c2] := hx.bound.chs h0c (fun k hk _ e => hSx k hk.1 e)
      have hrb : Rd wc.drew (fun k => Sn k ∧ k < w.heap.size) (some ad) ((nm :: r).map Value.string) := hr.bound.keep (h0c.stays (fun k hk _ e => hSn k hk.1 e))
      unfold maxLen at hd2
      have hFch : ∀ w6, Chs (fun k => k = G) wc.drew w6 → Chs (fun k => k = P) w w6 := fun w6 h => (((h0c.mono (T' := fun k => k = P ∨ w.heap.size ≤ k) (fun _ _ e => .inl e))).trans (h.mono (fun k _ e => .inr (by have : k = G := e; omega)))).mono (fun k hk e => by rcases e with e | e; exact e; omega)
      have hFnd : ∀ w6, Chs (fun k => k = G) wc.drew w6 → ∀ e0 e1 e2, Pl w6 G [.string nm] [e0, e1, e2] 57 → NdAt (fun k => k ≠ G ∧ ((Sx k ∧ k < w.heap.size) ∨ wc.drew.heap.size ≤ k)) w6 (chainT r x) [e0, e1, e2] → NdAt (fun k => k ≠ P ∧ (Sx k ∨ w.heap.size ≤ k)) w6 (chainT (nm :: r) x) [.int .i64 4, .slice none 0 0, .slice (some ⟨G, 0, none⟩) 1 d4] := by
        intro w6 h e0 e1 e2 hp hn
        have hcs := h0c.size
        rw [chainT]
        unfold NdAt
        refine ⟨_, _, _, [.string nm, e0, e1, e2], rfl, BsAt.nil _ _, hd1, hd2, fun _ => ⟨_, rfl, ⟨hGP, .inr (show w.heap.size ≤ G by omega)⟩, fun j u hu => ?_⟩, ?_⟩
        · obtain ⟨r', hp⟩ := hp
          rw [WideShapes.add_plain, Nat.zero_add, blk_cell' hp, ← hu]
          have hj : j < 4 := by
            have := (List.getElem?_eq_some_iff.1 hu).1
            simpa using this
          simp only [List.getElem?_toArray]
          rw [show [Value.string nm] ++ ([e0, e1, e2] ++ r') = [Value.string nm, e0, e1, e2] ++ r' from rfl, List.getElem?_append_left (by simpa using hj)]
        · unfold KsAt
          refine ⟨[e0, e1, e2], [], by simp, NdAt.mono (fun k hk => ?_) _ _ hn, by unfold KsAt; rfl⟩
          rcases hk.2 with h | h
          · exact ⟨hSx k h.1, .inl h.1⟩
          · exact ⟨by omega, .inr (by omega)⟩
      go_wp2_with fail
      by_cases hlc1 : lc = 1
      · subst hlc1
        have hr0 : r = [] := by
          rw [← List.length_eq_zero_iff]
          omega
        subst hr0
        refine wp_region_held_drew (S := fun w' => w'.cell? ⟨P, l.length + 2, none⟩ = some (Value.slice (some ⟨G, 0, none⟩) 1 d4) ∧ w'.cell? ⟨w.heap.size, 0, none⟩ = some (Value.int .i64 x.kind) ∧ w'.cell? ⟨w.heap.size, 1, none⟩ = some (Value.slice A x.bytes.length c) ∧ w'.cell? ⟨w.heap.size, 2, none⟩ = some (Value.slice B x.kids.length c2)) (by kernel_rfl) ?_ (fun hHeld => ?_)
        · (try dsimp only); exact ⟨k2, y0, y1, y2⟩
        refine takeT 0 47 (v := ?_) rfl rfl (by kernel_rfl) (by kernel_rfl) (by kernel_rfl) (fun _ _ _ h => h) hHeld (by rfl) ?_ ?_
        rotate_left
        · intro w hSw; (try dsimp only at hSw); have hSa := hSw.1; have hSb := hSw.2.1; have hSc := hSw.2.2.1; have hSd := hSw.2.2.2; clear hSw; go_simp; (try with_reducible rfl)
        simp only [List.set_cons_zero, List.set_cons_succ]
        refine takeT 1 48 (v := ?_) rfl rfl (by kernel_rfl) (by kernel_rfl) (by kernel_rfl) (fun _ _ _ h => h) hHeld (by rfl) ?_ ?_
        rotate_left
        · intro w hSw; (try dsimp only at hSw); have hSa := hSw.1; have hSb := hSw.2.1; have hSc := hSw.2.2.1; have hSd := hSw.2.2.2; clear hSw; go_simp; (try with_reducible rfl)
        simp only [List.set_cons_zero, List.set_cons_succ]
        refine takeT 2 49 (v := ?_) rfl rfl (by kernel_rfl) (by kernel_rfl) (by kernel_rfl) (fun _ _ _ h => h) hHeld (by rfl) ?_ ?_
        rotate_left
        · intro w hSw; (try dsimp only at hSw); have hSa := hSw.1; have hSb := hSw.2.1; have hSc := hSw.2.2.1; have hSd := hSw.2.2.2; clear hSw; go_simp; (try with_reducible rfl)
        simp only [List.set_cons_zero, List.set_cons_succ]
        refine takeT 3 50 (v := ?_) rfl rfl (by kernel_rfl) (by kernel_rfl) (by kernel_rfl) (fun _ _ _ h => h) hHeld (by rfl) ?_ ?_
        rotate_left
        · intro w hSw; (try dsimp only at hSw); have hSa := hSw.1; have hSb := hSw.2.1; have hSc := hSw.2.2.1; have hSd := hSw.2.2.2; clear hSw; go_simp; (try with_reducible rfl)
        simp only [List.set_cons_zero, List.set_cons_succ]
        refine takeT 4 51 (v := ?_) rfl rfl (by kernel_rfl) (by kernel_rfl) (by kernel_rfl) (fun _ _ _ h => h) hHeld (by rfl) ?_ ?_
        rotate_left
        · intro w hSw; (try dsimp only at hSw); have hSa := hSw.1; have hSb := hSw.2.1; have hSc := hSw.2.2.1; have hSd := hSw.2.2.2; clear hSw; go_simp; (try with_reducible rfl)
        simp only [List.set_cons_zero, List.set_cons_succ]
        refine takeT 5 52 (v := ?_) rfl rfl (by kernel_rfl) (by kernel_rfl) (by kernel_rfl) (fun _ _ _ h => h) hHeld (by rfl) ?_ ?_
        rotate_left
        · intro w hSw; (try dsimp only at hSw); have hSa := hSw.1; have hSb := hSw.2.1; have hSc := hSw.2.2.1; have hSd := hSw.2.2.2; clear hSw; go_simp; (try with_reducible rfl)
        simp only [List.set_cons_zero, List.set_cons_succ]
        refine takeT 6 53 (v := ?_) rfl rfl (by kernel_rfl) (by kernel_rfl) (by kernel_rfl) (fun _ _ _ h => h) hHeld (by rfl) ?_ ?_
        rotate_left
        · intro w hSw; (try dsimp only at hSw); have hSa := hSw.1; have hSb := hSw.2.1; have hSc := hSw.2.2.1; have hSd := hSw.2.2.2; clear hSw; go_simp; (try with_reducible rfl)
        simp only [List.set_cons_zero, List.set_cons_succ]
        refine takeT 7 54 (v := ?_) rfl rfl (by kernel_rfl) (by kernel_rfl) (by kernel_rfl) (fun _ _ _ h => h) hHeld (by rfl) ?_ ?_
        rotate_left
        · intro w hSw; (try dsimp only at hSw); have hSa := hSw.1; have hSb := hSw.2.1; have hSc := hSw.2.2.1; have hSd := hSw.2.2.2; clear hSw; go_simp; (try with_reducible rfl)
        simp only [List.set_cons_zero, List.set_cons_succ]
        refine takeT 8 55 (v := ?_) rfl rfl (by kernel_rfl) (by kernel_rfl) (by kernel_rfl) (fun _ _ _ h => h) hHeld (by rfl) ?_ ?_
        rotate_left
        · intro w hSw; (try dsimp only at hSw); have hSa := hSw.1; have hSb := hSw.2.1; have hSc := hSw.2.2.1; have hSd := hSw.2.2.2; clear hSw; go_simp; (try with_reducible rfl)
        simp only [List.set_cons_zero, List.set_cons_succ]
        refine takeT 9 56 (v := ?_) rfl rfl (by kernel_rfl) (by kernel_rfl) (by kernel_rfl) (fun _ _ _ h => h) hHeld (by rfl) ?_ ?_
        rotate_left
        · intro w hSw; (try dsimp only at hSw); have hSa := hSw.1; have hSb := hSw.2.1; have hSc := hSw.2.2.1; have hSd := hSw.2.2.2; clear hSw; go_simp; (try with_reducible rfl)
        simp only [List.set_cons_zero, List.set_cons_succ]
        refine takeC 10 rfl (by kernel_rfl) (by rfl) (fun K hK => ?_)
        go_simp
        have hrec := ih [.string nm] G wc.drew 57 (some ad) (1 - 1) x [.int .i64 x.kind, .slice A x.bytes.length c, .slice B x.kids.length c2] (fun k => Sn k ∧ k < w.heap.size) (fun k => Sx k ∧ k < w.heap.size) hG2 (Rd.nil _ _ _) (fun k hk => by have := hk.2; omega) (by omega) (by simp) hxc (fun k hk => by have := hk.2; omega)
        simp only [List.length_cons, List.length_nil, Nat.zero_add, Nat.sub_self] at hrec
        refine hrec.mono ?_
        rintro e w6 ⟨rfl, hch6, c0, c1, c3, hp6, hn6⟩
        have HFC := Lib.hid hFch
        have HFN := Lib.hid hFnd
        clear ih hFch hFnd hrec
        go_wp2_with fail
        have hP6 := pl_move hPc ((hch6.block P (pl_lt hPc) (Ne.symm hGP)).trans rfl)
        have ⟨j0, j1, j2⟩ := pl_cells hP6
        have hB6 := (hch6.block w.heap.size (by have := hchc.size; have := h12.size; simp; omega) (by omega)).trans hBc
        have ⟨z0, z1, z2⟩ := cells3 hB6
        refine hK.out _ _ ?_ (fun hHeld => ?_)
        · (try dsimp only); exact ⟨j2, z0, z1, z2⟩
        clear hK
        refine takeT 11 6 (v := ?_) rfl rfl (by kernel_rfl) (by kernel_rfl) (by kernel_rfl) (fun _ _ _ h => h) hHeld (by rfl) ?_ ?_
        rotate_left
        · intro w hSw; (try dsimp only at hSw); have hSa := hSw.1; have hSb := hSw.2.1; have hSc := hSw.2.2.1; have hSd := hSw.2.2.2; clear hSw; go_simp; (try with_reducible rfl)
        simp only [List.set_cons_zero, List.set_cons_succ]
        refine wpAnyH_done (by kernel_rfl) ?_ _
        go_wp2_with fail
        go_ret
        have q1 := HFC.out _ hch6
        have q2 := HFN.out _ hch6 _ _ _ hp6 hn6
        refine ⟨?_, q1, ?_⟩
        · rfl
        · refine ⟨_, _, _, hP6, ?_⟩
          exact q2
      · have hrd : Rd wc.drew (fun k => Sn k ∧ k < w.heap.size) (some ⟨ad.block, ad.off + 1, none⟩) (r.map Value.string) := by
          have := hrb.drop (n := r.length + 1) (k := 1) (cap := lc) (size := 1) (by simp) (by omega)
          rw [if_neg hlc1] at this
          have e1 : ad.add 1 = ⟨ad.block, ad.off + 1, none⟩ := by
            have := add_field' ad 0 1 (by omega)
            rw [add_zero] at this
            exact this
          rw [← e1]
          exact this
        have hle : (1 : Int) ≤ (r.length : Int) + 1 := by omega
        refine wp_region_held_drew (S := fun w' => w'.cell? ⟨P, l.length + 2, none⟩ = some (Value.slice (some ⟨G, 0, none⟩) 1 d4) ∧ w'.cell? ⟨w.heap.size, 0, none⟩ = some (Value.int .i64 x.kind) ∧ w'.cell? ⟨w.heap.size, 1, none⟩ = some (Value.slice A x.bytes.length c) ∧ w'.cell? ⟨w.heap.size, 2, none⟩ = some (Value.slice B x.kids.length c2)) (by kernel_rfl) ?_ (fun hHeld => ?_)
        · (try dsimp only); exact ⟨k2, y0, y1, y2⟩
        refine takeT 0 47 (v := ?_) rfl rfl (by kernel_rfl) (by kernel_rfl) (by kernel_rfl) (fun _ _ _ h => h) hHeld (by rfl) ?_ ?_
        rotate_left
        · intro w hSw; (try dsimp only at hSw); have hSa := hSw.1; have hSb := hSw.2.1; have hSc := hSw.2.2.1; have hSd := hSw.2.2.2; clear hSw; go_simp; (try with_reducible rfl)
        simp only [List.set_cons_zero, List.set_cons_succ]
        refine takeT 1 48 (v := ?_) rfl rfl (by kernel_rfl) (by kernel_rfl) (by kernel_rfl) (fun _ _ _ h => h) hHeld (by rfl) ?_ ?_
        rotate_left
        · intro w hSw; (try dsimp only at hSw); have hSa := hSw.1; have hSb := hSw.2.1; have hSc := hSw.2.2.1; have hSd := hSw.2.2.2; clear hSw; go_simp; (try with_reducible rfl)
        simp only [List.set_cons_zero, List.set_cons_succ]
        refine takeT 2 49 (v := ?_) rfl rfl (by kernel_rfl) (by kernel_rfl) (by kernel_rfl) (fun _ _ _ h => h) hHeld (by rfl) ?_ ?_
        rotate_left
        · intro w hSw; (try dsimp only at hSw); have hSa := hSw.1; have hSb := hSw.2.1; have hSc := hSw.2.2.1; have hSd := hSw.2.2.2; clear hSw; go_simp; (try with_reducible rfl)
        simp only [List.set_cons_zero, List.set_cons_succ]
        refine takeT 3 50 (v := ?_) rfl rfl (by kernel_rfl) (by kernel_rfl) (by kernel_rfl) (fun _ _ _ h => h) hHeld (by rfl) ?_ ?_
        rotate_left
        · intro w hSw; (try dsimp only at hSw); have hSa := hSw.1; have hSb := hSw.2.1; have hSc := hSw.2.2.1; have hSd := hSw.2.2.2; clear hSw; go_simp; (try with_reducible rfl)
        simp only [List.set_cons_zero, List.set_cons_succ]
        refine takeT 4 51 (v := ?_) rfl rfl (by kernel_rfl) (by kernel_rfl) (by kernel_rfl) (fun _ _ _ h => h) hHeld (by rfl) ?_ ?_
        rotate_left
        · intro w hSw; (try dsimp only at hSw); have hSa := hSw.1; have hSb := hSw.2.1; have hSc := hSw.2.2.1; have hSd := hSw.2.2.2; clear hSw; go_simp; (try with_reducible rfl)
        simp only [List.set_cons_zero, List.set_cons_succ]
        refine takeT 5 52 (v := ?_) rfl rfl (by kernel_rfl) (by kernel_rfl) (by kernel_rfl) (fun _ _ _ h => h) hHeld (by rfl) ?_ ?_
        rotate_left
        · intro w hSw; (try dsimp only at hSw); have hSa := hSw.1; have hSb := hSw.2.1; have hSc := hSw.2.2.1; have hSd := hSw.2.2.2; clear hSw; go_simp; (try with_reducible rfl)
        simp only [List.set_cons_zero, List.set_cons_succ]
        refine takeT 6 53 (v := ?_) rfl rfl (by kernel_rfl) (by kernel_rfl) (by kernel_rfl) (fun _ _ _ h => h) hHeld (by rfl) ?_ ?_
        rotate_left
        · intro w hSw; (try dsimp only at hSw); have hSa := hSw.1; have hSb := hSw.2.1; have hSc := hSw.2.2.1; have hSd := hSw.2.2.2; clear hSw; go_simp; (try with_reducible rfl)
        simp only [List.set_cons_zero, List.set_cons_succ]
        refine takeT 7 54 (v := ?_) rfl rfl (by kernel_rfl) (by kernel_rfl) (by kernel_rfl) (fun _ _ _ h => h) hHeld (by rfl) ?_ ?_
        rotate_left
        · intro w hSw; (try dsimp only at hSw); have hSa := hSw.1; have hSb := hSw.2.1; have hSc := hSw.2.2.1; have hSd := hSw.2.2.2; clear hSw; go_simp; (try with_reducible rfl)
        simp only [List.set_cons_zero, List.set_cons_succ]
        refine takeT 8 55 (v := ?_) rfl rfl (by kernel_rfl) (by kernel_rfl) (by kernel_rfl) (fun _ _ _ h => h) hHeld (by rfl) ?_ ?_
        rotate_left
        · intro w hSw; (try dsimp only at hSw); have hSa := hSw.1; have hSb := hSw.2.1; have hSc := hSw.2.2.1; have hSd := hSw.2.2.2; clear hSw; go_simp; (try with_reducible rfl)
        simp only [List.set_cons_zero, List.set_cons_succ]
        refine takeT 9 56 (v := ?_) rfl rfl (by kernel_rfl) (by kernel_rfl) (by kernel_rfl) (fun _ _ _ h => h) hHeld (by rfl) ?_ ?_
        rotate_left
        · intro w hSw; (try dsimp only at hSw); have hSa := hSw.1; have hSb := hSw.2.1; have hSc := hSw.2.2.1; have hSd := hSw.2.2.2; clear hSw; go_simp; (try with_reducible rfl)
        simp only [List.set_cons_zero, List.set_cons_succ]
        refine takeC 10 rfl (by kernel_rfl) (by rfl) (fun K hK => ?_)
        go_simp
        have hrec := ih [.string nm] G wc.drew 57 (some ⟨ad.block, ad.off + 1, none⟩) (lc - 1) x [.int .i64 x.kind, .slice A x.bytes.length c, .slice B x.kids.length c2] (fun k => Sn k ∧ k < w.heap.size) (fun k => Sx k ∧ k < w.heap.size) hG2 hrd (fun k hk => by have := hk.2; omega) (by omega) (by simp) hxc (fun k hk => by have := hk.2; omega)
        simp only [List.length_cons, List.length_nil, Nat.zero_add] at hrec
        refine hrec.mono ?_
        rintro e w6 ⟨rfl, hch6, c0, c1, c3, hp6, hn6⟩
        have HFC := Lib.hid hFch
        have HFN := Lib.hid hFnd
        clear ih hFch hFnd hrec
        go_wp2_with fail
        have hP6 := pl_move hPc ((hch6.block P (pl_lt hPc) (Ne.symm hGP)).trans rfl)
        have ⟨j0, j1, j2⟩ := pl_cells hP6
        have hB6 := (hch6.block w.heap.size (by have := hchc.size; have := h12.size; simp; omega) (by omega)).trans hBc
        have ⟨z0, z1, z2⟩ := cells3 hB6
        refine hK.out _ _ ?_ (fun hHeld => ?_)
        · (try dsimp only); exact ⟨j2, z0, z1, z2⟩
        clear hK
        refine takeT 11 6 (v := ?_) rfl rfl (by kernel_rfl) (by kernel_rfl) (by kernel_rfl) (fun _ _ _ h => h) hHeld (by rfl) ?_ ?_
        rotate_left
        · intro w hSw; (try dsimp only at hSw); have hSa := hSw.1; have hSb := hSw.2.1; have hSc := hSw.2.2.1; have hSd := hSw.2.2.2; clear hSw; go_simp; (try with_reducible rfl)
        simp only [List.set_cons_zero, List.set_cons_succ]
        refine wpAnyH_done (by kernel_rfl) ?_ _
        go_wp2_with fail
        go_ret
        have q1 := HFC.out _ hch6
        have q2 := HFN.out _ hch6 _ _ _ hp6 hn6
        refine ⟨?_, q1, ?_⟩
        · rfl
        · refine ⟨_, _, _, hP6, ?_⟩
          exact q2
end Pk
end Go.Proofs.YtgfgdlnlafngnaaDoor
