/- Walks: a tree that is opened. -/
import Derived.Test.YtgfgdlnlafngnaaDoorWf
namespace Go.Proofs.YtgfgdlnlafngnaaDoor
namespace Pk
open Go.RowKit

theorem info_kid : (Tryd.prog.info? 57).map (fun i => (i.zero, i.size, i.bytes)) = some (some (.agg #[.string ⟨#[]⟩, .int .i64 0, .slice none 0 0, .slice none 0 0]), 4, 72) := by kernel_rfl

/-- An opener in block h, over the cursor in block g: how many nodes it may have still. -/
def Opn (w : World) (h g : Nat) (left : Int) : Prop := w.heap[h]? = some (.cells #[.pointer (some ⟨g, 0, none⟩), .int .i64 left] 63 (0, 0)) ∧ g < h
theorem Opn.lt {w : World} {h g : Nat} {left : Int} (o : Opn w h g left) : h < w.heap.size := (Array.getElem?_eq_some_iff.1 o.1).1
theorem Opn.keep {w w' : World} {h g : Nat} {left : Int} (o : Opn w h g left) (hk : w'.heap[h]? = w.heap[h]?) : Opn w' h g left := ⟨by rw [hk]; exact o.1, o.2⟩
theorem Ch.chs {g : Nat} {T : Nat → Prop} {w w' : World} (h : Ch g w w') (hT : T g) : Chs T w w' := Chs.of_grown h (fun k e => by injection e with e; subst e; exact hT)

theorem Ch.blk {g n : Nat} {w w' : World} {o : Obj} (h : Ch g w w') (hb : w.heap[n]? = some o) (hne : n ≠ g) : w'.heap[n]? = some o :=
  (World.grownBy.block h n (Array.getElem?_eq_some_iff.1 hb).1 (by simpa using hne)).trans hb
theorem blk_far' {w : World} {n : Nat} {o : Obj} (hb : w.heap[n]? = some o) {p : Addr} (hne : n ≠ p.block) (v : Value) : (w.setCell p v).heap[n]? = some o := (Below.heap_setCell w p v n hne).trans hb
theorem blk_new' {w : World} {n : Nat} {o : Obj} (hb : w.heap[n]? = some o) (o' : Obj) : (w.alloc o').heap[n]? = some o := (Below.heap_alloc w o' n (Array.getElem?_eq_some_iff.1 hb).1).trans hb
theorem Opn.ch {w w' : World} {h g : Nat} {left : Int} (o : Opn w h g left) (hc : Ch g w w') : Opn w' h g left := ⟨hc.blk o.1 (by have := o.2; omega), o.2⟩
/-- The cells of a node that has just been laid. -/
abbrev node0 : Array Value := #[.int .i64 0, .slice none 0 0, .slice none 0 0]
/-- How opener.node begins: a node less, a node of its own. -/
theorem opn_start {w : World} {h g left : Nat} {st : St} (ho : Opn w h g (left + 1 : Nat)) (hc : CurAt w g st) (W : World) (hW : W = (w.setCell ⟨h, 1, none⟩ (.int .i64 left)).alloc (.cells node0 28)) :
    W.heap.size = w.heap.size + 1 ∧ CurAt W g st ∧ W.heap[w.heap.size]? = some (.cells node0 28 (0, 0)) ∧ Opn W h g left ∧ Chs (fun k => k = g ∨ k = h) w W ∧ w.heap.size ≠ g ∧ w.heap.size ≠ h := by
  have h1 := hc.lt
  have h2 := ho.2
  have h3 := ho.lt
  subst hW
  refine ⟨by simp, ?_, ?_, ?_, ?_, by omega, by omega⟩
  · exact (hc.keep (w' := w.setCell ⟨h, 1, none⟩ (.int .i64 left)) (fun k hk => Below.heap_setCell w _ _ k (by simp; omega))).below (below_new _ _)
  · have := heap_alloc_new (w.setCell ⟨h, 1, none⟩ (.int .i64 left)) (Obj.cells node0 28)
    simpa using this
  · have := blk_set' ho.1 1 (.int .i64 left)
    exact ⟨blk_new' this _, h2⟩
  · exact (Chs.set w ⟨h, 1, none⟩ _ (.inr rfl)).trans (Chs.of_below (below_new _ _))
theorem CurAt.chs {w w' : World} {g : Nat} {st : St} (h : CurAt w g st) {T : Nat → Prop} (hc : Chs T w w') (hT : ∀ k, k ≤ g → ¬ T k) : CurAt w' g st :=
  h.keep fun k hk => hc.block k (by have := h.lt; omega) (hT k hk)
theorem Opn.chs {w w' : World} {h g : Nat} {left : Int} (o : Opn w h g left) {T : Nat → Prop} (hc : Chs T w w') (hT : ¬ T h) : Opn w' h g left := o.keep (hc.block h o.lt hT)
theorem NdAt.chs {S T : Nat → Prop} {w w' : World} {t : Nd} {cs : List Value} (h : NdAt S w t cs) (hc : Chs T w w') (hT : ∀ k, S k → k < w.heap.size → ¬ T k) : NdAt S w' t cs := NdAt.keep (hc.stays hT) t cs h
/-- What opener.node comes to. -/
def NodeRes (x : Option (Nd × Nat × St)) (g h : Nat) (w : World) (e : Ending) (w' : World) : Prop :=
  Chs (fun k => k = g ∨ k = h) w w' ∧ match x with
  | none => ∃ k A n c B m d, e = .returned (.tuple #[.agg #[.int .i64 k, .slice A n c, .slice B m d], .bool false])
  | some (t, left', st') => ∃ c0 c1 c2, e = .returned (.tuple #[.agg #[c0, c1, c2], .bool true]) ∧ NdAt (fun k => w.heap.size ≤ k) w' t [c0, c1, c2] ∧ Opn w' h g left' ∧ CurAt w' g st'

def NodeOk (f : Nat) : Prop := ∀ (deep g h left : Nat) (st : St) (w : World), deep + f = 9 → Opn w h g left → CurAt w g st → left ≤ 200 →
  Calls Tryd.prog 44 #[.pointer (some ⟨h, 0, none⟩), .int .i64 deep] w fun e w' => NodeRes (pNode f left st) g h w e w'

set_option maxRecDepth 100000 in
set_option maxHeartbeats 1000000 in
theorem node_fail (deep g h left : Nat) (w : World) (ho : Opn w h g left) (hl : left ≤ 200) (hd : left = 0 ∨ 8 < deep) :
    Calls Tryd.prog 44 #[.pointer (some ⟨h, 0, none⟩), .int .i64 deep] w fun e w' => NodeRes none g h w e w' := by
  have hlt := ho.lt
  have c1 : w.cell? ⟨h, 1, none⟩ = some (.int .i64 left) := by rw [blk_cell' ho.1]; rfl
  have f1 := blk_frozen' ho.1 1
  clear ho
  rcases hd with rfl | hd
  all_goals
    go_enter Tryd.func44, Tryd.ntmps44
    go_wp2
    all_goals
      refine bodyPost_ret (v := .tuple #[.agg #[.int .i64 0, .slice none 0 0, .slice none 0 0], .bool false]) (by simp [results, Tryd.results44, go_sem]) rfl ⟨?_, _, _, _, _, _, _, _, rfl⟩
      exact (Chs.set w ⟨h, 1, none⟩ _ (.inr rfl)).trans (Chs.of_below (below_new _ _))

set_option maxRecDepth 100000 in
set_option maxHeartbeats 2000000 in
theorem node_file {f : Nat} (deep g h left : Nat) (st : St) (w : World) (hd : deep + (f + 1) = 9) (ho : Opn w h g (left + 1 : Nat)) (hc : CurAt w g st) (hl : left + 1 ≤ 200) (hk : (pNum 4 st).1 ≠ 4) :
    Calls Tryd.prog 44 #[.pointer (some ⟨h, 0, none⟩), .int .i64 deep] w fun e w' => NodeRes (pNode (f + 1) (left + 1) st) g h w e w' := by
  have hlt := ho.lt
  have hgh := ho.2
  have c0 : w.cell? ⟨h, 0, none⟩ = some (.pointer (some ⟨g, 0, none⟩)) := by rw [blk_cell' ho.1]; rfl
  have c1 : w.cell? ⟨h, 1, none⟩ = some (.int .i64 (left + 1 : Nat)) := by rw [blk_cell' ho.1]; rfl
  have f1 := blk_frozen' ho.1 1
  have HO := Lib.hid ho
  have hd8 : deep ≤ 8 := by omega
  clear ho hd
  go_enter Tryd.func44, Tryd.ntmps44
  go_wp2_with fail
  obtain ⟨hsz, hcW, hnW, hoW, hchW, hgn, hhn⟩ := opn_start HO.out hc _ rfl
  generalize (w.setCell ⟨h, 1, none⟩ (.int .i64 left)).alloc (Obj.cells node0 28) = W at *
  refine (num_any 4 _ hcW (by omega)).mono ?_
  rintro e w1 ⟨rfl, hc1, hch1⟩
  have hn1 := hch1.blk hnW hgn
  have ho1 := hoW.ch hch1
  have n0 : w1.cell? ⟨w.heap.size, 0, none⟩ = some (.int .i64 0) := by rw [blk_cell' hn1]; rfl
  have nf := blk_frozen' hn1 0
  have hkb : (((pNum 4 st).1 : Int) != 4) = true := by simp; omega
  have d0 : w1.cell? ⟨h, 0, none⟩ = some (.pointer (some ⟨g, 0, none⟩)) := by rw [blk_cell' ho1.1]; rfl
  go_wp2_with fail
  have hc2 : CurAt (w1.setCell ⟨w.heap.size, 0, none⟩ (.int .i64 (pNum 4 st).1)) g (pNum 4 st).2 := hc1.keep fun k hk => Below.heap_setCell w1 _ _ k (by simp; have := hc.lt; omega)
  have hn2 := blk_set' hn1 0 (.int .i64 (pNum 4 st).1)
  have ho2 : Opn (w1.setCell ⟨w.heap.size, 0, none⟩ (.int .i64 (pNum 4 st).1)) h g left := ho1.keep (Below.heap_setCell w1 _ _ h (by simp; omega))
  have hch2 : Chs (fun k => k = g ∨ k = h ∨ k = w.heap.size) w1 (w1.setCell ⟨w.heap.size, 0, none⟩ (.int .i64 (pNum 4 st).1)) := Chs.set w1 _ _ (by simp)
  generalize w1.setCell ⟨w.heap.size, 0, none⟩ (.int .i64 (pNum 4 st).1) = w2 at *
  refine (text_any 2048 _ hc2 (by omega)).mono ?_
  rintro e w3 ⟨⟨v, rfl, hv⟩, hc3, hch3⟩
  have hn3 := hch3.blk hn2 hgn
  have ho3 := ho2.ch hch3
  simp only [List.setIfInBounds_toArray, List.set_cons_zero] at hn3
  have n0' : w3.cell? ⟨w.heap.size, 0, none⟩ = some (.int .i64 (pNum 4 st).1) := by rw [blk_cell' hn3]; rfl
  have n1' : w3.cell? ⟨w.heap.size, 1, none⟩ = some (.slice none 0 0) := by rw [blk_cell' hn3]; rfl
  have n2' : w3.cell? ⟨w.heap.size, 2, none⟩ = some (.slice none 0 0) := by rw [blk_cell' hn3]; rfl
  have m0 := blk_frozen' hn3 0
  have m1 := blk_frozen' hn3 1
  have m2 := blk_frozen' hn3 2
  obtain ⟨A, c, rfl, hv1, hv2, hv3⟩ := hv
  go_wp2
  have hnf := blk_set' (blk_set' (blk_set' (blk_set' hn3 1 (.slice A (pText 2048 (pNum 4 st).2).1.length c)) 0 (.int .i64 (pNum 4 st).1)) 1 (.slice A (pText 2048 (pNum 4 st).2).1.length c)) 2 (.slice none 0 0)
  have hfin := (((Chs.set (T := fun k => k = w.heap.size) w3 ⟨w.heap.size, 1, none⟩ (.slice A (pText 2048 (pNum 4 st).2).1.length c) rfl).trans (Chs.set _ ⟨w.heap.size, 0, none⟩ (.int .i64 (pNum 4 st).1) rfl)).trans (Chs.set _ ⟨w.heap.size, 1, none⟩ (.slice A (pText 2048 (pNum 4 st).2).1.length c) rfl)).trans (Chs.set _ ⟨w.heap.size, 2, none⟩ (.slice none 0 0) rfl)
  generalize (((w3.setCell ⟨w.heap.size, 1, none⟩ (.slice A (pText 2048 (pNum 4 st).2).1.length c)).setCell ⟨w.heap.size, 0, none⟩ (.int .i64 (pNum 4 st).1)).setCell ⟨w.heap.size, 1, none⟩ (.slice A (pText 2048 (pNum 4 st).2).1.length c)).setCell ⟨w.heap.size, 2, none⟩ (.slice none 0 0) = w4 at *
  have y0 : w4.cell? ⟨w.heap.size, 0, none⟩ = some (.int .i64 (pNum 4 st).1) := by rw [blk_cell' hnf]; rfl
  have y1 : w4.cell? ⟨w.heap.size, 1, none⟩ = some (.slice A (pText 2048 (pNum 4 st).2).1.length c) := by rw [blk_cell' hnf]; rfl
  have y2 : w4.cell? ⟨w.heap.size, 2, none⟩ = some (.slice none 0 0) := by rw [blk_cell' hnf]; rfl
  refine bodyPost_ret (v := .tuple #[.agg #[.int .i64 (pNum 4 st).1, .slice A (pText 2048 (pNum 4 st).2).1.length c, .slice none 0 0], .bool true]) (by simp [results, Tryd.results44, go_sem, y0, y1, y2]) rfl ?_
  have hsz2 := hch1.size
  have hsz3 := hch2.size
  refine ⟨?_, ?_⟩
  · have hall := (((hchW.mono (T' := fun k => k = g ∨ k = h ∨ k = w.heap.size) (fun k _ hk => by omega)).trans (hch1.chs (by simp))).trans (hch2.trans (hch3.chs (by simp)))).trans (hfin.mono (T' := fun k => k = g ∨ k = h ∨ k = w.heap.size) (fun k _ hk => by omega))
    exact hall.mono (fun k hk1 hk2 => by omega)
  · rw [pNode, if_pos hk]
    refine ⟨_, _, _, rfl, ?_, ho3.chs hfin (by omega), hc3.chs hfin (fun k hk1 hk2 => by have := hc.lt; omega)⟩
    have hb : BsAt (fun k => w.heap.size ≤ k) w4 (.slice A (pText 2048 (pNum 4 st).2).1.length c) (pText 2048 (pNum 4 st).2).1 := by
      refine ⟨A, c, rfl, hv1, hv2, (hv3.keep (hfin.stays (fun k hk1 _ hk2 => by omega))).mono (fun k hk1 => by omega)⟩
    unfold NdAt
    exact ⟨_, none, 0, [], rfl, hb, by simp, by omega, Rd.nil _ _ _, by unfold KsAt; rfl⟩
end Pk
end Go.Proofs.YtgfgdlnlafngnaaDoor
