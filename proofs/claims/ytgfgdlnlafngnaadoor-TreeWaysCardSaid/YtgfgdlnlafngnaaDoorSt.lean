/- Walks: tree.step, which yields each node of a tree with its way. -/
import Derived.Test.YtgfgdlnlafngnaaDoorRange
import Derived.Test.YtgfgdlnlafngnaaDoorPath
import Derived.Test.YtgfgdlnlafngnaaDoorWn
import Derived.Test.YtgfgdlnlafngnaaDoorFi
namespace Go.Proofs.YtgfgdlnlafngnaaDoor
namespace Pk
open Go.RowKit Go.Shelf

theorem nextW_0 {way nm : ByteArray} (h : way.size = 0) : nextW way nm = nm := by
  unfold nextW
  rw [if_pos h]
theorem nextW_1 {way nm : ByteArray} (h : ¬ way.size = 0) : nextW way nm = way ++ ⟨#[47]⟩ ++ nm := by
  unfold nextW
  rw [if_neg h]
  rfl
theorem RoundIn.any {n n' : Nat} {P : Program} {l : Nat} {f : FuncId} {tmps : Array Value} {assign body : Code} {w : World} {R : Ending → World → Prop} (h : RoundIn Fence.wide n P l f tmps assign body w R) : RoundIn Fence.wide n' P l f tmps assign body w R :=
  ⟨h.1, fun c cs _ => h.2 c cs (room_wide _)⟩
/-- The blocks that a round may turn: the loop's own, the captured one, the row's. -/
abbrev Trn (l o : Nat) (R : Option Nat) (k : Nat) : Prop := k = l ∨ k = o ∨ R = some k
/-- What a round is asked for: J, of what has come so far, goes on. -/
structure YOk (l o : Nat) (J : Option Nat → List (ByteArray × Nd) → World → Prop) : Prop where
  below : ∀ R pre W W', J R pre W → Below W.heap.size W W' → J R pre W'
  old : ∀ R pre W, J R pre W → l < W.heap.size ∧ o < W.heap.size ∧ ∀ k, R = some k → k < W.heap.size
  round : ∀ R pre way t cs W S, J R pre W → NdAt S W t cs → allB t = true → pre.length ≤ 200 → YieldAt Fence.wide 0 Tryd.prog l #[.string way, .agg cs.toArray] W fun e W' => e = .returned (.bool true) ∧ ∃ R', J R' (pre ++ [(way, t)]) W' ∧ Chs (Trn l o R) W W' ∧ (R' = R ∨ ∃ k, R' = some k ∧ W.heap.size ≤ k)

/-- tree.step. -/
def StepOk (l o : Nat) (J : Option Nat → List (ByteArray × Nd) → World → Prop) (t : Nd) : Prop := ∀ (way : ByteArray) (pre : List (ByteArray × Nd)) (R : Option Nat) (W : World) (S : Nat → Prop) (cs : List Value) (n : Nat), J R pre W → NdAt S W t cs → (∀ k, S k → ¬ Trn l o R k) → allB t = true → pre.length + cnt t ≤ 200 → way.size + 25 * dep t ≤ 1000 →
  CallsIn Fence.wide n Tryd.prog 87 #[.string way, .agg cs.toArray, .func (.yield l) #[] #[]] W fun e W' => e = .returned (.bool true) ∧ ∃ R', J R' (pre ++ waysN way t) W' ∧ Chs (Trn l o R) W W' ∧ (R' = R ∨ ∃ k, R' = some k ∧ W.heap.size ≤ k)

/-- What holds at the head of a round of tree.step's loop. -/
structure StepInv (l o : Nat) (J : Option Nat → List (ByteArray × Nd) → World → Prop) (pre : List (ByteArray × Nd)) (R : Option Nat) (W : World) (wr : World) : Prop where
  out : ∃ R', J R' pre wr ∧ Chs (Trn l o R) W wr ∧ (R' = R ∨ ∃ k, R' = some k ∧ W.heap.size ≤ k)

set_option maxRecDepth 100000 in
set_option maxHeartbeats 2000000 in
theorem step_any {l o : Nat} {J : Option Nat → List (ByteArray × Nd) → World → Prop} (hJ : YOk l o J) : ∀ t, StepOk l o J t := by
  refine Nd.ind fun k b ks ih => ?_
  intro way pre R W S cs n hj hn hS hall hcnt hdep
  obtain ⟨A, c, B, c2, rfl⟩ := nd_form hn
  dsimp only [Nd.kind, Nd.bytes, Nd.kids] at hn ⊢
  have hn0 := hn.bound
  have hold := hJ.old _ _ _ hj
  refine callsIn_of_wp Tryd.func87 rfl trivial ?_ rfl
  simp only [Tryd.ntmps87, List.size_toArray, List.length_cons, List.length_nil, Nat.reduceAdd, Nat.reduceSub, Array.replicate_succ, Array.replicate_zero, List.push_toArray, List.append_toArray, List.nil_append, List.cons_append]
  have hb1 := below_new W (Obj.cells #[.int .i64 k, .slice A b.length c, .slice B ks.length c2] 28)
  obtain ⟨fn, tmps, assign, body, hy, hR⟩ := hJ.round R pre way (.mk k b ks) [.int .i64 k, .slice A b.length c, .slice B ks.length c2] (W.alloc (Obj.cells #[.int .i64 k, .slice A b.length c, .slice B ks.length c2] 28)) _ (hJ.below _ _ _ _ hj hb1) (hn.below hb1) hall (by omega)
  have hs1 : (W.alloc (Obj.cells #[.int .i64 k, .slice A b.length c, .slice B ks.length c2] 28)).heap.size = W.heap.size + 1 := by simp
  have hN1 := heap_alloc_new W (Obj.cells #[.int .i64 k, .slice A b.length c, .slice B ks.length c2] 28)
  gi_wp2
  refine ⟨fun h => (by cases h), (RoundIn.any hR).mono ?_⟩
  clear hy hR
  rintro e W2 ⟨rfl, R2, hj2, hch2, hR2⟩
  generalize W.alloc (Obj.cells #[.int .i64 k, .slice A b.length c, .slice B ks.length c2] 28) = W1 at *
  have hnt : ¬ Trn l o R W.heap.size := by
    rintro (h | h | h)
    · omega
    · omega
    · have := hold.2.2 _ h
      omega
  have hN2 := (hch2.block W.heap.size (by omega) hnt).trans hN1
  have hs2 := hch2.size
  have ⟨n0, n1, n2⟩ := cells3 hN2
  obtain ⟨hl200, hri, hkall⟩ := all_kids hall
  dsimp only [Nd.kids] at hl200 hri hkall
  have HRI := Lib.hid hri
  have HKA := Lib.hid hkall
  obtain ⟨cells, hrk, hks⟩ := nd_kids (hn0.below hb1)
  dsimp only [Nd.kids] at hks
  clear hri hkall
  gi_wp2
  gi_loopw [18] (fun i wr => ∃ j : Nat, j ≤ ks.length ∧ i = .int .i64 j ∧ StepInv l o J (pre ++ (way, Nd.mk k b ks) :: waysK way (ks.take j)) R W1 wr) (fun i _ => ks.length - (intOf i).toNat)
  case atStart => exact ⟨0, by omega, rfl, ⟨R2, by simpa [waysK] using hj2, hch2, hR2⟩⟩
  case round =>
    obtain ⟨j, hj', rfl, ⟨R', hjr, hchr, hRr⟩⟩ := hrel
    have hst : Stays (fun k => S k ∧ k < W.heap.size) W1 wr := hchr.stays (fun k hk _ => hS k hk.1)
    have hrs := hchr.size
    by_cases hlt : j < ks.length
    · obtain ⟨ad, A1, c1, B1, d1, rfl, _, x0, x1, x2, x3, hnj⟩ := kid_form (hrk.keep hst) (KsAt.keep hst _ _ hks) j hlt
      have hnm := rises_mem ks none HRI.out _ (List.getElem_mem hlt)
      have hnz := name_size hnm
      have hb2 := below_new wr (Obj.cells #[.string ks[j].1, .int .i64 ks[j].2.kind, .slice A1 ks[j].2.bytes.length c1, .slice B1 ks[j].2.kids.length d1] 57)
      have hS' : ∀ x, (S x ∧ x < W.heap.size) → ¬ Trn l o R' x := by
        rintro x ⟨hx1, hx2⟩ hx3
        rcases hRr with rfl | ⟨y, rfl, hy⟩
        · exact hS x hx1 hx3
        · rcases hx3 with h | h | h
          · exact hS x hx1 (.inl h)
          · exact hS x hx1 (.inr (.inl h))
          · injection h with h
            omega
      have hcl := cntK_le ks j hlt
      have hdl := depK_le ks j hlt
      have hcnt' : (pre ++ (way, Nd.mk k b ks) :: waysK way (ks.take j)).length + cnt ks[j].2 ≤ 200 := by
        simp only [List.length_append, List.length_cons, waysK_len]
        simp only [cnt] at hcnt
        omega
      have hnx : (nextW way ks[j].1).size + 25 * dep ks[j].2 ≤ 1000 := by
        have := nextW_size way ks[j].1
        simp only [dep] at hdep
        omega
      have hws : way.size + 1 + ks[j].1.size ≤ 9223372036854775807 := by omega
      have hsz2 : (wr.alloc (Obj.cells #[.string ks[j].1, .int .i64 ks[j].2.kind, .slice A1 ks[j].2.bytes.length c1, .slice B1 ks[j].2.kids.length d1] 57)).heap.size = wr.heap.size + 1 := by simp
      have hchall : ∀ (W6 : World), Chs (Trn l o R') (wr.alloc (Obj.cells #[.string ks[j].1, .int .i64 ks[j].2.kind, .slice A1 ks[j].2.bytes.length c1, .slice B1 ks[j].2.kids.length d1] 57)) W6 → Chs (Trn l o R) W1 W6 := fun W6 h =>
        (((hchr.mono (T' := fun x => Trn l o R x ∨ W1.heap.size ≤ x) (fun _ _ h => .inl h)).trans (Chs.of_below hb2)).trans (h.mono (fun x _ h => by
          rcases hRr with rfl | ⟨y, rfl, hy⟩
          · exact .inl h
          · rcases h with h | h | h
            · exact .inl (.inl h)
            · exact .inl (.inr (.inl h))
            · injection h with h
              exact .inr (by omega)))).mono (fun x hx h => by rcases h with h | h; exact h; omega)
      have hRall : ∀ R6 : Option Nat, (R6 = R' ∨ ∃ y, R6 = some y ∧ (wr.alloc (Obj.cells #[.string ks[j].1, .int .i64 ks[j].2.kind, .slice A1 ks[j].2.bytes.length c1, .slice B1 ks[j].2.kids.length d1] 57)).heap.size ≤ y) → R6 = R ∨ ∃ y, R6 = some y ∧ W1.heap.size ≤ y := by
        rintro R6 (rfl | ⟨y, rfl, hy⟩)
        · exact hRr
        · exact .inr ⟨y, rfl, by omega⟩
      have HX := Lib.hid hcnt'
      by_cases hw : way.size = 0
      · have he : way.toList.isEmpty = true := by
          rw [toList_data, List.isEmpty_iff, ← List.length_eq_zero_iff, size_data]
          exact hw
        have EN := Lib.hid (nextW_0 (nm := ks[j].1) hw)
        clear hw
        gi_wp2
        refine ⟨trivial, fun h => (by cases h), (ih ks[j] (List.getElem_mem hlt) ks[j].1 _ R' _ _ _ _ (hJ.below _ _ _ _ hjr hb2) (hnj.below hb2) hS' (HKA.out _ (List.getElem_mem hlt)) hcnt' (by have := hnx; rw [EN.out] at this; omega)).mono ?_⟩
        rintro e W6 ⟨rfl, R6, hj6, hch6, hR6⟩
        gi_wp2
        go_roundw
        · refine ⟨j + 1, by omega, by simp, ⟨R6, ?_, ?_, ?_⟩⟩
          · have := waysK_take way ks j hlt
            rw [EN.out] at this
            rw [this]
            simpa using hj6
          · exact hchall _ hch6
          · exact hRall _ hR6
        · simp [intOf]; omega
      · have he : way.toList.isEmpty = false := by
          rw [toList_data, List.isEmpty_eq_false_iff, ← List.length_pos_iff, size_data]
          omega
        have EN := Lib.hid (nextW_1 (nm := ks[j].1) hw)
        clear hw
        gi_wp2
        refine ⟨trivial, fun h => (by cases h), (ih ks[j] (List.getElem_mem hlt) _ _ R' _ _ _ _ (hJ.below _ _ _ _ hjr hb2) (hnj.below hb2) hS' (HKA.out _ (List.getElem_mem hlt)) hcnt' (by have := hnx; rw [EN.out] at this; omega)).mono ?_⟩
        rintro e W6 ⟨rfl, R6, hj6, hch6, hR6⟩
        gi_wp2
        go_roundw
        · refine ⟨j + 1, by omega, by simp, ⟨R6, ?_, ?_, ?_⟩⟩
          · have := waysK_take way ks j hlt
            rw [EN.out] at this
            rw [this]
            simpa using hj6
          · exact hchall _ hch6
          · exact hRall _ hR6
        · simp [intOf]; omega
    · gi_wp2
      go_ret
      have e1 : ks.take j = ks := List.take_of_length_le (by omega)
      rw [e1] at hjr
      refine ⟨rfl, R', by rw [waysN]; exact hjr, ((Chs.of_below hb1).trans (hchr.mono (fun _ _ h => h))), ?_⟩
      rcases hRr with rfl | ⟨y, rfl, hy⟩
      · exact .inl rfl
      · exact .inr ⟨y, rfl, by omega⟩
end Pk
end Go.Proofs.YtgfgdlnlafngnaaDoor
