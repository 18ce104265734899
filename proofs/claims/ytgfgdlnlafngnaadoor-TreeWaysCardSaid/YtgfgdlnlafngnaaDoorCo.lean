/- Walks: tree.Count, tree.Copy. -/
import Derived.Test.YtgfgdlnlafngnaaDoorYs
import Derived.Test.YtgfgdlnlafngnaaDoorNam
import Derived.RegionTactic
namespace Go.Proofs.YtgfgdlnlafngnaaDoor
namespace Pk
open Go.RowKit Go.Shelf

attribute [local go_sem] Oper.semAt_some
/-- A round whose assignment makes memory. -/
theorem round_new {P : Program} {m l D : Nat} {fn : FuncId} {tmps : Array Value} {ps : Array Tmp} {assign body : Code} {args : Array Value} {W W₁ : World} {R : Ending → World → Prop} {a₁ : Act}
    (hl : W.heap[l]? = some (recOf fn tmps ps assign body D .ready none)) (hl₁ : W₁.heap[l]? = some (recOf fn tmps ps assign body D .ready none)) (hsz : args.size = ps.size)
    (hassign : ∀ (K : Act → World → Prop), K a₁ W₁ → assign.wpIn (Fence.wide.inRound l) m P (Exit.then K (fun _ _ _ => False)) { tmps := (ps.zip args).foldl (fun t (p, v) => t.setIfInBounds p v) tmps, defers := [] } W)
    (hbody : body.wpIn (Fence.wide.inRound l) m P (roundPost P l R) a₁ (W₁.putObj l (recOf fn tmps ps assign body D .busy none))) : YieldAt Fence.wide m P l args W R := by
  have hy := run_yield (P := P) (args := args) hl hsz
  exact ⟨fn, _, assign, body, hy, roundIn_of_wpIn trivial (hassign _ ⟨_, run_beginRound hl₁ rfl, hbody⟩)⟩
/-- What holds between two rounds of tree.Count. -/
def CountJ (w V : World) (o : Nat) (rc : Obj) (R : Option Nat) (pre : List (ByteArray × Nd)) (W : World) : Prop :=
  W.heap[o]? = some (.cells #[.int .i64 (sumB pre)] 3 (0, 0)) ∧ (∀ x ∈ pre, x.2.bytes.length ≤ 2048) ∧ R = none ∧
    W.heap[V.heap.size + 1]? = some rc ∧ W.heap[V.heap.size]? = some (.deferred (some [])) ∧ Below w.heap.size w W

/-- How many nodes, how deep, how many bytes. -/
def pCount (t : Nd) : Nat × Nat × Nat := if rightB t then (cnt t, dep t, sumB (waysN (str []) t)) else (0, 0, 0)

set_option maxRecDepth 100000 in
set_option maxHeartbeats 1000000 in
theorem count_any {t : Nd} {S : Nat → Prop} {cs : List Value} (w : World) (hn : NdAt S w t cs) (hsz : Sz t) :
    Calls Tryd.prog 38 #[.agg cs.toArray] w fun e w' => Below w.heap.size w w' ∧ e = .returned (.tuple #[.int .i64 (pCount t).1, .int .i64 (pCount t).2.1, .int .i64 (pCount t).2.2]) := by
  obtain ⟨A, c, B, c2, rfl⟩ := nd_form hn
  have hn0 := hn.bound
  refine (callsIn_wide (n := 5)).1 ?_
  refine callsIn_of_wp_marks Tryd.func38 rfl trivial ?_ rfl
  simp only [Tryd.ntmps38, List.size_toArray, List.length_cons, List.length_nil, Nat.reduceAdd, Nat.reduceSub, Array.replicate_succ, Array.replicate_zero, List.push_toArray, List.append_toArray, List.nil_append, List.cons_append]
  gi_wp2
  have hb1 := below_new2 w (Obj.cells #[.int .i64 t.kind, .slice A t.bytes.length c, .slice B t.kids.length c2] 28) (Obj.cells #[.int .i64 0] 3)
  have hN1 := blk_new' (heap_alloc_new w (Obj.cells #[.int .i64 t.kind, .slice A t.bytes.length c, .slice B t.kids.length c2] 28)) (Obj.cells #[.int .i64 0] 3)
  have hO1 := alloc_at (w.alloc (Obj.cells #[.int .i64 t.kind, .slice A t.bytes.length c, .slice B t.kids.length c2] 28)) (Obj.cells #[.int .i64 0] 3) (n := w.heap.size + 1) (by simp)
  have hs1 : ((w.alloc (Obj.cells #[.int .i64 t.kind, .slice A t.bytes.length c, .slice B t.kids.length c2] 28)).alloc (Obj.cells #[.int .i64 0] 3)).heap.size = w.heap.size + 2 := by simp
  generalize (w.alloc (Obj.cells #[.int .i64 t.kind, .slice A t.bytes.length c, .slice B t.kids.length c2] 28)).alloc (Obj.cells #[.int .i64 0] 3) = w1 at *
  refine ⟨trivial, (callsIn_wide.2 (looked_any w1 (hn.below hb1) hsz)).mono ?_⟩
  rintro e w2 ⟨hb2, lk, rr, nn, DD, z, rfl, hz, hlk, hlk2⟩
  have hN2 := (hb2.block w.heap.size (by omega)).trans hN1
  have hO2 := (hb2.block (w.heap.size + 1) (by omega)).trans hO1
  have hs2 := hb2.size
  have h02 := hb1.via hb2
  have HLK2 := Lib.hid hlk2
  clear hlk2
  cases z with
  | false =>
    have HP : Hid (pCount t = (0, 0, 0)) := by
      show _ = _
      unfold pCount
      rw [← hz.out]
      rfl
    have m0 : w2.cell? ⟨w.heap.size + 1, 0, none⟩ = some (.int .i64 0) := by rw [blk_cell' hO2]; rfl
    have f0 := blk_frozen' hO2 0
    gi_wp2
    rw [set_same hO2 rfl]
    refine ⟨.tuple #[.int .i64 0, .int .i64 0, .int .i64 0], by simp [results, Tryd.results38, go_sem, m0], ?_⟩
    rw [HP.out]
    exact ⟨h02, rfl⟩
  | true =>
    have hright := Lib.hid hz.out.symm
    clear hz
    have ⟨n0, n1, n2⟩ := cells3 hN2
    gi_wp2
    refine ⟨trivial, (callsIn_wide.2 (walk_any w2 (hn.below h02))).mono ?_⟩
    rintro e w3 ⟨rfl, hw3⟩
    gi_wp2
    rw [← hw3]
    have hN3 : w3.heap[w2.heap.size]? = some (.cells #[.int .i64 t.kind, .slice A t.bytes.length c, .slice B t.kids.length c2] 28 (0, 0)) := by rw [hw3]; exact alloc_at w2 _ rfl
    have hb3 : Below w2.heap.size w2 w3 := by rw [hw3]; exact below_new _ _
    have hs3 : w2.heap.size + 1 ≤ w3.heap.size := by rw [hw3]; simp
    have hs3' : w3.heap.size ≤ w2.heap.size + 1 := by rw [hw3]; simp
    clear hw3
    have h03 := h02.via hb3
    have hO3 := (hb3.block (w.heap.size + 1) (by omega)).trans hO2
    have hn3 := hn0.below h03
    refine range_any (gf := 86) (lb := #[.pointer (some ⟨w2.heap.size, 0, none⟩)]) rfl (enters_of Tryd.func86 (by kernel_rfl) rfl) (fun fn => ?_)
    generalize hrc : recOf fn _ _ _ _ _ _ _ = rc
    obtain ⟨W1, hW1⟩ : ∃ W1, W1 = (w3.alloc (.deferred (some []))).alloc rc := ⟨_, rfl⟩
    rw [← hW1]
    have hb4 : Below w3.heap.size w3 W1 := by rw [hW1]; exact below_new2 w3 _ _
    have hs4 : w3.heap.size + 2 ≤ W1.heap.size := by rw [hW1]; simp
    have hl1 : W1.heap[w3.heap.size + 1]? = some rc := by
      rw [hW1]
      have := heap_alloc_new (w3.alloc (.deferred (some []))) rc
      rwa [show (w3.alloc (.deferred (some []))).heap.size = w3.heap.size + 1 from by simp] at this
    have hd1 : W1.heap[w3.heap.size]? = some (.deferred (some [])) := by
      rw [hW1]
      exact blk_new' (heap_alloc_new w3 _) _
    clear hW1
    have hY : YOk (w3.heap.size + 1) (w.heap.size + 1) (CountJ w w3 (w.heap.size + 1) rc) := by
      refine ⟨?_, ?_, ?_⟩
      · rintro R pre W W' ⟨h1, h2, h3, h4, h5, h6⟩ hb
        exact ⟨(hb.block _ (Array.getElem?_eq_some_iff.1 h1).1).trans h1, h2, h3, (hb.block _ (Array.getElem?_eq_some_iff.1 h4).1).trans h4, (hb.block _ (Array.getElem?_eq_some_iff.1 h5).1).trans h5, h6.via hb⟩
      · rintro R pre W ⟨h1, h2, rfl, h4, h5, h6⟩
        exact ⟨(Array.getElem?_eq_some_iff.1 h4).1, (Array.getElem?_eq_some_iff.1 h1).1, fun k hk => by cases hk⟩
      · rintro R pre way x cx W Sx ⟨h1, h2, rfl, h4, h5, h6⟩ hx hax hpl
        obtain ⟨A1, d1, B1, e1, rfl⟩ := nd_form hx
        have hxb : x.bytes.length ≤ 2048 := by
          obtain ⟨k, b, ks⟩ := x
          simp only [allB, Bool.and_eq_true] at hax
          by_cases hk4 : k = 4
          · subst hk4
            show b.length ≤ 2048
            rw [(alone4 hax.1).1]
            simp
          · exact (alone_not4 hax.1 hk4).2.2.1
        have hsum := sumB_le pre h2
        rw [← hrc] at h4
        have hll : w3.heap.size + 1 < W.heap.size := (Array.getElem?_eq_some_iff.1 h4).1
        have hol : w.heap.size + 1 < W.heap.size := by omega
        have hbN := below_new W (Obj.cells #[.int .i64 x.kind, .slice A1 x.bytes.length d1, .slice B1 x.kids.length e1] 28)
        have hl5 := (hbN.block _ hll).trans h4
        have hM5 := heap_alloc_new W (Obj.cells #[.int .i64 x.kind, .slice A1 x.bytes.length d1, .slice B1 x.kids.length e1] 28)
        have hO5 := (hbN.block _ hol).trans h1
        have hs5 : (W.alloc (Obj.cells #[.int .i64 x.kind, .slice A1 x.bytes.length d1, .slice B1 x.kids.length e1] 28)).heap.size = W.heap.size + 1 := by simp
        refine round_new (W₁ := W.alloc (Obj.cells #[.int .i64 x.kind, .slice A1 x.bytes.length d1, .slice B1 x.kids.length e1] 28)) (a₁ := { tmps := #[.agg #[.int .i64 t.kind, .slice A t.bytes.length c, .slice B t.kids.length c2], .pointer (some ⟨w.heap.size, 0, none⟩), .int .i64 0, .int .i64 0, .pointer (some ⟨w.heap.size + 1, 0, none⟩), .pointer (some ⟨lk, 0, none⟩), .bool true, undef, .pointer (some ⟨W.heap.size, 0, none⟩), .tuple #[.pointer (some ⟨lk, 0, none⟩), .bool true], .agg #[.int .i64 t.kind, .slice A t.bytes.length c, .slice B t.kids.length c2], .tuple #[.pointer (some ⟨lk, 0, none⟩), .bool true], .pointer (some ⟨lk, 0, none⟩), .bool true, .bool true, .bool false, .agg #[.int .i64 t.kind, .slice A t.bytes.length c, .slice B t.kids.length c2], .func (.func 86) #[] #[.pointer (some ⟨w2.heap.size, 0, none⟩)], .string way, .agg #[.int .i64 x.kind, .slice A1 x.bytes.length d1, .slice B1 x.kids.length e1], undef, undef, undef, undef, undef, undef, undef, undef, undef, undef, undef, undef, undef, undef], defers := [] }) h4 hl5 rfl ?_ ?_
        · intro K hK
          gi_wp2
          exact hK
        · have hsb : sumB pre ≤ 409600 := by omega
          clear h1 h4 hsum
          generalize W.alloc (Obj.cells #[.int .i64 x.kind, .slice A1 x.bytes.length d1, .slice B1 x.kids.length e1] 28) = W5 at *
          generalize hob : recOf fn _ _ _ _ _ LoopState.busy _ = ob
          have hps : ∀ (k : Nat), k ≠ w3.heap.size + 1 → (W5.putObj (w3.heap.size + 1) ob).heap[k]? = W5.heap[k]? := fun k hk => World.putObj_heap_other hk
          have hM6 := (hps W.heap.size (by omega)).trans hM5
          have hO6 := (hps (w.heap.size + 1) (by omega)).trans hO5
          have hl6 := World.putObj_heap_same (w := W5) (o := ob) (r := w3.heap.size + 1) (by omega)
          have hd6 := (hps w3.heap.size (by omega)).trans ((hbN.block _ (by omega)).trans h5)
          have hc6 := chs_put (T := Trn (w3.heap.size + 1) (w.heap.size + 1) none) W5 _ ob (.inl rfl)
          generalize W5.putObj (w3.heap.size + 1) ob = W6 at *
          rw [← hob] at hl6
          clear hob hps
          have m1 : W6.cell? ⟨w.heap.size + 1, 0, none⟩ = some (.int .i64 (sumB pre)) := by rw [blk_cell' hO6]; rfl
          have m2 : W6.cell? ⟨W.heap.size, 1, none⟩ = some (.slice A1 x.bytes.length d1) := by rw [blk_cell' hM6]; rfl
          have f1 := blk_frozen' hO6 0
          gi_wp2
          have hl7 := blk_far' hl6 (p := ⟨w.heap.size + 1, 0, none⟩) (by simp; omega) (.int .i64 ((sumB pre : Int) + x.bytes.length))
          have hl8 := (Array.getElem?_eq_some_iff.1 hl7).1
          refine ⟨_, _, run_endRound none hl7, rfl, none, ⟨?_, ?_, rfl, ?_, ?_, ?_⟩, ?_, .inl rfl⟩
          · rw [World.putObj_heap_other (by omega), sumB_append]
            have := blk_set' hO6 0 (.int .i64 ((sumB pre : Int) + x.bytes.length))
            have e : sumB [(way, x)] = x.bytes.length := by simp [sumB]
            rw [e, Int.natCast_add]
            exact this
          · intro y hy
            rcases List.mem_append.1 hy with hy | hy
            · exact h2 y hy
            · rw [List.mem_singleton.1 hy]
              exact hxb
          · rw [← hrc]
            exact World.putObj_heap_same hl8
          · rw [World.putObj_heap_other (by omega)]
            exact blk_far' hd6 (by simp; omega) _
          · exact (((((Chs.of_below (T := fun k => w.heap.size ≤ k) h6).trans (Chs.of_below hbN)).trans (hc6.mono (fun k _ hk => by rcases hk with h | h | h; omega; omega; cases h))).trans (Chs.set _ ⟨w.heap.size + 1, 0, none⟩ _ (by simp))).trans (chs_put _ _ _ (by omega))).below (fun k hk e => by omega)
          · exact ((((Chs.of_below hbN).trans hc6).trans (Chs.set _ ⟨w.heap.size + 1, 0, none⟩ _ (.inr (.inl rfl)))).trans (chs_put _ _ _ (.inl rfl)))
    have hj0 : CountJ w w3 (w.heap.size + 1) rc none [] W1 := ⟨(hb4.block _ (by omega)).trans hO3, by simp, rfl, hl1, hd1, h03.via hb4⟩
    refine (walk1_in (S := fun k => S k ∧ k < w.heap.size) hY 4 hj0 ((hb4.block _ (by omega)).trans hN3) (hn3.below hb4) (fun k hk e => by rcases e with e | e | e; omega; omega; cases e) hright.out).mono ?_
    rintro e W9 ⟨⟨v, rfl⟩, R9, ⟨h1, h2, _, h4, h5, h6⟩, hch9⟩
    rw [← hrc] at h4
    have HP : Hid (pCount t = (cnt t, dep t, sumB (waysN (str []) t))) := by
      show _ = _
      unfold pCount
      rw [hright.out]
      rfl
    generalize sumB (waysN (str []) t) = sb at *
    refine ⟨none, _, run_endLoop h4 (by simp), ?_⟩
    obtain ⟨hcn, hcd⟩ := HLK2.out hright.out
    subst hcn hcd
    have hlo : lk ≠ w.heap.size + 1 := by
      rintro rfl
      have := hlk.1.symm.trans hO2
      simp at this
    have hlk2 : lk < w2.heap.size := (Array.getElem?_eq_some_iff.1 hlk.1).1
    have hK9 := (hch9.block lk (by omega) (by rintro (h | h | h); omega; omega; cases h)).trans ((hb4.block lk (by omega)).trans ((hb3.block lk hlk2).trans hlk.1))
    have hll : w3.heap.size + 1 < W9.heap.size := (Array.getElem?_eq_some_iff.1 h4).1
    have p1 : ∀ (ob : Obj), (W9.putObj (w3.heap.size + 1) ob).heap[w.heap.size + 1]? = some (.cells #[.int .i64 sb] 3 (0, 0)) := fun ob => (World.putObj_heap_other (by omega)).trans h1
    have q1 : ∀ (ob : Obj), (W9.putObj (w3.heap.size + 1) ob).cell? ⟨w.heap.size + 1, 0, none⟩ = some (.int .i64 sb) := fun ob => by rw [blk_cell' (p1 ob)]; rfl
    have r1 : ∀ (ob : Obj), (W9.putObj (w3.heap.size + 1) ob).frozen? ⟨w.heap.size + 1, 0, none⟩ = false := fun ob => blk_frozen' (p1 ob) 0
    have p2 : ∀ (ob : Obj), (W9.putObj (w3.heap.size + 1) ob).heap[lk]? = some (.cells #[.map (some rr), .int .i64 (cnt t), .int .i64 (dep t)] 93 (0, 0)) := fun ob => (World.putObj_heap_other (by omega)).trans hK9
    have q2 : ∀ (ob : Obj), (W9.putObj (w3.heap.size + 1) ob).cell? ⟨lk, 1, none⟩ = some (.int .i64 (cnt t)) := fun ob => by rw [blk_cell' (p2 ob)]; rfl
    have q3 : ∀ (ob : Obj), (W9.putObj (w3.heap.size + 1) ob).cell? ⟨lk, 2, none⟩ = some (.int .i64 (dep t)) := fun ob => by rw [blk_cell' (p2 ob)]; rfl
    clear HLK2 hY
    gi_wp2
    gi_region
    rw [set_same (p1 _) rfl]
    gi_wp2
    refine ⟨by simp, .inl ⟨_, _, rfl, run_takeDeferred ((World.putObj_heap_other (by omega)).trans h5 : (World.drew (W9.putObj (w3.heap.size + 1) _)).heap[w3.heap.size]? = _), ?_⟩⟩
    have p3 : ∀ (ob ob' : Obj), ((World.drew (W9.putObj (w3.heap.size + 1) ob)).putObj w3.heap.size ob').heap[w.heap.size + 1]? = some (.cells #[.int .i64 sb] 3 (0, 0)) := fun ob ob' => (World.putObj_heap_other (by omega)).trans (p1 ob)
    have u1 : ∀ (ob ob' : Obj), ((World.drew (W9.putObj (w3.heap.size + 1) ob)).putObj w3.heap.size ob').cell? ⟨w.heap.size + 1, 0, none⟩ = some (.int .i64 sb) := fun ob ob' => by
      rw [blk_cell' (p3 ob ob')]
      rfl
    refine ⟨.tuple #[.int .i64 (cnt t), .int .i64 (dep t), .int .i64 sb], by simp [results, Tryd.results38, go_sem, u1], ?_⟩
    rw [HP.out]
    exact ⟨((((Chs.of_below (T := fun k => w.heap.size ≤ k) h6).trans (chs_put _ _ _ (by omega))).trans (Chs.of_below (below_dr _))).trans (chs_put _ _ _ (by omega))).below (fun k hk e => by omega), rfl⟩
end Pk
end Go.Proofs.YtgfgdlnlafngnaaDoor
