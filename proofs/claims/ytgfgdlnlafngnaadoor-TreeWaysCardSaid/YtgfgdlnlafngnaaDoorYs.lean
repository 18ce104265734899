/- Walks: tree.walk, tree.Ways. -/
import Derived.Test.YtgfgdlnlafngnaaDoorSt
import Derived.Test.YtgfgdlnlafngnaaDoorWz
namespace Go.Proofs.YtgfgdlnlafngnaaDoor
namespace Pk
open Go.RowKit Go.Shelf

/-- 'append(v, x...)' inside a fence, v the call's own, x whatever is read. -/
theorem wpListIn_append_rd {F : Fence} {nf : Nat} {P : Program} (w : World) {ops : Array Oper} {rest : List Oper} {o : Oper} {a : Act} {Q : Exit → Act → World → Prop} (hgd : o.guard = none) (s x : Operand) (t : TypeId)
    (ho : o.op = Op.call { callee := Callee.builtin Builtin.append, args := #[s, x], argTypes := #[t, t] })
    (base : Nat) (e : TypeId) (i : TypeInfo) (z : Value) (size bytes : Nat) (ht : P.underlying t = some (.slice e)) (hi : P.info? e = some i) (hz : i.zero = some z)
    (hsize : i.size = size) (hby : i.bytes = bytes) (hzs : z.cells.size = size) (hsz : 0 < size)
    (v : Value) (n : Nat) (xs : List Value) (hs : a.eval s = v) (hown : w.ownsRow base e size v n xs) {S : Nat → Prop}
    (A : Option Addr) (m c : Nat) (news : List Value) (hx : a.eval x = .slice A m c) (hl : news.length = m * size) (hr : Rd w S A news) (h1 : ∀ u ∈ news, u.oneCell' = true)
    (h63 : n + m ≤ maxLen) (hbytes : (n + m) * bytes ≤ 140737488355328) (hbase : base ≤ w.heap.size)
    (h : ∀ v' w', w'.ownsRow base e size v' (n + m) (xs ++ news) → w.grownBy w' v.ownBlock → (v'.ownBlock = v.ownBlock ∨ v'.ownBlock = some w.heap.size) → wpListIn F nf P ops Q rest (a.put o.dst v') w') :
    wpListIn F nf P ops Q (o :: rest) a w := by
  refine wpListIn_plain hgd fun K hK' => ?_
  obtain ⟨v', w', hrun, r1, r2, r3⟩ := run_append_rd (P := P) w base t o.type e i z size bytes ht hi hz hsize hby hzs hsz v n xs hown A m c news hl hr h1 h63 hbytes hbase
  unfold Oper.wpIn
  refine ⟨?_, ?_⟩
  · simp [Oper.about, ho, resolve, Target.leads, Sem.run_pure]
  · rw [Oper.semAt_plain F _ _ (by rw [ho]; intro c hc'; cases hc')]
    simp [execOp, ho, resolve, invoke, builtin, hs, hx, hrun, Result.andThen]
    exact hK' _ _ (h v' w' r1 r2 r3)

attribute [local go_sem] Oper.semAt_some
theorem walk_any {t : Nd} {S : Nat → Prop} {cs : List Value} (w : World) (hn : NdAt S w t cs) :
    Calls Tryd.prog 54 #[.agg cs.toArray] w fun e w' => e = .returned (.func (.func 86) #[] #[.pointer (some ⟨w.heap.size, 0, none⟩)]) ∧ w' = w.alloc (.cells cs.toArray 28) := by
  obtain ⟨A, c, B, c2, rfl⟩ := nd_form hn
  go_enter Tryd.func54, Tryd.ntmps54
  go_wp2_with fail
  go_ret
  exact ⟨rfl, rfl⟩

set_option maxRecDepth 100000 in
theorem walk1_in {l o bn : Nat} {J : Option Nat → List (ByteArray × Nd) → World → Prop} (hJ : YOk l o J) (n : Nat) {t : Nd} {R : Option Nat} {W : World} {S : Nat → Prop} {A B : Option Addr} {c c2 : Nat} (hj : J R [] W) (hb : W.heap[bn]? = some (.cells #[.int .i64 t.kind, .slice A t.bytes.length c, .slice B t.kids.length c2] 28 (0, 0)))
    (hn : NdAt S W t [.int .i64 t.kind, .slice A t.bytes.length c, .slice B t.kids.length c2]) (hS : ∀ k, S k → ¬ Trn l o R k) (h : rightB t = true) :
    CallsIn Fence.wide n Tryd.prog 86 #[.func (.yield l) #[] #[], .pointer (some ⟨bn, 0, none⟩)] W fun e W' => (∃ v, e = .returned v) ∧ ∃ R', J R' (waysN (str []) t) W' ∧ Chs (Trn l o R) W W' := by
  have ⟨n0, n1, n2⟩ := cells3 hb
  simp only [rightB, Bool.and_eq_true, decide_eq_true_eq] at h
  refine callsIn_of_wp Tryd.func86 rfl trivial ?_ rfl
  simp only [Tryd.ntmps86, List.size_toArray, List.length_cons, List.length_nil, Nat.reduceAdd, Nat.reduceSub, Array.replicate_succ, Array.replicate_zero, List.push_toArray, List.append_toArray, List.nil_append, List.cons_append]
  gi_wp2
  refine ⟨trivial, fun h => (by cases h), (step_any hJ t ⟨#[]⟩ [] R W S _ _ hj hn hS h.1.1 (by simpa using h.1.2) (by simp [ByteArray.size]; omega)).mono ?_⟩
  rintro e W2 ⟨rfl, R2, hj2, hch2, _⟩
  gi_wp2
  go_end0
  exact ⟨⟨_, rfl⟩, R2, hj2, hch2⟩

theorem own_base {w : World} {base base' : Nat} {e : TypeId} {size n : Nat} {v : Value} {xs : List Value} (h : w.ownsRow base e size v n xs) (hb : base' ≤ base) : w.ownsRow base' e size v n xs := by
  refine ⟨h.1, ?_⟩
  rcases h.2 with h1 | ⟨g, cap, cur, h1, h2, h3⟩
  · exact .inl h1
  · exact .inr ⟨g, cap, cur, h1, by omega, h3⟩
/-- All ways of a right tree. -/
def pWays (t : Nd) : List ByteArray := if rightB t then (waysN (str []) t).map Prod.fst else []

/-- What holds between two rounds of tree.Ways. -/
def WaysJ (w V : World) (rc : Obj) (R : Option Nat) (pre : List (ByteArray × Nd)) (W : World) : Prop :=
  ∃ v, W.heap[w.heap.size + 1]? = some (.cells #[v] 44 (0, 0)) ∧ W.ownsRow (V.heap.size + 2) 9 1 v pre.length (pre.map fun x => Value.string x.1) ∧ v.ownBlock = R ∧
    W.heap[V.heap.size + 1]? = some rc ∧ W.heap[V.heap.size]? = some (.deferred (some [])) ∧ Below w.heap.size w W

set_option maxRecDepth 100000 in
set_option maxHeartbeats 1000000 in
theorem ways_any {t : Nd} {S : Nat → Prop} {cs : List Value} (w : World) (hn : NdAt S w t cs) (hsz : Sz t) :
    Calls Tryd.prog 25 #[.agg cs.toArray] w fun e w' => Below w.heap.size w w' ∧ ∃ v, e = .returned v ∧ w'.ownsRow w.heap.size 9 1 v (pWays t).length ((pWays t).map Value.string) := by
  obtain ⟨A, c, B, c2, rfl⟩ := nd_form hn
  have hn0 := hn.bound
  refine (callsIn_wide (n := 5)).1 ?_
  refine callsIn_of_wp_marks Tryd.func25 rfl trivial ?_ rfl
  simp only [Tryd.ntmps25, List.size_toArray, List.length_cons, List.length_nil, Nat.reduceAdd, Nat.reduceSub, Array.replicate_succ, Array.replicate_zero, List.push_toArray, List.append_toArray, List.nil_append, List.cons_append]
  gi_wp2
  have hb1 := below_new2 w (Obj.cells #[.int .i64 t.kind, .slice A t.bytes.length c, .slice B t.kids.length c2] 28) (Obj.cells #[.slice none 0 0] 44)
  have hN1 := blk_new' (heap_alloc_new w (Obj.cells #[.int .i64 t.kind, .slice A t.bytes.length c, .slice B t.kids.length c2] 28)) (Obj.cells #[.slice none 0 0] 44)
  have hO1 := alloc_at (w.alloc (Obj.cells #[.int .i64 t.kind, .slice A t.bytes.length c, .slice B t.kids.length c2] 28)) (Obj.cells #[.slice none 0 0] 44) (n := w.heap.size + 1) (by simp)
  have hs1 : ((w.alloc (Obj.cells #[.int .i64 t.kind, .slice A t.bytes.length c, .slice B t.kids.length c2] 28)).alloc (Obj.cells #[.slice none 0 0] 44)).heap.size = w.heap.size + 2 := by simp
  generalize (w.alloc (Obj.cells #[.int .i64 t.kind, .slice A t.bytes.length c, .slice B t.kids.length c2] 28)).alloc (Obj.cells #[.slice none 0 0] 44) = w1 at *
  refine ⟨trivial, (callsIn_wide.2 (right_is w1 (hn.below hb1) hsz)).mono ?_⟩
  rintro e w2 ⟨⟨z, rfl, hz⟩, hb2⟩
  have hN2 := (hb2.block w.heap.size (by omega)).trans hN1
  have hO2 := (hb2.block (w.heap.size + 1) (by omega)).trans hO1
  have hs2 := hb2.size
  have h02 := hb1.via hb2
  cases z with
  | false =>
    have HP : Hid (pWays t = []) := by
      show _ = _
      unfold pWays
      rw [← hz.out]
      rfl
    have m0 : w2.cell? ⟨w.heap.size + 1, 0, none⟩ = some (.slice none 0 0) := by rw [blk_cell' hO2]; rfl
    have f0 := blk_frozen' hO2 0
    gi_wp2
    rw [set_same hO2 rfl]
    refine ⟨.slice none 0 0, by simp [results, Tryd.results25, go_sem, m0], ?_⟩
    rw [HP.out]
    exact ⟨h02, _, rfl, World.ownsRow_nil _ _ _ _⟩
  | true =>
    have hright := Lib.hid hz.out.symm
    clear hz
    have ⟨n0, n1, n2⟩ := cells3 hN2
    gi_wp2
    refine ⟨trivial, (callsIn_wide.2 (walk_any w2 (hn.below h02))).mono ?_⟩
    rintro e w3 ⟨rfl, hw3⟩
    gi_wp2
    rw [← hw3]
    have hN3 : w3.heap[w2.heap.size]? = some (.cells #[.int .i64 t.kind, .slice A t.bytes.length c, .slice B t.kids.length c2] 28 (0, 0)) := by rw [hw3]; exact alloc_at w2 _ rfl
    have hb3 : Below w2.heap.size w2 w3 := by rw [hw3]; exact below_new _ _
    have hs3 : w2.heap.size + 1 ≤ w3.heap.size := by rw [hw3]; simp
    have hs3' : w3.heap.size ≤ w2.heap.size + 1 := by rw [hw3]; simp
    clear hw3
    have h03 := h02.via hb3
    have hO3 := (hb3.block (w.heap.size + 1) (by omega)).trans hO2
    have hn3 := hn0.below h03
    refine range_any (gf := 86) (lb := #[.pointer (some ⟨w2.heap.size, 0, none⟩)]) rfl (enters_of Tryd.func86 (by kernel_rfl) rfl) (fun fn => ?_)
    generalize hrc : recOf fn _ _ _ _ _ _ _ = rc
    obtain ⟨W1, hW1⟩ : ∃ W1, W1 = (w3.alloc (.deferred (some []))).alloc rc := ⟨_, rfl⟩
    rw [← hW1]
    have hb4 : Below w3.heap.size w3 W1 := by rw [hW1]; exact below_new2 w3 _ _
    have hs4 : w3.heap.size + 2 ≤ W1.heap.size := by rw [hW1]; simp
    have hl1 : W1.heap[w3.heap.size + 1]? = some rc := by
      rw [hW1]
      have := heap_alloc_new (w3.alloc (.deferred (some []))) rc
      rwa [show (w3.alloc (.deferred (some []))).heap.size = w3.heap.size + 1 from by simp] at this
    have hd1 : W1.heap[w3.heap.size]? = some (.deferred (some [])) := by
      rw [hW1]
      exact blk_new' (heap_alloc_new w3 _) _
    clear hW1
    have hY : YOk (w3.heap.size + 1) (w.heap.size + 1) (WaysJ w w3 rc) := by
      refine ⟨?_, ?_, ?_⟩
      · rintro R pre W W' ⟨v, h1, h2, h3, h4, h5, h6⟩ hb
        exact ⟨v, (hb.block _ (Array.getElem?_eq_some_iff.1 h1).1).trans h1, own_move' h2 (fun k _ hk _ => hb.block k hk), h3, (hb.block _ (Array.getElem?_eq_some_iff.1 h4).1).trans h4, (hb.block _ (Array.getElem?_eq_some_iff.1 h5).1).trans h5, h6.via hb⟩
      · rintro R pre W ⟨v, h1, h2, h3, h4, h5, h6⟩
        exact ⟨(Array.getElem?_eq_some_iff.1 h4).1, (Array.getElem?_eq_some_iff.1 h1).1, fun k hk => (own_lt' h2 (by rw [h3, hk])).2⟩
      · rintro R pre way x cx W Sx ⟨v, h1, h2, h3, h4, h5, h6⟩ hx _ hpl
        rw [← hrc] at h4
        refine round_any (a₁ := { tmps := #[.agg #[.int .i64 t.kind, .slice A t.bytes.length c, .slice B t.kids.length c2], .pointer (some ⟨w.heap.size, 0, none⟩), .pointer (some ⟨w.heap.size + 1, 0, none⟩), .string way, .agg #[.int .i64 t.kind, .slice A t.bytes.length c, .slice B t.kids.length c2], .bool true, .bool false, .agg #[.int .i64 t.kind, .slice A t.bytes.length c, .slice B t.kids.length c2], .func (.func 86) #[] #[.pointer (some ⟨w2.heap.size, 0, none⟩)], .string way, .agg cx.toArray, undef, undef, undef, undef, undef], defers := [] }) h4 rfl ?_ ?_
        · intro K hK
          gi_wp2
          exact hK
        · have hll : w3.heap.size + 1 < W.heap.size := (Array.getElem?_eq_some_iff.1 h4).1
          have hps : ∀ (ob : Obj) (k : Nat), k ≠ w3.heap.size + 1 → (W.putObj (w3.heap.size + 1) ob).heap[k]? = W.heap[k]? := fun ob k hk => World.putObj_heap_other hk
          obtain ⟨A4, c4, rfl⟩ := own_form h2
          obtain ⟨i0, hi0, hz0, hz1, hz2⟩ := info_parts info_str
          have m1 : ∀ ob, (W.putObj (w3.heap.size + 1) ob).cell? ⟨w.heap.size + 1, 0, none⟩ = some (.slice A4 pre.length c4) := fun ob => by rw [blk_cell' ((hps ob _ (by omega)).trans h1)]; rfl
          gi_wp2_with (gi_at_builtin; refine Stp.mk ?_)
          refine Stp.of ?_
          generalize hob : recOf fn _ _ _ _ _ LoopState.busy _ = ob
          have hown2 := own_move' (w' := W.putObj (w3.heap.size + 1) ob) h2 (fun k _ _ hk => hps ob k (by omega))
          have g1 := (hps ob (w.heap.size + 1) (by omega)).trans h1
          have hsW := World.putObj_size (w := W) (r := w3.heap.size + 1) (o := ob)
          have hl2 := World.putObj_heap_same (o := ob) hll
          have hcp := chs_put (T := Trn (w3.heap.size + 1) (w.heap.size + 1) R) W _ ob (.inl rfl)
          have hps2 := hps ob
          clear hps m1
          generalize W.putObj (w3.heap.size + 1) ob = W2 at *
          rw [← hob] at hl2
          clear hob
          refine wpListIn_append_rd _ rfl (.tmp 11) (.tmp 13) 44 rfl (w3.heap.size + 2) 9 i0 _ 1 16 Tryd.underlying44 hi0 hz0 hz1 hz2 rfl (by omega) (.slice A4 pre.length c4) pre.length (pre.map fun x => Value.string x.1) rfl (hown2.alloc _) (some ⟨W.heap.size, 0, none⟩) 1 1 [.string way] rfl rfl (Rd.new hsW.symm) (by simp [Value.oneCell']) (by simp only [maxLen]; omega) (by omega) (by simp; omega) ?_
          intro v' W4 hown4 hg4 hat4
          obtain ⟨A5, c5, rfl⟩ := own_form hown4
          have hgs := hg4.size
          have g5 : W4.heap[w.heap.size + 1]? = some (.cells #[.slice A4 pre.length c4] 44 (0, 0)) := (World.grownBy.block hg4 _ (by simp; omega) (fun e => by have := own_lt' hown2 e.symm; omega)).trans (blk_new' g1 _)
          have n5 := blk_frozen' g5 0
          have m5 : W4.cell? ⟨w.heap.size + 1, 0, none⟩ = some (.slice A4 pre.length c4) := by rw [blk_cell' g5]; rfl
          gi_wp2
          have hne5 : ∀ k, W2.heap.size > k → w3.heap.size + 2 > k → W4.heap[k]? = W2.heap[k]? := fun k hk1 hk2 => (World.grownBy.block hg4 _ (by simp; omega) (fun e => by have := own_lt' hown2 e.symm; omega)).trans (Below.heap_alloc W2 _ k hk1)
          have hl3 := blk_far' ((hne5 _ (by omega) (by omega)).trans hl2) (p := ⟨w.heap.size + 1, 0, none⟩) (by simp; omega) (.slice A5 (pre.length + 1) c5)
          have hl4 := (Array.getElem?_eq_some_iff.1 hl3).1
          refine ⟨_, _, run_endRound none hl3, rfl, (Value.slice A5 (pre.length + 1) c5).ownBlock, ⟨.slice A5 (pre.length + 1) c5, ?_, ?_, rfl, ?_, ?_, ?_⟩, ?_, ?_⟩
          · rw [World.putObj_heap_other (by omega)]
            exact blk_set' g5 0 _
          · have hown5 := own_move' (w' := (W4.setCell ⟨w.heap.size + 1, 0, none⟩ (.slice A5 (pre.length + 1) c5))) hown4 (fun k _ _ hk => Below.heap_setCell W4 _ _ k (by simp; omega))
            simp only [List.length_append, List.length_cons, List.length_nil, List.map_append, List.map_cons, List.map_nil, Nat.zero_add]
            exact own_move' hown5 (fun k _ _ hk => World.putObj_heap_other (by omega))
          · rw [← hrc]
            exact World.putObj_heap_same hl4
          · rw [World.putObj_heap_other (by omega)]
            exact blk_far' ((hne5 _ (by omega) (by omega)).trans ((hps2 _ (by omega)).trans h5)) (by simp; omega) _
          · exact ((((((Chs.of_below (T := fun k => w.heap.size ≤ k) h6).trans (hcp.mono (fun k _ hk => by rcases hk with h | h | h; omega; omega; (have := own_lt' h2 (h3.trans h); omega)))).trans (Chs.of_below (below_new W2 _))).trans (Chs.of_grown hg4 (fun k hk => by have := own_lt' hown2 hk; omega))).trans (Chs.set _ ⟨w.heap.size + 1, 0, none⟩ _ (by simp))).trans (chs_put _ _ _ (by omega))).below (fun k hk e => by omega)
          · exact ((((hcp.trans (Chs.of_below (below_new W2 _))).trans (Chs.of_grown hg4 (fun k hk => .inr (.inr (h3.symm.trans hk))))).trans (Chs.set _ ⟨w.heap.size + 1, 0, none⟩ _ (.inr (.inl rfl)))).trans (chs_put _ _ _ (.inl rfl)))
          · rcases hat4 with h | h
            · exact .inl (h.trans h3)
            · exact .inr ⟨_, h, by simp; omega⟩
    have hj0 : WaysJ w w3 rc none [] W1 := ⟨_, (hb4.block _ (by omega)).trans hO3, World.ownsRow_nil _ _ _ _, rfl, hl1, hd1, h03.via hb4⟩
    refine (walk1_in (S := fun k => S k ∧ k < w.heap.size) hY 4 hj0 ((hb4.block _ (by omega)).trans hN3) (hn3.below hb4) (fun k hk e => by rcases e with e | e | e; omega; omega; cases e) hright.out).mono ?_
    rintro e W9 ⟨⟨v, rfl⟩, R9, ⟨v9, h1, h2, h3, h4, h5, h6⟩, _⟩
    rw [← hrc] at h4
    have HP : Hid (pWays t = (waysN (str []) t).map Prod.fst) := by
      show _ = _
      unfold pWays
      rw [hright.out]
      rfl
    generalize waysN (str []) t = ps at *
    obtain ⟨A9, c9, rfl⟩ := own_form h2
    refine ⟨none, _, run_endLoop h4 (by simp), ?_⟩
    have hll : w3.heap.size + 1 < W9.heap.size := (Array.getElem?_eq_some_iff.1 h4).1
    have p1 : ∀ (ob : Obj), (W9.putObj (w3.heap.size + 1) ob).heap[w.heap.size + 1]? = some (.cells #[.slice A9 ps.length c9] 44 (0, 0)) := fun ob => (World.putObj_heap_other (by omega)).trans h1
    have q1 : ∀ (ob : Obj), (W9.putObj (w3.heap.size + 1) ob).cell? ⟨w.heap.size + 1, 0, none⟩ = some (.slice A9 ps.length c9) := fun ob => by rw [blk_cell' (p1 ob)]; rfl
    have r1 : ∀ (ob : Obj), (W9.putObj (w3.heap.size + 1) ob).frozen? ⟨w.heap.size + 1, 0, none⟩ = false := fun ob => blk_frozen' (p1 ob) 0
    gi_wp2
    rw [set_same (p1 _) rfl]
    refine ⟨by simp, .inl ⟨_, _, rfl, run_takeDeferred ((World.putObj_heap_other (by omega)).trans h5), ?_⟩⟩
    have u1 : ∀ (ob ob' : Obj), ((W9.putObj (w3.heap.size + 1) ob).putObj w3.heap.size ob').cell? ⟨w.heap.size + 1, 0, none⟩ = some (.slice A9 ps.length c9) := fun ob ob' => by
      rw [blk_cell' ((World.putObj_heap_other (by omega)).trans (p1 ob))]
      rfl
    refine ⟨.slice A9 ps.length c9, by simp [results, Tryd.results25, go_sem, u1], ?_⟩
    rw [HP.out, List.length_map]
    refine ⟨(((Chs.of_below (T := fun k => w.heap.size ≤ k) h6).trans (chs_put _ _ _ (by omega))).trans (chs_put _ _ _ (by omega))).below (fun k hk e => by omega), _, rfl, ?_⟩
    rw [List.map_map]
    exact own_base (own_move' (own_move' h2 (fun k _ _ hk => World.putObj_heap_other (by omega))) (fun k _ _ hk => World.putObj_heap_other (by omega))) (by omega)
end Pk
end Go.Proofs.YtgfgdlnlafngnaaDoor
