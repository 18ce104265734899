/- Walks: a directory that is opened. -/
import Derived.Test.YtgfgdlnlafngnaaDoorWg
namespace Go.Proofs.YtgfgdlnlafngnaaDoor
namespace Pk
open Go.RowKit

theorem pNum_le (most : Nat) (st : St) : (pNum most st).1 ≤ most := by
  cases st with
  | none => simp [pNum]
  | some r =>
    simp only [pNum]
    split
    · simp
    · split
      · assumption
      · simp

theorem own_le' {w : World} {base : Nat} {e : TypeId} {size n c : Nat} {A : Option Addr} {xs : List Value} (h : w.ownsRow base e size (.slice A n c) n xs) : n ≤ c := by
  rcases h.2 with ⟨h1, h2⟩ | ⟨g, cap, cur, h1, _, _, h2, _⟩
  · omega
  · simp only [Value.slice.injEq, true_and] at h1
    omega
theorem own_cap' {w : World} {base : Nat} {e : TypeId} {size n c : Nat} {A : Option Addr} {xs : List Value} (h : w.ownsRow base e size (.slice A n c) n xs) : c ≤ 9223372036854775807 := by
  rcases h.2 with ⟨h1, h2⟩ | ⟨g, cap, cur, h1, _, _, _, h2, _⟩
  · simp only [Value.slice.injEq] at h1
    omega
  · simp only [Value.slice.injEq, true_and] at h1
    simp only [maxLen] at h2
    omega
/-- What holds at the head of each round over kids: i of m are read. -/
structure KidsInv (f m left0 nb g h i : Nat) (st0 : St) (w wr : World) (last : Value) : Prop where
  out : ∃ (acc : List (ByteArray × Nd)) (lastS : ByteArray) (left : Nat) (st : St) (A : Option Addr) (c : Nat) (cells : List Value), last = .string lastS ∧ acc.length = i ∧ left ≤ left0 ∧
    wr.heap[nb]? = some (.cells #[.int .i64 4, .slice none 0 0, .slice A acc.length c] 28 (0, 0)) ∧
    wr.ownsRow (nb + 1) 57 4 (.slice A acc.length c) acc.length cells ∧ KsAt (fun k => nb < k ∧ A.map (·.block) ≠ some k) wr acc cells ∧
    Opn wr h g left ∧ CurAt wr g st ∧ Chs (fun k => k = g ∨ k = h) w wr ∧ nb < wr.heap.size ∧
    pKids (pNode f) m [] (str []) left0 st0 = pKids (pNode f) (m - i) acc lastS left st

set_option maxRecDepth 100000 in
set_option maxHeartbeats 4000000 in
theorem node_dir {f : Nat} (ih : NodeOk f) (deep g h left : Nat) (st : St) (w : World) (hd : deep + (f + 1) = 9) (ho : Opn w h g (left + 1 : Nat)) (hc : CurAt w g st) (hl : left + 1 ≤ 200) (hk : (pNum 4 st).1 = 4) :
    Calls Tryd.prog 44 #[.pointer (some ⟨h, 0, none⟩), .int .i64 deep] w fun e w' => NodeRes (pNode (f + 1) (left + 1) st) g h w e w' := by
  have hlt := ho.lt
  have hgh := ho.2
  have c0 : w.cell? ⟨h, 0, none⟩ = some (.pointer (some ⟨g, 0, none⟩)) := by rw [blk_cell' ho.1]; rfl
  have c1 : w.cell? ⟨h, 1, none⟩ = some (.int .i64 (left + 1 : Nat)) := by rw [blk_cell' ho.1]; rfl
  have f1 := blk_frozen' ho.1 1
  have HO := Lib.hid ho
  have IH := Lib.hid ih
  have hd8 : deep ≤ 8 := by omega
  have HD := Lib.hid hd
  have HK := Lib.hid hk
  clear ho hd ih hk
  go_enter Tryd.func44, Tryd.ntmps44
  go_wp2_with fail
  obtain ⟨hsz, hcW, hnW, hoW, hchW, hgn, hhn⟩ := opn_start HO.out hc _ rfl
  generalize (w.setCell ⟨h, 1, none⟩ (.int .i64 left)).alloc (Obj.cells node0 28) = W at *
  refine (num_any 4 _ hcW (by omega)).mono ?_
  rintro e w1 ⟨rfl, hc1, hch1⟩
  have hn1 := hch1.blk hnW hgn
  have ho1 := hoW.ch hch1
  have n0 : w1.cell? ⟨w.heap.size, 0, none⟩ = some (.int .i64 0) := by rw [blk_cell' hn1]; rfl
  have nf := blk_frozen' hn1 0
  have d0 : w1.cell? ⟨h, 0, none⟩ = some (.pointer (some ⟨g, 0, none⟩)) := by rw [blk_cell' ho1.1]; rfl
  rw [HK.out]
  go_wp2_with fail
  have hc2 : CurAt (w1.setCell ⟨w.heap.size, 0, none⟩ (.int .i64 4)) g (pNum 4 st).2 := hc1.keep fun k hk => Below.heap_setCell w1 _ _ k (by simp; have := hc.lt; omega)
  have hn2 := blk_set' hn1 0 (.int .i64 4)
  have ho2 : Opn (w1.setCell ⟨w.heap.size, 0, none⟩ (.int .i64 4)) h g left := ho1.keep (Below.heap_setCell w1 _ _ h (by simp; omega))
  have hch2 : Chs (fun k => k = g ∨ k = h ∨ k = w.heap.size) w1 (w1.setCell ⟨w.heap.size, 0, none⟩ (.int .i64 4)) := Chs.set w1 _ _ (by simp)
  have hnw2 : w.heap.size < (w1.setCell ⟨w.heap.size, 0, none⟩ (.int .i64 4)).heap.size := by have := hch1.size; simp; omega
  generalize w1.setCell ⟨w.heap.size, 0, none⟩ (.int .i64 4) = w2 at *
  refine (num_any 200 _ hc2 (by omega)).mono ?_
  rintro e w3 ⟨rfl, hc3, hch3⟩
  have hn3 := hch3.blk hn2 hgn
  have ho3 := ho2.ch hch3
  simp only [List.setIfInBounds_toArray, List.set_cons_zero] at hn3
  have hall := ((hchW.mono (T' := fun k => k = g ∨ k = h ∨ k = w.heap.size) (fun k _ hk => by omega)).trans (hch1.chs (by simp))).trans (hch2.trans (hch3.chs (by simp)))
  have hall2 : Chs (fun k => k = g ∨ k = h) w w3 := hall.mono (fun k hk1 hk2 => by omega)
  have hm := pNum_le 200 (pNum 4 st).2
  have HP : Hid (pNode (f + 1) (left + 1) st = pKids (pNode f) (pNum 200 (pNum 4 st).2).1 [] (str []) left (pNum 200 (pNum 4 st).2).2) := by
    show pNode (f + 1) (left + 1) st = _
    rw [pNode, if_neg (by simp [HK.out])]
  generalize (pNum 200 (pNum 4 st).2).2 = st2 at *
  generalize (pNum 200 (pNum 4 st).2).1 = m at *
  have hinv : KidsInv f m left w.heap.size g h 0 st2 w w3 (.string ⟨#[]⟩) :=
    ⟨[], str [], left, st2, none, 0, [], rfl, rfl, Nat.le_refl _, hn3, ⟨rfl, .inl ⟨rfl, rfl⟩⟩, by unfold KsAt; rfl, ho3, hc3, hall2, by have := hch3.size; omega, by rw [Nat.sub_zero]⟩
  clear hn3 ho3 hc3 hall hall2 hch3 hn2 ho2 hch2 hc2 d0 nf n0 ho1 hn1 hch1 hc1 hchW hoW hnW hcW
  go_wp2_with fail
  go_loopw [6, 46] (fun last i wr => ∃ k : Nat, k ≤ m ∧ i = .int .i64 k ∧ KidsInv f m left w.heap.size g h k st2 w wr last) (fun _ i _ => m - (intOf i).toNat)
  case atStart => exact ⟨0, by omega, rfl, hinv⟩
  case round =>
    obtain ⟨k, hk, rfl, ⟨acc, lastS, lf, sx, A, c, cells, rfl, rfl, hlf, hnb, hown, hks, hox, hcx, hchx, hsx, heq⟩⟩ := hrel
    have HE := Lib.hid heq
    clear heq
    have HN := Lib.hid hnb
    clear hnb
    have x0 : wr.cell? ⟨h, 0, none⟩ = some (.pointer (some ⟨g, 0, none⟩)) := by rw [blk_cell' hox.1]; rfl
    by_cases hlt : acc.length < m
    · go_wp2_with fail
      refine (text_any 24 _ hcx (by omega)).mono ?_
      rintro e a1 ⟨⟨v, rfl, hv⟩, hca, hcha⟩
      have hna := hcha.blk HN.out (by omega)
      have hoa := hox.ch hcha
      have hcv := conv_str hv
      have HQ : Hid (pKids (pNode f) m [] (str []) left st2 = if leB (str (pText 24 sx).1) lastS then none
          else match pNode f lf (pText 24 sx).2 with
            | none => none
            | some (t, left', st') => pKids (pNode f) (m - (acc.length + 1)) (acc ++ [(str (pText 24 sx).1, t)]) (str (pText 24 sx).1) left' st') := by
        have := HE.out
        rw [show m - acc.length = (m - (acc.length + 1)) + 1 from by omega, pKids] at this
        exact this
      generalize (pText 24 sx).2 = s1 at *
      generalize str (pText 24 sx).1 = nm at *
      have na0 : a1.cell? ⟨w.heap.size, 0, none⟩ = some (.int .i64 4) := by rw [blk_cell' hna]; rfl
      have na1 : a1.cell? ⟨w.heap.size, 1, none⟩ = some (.slice none 0 0) := by rw [blk_cell' hna]; rfl
      have na2 : a1.cell? ⟨w.heap.size, 2, none⟩ = some (.slice A acc.length c) := by rw [blk_cell' hna]; rfl
      have nf0 := blk_frozen' hna 0
      have nf1 := blk_frozen' hna 1
      have nf2 := blk_frozen' hna 2
      have hnlt : w.heap.size < a1.heap.size := (Array.getElem?_eq_some_iff.1 hna).1
      have hhlt : h < a1.heap.size := hoa.lt
      have HNA := Lib.hid hna
      clear hna
      by_cases hle : leB nm lastS = true
      · have hlw : (Op.bytesLess nm.toList lastS.toList || nm.toList == lastS.toList) = true := by rw [toList_data, toList_data]; exact hle
        go_wp2_with fail
        rw [set3_same HNA.out]
        refine bodyPost_ret (v := .tuple #[.agg #[.int .i64 4, .slice none 0 0, .slice A acc.length c], .bool false]) (by simp [results, Tryd.results44, go_sem, na0, na1, na2, hnlt]) rfl ⟨(hchx.trans (hcha.chs (by simp))).trans (Chs.of_below (below_new _ _)), ?_⟩
        rw [HP.out, HQ.out, if_pos hle]
        exact ⟨_, _, _, _, _, _, _, rfl⟩
      · have hle1 : Op.bytesLess nm.toList lastS.toList = false := by
          rw [toList_data, toList_data]
          cases hb : Op.bytesLess nm.data.toList lastS.data.toList
          · rfl
          · exact absurd (show leB nm lastS = true by unfold leB; rw [hb]; rfl) hle
        have hle2 : (nm.toList == lastS.toList) = false := by
          rw [toList_data, toList_data]
          cases hb : (nm.data.toList == lastS.data.toList)
          · rfl
          · exact absurd (show leB nm lastS = true by unfold leB; rw [hb, Bool.or_true]) hle
        have HQ2 : Hid (pKids (pNode f) m [] (str []) left st2 = match pNode f lf s1 with
            | none => none
            | some (t, left', st') => pKids (pNode f) (m - (acc.length + 1)) (acc ++ [(nm, t)]) nm left' st') := by
          have := HQ.out
          rw [if_neg hle] at this
          exact this
        clear hle HQ
        go_wp2_with fail
        rw [show ((deep : Int) + 1) = ((deep + 1 : Nat) : Int) from rfl]
        have ha2 := below_new a1 (Obj.cells #[.string nm, .int .i64 0, .slice none 0 0, .slice none 0 0] 57)
        have hoa2 := hoa.keep (ha2.block h hhlt)
        have hca2 := hca.below ha2
        have hkb : (a1.alloc (Obj.cells #[.string nm, .int .i64 0, .slice none 0 0, .slice none 0 0] 57)).heap[a1.heap.size]? = some (.cells #[.string nm, .int .i64 0, .slice none 0 0, .slice none 0 0] 57 (0, 0)) := heap_alloc_new a1 _
        have hna2 := (ha2.block _ hnlt).trans HNA.out
        have hsz2 : (a1.alloc (Obj.cells #[.string nm, .int .i64 0, .slice none 0 0, .slice none 0 0] 57)).heap.size = a1.heap.size + 1 := by simp
        have hch2 : Chs (fun k => k = g ∨ k = h) w (a1.alloc (Obj.cells #[.string nm, .int .i64 0, .slice none 0 0, .slice none 0 0] 57)) := (hchx.trans (hcha.chs (by simp))).trans (Chs.of_below ha2)
        have hgsz := hc.lt
        have hrow2 := hown
        have hks2 := hks
        have hAsz : ∀ k, A.map (·.block) = some k → k < wr.heap.size := by
          intro k hk
          rcases hown.2 with ⟨h1, _⟩ | ⟨g', cap, cur, h1, _, hh, _⟩
          · simp only [Value.slice.injEq] at h1
            rw [h1.1] at hk
            cases hk
          · simp only [Value.slice.injEq] at h1
            rw [h1.1] at hk
            simp at hk
            subst hk
            exact (Array.getElem?_eq_some_iff.1 hh).1
        have hszx := hcha.size
        generalize (a1.alloc (Obj.cells #[.string nm, .int .i64 0, .slice none 0 0, .slice none 0 0] 57)) = a2 at *
        refine (IH.out (deep + 1) g h lf s1 a2 (by have := HD.out; omega) hoa2 hca2 (by omega)).mono ?_
        rintro e a3 ⟨hch3, hres⟩
        have hkb3 := (hch3.block _ (by omega) (by omega)).trans hkb
        have hna3 := (hch3.block _ (by omega) (by omega)).trans hna2
        have kc0 : a3.cell? ⟨a1.heap.size, 0, none⟩ = some (.string nm) := by rw [blk_cell' hkb3]; rfl
        have kc1 : a3.cell? ⟨a1.heap.size, 1, none⟩ = some (.int .i64 0) := by rw [blk_cell' hkb3]; rfl
        have kc2 : a3.cell? ⟨a1.heap.size, 2, none⟩ = some (.slice none 0 0) := by rw [blk_cell' hkb3]; rfl
        have kc3 : a3.cell? ⟨a1.heap.size, 3, none⟩ = some (.slice none 0 0) := by rw [blk_cell' hkb3]; rfl
        have b1 := blk_frozen' hkb3 1
        have b2 := blk_frozen' hkb3 2
        have b3 := blk_frozen' hkb3 3
        have q0 : a3.cell? ⟨w.heap.size, 0, none⟩ = some (.int .i64 4) := by rw [blk_cell' hna3]; rfl
        have q1 : a3.cell? ⟨w.heap.size, 1, none⟩ = some (.slice none 0 0) := by rw [blk_cell' hna3]; rfl
        have q2 : a3.cell? ⟨w.heap.size, 2, none⟩ = some (.slice A acc.length c) := by rw [blk_cell' hna3]; rfl
        have p0 := blk_frozen' hna3 0
        have p1 := blk_frozen' hna3 1
        have p2 := blk_frozen' hna3 2
        have HKB := Lib.hid hkb3
        have HNB := Lib.hid hna3
        clear hkb3 hna3 hna2 hkb na0 na1 na2 nf0 nf1 nf2
        have hne : ¬ a1.heap.size = w.heap.size := by omega
        have hne' : ¬ w.heap.size = a1.heap.size := by omega
        cases hx : pNode f lf s1 with
        | none =>
          rw [hx] at hres
          obtain ⟨kk, An, n, cn, Bn, mm, dn, rfl⟩ := hres
          have HX := Lib.hid hx
          clear hx
          go_wp2_with fail
          have hs3 := (((Chs.set (T := fun k => k = a1.heap.size) a3 ⟨a1.heap.size, 1, none⟩ (.int .i64 kk) rfl).trans (Chs.set _ ⟨a1.heap.size, 2, none⟩ (.slice An n cn) rfl)).trans (Chs.set _ ⟨a1.heap.size, 3, none⟩ (.slice Bn mm dn) rfl))
          generalize ((a3.setCell ⟨a1.heap.size, 1, none⟩ (.int .i64 kk)).setCell ⟨a1.heap.size, 2, none⟩ (.slice An n cn)).setCell ⟨a1.heap.size, 3, none⟩ (.slice Bn mm dn) = a4 at *
          have hna4 := (hs3.block w.heap.size (by have := hch3.size; omega) (by omega)).trans HNB.out
          have r0 : a4.cell? ⟨w.heap.size, 0, none⟩ = some (.int .i64 4) := by rw [blk_cell' hna4]; rfl
          have r1 : a4.cell? ⟨w.heap.size, 1, none⟩ = some (.slice none 0 0) := by rw [blk_cell' hna4]; rfl
          have r2 : a4.cell? ⟨w.heap.size, 2, none⟩ = some (.slice A acc.length c) := by rw [blk_cell' hna4]; rfl
          rw [set3_same hna4]
          have hall := ((hch2.trans hch3).mono (T' := fun k => k = g ∨ k = h ∨ k = a1.heap.size) (fun k _ hk => by omega)).trans (hs3.mono (fun k _ hk => by omega))
          refine bodyPost_ret (v := .tuple #[.agg #[.int .i64 4, .slice none 0 0, .slice A acc.length c], .bool false]) (by simp [results, Tryd.results44, go_sem, r0, r1, r2]) rfl ⟨hall.mono (fun k hk1 hk2 => by omega), ?_⟩
          rw [HP.out, HQ2.out, HX.out]
          exact ⟨_, _, _, _, _, _, _, rfl⟩
        | some x =>
          obtain ⟨t, left', st'⟩ := x
          rw [hx] at hres
          obtain ⟨u0, u1, u2, rfl, hnd, hon, hcn⟩ := hres
          have HX := Lib.hid hx
          clear hx
          have hnd' := hnd
          obtain ⟨tk, tb, tks⟩ := t
          unfold NdAt at hnd'
          obtain ⟨vb, Bk, dk, ck, eu, ⟨Ab, cb, rfl, _⟩, _⟩ := hnd'
          simp only [List.cons.injEq, and_true] at eu
          obtain ⟨rfl, rfl, rfl⟩ := eu
          obtain ⟨i0, hi0, hz0, hz1, hz2⟩ := info_parts info_kid
          have hs3 := (((Chs.set (T := fun k => k = a1.heap.size) a3 ⟨a1.heap.size, 1, none⟩ (.int .i64 tk) rfl).trans (Chs.set _ ⟨a1.heap.size, 2, none⟩ (.slice Ab tb.length cb) rfl)).trans (Chs.set _ ⟨a1.heap.size, 3, none⟩ (.slice Bk tks.length dk) rfl))
          have hsz4 : (((a3.setCell ⟨a1.heap.size, 1, none⟩ (.int .i64 tk)).setCell ⟨a1.heap.size, 2, none⟩ (.slice Ab tb.length cb)).setCell ⟨a1.heap.size, 3, none⟩ (.slice Bk tks.length dk)).heap.size = a3.heap.size := by simp [World.setCell]
          have hsz3 := hch3.size
          have hrowx : ∀ k, (Value.slice A acc.length c).ownBlock = some k → w.heap.size + 1 ≤ k ∧ k < wr.heap.size := fun k hk => own_lt' hown hk
          have hstep : ∀ k, w.heap.size < k → k < wr.heap.size → (((a3.setCell ⟨a1.heap.size, 1, none⟩ (.int .i64 tk)).setCell ⟨a1.heap.size, 2, none⟩ (.slice Ab tb.length cb)).setCell ⟨a1.heap.size, 3, none⟩ (.slice Bk tks.length dk)).heap[k]? = wr.heap[k]? := by
            intro k hk1 hk2
            have e1 := World.grownBy.block hcha k hk2 (by simp; omega)
            have e2 := ha2.block k (by omega)
            have e3 := hch3.block k (by omega) (by omega)
            exact (hs3.block k (by omega) (by omega)).trans (e3.trans (e2.trans e1))
          have hown4 := own_move' (w' := (((a3.setCell ⟨a1.heap.size, 1, none⟩ (.int .i64 tk)).setCell ⟨a1.heap.size, 2, none⟩ (.slice Ab tb.length cb)).setCell ⟨a1.heap.size, 3, none⟩ (.slice Bk tks.length dk))) hown (fun k _ hk1 hk2 => hstep k (by omega) hk1)
          have hnb4 := (hs3.block w.heap.size (by omega) (by omega)).trans HNB.out
          go_wp2_with (at_builtin; refine Stp.mk ?_)
          refine Stp.of ?_
          refine wpList_append_rd _ rfl (.tmp 74) (.tmp 76) 26 rfl (w.heap.size + 1) 57 i0 _ 4 72 Tryd.underlying26 hi0 hz0 hz1 hz2 rfl (by omega) (.slice A acc.length c) acc.length cells rfl (hown4.alloc _) (some ⟨a3.heap.size, 0, none⟩) 1 1 [.string nm, .int .i64 tk, .slice Ab tb.length cb, .slice Bk tks.length dk] rfl rfl (Rd.new hsz4.symm) (by intro u hu; simp at hu; rcases hu with rfl | rfl | rfl | rfl <;> rfl) (by simp only [maxLen]; omega) (by omega) (by simp; omega) ?_
          intro v1 a5 hown5 hg5 hat5
          obtain ⟨A5, c5, rfl⟩ := own_form hown5
          have hlf' : left' ≤ lf := pNode_left _ _ _ _ _ _ HX.out
          have hl1 : ((((a3.setCell ⟨a1.heap.size, 1, none⟩ (.int .i64 tk)).setCell ⟨a1.heap.size, 2, none⟩ (.slice Ab tb.length cb)).setCell ⟨a1.heap.size, 3, none⟩ (.slice Bk tks.length dk)).alloc (.cells #[.string nm, .int .i64 tk, .slice Ab tb.length cb, .slice Bk tks.length dk] 57)).heap.size = a3.heap.size + 1 := by simp [hsz4]
          have hrow5 : ∀ k, (k ≤ w.heap.size ∨ wr.heap.size ≤ k) → k < a3.heap.size + 1 → a5.heap[k]? = ((((a3.setCell ⟨a1.heap.size, 1, none⟩ (.int .i64 tk)).setCell ⟨a1.heap.size, 2, none⟩ (.slice Ab tb.length cb)).setCell ⟨a1.heap.size, 3, none⟩ (.slice Bk tks.length dk)).alloc (.cells #[.string nm, .int .i64 tk, .slice Ab tb.length cb, .slice Bk tks.length dk] 57)).heap[k]? :=
            fun k hk1 hk2 => World.grownBy.block hg5 k (by omega) (fun e => by have := hrowx k e.symm; omega)
          have hnb5 := (hrow5 w.heap.size (.inl (Nat.le_refl _)) (by omega)).trans (blk_new' hnb4 _)
          have hsz5 : a3.heap.size + 1 ≤ a5.heap.size := by have := World.grownBy.size hg5; omega
          have hA5 : ∀ k, A5.map (·.block) = some k → A.map (·.block) = some k ∨ k = a3.heap.size + 1 := by
            intro k hk
            have e1 : ∀ (B : Option Addr) (n c : Nat), (Value.slice B n c).ownBlock = B.map (·.block) := fun B n c => by cases B <;> rfl
            rw [e1, e1] at hat5
            rcases hat5 with h5 | h5
            · exact .inl (h5.symm.trans hk)
            · rw [hk] at h5
              injection h5 with h5
              exact .inr (h5.trans hl1)
          have hm45 : ∀ k, k ≤ w.heap.size ∨ wr.heap.size ≤ k → k < a3.heap.size → k ≠ a1.heap.size → a5.heap[k]? = a3.heap[k]? := by
            intro k hk1 hk2 hk3
            rw [hrow5 k hk1 (by omega), Below.heap_alloc _ _ _ (by omega)]
            exact hs3.block k hk2 hk3
          have hm5r : ∀ k, w.heap.size < k → k < wr.heap.size → A.map (·.block) ≠ some k → a5.heap[k]? = wr.heap[k]? := by
            intro k hk1 hk2 hk3
            have e1 : (Value.slice A acc.length c).ownBlock = A.map (·.block) := by cases A <;> rfl
            rw [World.grownBy.block hg5 k (by omega) (by rw [e1]; exact fun e => hk3 e.symm), Below.heap_alloc _ _ _ (by omega)]
            exact hstep k hk1 hk2
          have p5 := blk_frozen' hnb5 2
          have q5 : a5.cell? ⟨w.heap.size, 2, none⟩ = some (.slice A acc.length c) := by rw [blk_cell' hnb5]; rfl
          have HOW := Lib.hid hown5
          clear hown5 hown4
          go_wp2
          go_roundw
          case rel =>
            have hne5 : ∀ k, k ≠ w.heap.size → (a5.setCell ⟨w.heap.size, 2, none⟩ (.slice A5 (acc.length + 1) c5)).heap[k]? = a5.heap[k]? := fun k hk => Below.heap_setCell a5 _ _ k hk
            refine ⟨acc.length + 1, hlt, by go_num, ⟨acc ++ [(nm, .mk tk tb tks)], nm, left', st', A5, c5, cells ++ [.string nm, .int .i64 tk, .slice Ab tb.length cb, .slice Bk tks.length dk], rfl, by simp, by omega, ?_, ?_, ?_, ?_, ?_, ?_, ?_, ?_⟩⟩
            · have := blk_set' hnb5 2 (.slice A5 (acc.length + 1) c5)
              rw [List.length_append]
              exact this
            · have := own_move' (w' := a5.setCell ⟨w.heap.size, 2, none⟩ (.slice A5 (acc.length + 1) c5)) HOW.out (fun k hk1 hk2 hk3 => hne5 k (by omega))
              rw [List.length_append]
              exact this
            · have h1 := KsAt.keep (w' := a5.setCell ⟨w.heap.size, 2, none⟩ (.slice A5 (acc.length + 1) c5)) (fun k hk1 hk2 => (hne5 k (by omega)).trans (hm5r k hk1.1.1 hk1.2 hk1.1.2)) _ _ (KsAt.bound _ _ hks)
              have h2 := NdAt.keep (w' := a5.setCell ⟨w.heap.size, 2, none⟩ (.slice A5 (acc.length + 1) c5)) (fun k hk1 hk2 => (hne5 k (by omega)).trans (hm45 k (.inr (by omega)) hk1.2 (by omega))) _ _ (NdAt.bound _ _ hnd)
              refine KsAt.snoc (KsAt.mono (fun k hk => ⟨hk.1.1, fun e => ?_⟩) _ _ h1) (NdAt.mono (fun k hk => ⟨by omega, fun e => ?_⟩) _ _ h2)
              · rcases hA5 k e with e | e
                · exact hk.1.2 e
                · omega
              · rcases hA5 k e with e | e
                · have := hAsz k e
                  omega
                · omega
            · exact hon.keep ((hne5 h (by omega)).trans (hm45 h (.inl (by omega)) (by omega) (by omega)))
            · exact hcn.keep (fun k hk => (hne5 k (by omega)).trans (hm45 k (.inl (by omega)) (by omega) (by omega)))
            · have h1 := (hch2.trans hch3)
              refine ⟨?_, ?_, ?_, ?_, fun k hk1 hk2 => ?_⟩
              · exact (World.grownBy.os hg5).trans (hs3.os.trans h1.os)
              · exact (World.grownBy.tape hg5).trans (hs3.tape.trans h1.tape)
              · exact (World.grownBy.output hg5).trans (hs3.output.trans h1.output)
              · have : (a5.setCell ⟨w.heap.size, 2, none⟩ (.slice A5 (acc.length + 1) c5)).heap.size = a5.heap.size := by simp [World.setCell]
                omega
              · exact (hne5 k (by omega)).trans ((hm45 k (.inl (by omega)) (by omega) (by omega)).trans (h1.block k hk1 hk2))
            · have : (a5.setCell ⟨w.heap.size, 2, none⟩ (.slice A5 (acc.length + 1) c5)).heap.size = a5.heap.size := by simp [World.setCell]
              omega
            · rw [HQ2.out, HX.out]
          case measure => simp [intOf]; omega
    · have y0 : wr.cell? ⟨w.heap.size, 0, none⟩ = some (.int .i64 4) := by rw [blk_cell' HN.out]; rfl
      have y1 : wr.cell? ⟨w.heap.size, 1, none⟩ = some (.slice none 0 0) := by rw [blk_cell' HN.out]; rfl
      have y2 : wr.cell? ⟨w.heap.size, 2, none⟩ = some (.slice A acc.length c) := by rw [blk_cell' HN.out]; rfl
      have z0 := blk_frozen' HN.out 0
      have z1 := blk_frozen' HN.out 1
      have z2 := blk_frozen' HN.out 2
      go_wp2_with fail
      rw [set3_same HN.out]
      refine bodyPost_ret (v := .tuple #[.agg #[.int .i64 4, .slice none 0 0, .slice A acc.length c], .bool true]) (by simp [results, Tryd.results44, go_sem, y0, y1, y2]) rfl ⟨hchx, ?_⟩
      have hpe := HE.out
      rw [show m - acc.length = 0 from by omega, pKids] at hpe
      rw [HP.out, hpe]
      refine ⟨_, _, _, rfl, ?_, hox, hcx⟩
      unfold NdAt
      exact ⟨_, A, c, cells, rfl, BsAt.nil _ _, own_le' hown, own_cap' hown, (Rd.of_own hown).mono (fun k hk => by omega), KsAt.mono (fun k hk => by omega) _ _ hks⟩
theorem node_any : ∀ f, NodeOk f
  | 0 => fun deep g h left st w hd ho hc hl => node_fail deep g h left w ho hl (.inr (by omega))
  | f + 1 => fun deep g h left st w hd ho hc hl => by
    cases left with
    | zero => exact node_fail deep g h 0 w ho hl (.inl rfl)
    | succ left =>
      by_cases hk : (pNum 4 st).1 = 4
      · exact node_dir (node_any f) deep g h left st w hd ho hc hl hk
      · exact node_file deep g h left st w hd ho hc hl hk
end Pk
end Go.Proofs.YtgfgdlnlafngnaaDoor
