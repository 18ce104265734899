/- Walks: pack.put. -/
import Derived.Test.YtgfgdlnlafngnaaDoorWq
import Derived.Test.YtgfgdlnlafngnaaDoorRight
import Derived.Lib.ConvBytes
namespace Go.Proofs.YtgfgdlnlafngnaaDoor
namespace Pk
open Go.RowKit

theorem bytesWorld_below (w : World) (e : TypeId) (s : ByteArray) : Below w.heap.size w (Lib.bytesWorld w e s) := by
  refine ⟨?_, ?_, ?_, by rw [Lib.bytesWorld_size]; omega, fun k hk => Lib.bytesWorld_at_old w e s k hk⟩ <;>
    · unfold Lib.bytesWorld World.freeze
      split <;> rfl
/-- A string turned into bytes. -/
theorem bytesWorld_bs (w : World) (s : ByteArray) (h : s.size ≤ 1000) : BsAt (fun k => k = w.heap.size) (Lib.bytesWorld w 5 s) (.slice (some ⟨w.heap.size, 0, none⟩) s.size (grownCap w s.size 0 5)) s.data.toList := by
  have h1 := grownCap_ge w s.size 0 5
  have h2 := grownCap_le_maxLen w s.size 0 5 (by simp only [maxLen]; omega)
  simp only [maxLen] at h2
  have hs := size_data s
  refine ⟨_, _, by rw [hs], by omega, by omega, fun _ => ⟨_, rfl, rfl, fun j u hu => ?_⟩⟩
  have ea : (⟨w.heap.size, 0, none⟩ : Addr).add j = ⟨w.heap.size, j, none⟩ := by unfold Addr.add; split <;> simp_all
  have hj : j < s.size := by
    have := (List.getElem?_eq_some_iff.1 hu).1
    simp only [bcs, List.length_map] at this
    omega
  rw [ea, Lib.bytesWorld_cell w _ s j hj, ← hu]
  simp only [bcs, List.getElem?_map]
  rw [List.getElem?_eq_getElem (by omega)]
  simp [u8v, List.getD, hs, hj]

set_option maxRecDepth 100000 in
theorem joined_any {l t : List UInt8} {R : Option Nat} {m k : Nat} {S : Nat → Prop} {A : Option Addr} {c : Nat} {v : Value} (w : World) (hm : Mk w m l R) (hr : Rd w S A [v]) (hv : BsAt S w v t) (hS : ∀ k, S k → k ≠ m ∧ R ≠ some k)
    (hl : l.length + (num k).length + (num t.length).length + t.length ≤ 140737488355328) (ht : t.length ≤ 1048576) (hk : k ≤ 4) :
    Calls Tryd.prog 104 #[.pointer (some ⟨m, 0, none⟩), .int .i64 k, .slice A 1 c] w fun e w' => e = .returned (.tuple #[]) ∧ ∃ R', Mk w' m (l ++ (num k ++ (num t.length ++ t))) R' ∧ Kp w w' m R R' := by
  have hml := hm.lt
  go_enter Tryd.func104, Tryd.ntmps104
  go_wp2_with fail
  have hb2 := below_new w (Obj.cells #[.int .i64 k] 3)
  refine (mnum_any (ns := [k]) _ (hm.below hb2) (Rd.new rfl) (fun k hk => ?_) (by simp only [nums, List.flatMap_cons, List.flatMap_nil, List.append_nil]; omega) (by simp; omega) (by simp)).mono ?_
  · subst hk
    exact ⟨by omega, fun e => by have := hm.row _ e; omega⟩
  rintro e w3 ⟨rfl, R3, hm3, hk3⟩
  go_wp2_with fail
  have hv2 := (hv.below hb2).bound.keep (kp_keep hk3 (fun k hk => hS k hk.1))
  have hr2 := (hr.below hb2).bound.keep (kp_keep hk3 (fun k hk => hS k hk.1))
  refine (text1_any w3 hm3 hr2 hv2 (fun k hk => ⟨(hS k hk.1).1, fun e => ?_⟩) (by simp only [nums, List.flatMap_cons, List.flatMap_nil, List.append_nil, List.length_append]; omega) ht).mono ?_
  · rcases hk3.1 k e with h | h
    · exact (hS k hk.1).2 h
    · exact absurd hk.2 (by omega)
  rintro e w4 ⟨rfl, R4, hm4, hk4⟩
  go_wp2_with fail
  go_end0
  refine ⟨rfl, R4, ?_, ((Kp.of_below hb2 _ _).trans hk3).trans hk4⟩
  simpa [nums] using hm4

/-- pack.put, of a right tree. -/
def PutOk (t : Nd) : Prop := ∀ (w : World) (m : Nat) (l : List UInt8) (R : Option Nat) (S : Nat → Prop) (cs : List Value), Mk w m l R → NdAt S w t cs → (∀ k, S k → k ≠ m ∧ R ≠ some k) → allB t = true → l.length + (enc t).length ≤ 140737488355328 →
  Calls Tryd.prog 76 #[.pointer (some ⟨m, 0, none⟩), .agg cs.toArray] w fun e w' => e = .returned (.tuple #[]) ∧ ∃ R', Mk w' m (l ++ enc t) R' ∧ Kp w w' m R R'

set_option maxRecDepth 100000 in
set_option maxHeartbeats 2000000 in
theorem put_any : ∀ t, PutOk t := by
  refine Nd.ind fun k b ks ih => ?_
  intro w m l R S cs hm hn hS hall hl
  obtain ⟨A, c, B, c2, rfl⟩ := nd_form hn
  dsimp only [Nd.kind, Nd.bytes, Nd.kids] at hn ⊢
  have hml := hm.lt
  have hb1 := below_new w (Obj.cells #[.int .i64 k, .slice A b.length c, .slice B ks.length c2] 28)
  simp only [allB, Bool.and_eq_true] at hall
  by_cases hk4 : k = 4
  · subst hk4
    obtain ⟨rfl, h200, hrise⟩ := alone4 hall.1
    rw [enc, if_pos rfl] at hl
    have HE : Hid (enc (.mk 4 [] ks) = num 4 ++ (num ks.length ++ encK ks)) := by
      show _ = _
      rw [enc, if_pos rfl]
    go_enter Tryd.func76, Tryd.ntmps76
    go_wp2_with fail
    have hb2 := below_new2 w (Obj.cells #[.int .i64 4, .slice A 0 c, .slice B ks.length c2] 28) (Obj.cells #[.int .i64 4, .int .i64 ks.length] 3)
    have hN2 : ((w.alloc (Obj.cells #[.int .i64 4, .slice A 0 c, .slice B ks.length c2] 28)).alloc (Obj.cells #[.int .i64 4, .int .i64 ks.length] 3)).heap[w.heap.size]? = some (.cells #[.int .i64 4, .slice A 0 c, .slice B ks.length c2] 28 (0, 0)) := blk_new' (heap_alloc_new w _) _
    have hs1 : (w.alloc (Obj.cells #[.int .i64 4, .slice A 0 c, .slice B ks.length c2] 28)).heap.size = w.heap.size + 1 := by simp
    have hs2 : ((w.alloc (Obj.cells #[.int .i64 4, .slice A 0 c, .slice B ks.length c2] 28)).alloc (Obj.cells #[.int .i64 4, .int .i64 ks.length] 3)).heap.size = w.heap.size + 2 := by simp
    have hr2 : Rd ((w.alloc (Obj.cells #[.int .i64 4, .slice A 0 c, .slice B ks.length c2] 28)).alloc (Obj.cells #[.int .i64 4, .int .i64 ks.length] 3)) (fun k => k = w.heap.size + 1) (some ⟨w.heap.size + 1, 0, none⟩) ([4, ks.length].map fun (n : Nat) => Value.int .i64 n) := Rd.new hs1.symm
    have hm2 := hm.below hb2
    generalize (w.alloc (Obj.cells #[.int .i64 4, .slice A 0 c, .slice B ks.length c2] 28)).alloc (Obj.cells #[.int .i64 4, .int .i64 ks.length] 3) = w2 at *
    have hrow := hm.row
    have hlen : (num 4 ++ (num ks.length ++ encK ks)).length = (num 4).length + ((num ks.length).length + (encK ks).length) := by simp
    rw [hlen] at hl
    refine (mnum_any (ns := [4, ks.length]) w2 hm2 hr2 (fun k hk => ?_) (by simp only [nums, List.flatMap_cons, List.flatMap_nil, List.append_nil, List.length_append]; omega) (by simp; omega) (by simp)).mono ?_
    · subst hk
      exact ⟨by omega, fun e => by have := hrow _ e; omega⟩
    rintro e w3 ⟨rfl, R3, hm3, hk3⟩
    have hN3 := (hk3.2.block w.heap.size (by omega) (by rintro (e | e); omega; have := hrow _ e; omega)).trans hN2
    have n2 : w3.cell? ⟨w.heap.size, 2, none⟩ = some (.slice B ks.length c2) := by rw [blk_cell' hN3]; rfl
    go_wp2_with fail
    have hinv : Mk w3 m (l ++ (num 4 ++ (num ks.length ++ encK (ks.take 0)))) R3 := by simpa [nums, encK] using hm3
    have hkp3 := (Kp.of_below hb2 m R).trans hk3
    unfold NdAt at hn
    obtain ⟨_, _, _, cells, hcs, _, _, _, hrk, hks⟩ := hn
    simp only [List.cons.injEq, Value.slice.injEq, and_true, true_and] at hcs
    obtain ⟨rfl, rfl, rfl⟩ := hcs
    have hrk := hrk.bound
    have hks := KsAt.bound _ _ hks
    have HALL := Lib.hid hall
    have HRISE := Lib.hid hrise
    clear hall hrise hm3 hm2 hN2 hr2 hk3 hb2 hb1
    go_loopw [31] (fun i wr => ∃ (j : Nat) (R1 : Option Nat), j ≤ ks.length ∧ i = .int .i64 j ∧ Mk wr m (l ++ (num 4 ++ (num ks.length ++ encK (ks.take j)))) R1 ∧ Kp w wr m R R1) (fun i _ => ks.length - (intOf i).toNat)
    case atStart => exact ⟨0, R3, by omega, rfl, hinv, hkp3⟩
    case round =>
      obtain ⟨j, R1, hj, rfl, hmj, hkpj⟩ := hrel
      by_cases hlt : j < ks.length
      · obtain ⟨ad, A1, c1, B1, d1, rfl, _, x0, x1, x2, x3, hnj⟩ := kid_form (hrk.keep (kp_keep hkpj (fun k hk => hS k hk.1))) (KsAt.keep (kp_keep hkpj (fun k hk => hS k hk.1)) _ _ hks) j hlt
        have hb4 := below_new wr (Obj.cells #[.string ks[j].1, .int .i64 ks[j].2.kind, .slice A1 ks[j].2.bytes.length c1, .slice B1 ks[j].2.kids.length d1] 57)
        have hcv := Lib.run_convert_string_bytes (P := Tryd.prog) (wr.alloc (Obj.cells #[.string ks[j].1, .int .i64 ks[j].2.kind, .slice A1 ks[j].2.bytes.length c1, .slice B1 ks[j].2.kids.length d1] 57)) 9 22 5 ks[j].1 Tryd.underlying9 Tryd.underlying22 Tryd.underlying5
        have hk4 := heap_alloc_new wr (Obj.cells #[.string ks[j].1, .int .i64 ks[j].2.kind, .slice A1 ks[j].2.bytes.length c1, .slice B1 ks[j].2.kids.length d1] 57)
        go_wp2_with fail
        have hnm := name_size (rises_mem ks none HRISE.out _ (List.getElem_mem hlt))
        have htk := encK_take ks j hlt
        have hle := encK_take_le ks (j + 1)
        have hlj := congrArg List.length htk
        simp only [List.length_append, size_data] at hlj
        have HTK := Lib.hid htk
        clear htk
        have hS1 : ∀ k, (S k ∧ k < w.heap.size) → k ≠ m ∧ R1 ≠ some k := fun k hk => ⟨(hS k hk.1).1, fun e => by
          rcases hkpj.1 k e with h | h
          · exact (hS k hk.1).2 h
          · omega⟩
        have hsj : (wr.alloc (Obj.cells #[.string ks[j].1, .int .i64 ks[j].2.kind, .slice A1 ks[j].2.bytes.length c1, .slice B1 ks[j].2.kids.length d1] 57)).heap.size = wr.heap.size + 1 := by simp
        have hb5 := bytesWorld_below (wr.alloc (Obj.cells #[.string ks[j].1, .int .i64 ks[j].2.kind, .slice A1 ks[j].2.bytes.length c1, .slice B1 ks[j].2.kids.length d1] 57)) 5 ks[j].1
        have hbs5 := bytesWorld_bs (wr.alloc (Obj.cells #[.string ks[j].1, .int .i64 ks[j].2.kind, .slice A1 ks[j].2.bytes.length c1, .slice B1 ks[j].2.kids.length d1] 57)) ks[j].1 (by omega)
        have hz5 := Lib.bytesWorld_size (wr.alloc (Obj.cells #[.string ks[j].1, .int .i64 ks[j].2.kind, .slice A1 ks[j].2.bytes.length c1, .slice B1 ks[j].2.kids.length d1] 57)) 5 ks[j].1
        rw [show (wr.heap.size + 1) = (wr.alloc (Obj.cells #[.string ks[j].1, .int .i64 ks[j].2.kind, .slice A1 ks[j].2.bytes.length c1, .slice B1 ks[j].2.kids.length d1] 57)).heap.size from hsj.symm]
        generalize (wr.alloc (Obj.cells #[.string ks[j].1, .int .i64 ks[j].2.kind, .slice A1 ks[j].2.bytes.length c1, .slice B1 ks[j].2.kids.length d1] 57)) = w4 at *
        clear hcv
        generalize grownCap w4 ks[j].1.size 0 5 = gc at *
        generalize Lib.bytesWorld w4 5 ks[j].1 = w5 at *
        have hb6 := below_new w5 (Obj.cells #[.slice (some ⟨w4.heap.size, 0, none⟩) ks[j].1.size gc] 22)
        have hb46 := (hb4.via hb5).via hb6
        have hmj6 := hmj.below hb46
        have hrow := hmj.row
        have hmlj := hmj.lt
        refine (text1_any (S := fun k => k = w4.heap.size ∨ k = w5.heap.size) _ hmj6 ((Rd.new rfl).mono (fun k hk => .inr hk)) ((hbs5.below hb6).mono (fun k hk => .inl hk)) (fun k hk => ⟨by omega, fun e => by have := hrow k e; omega⟩) (by simp only [List.length_append, size_data]; omega) (by rw [size_data]; omega)).mono ?_
        rintro e w7 ⟨rfl, R7, hm7, hk7⟩
        have hk17 := (Kp.of_below hb46 m R1).trans hk7
        have hn7 := NdAt.keep (kp_keep hk17 hS1) _ _ hnj
        have hkb7 := (hk7.2.block wr.heap.size (by have := hb5.size; have := hb6.size; omega) (by rintro (e | e); omega; have := hrow _ e; omega)).trans (((hb5.via hb6).block wr.heap.size (by omega)).trans hk4)
        have y1 : w7.cell? ⟨wr.heap.size, 1, none⟩ = some (.int .i64 ks[j].2.kind) := by rw [blk_cell' hkb7]; rfl
        have y2 : w7.cell? ⟨wr.heap.size, 2, none⟩ = some (.slice A1 ks[j].2.bytes.length c1) := by rw [blk_cell' hkb7]; rfl
        have y3 : w7.cell? ⟨wr.heap.size, 3, none⟩ = some (.slice B1 ks[j].2.kids.length d1) := by rw [blk_cell' hkb7]; rfl
        have HK7 := Lib.hid hkb7
        clear hkb7 hk4 hz5 hbs5
        go_wp2_with fail
        refine (ih ks[j] (List.getElem_mem hlt) w7 m _ R7 (fun k => S k ∧ k < w.heap.size) _ hm7 hn7 (fun k hk => ⟨(hS1 k hk).1, fun e => ?_⟩) (allK_mem ks HALL.out.2 _ (List.getElem_mem hlt)) (by simp only [List.length_append, size_data]; omega)).mono ?_
        · rcases hk17.1 k e with h | h
          · exact (hS1 k hk).2 h
          · have := hkpj.2.size
            omega
        rintro e w8 ⟨rfl, R8, hm8, hk8⟩
        go_wp2_with fail
        go_roundw
        · refine ⟨j + 1, R8, by omega, rfl, ?_, (hkpj.trans hk17).trans hk8⟩
          rw [HTK.out]
          simpa only [List.append_assoc, size_data] using hm8
        · simp [intOf]; omega
      · go_wp2_with fail
        go_end0
        have e1 : ks.take j = ks := List.take_of_length_le (by omega)
        rw [e1] at hmj
        exact ⟨rfl, R1, by rw [HE.out]; exact hmj, hkpj⟩
  · obtain ⟨h1, h3, hb, rfl⟩ := alone_not4 hall.1 hk4
    obtain ⟨k', rfl⟩ : ∃ k' : Nat, k = k' := ⟨k.toNat, by omega⟩
    rw [enc, if_neg hk4] at hl ⊢
    simp only [Int.toNat_natCast, List.length_append] at hl ⊢
    unfold NdAt at hn
    obtain ⟨_, _, _, cells, hcs, hbs, _⟩ := hn
    simp only [List.cons.injEq, Value.slice.injEq, and_true, true_and] at hcs
    obtain ⟨rfl, rfl, rfl⟩ := hcs
    have hs1 : (w.alloc (Obj.cells #[.int .i64 k', .slice A b.length c, .slice B 0 c2] 28)).heap.size = w.heap.size + 1 := by simp
    have hb2 := below_new2 w (Obj.cells #[.int .i64 k', .slice A b.length c, .slice B 0 c2] 28) (Obj.cells #[.slice A b.length c] 22)
    go_enter Tryd.func76, Tryd.ntmps76
    go_wp2_with fail
    all_goals
      refine (joined_any (S := fun k => S k ∨ k = w.heap.size + 1) (k := _) _ (hm.below hb2) ((Rd.new hs1.symm).mono (fun k hk => .inr hk)) ((hbs.below hb2).mono (fun k hk => .inl hk)) (fun k hk => ?_) (by omega) (by omega) (by omega)).mono ?_
      · rcases hk with hk | hk
        · exact hS k hk
        · subst hk
          exact ⟨by omega, fun e => by have := hm.row _ e; omega⟩
      rintro e w3 ⟨rfl, R3, hm3, hk3⟩
      go_wp2_with fail
      refine bodyPost_ret (results_none rfl _ _ _) rfl ?_
      exact ⟨rfl, R3, hm3, (Kp.of_below hb2 m R).trans hk3⟩
end Pk
end Go.Proofs.YtgfgdlnlafngnaaDoor
