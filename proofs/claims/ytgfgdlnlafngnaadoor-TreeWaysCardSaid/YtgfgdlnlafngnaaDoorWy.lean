/- Walks: the iterator of strings.SplitSeq. -/
import Derived.Test.YtgfgdlnlafngnaaDoorWay
import Derived.Test.YtgfgdlnlafngnaaDoorWv
import Derived.RangeFuncNested
import Derived.RangeFuncBound
import Derived.RangeFuncCalls
import Derived.RangeFuncLeaves
import Derived.Shelf.Abstract
import Derived.Shelf.RegionOpen
import Derived.OwnWalkIn
import Derived.TacticsInMore
import Derived.LoopNIn
import Derived.LoopIn
namespace Go.Proofs.YtgfgdlnlafngnaaDoor
namespace Pk
open Go.RowKit Go.Shelf

/-- Three cells' blocks stay. -/
def Kept3 (bs bp bk : Nat) (W W' : World) : Prop := W'.heap[bs]? = W.heap[bs]? ∧ W'.heap[bp]? = W.heap[bp]? ∧ W'.heap[bk]? = W.heap[bk]?

theorem ext_take (s : ByteArray) (i : Nat) : s.extract 0 i = str (s.data.toList.take i) := by
  apply bytes_ext
  rw [str_data, ByteArray.data_extract]
  simp
theorem ext_drop (s : ByteArray) (i : Nat) : s.extract i s.size = str (s.data.toList.drop i) := by
  apply bytes_ext
  rw [str_data, ByteArray.data_extract, Array.toList_extract, List.extract_eq_take_drop]
  exact List.take_of_length_le (by rw [List.length_drop, size_data]; omega)

/-- How much is left. -/
def leftS (bs : Nat) (W : World) : Nat := match W.cell? ⟨bs, 0, none⟩ with
  | some (.string q) => q.size
  | _ => 0

set_option maxRecDepth 100000 in
set_option maxHeartbeats 1000000 in
theorem split_in (n l bs bp bk : Nat) (s : ByteArray) (J Jx : List ByteArray → World → Prop) (W : World) (hsz : s.size ≤ 4611686018427387903)
    (hJs : ∀ pre W v, J pre W → J pre (W.setCell ⟨bs, 0, none⟩ v))
    (hY : ∀ pre x W, J pre W → x.size ≤ s.size → pre.length ≤ s.size → YieldAt Fence.wide (n - 1) Tryd.prog l #[.string x] W fun e W' => (e = .returned (.bool true) ∧ J (pre ++ [x]) W' ∧ Kept3 bs bp bk W W') ∨ (e = .returned (.bool false) ∧ Jx (pre ++ [x]) W'))
    (hps : bs ≠ bp) (hks : bs ≠ bk) (hp : W.heap[bp]? = some (.cells #[.string ⟨#[47]⟩] 9 (0, 0))) (hs : W.heap[bs]? = some (.cells #[.string s] 9 (0, 0))) (hk : W.heap[bk]? = some (.cells #[.int .i64 0] 3 (0, 0))) (h0 : J [] W) :
    CallsIn Fence.wide n Tryd.prog 118 #[.func (.yield l) #[] #[], .pointer (some ⟨bp, 0, none⟩), .pointer (some ⟨bs, 0, none⟩), .pointer (some ⟨bk, 0, none⟩)] W fun e W' => (∃ v, e = .returned v) ∧
      (J ((splitB s.data.toList).map str) W' ∨ ∃ pre, pre <+: (splitB s.data.toList).map str ∧ Jx pre W') := by
  have c0 : W.cell? ⟨bp, 0, none⟩ = some (.string ⟨#[47]⟩) := by rw [blk_cell' hp]; rfl
  refine callsIn_of_wp Tryd.func118 rfl trivial ?_ rfl
  simp only [Tryd.ntmps118, List.size_toArray, List.length_cons, List.length_nil, Nat.reduceAdd, Nat.reduceSub, Array.replicate_succ, Array.replicate_zero, List.push_toArray, List.append_toArray, List.nil_append, List.cons_append]
  gi_wp2
  gi_loopw [7] (fun _ wr => ∃ (pre : List ByteArray) (q : ByteArray), (splitB s.data.toList).map str = pre ++ (splitB q.data.toList).map str ∧ q.size ≤ s.size ∧ J pre wr ∧ wr.heap[bp]? = some (.cells #[.string ⟨#[47]⟩] 9 (0, 0)) ∧
      wr.heap[bs]? = some (.cells #[.string q] 9 (0, 0)) ∧ wr.heap[bk]? = some (.cells #[.int .i64 0] 3 (0, 0))) (fun _ wr => leftS bs wr)
  case atStart => exact ⟨[], s, by simp, Nat.le_refl _, h0, hp, hs, hk⟩
  case round =>
    obtain ⟨pre, q, heq, hqs, hj, hpr, hsr, hkr⟩ := hrel
    have c0 : wr.cell? ⟨bp, 0, none⟩ = some (.string ⟨#[47]⟩) := by rw [blk_cell' hpr]; rfl
    have c1 : wr.cell? ⟨bs, 0, none⟩ = some (.string q) := by rw [blk_cell' hsr]; rfl
    have c2 : wr.cell? ⟨bk, 0, none⟩ = some (.int .i64 0) := by rw [blk_cell' hkr]; rfl
    have HE := Lib.hid heq
    have HQ := Lib.hid hsr
    clear heq
    gi_wp2
    refine ⟨trivial, fun h => (by cases h), ?_⟩
    refine (callsIn_wide.2 (Tryd.strings_Index_one q 47 _)).mono ?_
    rintro e w2 ⟨rfl, rfl⟩
    have hpl : pre.length ≤ s.size := by
      have h1 := congrArg List.length HE.out
      have h2 := split_len s.data.toList
      have h3 : 1 ≤ (splitB q.data.toList).length := List.length_pos_iff.2 (splitB_ne _)
      simp only [List.length_append, List.length_map, size_data] at h1 h2
      omega
    rcases index_nonneg q.data.toList 47 with hi | hi
    · have HS : Hid (splitB q.data.toList = [q.data.toList]) := split_none hi
      obtain ⟨fn, tmps, assign, body, hy, hR⟩ := hY pre q w2 hj hqs hpl
      rw [hi]
      have HA : Hid ((splitB s.data.toList).map str = pre ++ [q]) := by
        show _ = _
        rw [HE.out, HS.out, List.map_cons, List.map_nil, data_str]
      gi_wp2
      refine ⟨fun h => (by cases h), hR.mono ?_⟩
      rintro e W3 (⟨rfl, hJ3, _⟩ | ⟨rfl, hJx3⟩)
      · gi_wp2
        go_end0
        exact ⟨⟨_, rfl⟩, .inl (by rw [HA.out]; exact hJ3)⟩
      · gi_wp2
        go_end0
        exact ⟨⟨_, rfl⟩, .inr ⟨pre ++ [q], by rw [HA.out]; exact List.prefix_refl _, hJx3⟩⟩
    · obtain ⟨i, hii⟩ : ∃ i : Nat, Lib.indexByte q.data.toList 47 = i := ⟨(Lib.indexByte q.data.toList 47).toNat, by omega⟩
      have HS : Hid (splitB q.data.toList = q.data.toList.take i :: splitB (q.data.toList.drop (i + 1))) := split_some hii
      obtain ⟨fn, tmps, assign, body, hy, hR⟩ := hY pre (q.extract 0 i) w2 hj (by rw [ext_take, str_size, List.length_take, size_data]; omega) hpl
      have hqi : i < q.size := by rw [← size_data]; omega
      have hqi2 : (i : Int) < q.size := by omega
      have HA : Hid ((splitB s.data.toList).map str = (pre ++ [q.extract 0 i]) ++ (splitB (q.extract (i + 1) q.size).data.toList).map str) := by
        show _ = _
        rw [HE.out, HS.out, ext_take, ext_drop, str_data, List.map_cons, List.append_assoc]
        rfl
      have HZ : Hid ((q.extract (i + 1) q.size).size < q.size) := by
        show _ < _
        rw [ext_drop, str_size, List.length_drop, size_data]
        omega
      rw [hii]
      clear hii hi
      gi_wp2
      refine ⟨fun h => (by cases h), hR.mono ?_⟩
      rintro e W3 (⟨rfl, hJ3, h3s, h3p, h3k⟩ | ⟨rfl, hJx3⟩)
      · have hp3 := h3p.trans hpr
        have hs3 := h3s.trans HQ.out
        have hk3 := h3k.trans hkr
        have d0 : W3.cell? ⟨bp, 0, none⟩ = some (.string ⟨#[47]⟩) := by rw [blk_cell' hp3]; rfl
        have d1 : W3.cell? ⟨bs, 0, none⟩ = some (.string q) := by rw [blk_cell' hs3]; rfl
        have d2 := blk_frozen' hs3 0
        gi_wp2
        go_roundw
        · refine ⟨pre ++ [q.extract 0 i], q.extract (i + 1) q.size, HA.out, by have := HZ.out; omega, hJs _ _ _ hJ3, blk_far' hp3 (Ne.symm hps) _, ?_, blk_far' hk3 (Ne.symm hks) _⟩
          have := blk_set' hs3 0 (.string (q.extract (i + 1) q.size))
          exact this
        · have e1 : leftS bs w2 = q.size := by unfold leftS; rw [c1]
          have e2 : leftS bs (W3.setCell ⟨bs, 0, none⟩ (.string (q.extract (i + 1) q.size))) = (q.extract (i + 1) q.size).size := by
            unfold leftS
            rw [blk_cell' (blk_set' hs3 0 (.string (q.extract (i + 1) q.size)))]
            rfl
          rw [e1, e2]
          exact HZ.out
      · gi_wp2
        refine bodyPost_ret (results_none rfl _ _ _) rfl ?_
        exact ⟨⟨_, rfl⟩, .inr ⟨pre ++ [q.extract 0 i], by rw [HA.out]; exact List.prefix_append _ _, hJx3⟩⟩
end Pk
end Go.Proofs.YtgfgdlnlafngnaaDoor
