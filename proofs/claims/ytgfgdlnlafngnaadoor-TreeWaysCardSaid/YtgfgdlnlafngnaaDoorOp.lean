/- Reading arguments: bytes and trees. -/
import Derived.Test.YtgfgdlnlafngnaaDoorWn
import Derived.Deep.Strs
import Derived.ProofKit
namespace Go.Proofs.YtgfgdlnlafngnaaDoor
namespace Pk
open Go.RowKit Go.Deep

theorem list2 {α : Type} {l : List α} (h : l.length = 2) : ∃ a b, l = [a, b] := by
  match l, h with
  | [a, b], _ => exact ⟨a, b, rfl⟩
theorem list3 {α : Type} {l : List α} (h : l.length = 3) : ∃ a b c, l = [a, b, c] := by
  match l, h with
  | [a, b, c], _ => exact ⟨a, b, c, rfl⟩
theorem list4 {α : Type} {l : List α} (h : l.length = 4) : ∃ a b c d, l = [a, b, c, d] := by
  match l, h with
  | [a, b, c, d], _ => exact ⟨a, b, c, d, rfl⟩
section
variable {H : Type} {enc : TypeId × Value → H} {W : World} {spare : Nat → Bool} {held : Bool}
theorem cells_u8 : Tryd.prog.cellsOf 5 = 1 := by kernel_rfl
theorem cells_kid : Tryd.prog.cellsOf 57 = 4 := by kernel_rfl
theorem cells_node : Tryd.prog.cellsOf 28 = 3 := by kernel_rfl
theorem cells_str : Tryd.prog.cellsOf 9 = 1 := by kernel_rfl
theorem cells_kind : Tryd.prog.cellsOf 25 = 1 := by kernel_rfl
theorem cells_bytes : Tryd.prog.cellsOf 22 = 1 := by kernel_rfl
theorem cells_kids : Tryd.prog.cellsOf 26 = 1 := by kernel_rfl

theorem bytes_read {fuel : Nat} {cs : List Value} {x : DataW H × List MemPlace} (h : DataW.trod enc Tryd.prog W 0 spare held fuel 22 cs = some x) : ∃ v l, cs = [v] ∧ BsAt (fun _ => True) W v l := by
  rcases open_slice1 Tryd.underlying22 cells_u8 h with ⟨rfl, _⟩ | ⟨a, len, cap, m, n, V, D, Pl, rfl, _, hl, hm, hmm, _, hx⟩
  · exact ⟨_, [], rfl, BsAt.nil _ _⟩
  · have hml : len ≤ m := by rw [hmm]; split <;> omega
    have : ∀ i, i < len → ∃ c : UInt8, V i = u8v c := fun i hi => by
      obtain ⟨k, e, _, hw⟩ := DataW.trod_int Tryd.underlying5 (hx i (by omega)).2
      simp only [List.cons.injEq, and_true] at e
      simp [Lit.wf, IntKind.min, IntKind.max, IntKind.signed, IntKind.bits] at hw
      refine ⟨UInt8.ofNat k.toNat, ?_⟩
      rw [e, u8v]
      congr 1
      simp
      omega
    obtain ⟨f, hf⟩ := choose_lt (α := UInt8) (p := fun i c => V i = u8v c) this
    refine ⟨_, (List.range len).map f, rfl, some a, cap, by simp, by simpa using hl, by unfold maxLen at hm; exact hm, fun _ => ⟨a, rfl, trivial, fun j u hu => ?_⟩⟩
    obtain ⟨hj, e⟩ := List.getElem?_eq_some_iff.1 hu
    have hj2 : j < len := by simpa using hj
    rw [(hx j (by omega)).1, hf j hj2, ← e]
    simp

theorem node_read : ∀ (fuel : Nat) (cs : List Value) (x : DataW H × List MemPlace), DataW.trod enc Tryd.prog W 0 spare held fuel 28 cs = some x → ∃ t, NdAt (fun _ => True) W t cs ∧ Sz t := by
  intro fuel
  induction fuel using Nat.strongRecOn with
  | _ fuel ih =>
    intro cs x h
    obtain ⟨ys, n, hfn, _, hlen, hys, hfs⟩ := DataW.trod_struct Tryd.underlying28 h
    rw [cells_node] at hlen
    obtain ⟨c0, c1, c2, rfl⟩ := list3 hlen
    obtain ⟨y0, y1, y2, rfl⟩ := list3 hys
    · skip
      have h0 : DataW.trod enc Tryd.prog W 0 spare held n 25 (([c0, c1, c2].drop 0).take (Tryd.prog.cellsOf 25)) = some y0 := hfs 0 _ rfl
      have h1 : DataW.trod enc Tryd.prog W 0 spare held n 22 (([c0, c1, c2].drop 1).take (Tryd.prog.cellsOf 22)) = some y1 := hfs 1 _ rfl
      have h2 : DataW.trod enc Tryd.prog W 0 spare held n 26 (([c0, c1, c2].drop 2).take (Tryd.prog.cellsOf 26)) = some y2 := hfs 2 _ rfl
      rw [cells_kind] at h0
      rw [cells_bytes] at h1
      rw [cells_kids] at h2
      obtain ⟨k, e, _, _⟩ := DataW.trod_int Tryd.underlying25 h0
      obtain ⟨v, b, e1, hb⟩ := bytes_read h1
      simp only [List.drop_zero, List.take_succ_cons, List.take_zero, List.cons.injEq, and_true, List.drop_succ_cons] at e e1
      subst e
      subst e1
      simp only [List.take_succ_cons, List.take_zero, List.drop_succ_cons, List.drop_zero] at h2
      rcases DataW.trod_slice Tryd.underlying26 h2 with ⟨e, _⟩ | ⟨a, len, cap, elems, rest, n2, hn2, e, _, _, hl, hm, hel, hx, _⟩
      · simp only [List.cons.injEq, and_true] at e
        subst e
        refine ⟨.mk k b [], ?_, by unfold Sz SzK; trivial⟩
        unfold NdAt
        exact ⟨_, none, 0, [], rfl, hb, by simp, by omega, Rd.nil _ _ _, by unfold KsAt; rfl⟩
      · simp only [List.cons.injEq, and_true] at e
        subst e
        have key : ∀ m, m ≤ len → ∃ ks cells, ks.length = m ∧ KsAt (fun _ => True) W ks cells ∧ SzK ks ∧ cells.length = m * 4 ∧ ∀ j, j < m * 4 → W.cell? (a.add j) = cells[j]? := by
          intro m
          induction m with
          | zero => intro _; exact ⟨[], [], rfl, by unfold KsAt; rfl, by unfold SzK; trivial, rfl, fun j hj => by omega⟩
          | succ m ihm =>
            intro hm1
            obtain ⟨ks, cells, q1, q2, q3, q4, q5⟩ := ihm (by omega)
            have hxm := hx m (by omega)
            rw [List.getElem?_eq_getElem (by omega), cells_kid] at hxm
            obtain ⟨ce, hce, htr⟩ := Option.bind_eq_some_iff.1 hxm
            obtain ⟨_, hcl, hcc⟩ := World.cells?_some hce
            obtain ⟨zs, n3, hn3, _, _, hzs, hfz⟩ := DataW.trod_struct Tryd.underlying57 htr
            obtain ⟨e0, e1, e2, e3, rfl⟩ := list4 hcl
            obtain ⟨z0, z1, rfl⟩ := list2 hzs
            · skip
              have g0 : DataW.trod enc Tryd.prog W 0 spare held n3 9 (([e0, e1, e2, e3].drop 0).take (Tryd.prog.cellsOf 9)) = some z0 := hfz 0 _ rfl
              have g1 : DataW.trod enc Tryd.prog W 0 spare held n3 28 (([e0, e1, e2, e3].drop 1).take (Tryd.prog.cellsOf 28)) = some z1 := hfz 1 _ rfl
              rw [cells_str] at g0
              rw [cells_node] at g1
              obtain ⟨nm, e, _, hnm⟩ := DataW.trod_string Tryd.underlying9 g0
              simp only [List.drop_zero, List.take_succ_cons, List.take_zero, List.cons.injEq, and_true] at e
              subst e
              simp only [List.take_succ_cons, List.take_zero, List.drop_succ_cons, List.drop_zero] at g1
              obtain ⟨t, ht, hts⟩ := ih n3 (by omega) _ _ g1
              unfold maxLen at hnm
              refine ⟨ks ++ [(nm, t)], cells ++ (.string nm :: [e1, e2, e3]), by simp [q1], q2.snoc ht, SzK.append q3 (by unfold SzK; exact ⟨hnm, hts, by unfold SzK; trivial⟩), by simp [q4]; omega, fun j hj => ?_⟩
              rcases Nat.lt_or_ge j (m * 4) with hj2 | hj2
              · rw [List.getElem?_append_left (by omega)]
                exact q5 j hj2
              · rw [List.getElem?_append_right (by omega), q4, ← hcc (j - m * 4) (by omega), add_add']
                congr 2
                omega
        obtain ⟨ks, cells, q1, q2, q3, q4, q5⟩ := key len (Nat.le_refl _)
        refine ⟨.mk k b ks, ?_, by unfold Sz; exact q3⟩
        unfold NdAt
        unfold maxLen at hm
        refine ⟨_, some a, cap, cells, by rw [q1], hb, by omega, by omega, fun _ => ⟨a, rfl, trivial, fun j u hu => ?_⟩, q2⟩
        rw [q5 j (by rw [← q4]; exact (List.getElem?_eq_some_iff.1 hu).1), hu]
set_option maxRecDepth 100000 in
theorem node_arg {r : Reach} {b0 : Nat} {v : Value} {d : DataW H} {ps : List MemPlace} (hv : Value.okWide Tryd.prog W r b0 28 v) (h : DataW.Trod enc Tryd.prog W 0 spare held 28 v d ps) :
    ∃ cs t, v = .agg cs.toArray ∧ NdAt (fun _ => True) W t cs ∧ Sz t := by
  obtain ⟨cs, rfl, _⟩ := WideShapes.okWide_struct Tryd.underlying28 hv
  obtain ⟨fuel, hf⟩ := h
  obtain ⟨t, h1, h2⟩ := node_read fuel _ _ hf
  exact ⟨cs.toList, t, by simp, h1, h2⟩
set_option maxRecDepth 100000 in
theorem bytes_arg {r : Reach} {b0 : Nat} {v : Value} {d : DataW H} {ps : List MemPlace} (hv : Value.okWide Tryd.prog W r b0 22 v) (h : DataW.Trod enc Tryd.prog W 0 spare held 22 v d ps) :
    ∃ l, BsAt (fun _ => True) W v l := by
  obtain ⟨a, n, c, rfl⟩ := WideShapes.okWide_slice Tryd.underlying22 hv
  obtain ⟨fuel, hf⟩ := h
  obtain ⟨v', l, e, hl⟩ := bytes_read hf
  simp only [Value.cells, List.cons.injEq, and_true] at e
  subst e
  exact ⟨l, hl⟩
end
end Pk
end Go.Proofs.YtgfgdlnlafngnaaDoor
