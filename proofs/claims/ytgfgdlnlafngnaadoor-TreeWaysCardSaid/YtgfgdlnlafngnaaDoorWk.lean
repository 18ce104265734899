/- Walks: the table of kinds. -/
import Derived.Test.YtgfgdlnlafngnaaDoorWj
import Derived.MapKept
import Derived.Carry
namespace Go.Proofs.YtgfgdlnlafngnaaDoor
namespace Pk
open Go.RowKit Go.MapKept

/-- The table of kinds in memory. -/
def kindsObj : Obj :=
  .map #[⟨.int .i64 1, .agg #[.int .i64 0, .int .i64 2048, .bool false], 0⟩, ⟨.int .i64 2, .agg #[.int .i64 0, .int .i64 2048, .bool false], 1⟩,
    ⟨.int .i64 3, .agg #[.int .i64 1, .int .i64 200, .bool false], 2⟩, ⟨.int .i64 4, .agg #[.int .i64 0, .int .i64 0, .bool true], 3⟩] 4

theorem push_set {α : Type} (a : Array α) (x y : α) : (a.push x).setIfInBounds a.size y = a.push y := by
  apply Array.ext_getElem?
  intro i
  rw [Array.getElem?_setIfInBounds]
  simp only [Array.getElem?_push, Array.size_push]
  split
  · subst_vars
    simp
  · rw [if_neg (by omega), if_neg (by omega)]
/-- A new key is stored into the map that was made last. -/
theorem run_insert_last {P : Program} {t kt et : TypeId} {K : IntKind} (w : World) (es : Array MapEntry) (clock : Nat) (i : Int) (v : Value) (ht : P.underlying t = some (.map kt et)) (hk : P.underlying kt = some (.int K))
    (hn : Instr.findNow (.int K) (.int K i) es.toList 0 = some none) {n : Nat} (hs : n = w.heap.size) :
    (Instr.mapUpdate t (.map (some n)) (.int K i) v).run P (w.alloc (.map es clock)) = .ok () (w.alloc (.map (es.push ⟨.int K i, v, clock⟩) (clock + 1))) := by
  subst hs
  have hb : (w.alloc (.map es clock)).heap[w.heap.size]? = some (.map es clock) := heap_alloc_new w _
  unfold Instr.mapUpdate
  simp only [Sem.run_bind, run_underlying ht, Result.andThen_ok, MapKept.run_getObj_map hb, MapKept.run_checkKey hk (show IsKey (.int K) (.int K i) from rfl), MapKept.run_findKey hk hn, MapKept.run_setObj_map _ hb]
  exact congrArg (fun h => Result.ok () { w with heap := h }) (show (w.heap.push (Obj.map es clock)).setIfInBounds w.heap.size (Obj.map (es.push ⟨.int K i, v, clock⟩) (clock + 1)) = w.heap.push _ from push_set _ _ _)
theorem run_lookup_int {P : Program} {t kt et : TypeId} {K : IntKind} {w : World} {r : Nat} {es : Array MapEntry} {clock : Nat} (i : Int) (ht : P.underlying t = some (.map kt et)) (hk : P.underlying kt = some (.int K)) (h : w.heap[r]? = some (.map es clock)) {z : Value} {info : TypeInfo}
    (he : P.info? et = some info) (hz : info.zero = some z) {a : Option (Nat × Value)} (hn : Instr.findNow (.int K) (.int K i) es.toList 0 = some a) :
    (Instr.lookup t (.map (some r)) (.int K i) true).run P w = .ok (.tuple #[(a.map (·.2)).getD z, .bool a.isSome]) w := by
  unfold Instr.lookup
  cases a with
  | none => simp [Sem.run_bind, run_underlying ht, MapKept.run_getObj_map h, MapKept.run_checkKey hk (show IsKey (.int K) (.int K i) from rfl), MapKept.run_findKey hk hn, zeroValue, typeInfo, he, hz]
  | some x => simp [Sem.run_bind, run_underlying ht, MapKept.run_getObj_map h, MapKept.run_checkKey hk (show IsKey (.int K) (.int K i) from rfl), MapKept.run_findKey hk hn]

theorem und_kinds : Tryd.prog.underlying 91 = some (.map 25 132) := by kernel_rfl

theorem und_kind : Tryd.prog.underlying 25 = some (.int .i64) := by kernel_rfl

set_option maxRecDepth 100000 in
theorem kinds_any (w : World) : Calls Tryd.prog 81 #[] w fun e w' => ∃ r, e = .returned (.map (some r)) ∧ w'.heap[r]? = some kindsObj ∧ Below w.heap.size w w' ∧ w.heap.size ≤ r := by
  have hmm := @run_makeMap Tryd.prog
  have hi0 := run_insert_last (P := Tryd.prog) (w.alloc (.cells #[.int .i64 0, .int .i64 2048, .bool false] 132)) #[] 0 1 (.agg #[.int .i64 0, .int .i64 2048, .bool false]) und_kinds und_kind rfl (n := w.heap.size + 1) (Array.size_push _).symm
  have hi1 := run_insert_last (P := Tryd.prog) (w.alloc (.cells #[.int .i64 0, .int .i64 2048, .bool false] 132)) #[⟨.int .i64 1, .agg #[.int .i64 0, .int .i64 2048, .bool false], 0⟩] 1 2 (.agg #[.int .i64 0, .int .i64 2048, .bool false]) und_kinds und_kind rfl (n := w.heap.size + 1) (Array.size_push _).symm
  have hi2 := run_insert_last (P := Tryd.prog) (w.alloc (.cells #[.int .i64 0, .int .i64 2048, .bool false] 132)) #[⟨.int .i64 1, .agg #[.int .i64 0, .int .i64 2048, .bool false], 0⟩, ⟨.int .i64 2, .agg #[.int .i64 0, .int .i64 2048, .bool false], 1⟩] 2 3 (.agg #[.int .i64 1, .int .i64 200, .bool false]) und_kinds und_kind rfl (n := w.heap.size + 1) (Array.size_push _).symm
  have hi3 := run_insert_last (P := Tryd.prog) (w.alloc (.cells #[.int .i64 0, .int .i64 2048, .bool false] 132)) #[⟨.int .i64 1, .agg #[.int .i64 0, .int .i64 2048, .bool false], 0⟩, ⟨.int .i64 2, .agg #[.int .i64 0, .int .i64 2048, .bool false], 1⟩, ⟨.int .i64 3, .agg #[.int .i64 1, .int .i64 200, .bool false], 2⟩] 3 4 (.agg #[.int .i64 0, .int .i64 0, .bool true]) und_kinds und_kind rfl (n := w.heap.size + 1) (Array.size_push _).symm
  simp only [List.push_toArray, List.cons_append, List.nil_append, Nat.zero_add, Nat.reduceAdd] at hi0 hi1 hi2 hi3
  go_enter Tryd.func81, Tryd.ntmps81
  go_wp2_with fail
  go_ret
  have h := heap_alloc_new (w.alloc (.cells #[.int .i64 0, .int .i64 2048, .bool false] 132)) kindsObj
  rw [show (w.alloc (.cells #[.int .i64 0, .int .i64 2048, .bool false] 132)).heap.size = w.heap.size + 1 from Array.size_push _] at h
  exact ⟨_, rfl, h, below_new2 _ _ _, by omega⟩
end Pk
end Go.Proofs.YtgfgdlnlafngnaaDoor
