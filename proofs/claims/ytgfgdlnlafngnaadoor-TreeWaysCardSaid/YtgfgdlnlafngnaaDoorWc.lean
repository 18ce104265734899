/- Walks: bytes cloned; a cursor's calls. -/
import Derived.Test.YtgfgdlnlafngnaaDoorWb
import Derived.Lib.BufferMore
import Derived.Lib.LazyBuf
import Derived.Laws.IdiomStrings
import Derived.Laws.BytesArg
namespace Go.Proofs.YtgfgdlnlafngnaaDoor
namespace Pk
open Go.RowKit

theorem info_u8 : (Tryd.prog.info? 5).map (fun i => (i.zero, i.size, i.bytes)) = some (some (.int .u8 0), 1, 1) := by kernel_rfl

/-- 'string(b)' where b reads as l. -/
theorem conv_str {S : Nat → Prop} {v : Value} {l : List UInt8} {w : World} (h : BsAt S w v l) : (convert 22 9 v).run Tryd.prog w = .ok (.string (str l)) w := by
  obtain ⟨A, c, rfl, _, _, hr⟩ := h
  cases A with
  | none =>
    have hn : l = [] := by
      apply Classical.byContradiction
      intro h
      obtain ⟨ad, h, _⟩ := hr (by simpa using h)
      cases h
    subst hn
    exact run_convert_bytes_nil w 22 5 Tryd.underlying22 Tryd.underlying5 0 c 9 Tryd.underlying9
  | some ad =>
    refine run_convert_bytes_back w 22 9 5 ad c l Tryd.underlying22 Tryd.underlying5 Tryd.underlying9 (fun j hj => ?_)
    obtain ⟨ad', e, _, hc⟩ := hr.at_ (j := j) (by simpa using hj)
    injection e with e
    subst e
    rw [hc, bcs_get]

set_option maxHeartbeats 400000 in
theorem clone_any {S : Nat → Prop} {v : Value} {l : List UInt8} (w : World) (h : BsAt S w v l) (hl : l.length ≤ 140737488355328) :
    Calls Tryd.prog 68 #[v] w fun e w' => (∃ v', e = .returned v' ∧ BsAt (fun k => w.heap.size ≤ k) w' v' l) ∧ Below w.heap.size w w' := by
  obtain ⟨A, c, rfl, h1, h2, hr⟩ := h
  obtain ⟨i0, hi0, hz0, hz1, hz2⟩ := info_parts info_u8
  cases A with
  | none =>
    have hn : l = [] := by
      apply Classical.byContradiction
      intro h
      obtain ⟨ad, h, _⟩ := hr (by simpa using h)
      cases h
    subst hn
    have hq := fun (w : World) => Lib.run_eql_slice_nil_nil (P := Tryd.prog) w (t := 22) 0 c Tryd.underlying22
    go_enter Tryd.func68, Tryd.ntmps68
    go_wp2
    go_ret
    exact ⟨⟨_, rfl, BsAt.nil _ _⟩, Below.refl _ _⟩
  | some ad =>
    have hq := fun (w : World) => Lib.run_eql_slice_nil (P := Tryd.prog) w 22 5 (some ad) l.length c 0 0 Tryd.underlying22
    go_enter Tryd.func68, Tryd.ntmps68
    have hb0 := below_new w (Obj.cells #[] 5)
    go_wp2_with (at_builtin; refine wpList_append_rd _ rfl (.tmp 5) (.tmp 6) 22 rfl w.heap.size 5 i0 _ 1 1 Tryd.underlying22 hi0 hz0 hz1 hz2 rfl (by omega) (.slice (some ⟨w.heap.size, 0, none⟩) 0 0) 0 [] rfl (World.ownsRow_lit w #[] 0 (Nat.le_refl _) (by omega) rfl) (some ad) l.length c (bcs l) rfl (by simp) (hr.below hb0) (bcs_one l) (by simp only [maxLen]; omega) (by omega) (by simp) ?_; intro v1 w1 hown1 hg1 hat1)
    go_ret
    have hbl : Below w.heap.size w w1 := hb0.grown hg1 (by simp) (by simp [Value.ownBlock])
    simp only [Nat.zero_add, List.nil_append] at hown1
    exact ⟨⟨_, rfl, (BsAt.of_own hown1).mono fun k hk => hk.2⟩, hbl⟩
end Pk
end Go.Proofs.YtgfgdlnlafngnaaDoor
