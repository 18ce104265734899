/- Words for memory: rows of cells that are read, trees in memory, an append onto a row of the call's own. -/
import Derived.Below
import Derived.Laws.OwnMore
import Derived.Deep.AppendLies
import Derived.Deep.Draws
import Derived.Maps.AppendAt
import Derived.OwnWalk
import Derived.Test.YtgfgdlnlafngnaaDoorPure
namespace Go.Proofs.YtgfgdlnlafngnaaDoor
namespace Pk
open Go.RowKit

theorem blk_add (a : Addr) (n : Nat) : (a.add n).block = a.block := by unfold Addr.add; split <;> rfl
theorem add_add' (a : Addr) (i j : Nat) : (a.add i).add j = a.add (i + j) := by
  unfold Addr.add
  by_cases hi : i = 0 <;> by_cases hj : j = 0 <;> simp [hi, hj, Nat.add_assoc]
theorem lt_of_cell {w : World} {a : Addr} {v : Value} (h : w.cell? a = some v) : a.block < w.heap.size := by
  rcases Nat.lt_or_ge a.block w.heap.size with hl | hl
  · exact hl
  · unfold World.cell? at h
    rw [Array.getElem?_eq_none hl] at h
    cases h

/-- A row of cells that is read, in a block of which S is so; nothing is asked of an empty one. -/
def Rd (w : World) (S : Nat → Prop) (A : Option Addr) (cs : List Value) : Prop :=
  cs ≠ [] → ∃ ad, A = some ad ∧ S ad.block ∧ ∀ (j : Nat) u, cs[j]? = some u → w.cell? (ad.add j) = some u

/-- The blocks of which S is so stay. -/
def Stays (S : Nat → Prop) (w w' : World) : Prop := ∀ k, S k → k < w.heap.size → w'.heap[k]? = w.heap[k]?

section
variable {w w' : World} {S S' : Nat → Prop} {A : Option Addr} {cs : List Value}
theorem Rd.nil (w : World) (S : Nat → Prop) (A : Option Addr) : Rd w S A [] := fun h => absurd rfl h
theorem Rd.at_ (h : Rd w S A cs) {j : Nat} (hj : j < cs.length) : ∃ ad, A = some ad ∧ S ad.block ∧ w.cell? (ad.add j) = some cs[j] := by
  obtain ⟨ad, e, hs, hc⟩ := h (fun e => by subst e; simp at hj)
  exact ⟨ad, e, hs, hc j _ (List.getElem?_eq_getElem hj)⟩
theorem Rd.mono (h : Rd w S A cs) (hS : ∀ k, S k → S' k) : Rd w S' A cs := fun hn =>
  let ⟨ad, e, hs, hc⟩ := h hn
  ⟨ad, e, hS _ hs, hc⟩
theorem Rd.keep (h : Rd w S A cs) (hk : Stays S w w') : Rd w' S A cs := fun hn => by
  obtain ⟨ad, e, hs, hc⟩ := h hn
  refine ⟨ad, e, hs, fun j u hu => ?_⟩
  have hcj := hc j u hu
  have hl := lt_of_cell hcj
  rw [← hcj]
  exact World.cell?_of_block (hk _ (by rw [blk_add]; exact hs) hl)
/-- A row that is read lies in a block that there is. -/
theorem Rd.bound (h : Rd w S A cs) : Rd w (fun k => S k ∧ k < w.heap.size) A cs := fun hn => by
  obtain ⟨ad, e, hs, hc⟩ := h hn
  obtain ⟨x, r, rfl⟩ : ∃ x r, cs = x :: r := by
    cases cs with
    | nil => exact absurd rfl hn
    | cons x r => exact ⟨x, r, rfl⟩
  have := lt_of_cell (hc 0 x rfl)
  rw [blk_add] at this
  exact ⟨ad, e, ⟨hs, this⟩, hc⟩
theorem Rd.drop (h : Rd w S A cs) {n k cap size : Nat} (hl : cs.length = n * size) (hc : n ≤ cap) :
    Rd w S (if cap = k then A else A.map (·.add (k * size))) (cs.drop (k * size)) := fun hn => by
  have hlt : k < n := by
    rcases Nat.lt_or_ge k n with h1 | h1
    · exact h1
    · exfalso
      apply hn
      rw [List.drop_eq_nil_iff, hl]
      exact Nat.mul_le_mul_right _ h1
  obtain ⟨ad, rfl, hs, hcell⟩ := h (fun e => by subst e; simp at hn)
  rw [if_neg (by omega)]
  refine ⟨ad.add (k * size), rfl, by rw [blk_add]; exact hs, fun j u hu => ?_⟩
  rw [add_add']
  exact hcell _ u (by rw [← hu, List.getElem?_drop])
theorem Rd.take (h : Rd w S A cs) (m : Nat) : Rd w S A (cs.take m) := fun hn => by
  obtain ⟨ad, e, hs, hc⟩ := h (fun e => by subst e; simp at hn)
  refine ⟨ad, e, hs, fun j u hu => hc j u ?_⟩
  rw [List.getElem?_take] at hu
  split at hu
  · exact hu
  · cases hu
theorem Stays.refl (S : Nat → Prop) (w : World) : Stays S w w := fun _ _ _ => rfl
theorem Stays.of_below (h : Below w.heap.size w w') : Stays S w w' := fun k _ hk => h.block k hk
theorem Stays.of_grown {row : Option Nat} (h : w.grownBy w' row) (hS : ∀ k, S k → some k ≠ row) : Stays S w w' := fun k hs hk => h.block k hk (hS k hs)
theorem Stays.trans {w2 : World} (h : Stays S w w') (h2 : Stays S w' w2) (hl : w.heap.size ≤ w'.heap.size) : Stays S w w2 := fun k hs hk =>
  (h2 k hs (by omega)).trans (h k hs hk)
theorem Stays.mono (h : Stays S w w') (hS : ∀ k, S' k → S k) : Stays S' w w' := fun k hs hk => h k (hS k hs) hk
theorem Stays.alloc (w : World) (o : Obj) : Stays S w (w.alloc o) := fun k _ hk => Below.heap_alloc w o k hk
theorem Stays.set {p : Addr} (hS : ∀ k, S k → k ≠ p.block) (u : Value) : Stays S w (w.setCell p u) := fun k hs _ => Below.heap_setCell w p u k (hS k hs)
theorem Rd.of_own {base : Nat} {e : TypeId} {size n c : Nat} (h : w.ownsRow base e size (.slice A n c) n cs) : Rd w (fun k => A.map (·.block) = some k ∧ base ≤ k) A cs := fun hn => by
  rcases h.2 with ⟨h0, h1⟩ | ⟨g, cap, cur, hv, hg, _⟩
  · subst h1
    have := h.1
    simp at this
    exact absurd this hn
  · simp only [Value.slice.injEq, true_and] at hv
    obtain ⟨rfl, rfl⟩ := hv
    refine ⟨_, rfl, ⟨rfl, hg⟩, fun j u hu => ?_⟩
    have hj : j < cs.length := (List.getElem?_eq_some_iff.1 hu).1
    have ea : (⟨g, 0, none⟩ : Addr).add j = ⟨g, j, none⟩ := by unfold Addr.add; split <;> simp_all
    rw [ea]
    exact (h.cellAt j (by rw [← h.1]; exact hj)).trans hu
end

/-- A byte's cell. -/
abbrev u8v (c : UInt8) : Value := .int .u8 (c.toNat : Int)
abbrev bcs (l : List UInt8) : List Value := l.map u8v

/-- A slice of bytes that reads as a list. -/
def BsAt (S : Nat → Prop) (w : World) (v : Value) (l : List UInt8) : Prop :=
  ∃ A c, v = .slice A l.length c ∧ l.length ≤ c ∧ c ≤ 9223372036854775807 ∧ Rd w S A (bcs l)

mutual
/-- Cells that read as a tree. -/
def NdAt (S : Nat → Prop) (w : World) : Nd → List Value → Prop
  | .mk k b ks, cs => ∃ vb B d cells, cs = [.int .i64 k, vb, .slice B ks.length d] ∧ BsAt S w vb b ∧ ks.length ≤ d ∧ d ≤ 9223372036854775807 ∧ Rd w S B cells ∧ KsAt S w ks cells
/-- Cells that read as kids. -/
def KsAt (S : Nat → Prop) (w : World) : List (ByteArray × Nd) → List Value → Prop
  | [], cs => cs = []
  | (nm, t) :: r, cs => ∃ c1 c2, cs = .string nm :: (c1 ++ c2) ∧ NdAt S w t c1 ∧ KsAt S w r c2
end

section
variable {w w' : World} {S S' : Nat → Prop}
theorem BsAt.keep {v : Value} {l : List UInt8} (h : BsAt S w v l) (hk : Stays S w w') : BsAt S w' v l := by
  obtain ⟨A, c, e, h1, h2, h3⟩ := h
  exact ⟨A, c, e, h1, h2, h3.keep hk⟩
theorem BsAt.mono {v : Value} {l : List UInt8} (h : BsAt S w v l) (hS : ∀ k, S k → S' k) : BsAt S' w v l := by
  obtain ⟨A, c, e, h1, h2, h3⟩ := h
  exact ⟨A, c, e, h1, h2, h3.mono hS⟩
theorem BsAt.nil (S : Nat → Prop) (w : World) : BsAt S w (.slice none 0 0) [] := ⟨none, 0, rfl, by simp, by omega, Rd.nil _ _ _⟩
theorem NdAt.len {t : Nd} {cs : List Value} (h : NdAt S w t cs) : cs.length = 3 := by
  cases t
  unfold NdAt at h
  obtain ⟨vb, B, d, cells, rfl, _⟩ := h
  rfl
mutual
theorem NdAt.keep (hk : Stays S w w') : ∀ (t : Nd) (cs : List Value), NdAt S w t cs → NdAt S w' t cs
  | .mk k b ks, cs, h => by
    unfold NdAt at h ⊢
    obtain ⟨vb, B, d, cells, rfl, h1, h2, h3, h4, h5⟩ := h
    exact ⟨vb, B, d, cells, rfl, h1.keep hk, h2, h3, h4.keep hk, KsAt.keep hk ks cells h5⟩
theorem KsAt.keep (hk : Stays S w w') : ∀ (ks : List (ByteArray × Nd)) (cs : List Value), KsAt S w ks cs → KsAt S w' ks cs
  | [], cs, h => by
    unfold KsAt at h ⊢
    exact h
  | (nm, t) :: r, cs, h => by
    unfold KsAt at h ⊢
    obtain ⟨c1, c2, rfl, h1, h2⟩ := h
    exact ⟨c1, c2, rfl, NdAt.keep hk t c1 h1, KsAt.keep hk r c2 h2⟩
end
mutual
theorem NdAt.mono (hS : ∀ k, S k → S' k) : ∀ (t : Nd) (cs : List Value), NdAt S w t cs → NdAt S' w t cs
  | .mk k b ks, cs, h => by
    unfold NdAt at h ⊢
    obtain ⟨vb, B, d, cells, rfl, h1, h2, h3, h4, h5⟩ := h
    exact ⟨vb, B, d, cells, rfl, h1.mono hS, h2, h3, h4.mono hS, KsAt.mono hS ks cells h5⟩
theorem KsAt.mono (hS : ∀ k, S k → S' k) : ∀ (ks : List (ByteArray × Nd)) (cs : List Value), KsAt S w ks cs → KsAt S' w ks cs
  | [], cs, h => by
    unfold KsAt at h ⊢
    exact h
  | (nm, t) :: r, cs, h => by
    unfold KsAt at h ⊢
    obtain ⟨c1, c2, rfl, h1, h2⟩ := h
    exact ⟨c1, c2, rfl, NdAt.mono hS t c1 h1, KsAt.mono hS r c2 h2⟩
end
theorem KsAt.len : ∀ {ks : List (ByteArray × Nd)} {cs : List Value}, KsAt S w ks cs → cs.length = ks.length * 4
  | [], cs, h => by
    unfold KsAt at h
    subst h
    rfl
  | (nm, t) :: r, cs, h => by
    unfold KsAt at h
    obtain ⟨c1, c2, rfl, h1, h2⟩ := h
    have := h1.len
    have := h2.len
    simp only [List.length_cons, List.length_append]
    omega
/-- The i-th kid's cells. -/
theorem KsAt.get : ∀ {ks : List (ByteArray × Nd)} {cs : List Value} (_ : KsAt S w ks cs) (i : Nat) (hi : i < ks.length),
    ∃ v0 v1 v2, cs[i * 4]? = some (.string ks[i].1) ∧ cs[i * 4 + 1]? = some v0 ∧ cs[i * 4 + 2]? = some v1 ∧ cs[i * 4 + 3]? = some v2 ∧ NdAt S w ks[i].2 [v0, v1, v2]
  | [], _, _, i, hi => by simp at hi
  | (nm, t) :: r, cs, h, i, hi => by
    unfold KsAt at h
    obtain ⟨c1, c2, rfl, h1, h2⟩ := h
    have hl := h1.len
    match c1, hl with
    | [v0, v1, v2], _ =>
      cases i with
      | zero => exact ⟨v0, v1, v2, by simp, by simp, by simp, by simp, h1⟩
      | succ i =>
        obtain ⟨u0, u1, u2, e0, e1, e2, e3, hn⟩ := KsAt.get h2 i (by simpa using hi)
        refine ⟨u0, u1, u2, ?_, ?_, ?_, ?_, by simpa using hn⟩
        · rw [show (i + 1) * 4 = i * 4 + 4 from by omega]; simpa using e0
        · rw [show (i + 1) * 4 + 1 = i * 4 + 1 + 4 from by omega]; simpa using e1
        · rw [show (i + 1) * 4 + 2 = i * 4 + 2 + 4 from by omega]; simpa using e2
        · rw [show (i + 1) * 4 + 3 = i * 4 + 3 + 4 from by omega]; simpa using e3
theorem KsAt.snoc : ∀ {ks : List (ByteArray × Nd)} {cs : List Value} (_ : KsAt S w ks cs) {nm : ByteArray} {t : Nd} {c : List Value} (_ : NdAt S w t c),
    KsAt S w (ks ++ [(nm, t)]) (cs ++ (.string nm :: c))
  | [], cs, h, nm, t, c, hc => by
    unfold KsAt at h
    subst h
    simp only [List.nil_append]
    unfold KsAt
    exact ⟨c, [], by simp, hc, by unfold KsAt; rfl⟩
  | (nm', t') :: r, cs, h, nm, t, c, hc => by
    unfold KsAt at h
    obtain ⟨c1, c2, rfl, h1, h2⟩ := h
    rw [List.cons_append]
    unfold KsAt
    exact ⟨c1, c2 ++ (.string nm :: c), by simp, h1, h2.snoc hc⟩
end
mutual
theorem NdAt.bound {S : Nat → Prop} {w : World} : ∀ (t : Nd) (cs : List Value), NdAt S w t cs → NdAt (fun k => S k ∧ k < w.heap.size) w t cs
  | .mk k b ks, cs, h => by
    unfold NdAt at h ⊢
    obtain ⟨vb, B, d, cells, rfl, ⟨A, c, e, g1, g2, g3⟩, h2, h3, h4, h5⟩ := h
    exact ⟨vb, B, d, cells, rfl, ⟨A, c, e, g1, g2, g3.bound⟩, h2, h3, h4.bound, KsAt.bound ks cells h5⟩
theorem KsAt.bound {S : Nat → Prop} {w : World} : ∀ (ks : List (ByteArray × Nd)) (cs : List Value), KsAt S w ks cs → KsAt (fun k => S k ∧ k < w.heap.size) w ks cs
  | [], cs, h => by
    unfold KsAt at h ⊢
    exact h
  | (nm, t) :: r, cs, h => by
    unfold KsAt at h ⊢
    obtain ⟨c1, c2, rfl, h1, h2⟩ := h
    exact ⟨c1, c2, rfl, NdAt.bound t c1 h1, KsAt.bound r c2 h2⟩
end
theorem BsAt.bound {S : Nat → Prop} {w : World} {v : Value} {l : List UInt8} (h : BsAt S w v l) : BsAt (fun k => S k ∧ k < w.heap.size) w v l := by
  obtain ⟨A, c, e, g1, g2, g3⟩ := h
  exact ⟨A, c, e, g1, g2, g3.bound⟩
/-- Of the blocks that there were only those of which T is so may have turned. -/
structure Chs (T : Nat → Prop) (w w' : World) : Prop where
  os : w'.os = w.os
  tape : w'.tape = w.tape
  output : w'.output = w.output
  size : w.heap.size ≤ w'.heap.size
  block : ∀ k, k < w.heap.size → ¬ T k → w'.heap[k]? = w.heap[k]?
theorem Chs.refl (T : Nat → Prop) (w : World) : Chs T w w := ⟨rfl, rfl, rfl, Nat.le_refl _, fun _ _ _ => rfl⟩
theorem Chs.trans {T : Nat → Prop} {a b c : World} (h : Chs T a b) (k : Chs T b c) : Chs T a c :=
  ⟨k.os.trans h.os, k.tape.trans h.tape, k.output.trans h.output, Nat.le_trans h.size k.size, fun i hi ht => (k.block i (Nat.lt_of_lt_of_le hi h.size) ht).trans (h.block i hi ht)⟩
theorem Chs.of_below {T : Nat → Prop} {w w' : World} (h : Below w.heap.size w w') : Chs T w w' := ⟨h.os, h.tape, h.output, h.size, fun k hk _ => h.block k hk⟩
theorem Chs.of_grown {T : Nat → Prop} {w w' : World} {row : Option Nat} (h : w.grownBy w' row) (hT : ∀ k, row = some k → T k) : Chs T w w' :=
  ⟨h.os, h.tape, h.output, h.size, fun k hk ht => h.block k hk (fun e => ht (hT k e.symm))⟩
theorem Chs.set {T : Nat → Prop} (w : World) (p : Addr) (v : Value) (hT : T p.block) : Chs T w (w.setCell p v) :=
  ⟨rfl, rfl, rfl, by simp [World.setCell], fun k _ ht => Below.heap_setCell w p v k (fun e => ht (by rw [e]; exact hT))⟩
theorem Chs.mono {T T' : Nat → Prop} {w w' : World} (h : Chs T w w') (hT : ∀ k, k < w.heap.size → T k → T' k) : Chs T' w w' :=
  ⟨h.os, h.tape, h.output, h.size, fun k hk ht => h.block k hk (fun t => ht (hT k hk t))⟩
theorem Chs.below {T : Nat → Prop} {w w' : World} (h : Chs T w w') (hT : ∀ k, k < w.heap.size → ¬ T k) : Below w.heap.size w w' := ⟨h.os, h.tape, h.output, h.size, fun k hk => h.block k hk (hT k hk)⟩
theorem Chs.stays {T S : Nat → Prop} {w w' : World} (h : Chs T w w') (hS : ∀ k, S k → k < w.heap.size → ¬ T k) : Stays S w w' := fun k hs hk => h.block k hk (hS k hs hk)
/-- A store of what is there turns nothing. -/
theorem set_same {w : World} {g i : Nat} {t : TypeId} {cs : Array Value} {fr : Nat × Nat} {v : Value} (h : w.heap[g]? = some (.cells cs t fr)) (hv : cs[i]? = some v) : w.setCell ⟨g, i, none⟩ v = w := by
  obtain ⟨hl, hh⟩ := Array.getElem?_eq_some_iff.1 h
  obtain ⟨hl2, hv2⟩ := Array.getElem?_eq_some_iff.1 hv
  have hc : cs.setIfInBounds i v = cs := by
    rw [Array.setIfInBounds, dif_pos hl2, ← hv2]
    simp
  cases w with
  | mk heap tape drawn os output =>
    have h' : heap[g]? = some (.cells cs t fr) := h
    simp only [World.setCell]
    congr 1
    apply Array.ext_getElem?
    intro j
    rw [Array.getElem?_modify]
    by_cases e : g = j
    · subst e
      rw [if_pos rfl, h']
      simp [hc]
    · rw [if_neg e]
theorem set3_same {w : World} {g : Nat} {t : TypeId} {x y z : Value} {fr : Nat × Nat} (h : w.heap[g]? = some (.cells #[x, y, z] t fr)) :
    ((w.setCell ⟨g, 0, none⟩ x).setCell ⟨g, 1, none⟩ y).setCell ⟨g, 2, none⟩ z = w := by
  rw [set_same h rfl, set_same h rfl, set_same h rfl]
theorem add_field' (ad : Addr) (m j : Nat) (hj : 0 < j) : ad.add (m + j) = ⟨(ad.add m).block, (ad.add m).off + j, none⟩ := by
  unfold Addr.add
  rw [if_neg (by omega)]
  split
  · subst_vars
    simp
  · simp [Nat.add_assoc]
/-- The k-th kid's cells, as a walk reckons their places. -/
theorem kid_cells {S : Nat → Prop} {w : World} {A : Option Addr} {ca : List Value} {ks : List (ByteArray × Nd)} (hr : Rd w S A ca) (ha : KsAt S w ks ca) (k : Nat) (hlt : k < ks.length) :
    ∃ ad v0 v1 v2, A = some ad ∧ S ad.block ∧ w.cell? (ad.add (k * 4)) = some (.string ks[k].1) ∧ w.cell? ⟨(ad.add (k * 4)).block, (ad.add (k * 4)).off + 1, none⟩ = some v0 ∧
      w.cell? ⟨(ad.add (k * 4)).block, (ad.add (k * 4)).off + 2, none⟩ = some v1 ∧ w.cell? ⟨(ad.add (k * 4)).block, (ad.add (k * 4)).off + 3, none⟩ = some v2 ∧ NdAt S w ks[k].2 [v0, v1, v2] := by
  obtain ⟨v0, v1, v2, e0, e1, e2, e3, hn⟩ := ha.get k hlt
  obtain ⟨ad, rfl, hs, hca⟩ := hr (fun e => by rw [e] at e0; simp at e0)
  refine ⟨ad, v0, v1, v2, rfl, hs, hca _ _ e0, ?_, ?_, ?_, hn⟩
  · rw [← add_field' _ _ _ (by omega)]; exact hca _ _ e1
  · rw [← add_field' _ _ _ (by omega)]; exact hca _ _ e2
  · rw [← add_field' _ _ _ (by omega)]; exact hca _ _ e3
theorem nd_form {S : Nat → Prop} {w : World} {t : Nd} {cs : List Value} (h : NdAt S w t cs) : ∃ A c B d, cs = [.int .i64 t.kind, .slice A t.bytes.length c, .slice B t.kids.length d] := by
  obtain ⟨k, b, ks⟩ := t
  unfold NdAt at h
  obtain ⟨vb, B, d, cells, rfl, ⟨A, c, rfl, _⟩, _⟩ := h
  exact ⟨A, c, B, d, rfl⟩
/-- The k-th kid's cells, written out. -/
theorem kid_form {S : Nat → Prop} {w : World} {A : Option Addr} {ca : List Value} {ks : List (ByteArray × Nd)} (hr : Rd w S A ca) (ha : KsAt S w ks ca) (k : Nat) (hlt : k < ks.length) :
    ∃ ad A1 c1 B1 d1, A = some ad ∧ S ad.block ∧ w.cell? (ad.add (k * 4)) = some (.string ks[k].1) ∧ w.cell? ⟨(ad.add (k * 4)).block, (ad.add (k * 4)).off + 1, none⟩ = some (.int .i64 ks[k].2.kind) ∧
      w.cell? ⟨(ad.add (k * 4)).block, (ad.add (k * 4)).off + 2, none⟩ = some (.slice A1 ks[k].2.bytes.length c1) ∧ w.cell? ⟨(ad.add (k * 4)).block, (ad.add (k * 4)).off + 3, none⟩ = some (.slice B1 ks[k].2.kids.length d1) ∧
      NdAt S w ks[k].2 [.int .i64 ks[k].2.kind, .slice A1 ks[k].2.bytes.length c1, .slice B1 ks[k].2.kids.length d1] := by
  obtain ⟨ad, v0, v1, v2, e, hs, h0, h1, h2, h3, hn⟩ := kid_cells hr ha k hlt
  obtain ⟨A1, c1, B1, d1, hv⟩ := nd_form hn
  simp only [List.cons.injEq, and_true] at hv
  obtain ⟨rfl, rfl, rfl⟩ := hv
  exact ⟨ad, A1, c1, B1, d1, e, hs, h0, h1, h2, h3, hn⟩
/-- The world has only drawn. -/
def Dr (w w' : World) : Prop := ∃ n, w' = w.drewN n
theorem Dr.refl (w : World) : Dr w w := ⟨0, rfl⟩
theorem Dr.then_ {w w' : World} (h : Dr w w') (n : Nat) : Dr w (w'.drewN n) := by
  obtain ⟨k, rfl⟩ := h
  exact ⟨k + n, by simp [World.drewN, Nat.add_assoc]⟩
theorem Dr.drew {w w' : World} (h : Dr w w') : Dr w w'.drew := h.then_ 1
theorem Dr.below {w w' : World} (h : Dr w w') : Below w.heap.size w w' := by
  obtain ⟨k, rfl⟩ := h
  exact ⟨rfl, rfl, rfl, Nat.le_refl _, fun _ _ => rfl⟩
theorem _root_.Go.RowKit.Below.via {w w1 w2 : World} (h : Below w.heap.size w w1) (h2 : Below w1.heap.size w1 w2) : Below w.heap.size w w2 := h.trans (h2.mono h.size)
theorem below_new (w : World) (o : Obj) : Below w.heap.size w (w.alloc o) := (Below.refl _ _).alloc (Nat.le_refl _) o
theorem below_new2 (w : World) (o o' : Obj) : Below w.heap.size w ((w.alloc o).alloc o') := (below_new w o).via (below_new _ _)
theorem below_dr (w : World) : Below w.heap.size w w.drew := (Below.refl _ _).drew
theorem NdAt.below {S : Nat → Prop} {w w' : World} {t : Nd} {cs : List Value} (h : NdAt S w t cs) (hb : Below w.heap.size w w') : NdAt S w' t cs := NdAt.keep (Stays.of_below hb) t cs h
theorem KsAt.below {S : Nat → Prop} {w w' : World} {ks : List (ByteArray × Nd)} {cs : List Value} (h : KsAt S w ks cs) (hb : Below w.heap.size w w') : KsAt S w' ks cs := KsAt.keep (Stays.of_below hb) ks cs h
theorem BsAt.below {S : Nat → Prop} {w w' : World} {v : Value} {l : List UInt8} (h : BsAt S w v l) (hb : Below w.heap.size w w') : BsAt S w' v l := h.keep (Stays.of_below hb)
theorem Rd.below {S : Nat → Prop} {w w' : World} {A : Option Addr} {cs : List Value} (h : Rd w S A cs) (hb : Below w.heap.size w w') : Rd w' S A cs := h.keep (Stays.of_below hb)
section
variable {P : Program} (w : World)
/-- 'append(v, x...)', v the call's own, x whatever is read. -/
theorem run_append_rd (base : Nat) (t ty e : TypeId) (i : TypeInfo) (z : Value) (size bytes : Nat) (ht : P.underlying t = some (.slice e)) (hi : P.info? e = some i) (hz : i.zero = some z)
    (hsize : i.size = size) (hby : i.bytes = bytes) (hzs : z.cells.size = size) (hsz : 0 < size)
    (v : Value) (n : Nat) (xs : List Value) (hown : w.ownsRow base e size v n xs) {S : Nat → Prop}
    (A : Option Addr) (m c : Nat) (news : List Value) (hl : news.length = m * size) (hr : Rd w S A news) (h1 : ∀ u ∈ news, u.oneCell' = true)
    (h63 : n + m ≤ maxLen) (hbytes : (n + m) * bytes ≤ 140737488355328) (hbase : base ≤ w.heap.size) :
    ∃ v' w', (Builtin.append_ #[t, t] ty #[v, .slice A m c]).run P w = .ok v' w' ∧ w'.ownsRow base e size v' (n + m) (xs ++ news) ∧ w.grownBy w' v.ownBlock ∧
      (v'.ownBlock = v.ownBlock ∨ v'.ownBlock = some w.heap.size) := by
  cases A with
  | none =>
    have hn : news = [] := by
      apply Classical.byContradiction
      intro h
      obtain ⟨ad, h, _⟩ := hr h
      cases h
    subst hn
    have hm : m = 0 := by
      rcases Nat.eq_zero_or_pos m with h | h
      · exact h
      · have : 0 < m * size := Nat.mul_pos h hsz
        simp at hl
        omega
    subst hm
    refine ⟨v, w, ?_, by simpa using hown, World.grownBy.refl w _, .inl rfl⟩
    rcases hown.2 with ⟨rfl, rfl⟩ | ⟨g, cap, cur, rfl, _, _, hnc, _⟩
    · simp [Builtin.append_, run_underlying ht, sizeOf, typeInfo, hi, Builtin.lenOf, Builtin.firstCells]
    · simp [Builtin.append_, run_underlying ht, sizeOf, typeInfo, hi, Builtin.lenOf, Builtin.firstCells, hnc, storeCells]
  | some ad =>
    have hc : ∀ (j : Nat) u, news[j]? = some u → w.cell? (ad.add j) = some u := by
      intro j u hu
      obtain ⟨ad', h, _, hc⟩ := hr (fun h => by subst h; simp at hu)
      injection h with h
      subst h
      exact hc j u hu
    obtain ⟨v', w', h, h2, h3, _, h5⟩ := run_append_own_at (P := P) w base t ty e i z size bytes ht hi hz hsize hby hzs hsz v n xs hown ad m c news hl hc h1 h63 hbytes hbase
    exact ⟨v', w', h, h2, h3, h5⟩

theorem wp_append_rd {o : Oper} {a : Act} {K : Act → World → Prop} {Q : Exit → Act → World → Prop} (s x : Operand) (t : TypeId)
    (ho : o.op = .call { callee := .builtin .append, args := #[s, x], argTypes := #[t, t] })
    (base : Nat) (e : TypeId) (i : TypeInfo) (z : Value) (size bytes : Nat) (ht : P.underlying t = some (.slice e)) (hi : P.info? e = some i) (hz : i.zero = some z)
    (hsize : i.size = size) (hby : i.bytes = bytes) (hzs : z.cells.size = size) (hsz : 0 < size)
    (v : Value) (n : Nat) (xs : List Value) (hs : a.eval s = v) (hown : w.ownsRow base e size v n xs) {S : Nat → Prop}
    (A : Option Addr) (m c : Nat) (news : List Value) (hx : a.eval x = .slice A m c) (hl : news.length = m * size) (hr : Rd w S A news) (h1 : ∀ u ∈ news, u.oneCell' = true)
    (h63 : n + m ≤ maxLen) (hbytes : (n + m) * bytes ≤ 140737488355328) (hbase : base ≤ w.heap.size)
    (h : ∀ v' w', w'.ownsRow base e size v' (n + m) (xs ++ news) → w.grownBy w' v.ownBlock → (v'.ownBlock = v.ownBlock ∨ v'.ownBlock = some w.heap.size) → K (a.put o.dst v') w') : o.wp P a w K Q := by
  obtain ⟨v', w', hrun, h2, h3, h4⟩ := run_append_rd (P := P) w base t o.type e i z size bytes ht hi hz hsize hby hzs hsz v n xs hown A m c news hl hr h1 h63 hbytes hbase
  unfold Oper.wp execOp
  simp only [ho, resolve, invoke, builtin, Sem.run_bind, Sem.run_pure, Result.andThen_ok, List.map_toArray, List.map_cons, List.map_nil, hs, hx, hrun]
  exact h v' w' h2 h3 h4

theorem wpList_append_rd {ops : Array Oper} {rest : List Oper} {o : Oper} {a : Act} {Q : Exit → Act → World → Prop} (hgd : o.guard = none) (s x : Operand) (t : TypeId)
    (ho : o.op = .call { callee := .builtin .append, args := #[s, x], argTypes := #[t, t] })
    (base : Nat) (e : TypeId) (i : TypeInfo) (z : Value) (size bytes : Nat) (ht : P.underlying t = some (.slice e)) (hi : P.info? e = some i) (hz : i.zero = some z)
    (hsize : i.size = size) (hby : i.bytes = bytes) (hzs : z.cells.size = size) (hsz : 0 < size)
    (v : Value) (n : Nat) (xs : List Value) (hs : a.eval s = v) (hown : w.ownsRow base e size v n xs) {S : Nat → Prop}
    (A : Option Addr) (m c : Nat) (news : List Value) (hx : a.eval x = .slice A m c) (hl : news.length = m * size) (hr : Rd w S A news) (h1 : ∀ u ∈ news, u.oneCell' = true)
    (h63 : n + m ≤ maxLen) (hbytes : (n + m) * bytes ≤ 140737488355328) (hbase : base ≤ w.heap.size)
    (h : ∀ v' w', w'.ownsRow base e size v' (n + m) (xs ++ news) → w.grownBy w' v.ownBlock → (v'.ownBlock = v.ownBlock ∨ v'.ownBlock = some w.heap.size) → wpList P ops Q rest (a.put o.dst v') w') :
    wpList P ops Q (o :: rest) a w :=
  wpList_plain hgd fun _ hK => wp_append_rd w s x t ho base e i z size bytes ht hi hz hsize hby hzs hsz v n xs hs hown A m c news hx hl hr h1 h63 hbytes hbase fun v' w' h2 h3 h4 => hK _ _ (h v' w' h2 h3 h4)

/-- The same at an operation of a region that draws its order. -/
theorem step_append_rd {ops : Array Oper} {o : Oper} {a : Act} {K : Act → World → Prop} {Q : Exit → Act → World → Prop} {E : Prop} (hgd : o.guard = none) (s x : Operand) (t : TypeId)
    (ho : o.op = .call { callee := .builtin .append, args := #[s, x], argTypes := #[t, t] })
    (base : Nat) (e : TypeId) (i : TypeInfo) (z : Value) (size bytes : Nat) (ht : P.underlying t = some (.slice e)) (hi : P.info? e = some i) (hz : i.zero = some z)
    (hsize : i.size = size) (hby : i.bytes = bytes) (hzs : z.cells.size = size) (hsz : 0 < size)
    (v : Value) (n : Nat) (xs : List Value) (hs : a.eval s = v) (hown : w.ownsRow base e size v n xs) {S : Nat → Prop}
    (A : Option Addr) (m c : Nat) (news : List Value) (hx : a.eval x = .slice A m c) (hl : news.length = m * size) (hr : Rd w S A news) (h1 : ∀ u ∈ news, u.oneCell' = true)
    (h63 : n + m ≤ maxLen) (hbytes : (n + m) * bytes ≤ 140737488355328) (hbase : base ≤ w.heap.size)
    (h : ∀ v' w', w'.ownsRow base e size v' (n + m) (xs ++ news) → w.grownBy w' v.ownBlock → (v'.ownBlock = v.ownBlock ∨ v'.ownBlock = some w.heap.size) → K (a.put o.dst v') w') :
    if Region.wanted o (yielded ops a.tmps) = true then Oper.wp P o a w K Q else E := by
  have hw : Region.wanted o (yielded ops a.tmps) = true := by simp [Region.wanted, hgd]
  rw [if_pos hw]
  exact wp_append_rd w s x t ho base e i z size bytes ht hi hz hsize hby hzs hsz v n xs hs hown A m c news hx hl hr h1 h63 hbytes hbase h
end
theorem own_move' {w w' : World} {base : Nat} {e : TypeId} {size n : Nat} {v : Value} {xs : List Value} (h : w.ownsRow base e size v n xs) (hm : ∀ k, v.ownBlock = some k → k < w.heap.size → base ≤ k → w'.heap[k]? = w.heap[k]?) : w'.ownsRow base e size v n xs := by
  refine ⟨h.1, ?_⟩
  rcases h.2 with h2 | ⟨g, cap, cur, rfl, hg, hh, r⟩
  · exact .inl h2
  · exact .inr ⟨g, cap, cur, rfl, hg, (hm g (by simp [Value.ownBlock]) (Array.getElem?_eq_some_iff.1 hh).1 hg).trans hh, r⟩
theorem own_lt' {w : World} {base : Nat} {e : TypeId} {size n : Nat} {v : Value} {xs : List Value} (h : w.ownsRow base e size v n xs) {k : Nat} (hk : v.ownBlock = some k) : base ≤ k ∧ k < w.heap.size := by
  rcases h.2 with ⟨rfl, _⟩ | ⟨g, cap, cur, rfl, hg, hh, _⟩
  · simp [Value.ownBlock] at hk
  · have : g = k := by simpa [Value.ownBlock] using hk
    subst this
    exact ⟨hg, (Array.getElem?_eq_some_iff.1 hh).1⟩
theorem own_form {w : World} {base : Nat} {e : TypeId} {size n : Nat} {v : Value} {xs : List Value} (h : w.ownsRow base e size v n xs) : ∃ A c, v = .slice A n c := by
  rcases h.2 with ⟨rfl, rfl⟩ | ⟨g, cap, cur, rfl, _⟩
  · exact ⟨none, 0, rfl⟩
  · exact ⟨_, cap, rfl⟩
theorem Rd.new {w : World} {cs : Array Value} {t : TypeId} {n : Nat} (hn : n = w.heap.size) : Rd (w.alloc (.cells cs t)) (fun k => k = n) (some ⟨n, 0, none⟩) cs.toList := fun _ => by
  subst hn
  refine ⟨_, rfl, rfl, fun j u hu => ?_⟩
  have ea : (⟨w.heap.size, 0, none⟩ : Addr).add j = ⟨w.heap.size, j, none⟩ := by unfold Addr.add; split <;> simp_all
  rw [ea, cell_of_row _ _ _ cs t (0, 0) (heap_alloc_new w _), ← hu]
  simp
theorem bcs_one (l : List UInt8) : ∀ u ∈ bcs l, u.oneCell' = true := by
  intro u hu
  obtain ⟨x, _, rfl⟩ := List.mem_map.1 hu
  rfl
/-- A row of bytes of the call's own reads so. -/
theorem BsAt.of_own {w : World} {base : Nat} {e : TypeId} {v : Value} {n : Nat} {l : List UInt8} (h : w.ownsRow base e 1 v n (bcs l)) : BsAt (fun k => v.ownBlock = some k ∧ base ≤ k) w v l := by
  have hl := h.1
  simp only [bcs, List.length_map, Nat.mul_one] at hl
  subst hl
  have h2 := h.2
  rcases h2 with ⟨rfl, h0⟩ | ⟨g, cap, cur, rfl, hg, hh, hnc, hcm, _⟩
  · rw [List.length_eq_zero_iff] at h0
    subst h0
    exact BsAt.nil _ _
  · refine ⟨some ⟨g, 0, none⟩, cap, rfl, hnc, by simpa [maxLen] using hcm, (Rd.of_own h).mono (fun k hk => ?_)⟩
    simpa [Value.ownBlock] using hk

/-- It returned the truth b (kept out of the walk's sight). -/
def RetB (b : Bool) (e : Ending) : Prop := ∃ z, e = .returned (.bool z) ∧ Hid (z = b)
theorem RetB.mk {b : Bool} {v : Value} (h : v = .bool b) : RetB b (.returned v) := ⟨b, by rw [h], rfl⟩
theorem ret_eq {v v' : Value} (h : v = v') : Ending.returned v = Ending.returned v' := by rw [h]
end Pk
end Go.Proofs.YtgfgdlnlafngnaaDoor
