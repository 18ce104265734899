/- The node at a way: plain laws. No program in sight. -/
import Derived.Test.YtgfgdlnlafngnaaDoorWay
namespace Go.Proofs.YtgfgdlnlafngnaaDoor
namespace Pk

/-- The node at names. -/
def atNames : Nd → List ByteArray → Option Nd
  | t, [] => some t
  | t, nm :: r => if isThere t.kids nm then (t.kids[posK t.kids nm]?).elim none fun x => atNames x.2 r else none
theorem there_lt {ks : List (ByteArray × Nd)} {nm : ByteArray} (h : isThere ks nm = true) : posK ks nm < ks.length := by
  unfold isThere at h
  rcases Nat.lt_or_ge (posK ks nm) ks.length with h1 | h1
  · exact h1
  · rw [List.getElem?_eq_none h1] at h
    cases h
theorem at_there {t : Nd} {nm : ByteArray} {r : List ByteArray} {p : Nat} (h : isThere t.kids nm = true) (hp : posK t.kids nm = p) (hl : p < t.kids.length) : atNames t (nm :: r) = atNames t.kids[p].2 r := by
  subst hp
  rw [atNames, if_pos h, List.getElem?_eq_getElem hl]
  rfl
theorem at_none {t : Nd} {nm : ByteArray} {r : List ByteArray} (h : isThere t.kids nm = false) : atNames t (nm :: r) = none := by
  rw [atNames, h]
  rfl
/-- What is found at a way, or the error. -/
def pFind (t : Nd) (way : ByteArray) : Nd × Int :=
  if rightB t then
    if (pWay way).2 = 0 then (atNames t (pWay way).1).elim (.mk 0 [] [], 5) fun x => (x, 0) else (.mk 0 [] [], (pWay way).2)
  else (.mk 0 [] [], 2)
theorem all_kids {t : Nd} (h : allB t = true) : t.kids.length ≤ 200 ∧ risesB none t.kids = true ∧ ∀ x ∈ t.kids, allB x.2 = true := by
  obtain ⟨k, b, ks⟩ := t
  simp only [allB, Bool.and_eq_true] at h
  refine ⟨?_, ?_, fun x hx => allK_mem ks h.2 x hx⟩
  · by_cases hk : k = 4
    · subst hk
      exact (alone4 h.1).2.1
    · show ks.length ≤ 200
      rw [(alone_not4 h.1 hk).2.2.2]
      simp
  · by_cases hk : k = 4
    · subst hk
      exact (alone4 h.1).2.2
    · show risesB none ks = true
      rw [(alone_not4 h.1 hk).2.2.2]
      rfl
theorem pWay_len (s : ByteArray) : (pWay s).1.length ≤ s.size + 1 := by
  unfold pWay
  split
  · simp
  · split
    · have := split_len s.data.toList
      simp only [List.length_map]
      rw [size_data] at this
      exact this
    · simp
theorem pWay_cases (s : ByteArray) : (pWay s).2 = 0 ∨ ((pWay s).2 = 4 ∧ (pWay s).1 = []) := by
  unfold pWay
  split
  · exact .inl rfl
  · split
    · exact .inl rfl
    · exact .inr ⟨rfl, rfl⟩
theorem enc_kid {k : Int} {b : List UInt8} {ks : List (ByteArray × Nd)} (h : allB (.mk k b ks) = true) (p : Nat) (hl : p < ks.length) : k = 4 ∧ ∃ pre post, enc (.mk k b ks) = pre ++ (enc ks[p].2 ++ post) := by
  simp only [allB, Bool.and_eq_true] at h
  have hk4 : k = 4 := by
    rcases Decidable.em (k = 4) with e | e
    · exact e
    · have := (alone_not4 h.1 e).2.2.2
      rw [this] at hl
      simp at hl
  subst hk4
  have e : encK ks = encK (ks.take p) ++ (num ks[p].1.size ++ (ks[p].1.data.toList ++ (enc ks[p].2 ++ encK (ks.drop (p + 1))))) := by
    conv => lhs; rw [← List.take_append_drop p ks, List.drop_eq_getElem_cons hl]
    rw [encK_append]
    rfl
  refine ⟨rfl, num 4 ++ (num ks.length ++ (encK (ks.take p) ++ (num ks[p].1.size ++ ks[p].1.data.toList))), encK (ks.drop (p + 1)), ?_⟩
  rw [enc, if_pos rfl, e]
  simp
/-- What stands at names is right, but for how many and how deep, and its archive stands within the tree's. -/
theorem at_within : ∀ (names : List ByteArray) {t x : Nd}, atNames t names = some x → allB t = true → allB x = true ∧ ∃ pre post, enc t = pre ++ (enc x ++ post)
  | [], t, x, h, ha => by
    simp only [atNames, Option.some.injEq] at h
    subst h
    exact ⟨ha, [], [], by simp⟩
  | nm :: r, t, x, h, ha => by
    cases hth : isThere t.kids nm with
    | false => rw [at_none hth] at h; cases h
    | true =>
      have hl := there_lt hth
      rw [at_there hth rfl hl] at h
      obtain ⟨_, _, hk⟩ := all_kids ha
      obtain ⟨h1, pre, post, h2⟩ := at_within r h (hk _ (List.getElem_mem hl))
      refine ⟨h1, ?_⟩
      obtain ⟨k, b, ks⟩ := t
      obtain ⟨_, pre', post', h3⟩ := enc_kid ha _ hl
      refine ⟨pre' ++ pre, post ++ post', ?_⟩
      have h2' : enc ((ks[posK ks nm]'hl)).2 = pre ++ (enc x ++ post) := h2
      rw [h3, show enc ((ks[posK (Nd.mk k b ks).kids nm]'hl)).2 = pre ++ (enc x ++ post) from h2']
      simp only [List.append_assoc]
/-- The archive of the node at a way, or the error. -/
def pAt (l : List UInt8) (way : ByteArray) : List UInt8 × Int :=
  if (pOpen l).2 = 0 then if (pFind (pOpen l).1 way).2 = 0 then (enc (pFind (pOpen l).1 way).1, 0) else ([], (pFind (pOpen l).1 way).2) else ([], (pOpen l).2)
theorem pFind_cases (t : Nd) (way : ByteArray) : (∃ x, pFind t way = (x, 0) ∧ rightB t = true ∧ (pWay way).2 = 0 ∧ atNames t (pWay way).1 = some x) ∨ ((pFind t way).1 = .mk 0 [] [] ∧ ((pFind t way).2 = 2 ∨ (pFind t way).2 = 4 ∨ (pFind t way).2 = 5)) := by
  unfold pFind
  cases hr : rightB t with
  | false => exact .inr ⟨rfl, .inl rfl⟩
  | true =>
    rcases pWay_cases way with h | ⟨h, _⟩
    · rw [if_pos rfl, if_pos h]
      cases ha : atNames t (pWay way).1 with
      | none => exact .inr ⟨rfl, .inr (.inr rfl)⟩
      | some x => exact .inl ⟨x, rfl, rfl, h, rfl⟩
    · rw [if_pos rfl, if_neg (by omega), h]
      exact .inr ⟨rfl, .inr (.inl rfl)⟩
theorem pOpen_all {b : List UInt8} (h : (pOpen b).2 = 0) : rightB (pOpen b).1 = true ∧ enc (pOpen b).1 = b ∧ b.length ≤ 4096 := by
  rcases pOpen_cases b with ⟨t, ht⟩ | ht
  · have := pOpen_ok.1 ht
    rw [ht]
    exact ⟨this.2.1, this.2.2, this.1⟩
  · rw [ht] at h
    dsimp only at h
    split at h <;> omega
end Pk
end Go.Proofs.YtgfgdlnlafngnaaDoor
