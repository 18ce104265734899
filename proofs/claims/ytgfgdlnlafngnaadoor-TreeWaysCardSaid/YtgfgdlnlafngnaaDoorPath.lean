/- The ways of a tree: plain laws. No program in sight. -/
import Derived.Test.YtgfgdlnlafngnaaDoorAt
namespace Go.Proofs.YtgfgdlnlafngnaaDoor
namespace Pk

/-- A way on, by a name. -/
def nextW (way nm : ByteArray) : ByteArray := if way.size = 0 then nm else way ++ str [47] ++ nm
mutual
/-- The ways of all nodes, and what is there. -/
def waysN (way : ByteArray) : Nd → List (ByteArray × Nd)
  | .mk k b ks => (way, .mk k b ks) :: waysK way ks
def waysK (way : ByteArray) : List (ByteArray × Nd) → List (ByteArray × Nd)
  | [] => []
  | (nm, t) :: r => waysN (nextW way nm) t ++ waysK way r
end
theorem waysK_take (way : ByteArray) (ks : List (ByteArray × Nd)) (j : Nat) (h : j < ks.length) : waysK way (ks.take (j + 1)) = waysK way (ks.take j) ++ waysN (nextW way ks[j].1) ks[j].2 := by
  induction ks generalizing j with
  | nil => simp at h
  | cons x r ih =>
    obtain ⟨nm, t⟩ := x
    cases j with
    | zero => simp [waysK]
    | succ j =>
      have := ih j (by simpa using h)
      simp only [List.take_succ_cons, waysK, List.getElem_cons_succ, this, List.append_assoc]
mutual
theorem waysN_len (way : ByteArray) : ∀ t : Nd, (waysN way t).length = cnt t
  | .mk k b ks => by
    rw [waysN, cnt, List.length_cons, waysK_len way ks]
    omega
theorem waysK_len (way : ByteArray) : ∀ ks : List (ByteArray × Nd), (waysK way ks).length = cntK ks
  | [] => rfl
  | (nm, t) :: r => by
    rw [waysK, cntK, List.length_append, waysN_len _ t, waysK_len way r]
end
/-- Names, one behind the other, behind a way. -/
def joinW : ByteArray → List ByteArray → ByteArray
  | way, [] => way
  | way, nm :: r => joinW (nextW way nm) r

theorem posK_self {ks : List (ByteArray × Nd)} (h : risesB none ks = true) {i : Nat} (hi : i < ks.length) : posK ks ks[i].1 = i :=
  posK_eq (by omega) (fun j hj hjl => rises_lt h hj hi) (fun _ => ltB_irrefl _)
theorem there_self {ks : List (ByteArray × Nd)} (h : risesB none ks = true) {i : Nat} (hi : i < ks.length) : isThere ks ks[i].1 = true := by
  unfold isThere
  rw [posK_self h hi, List.getElem?_eq_getElem hi]
  exact beq_self_eq_true _
theorem mem_waysK {way : ByteArray} {x : ByteArray × Nd} : ∀ {ks : List (ByteArray × Nd)}, x ∈ waysK way ks → ∃ i, ∃ h : i < ks.length, x ∈ waysN (nextW way ks[i].1) ks[i].2
  | [], h => by simp [waysK] at h
  | (nm, t) :: r, h => by
    rw [waysK, List.mem_append] at h
    rcases h with h | h
    · exact ⟨0, by simp, h⟩
    · obtain ⟨i, hi, hx⟩ := mem_waysK h
      exact ⟨i + 1, by simpa using hi, hx⟩
/-- What stands at a way of the tree is found at its names. -/
theorem mem_waysN : ∀ (t : Nd) (way : ByteArray) (x : ByteArray × Nd), x ∈ waysN way t → allB t = true → ∃ names, atNames t names = some x.2 ∧ (∀ nm ∈ names, nameB nm = true) ∧ x.1 = joinW way names := by
  refine Nd.ind fun k b ks ih => ?_
  intro way x hx ha
  obtain ⟨_, hri, hk⟩ := all_kids ha
  rw [waysN, List.mem_cons] at hx
  rcases hx with rfl | hx
  · exact ⟨[], rfl, by simp, rfl⟩
  · obtain ⟨i, hi, hx⟩ := mem_waysK hx
    obtain ⟨names, h1, h2, h3⟩ := ih ks[i] (List.getElem_mem hi) _ x hx (hk _ (List.getElem_mem hi))
    have hri' : risesB none ks = true := hri
    refine ⟨ks[i].1 :: names, ?_, ?_, h3⟩
    · rw [at_there (t := .mk k b ks) (p := i) (there_self hri' hi) (posK_self hri' hi) hi]
      exact h1
    · intro nm hnm
      rcases List.mem_cons.1 hnm with rfl | hnm
      · exact rises_mem ks none hri' _ (List.getElem_mem hi)
      · exact h2 nm hnm

/-! ### ways and their names -/
theorem splitB_app (a b : List UInt8) : splitB (a ++ 47 :: b) = splitB a ++ splitB b := by
  induction a with
  | nil => simp [splitB]
  | cons c r ih =>
    rw [List.cons_append, splitB, splitB]
    by_cases hc : c = 47
    · rw [if_pos hc, if_pos hc, ih, List.cons_append]
    · rw [if_neg hc, if_neg hc, ih]
      cases h : splitB r with
      | nil => exact absurd h (splitB_ne r)
      | cons p ps => rfl
theorem splitB_one {a : List UInt8} (h : ∀ c ∈ a, c ≠ 47) : splitB a = [a] := by
  induction a with
  | nil => rfl
  | cons c r ih =>
    rw [splitB, if_neg (h c (by simp)), ih (fun d hd => h d (by simp [hd]))]
theorem name_no_slash {s : ByteArray} (h : nameB s = true) : ∀ c ∈ s.data.toList, c ≠ 47 := by
  intro c hc e
  subst e
  simp only [nameB, Bool.and_eq_true] at h
  have := List.all_eq_true.1 h.1.1.1 _ hc
  exact absurd this (by decide)
theorem data_append (a b : ByteArray) : (a ++ b).data.toList = a.data.toList ++ b.data.toList := by
  rw [ByteArray.data_append, Array.toList_append]
theorem nextW_data {way nm : ByteArray} (h : 1 ≤ way.size) : (nextW way nm).data.toList = way.data.toList ++ 47 :: nm.data.toList := by
  unfold nextW
  rw [if_neg (by omega), data_append, data_append, str_data]
  simp
theorem nextW_size (way nm : ByteArray) : (nextW way nm).size ≤ way.size + 1 + nm.size := by
  by_cases h : way.size = 0
  · unfold nextW
    rw [if_pos h]
    omega
  · have := congrArg List.length (nextW_data (way := way) (nm := nm) (by omega))
    rw [size_data, List.length_append, List.length_cons, size_data, size_data] at this
    omega
theorem nextW_pos {way nm : ByteArray} (h : 1 ≤ nm.size) : 1 ≤ (nextW way nm).size := by
  by_cases hw : way.size = 0
  · unfold nextW
    rw [if_pos hw]
    exact h
  · have := congrArg List.length (nextW_data (way := way) (nm := nm) (by omega))
    rw [size_data, List.length_append, List.length_cons, size_data, size_data] at this
    omega
theorem split_join : ∀ (names : List ByteArray) (way : ByteArray), 1 ≤ way.size → (∀ nm ∈ names, nameB nm = true) → splitB (joinW way names).data.toList = splitB way.data.toList ++ names.map fun nm => nm.data.toList
  | [], way, _, _ => by simp [joinW]
  | nm :: r, way, hw, h => by
    have hn := h nm (by simp)
    rw [joinW, split_join r (nextW way nm) (nextW_pos (name_size hn).1) (fun x hx => h x (by simp [hx])), nextW_data hw, splitB_app, splitB_one (name_no_slash hn)]
    simp
theorem join_pos : ∀ (names : List ByteArray) (way : ByteArray), (∀ nm ∈ names, nameB nm = true) → 1 ≤ way.size → 1 ≤ (joinW way names).size
  | [], way, _, hw => hw
  | nm :: r, way, h, _ => by
    rw [joinW]
    exact join_pos r _ (fun x hx => h x (by simp [hx])) (nextW_pos (name_size (h nm (by simp))).1)
theorem map_str_data (names : List ByteArray) : (names.map fun nm => nm.data.toList).map str = names := by
  induction names with
  | nil => rfl
  | cons x r ih => simp only [List.map_cons, data_str, ih]
/-- A way that is joined of names is of just these. -/
theorem pWay_join {names : List ByteArray} (h : ∀ nm ∈ names, nameB nm = true) : pWay (joinW (str []) names) = (names, 0) := by
  cases names with
  | nil =>
    unfold pWay
    rw [joinW, if_pos (by simp [str_size])]
  | cons nm r =>
    have hn := h nm (by simp)
    have e : nextW (str []) nm = nm := by
      unfold nextW
      rw [if_pos (by simp [str_size])]
    have hr := fun x hx => h x (List.mem_cons_of_mem _ hx)
    have h1 := split_join r nm (name_size hn).1 hr
    have hp := join_pos r nm hr (name_size hn).1
    unfold pWay
    rw [joinW, e, if_neg (by omega), h1, splitB_one (name_no_slash hn)]
    have e2 : ([nm.data.toList] ++ r.map fun nm => nm.data.toList).map str = nm :: r := by
      rw [List.singleton_append, List.map_cons, map_str_data, data_str]
    rw [e2, if_pos (List.all_eq_true.2 h)]
/-- What stands at a way of a right tree is found there. -/
theorem find_way {t : Nd} {x : ByteArray × Nd} (h : rightB t = true) (hx : x ∈ waysN (str []) t) : pFind t x.1 = (x.2, 0) := by
  have ha : allB t = true := by
    simp only [rightB, Bool.and_eq_true] at h
    exact h.1.1
  obtain ⟨names, h1, h2, h3⟩ := mem_waysN t _ x hx ha
  unfold pFind
  rw [h, if_pos rfl, h3, pWay_join h2, if_pos rfl, h1]
  rfl
theorem find_top {t : Nd} (h : rightB t = true) : pFind t (str []) = (t, 0) := by
  obtain ⟨k, b, ks⟩ := t
  exact find_way (x := (str [], .mk k b ks)) h (by rw [waysN]; simp)
theorem cntK_le (ks : List (ByteArray × Nd)) (j : Nat) (h : j < ks.length) : cntK (ks.take j) + cnt ks[j].2 ≤ cntK ks := by
  have := cntK_append (ks.take (j + 1)) (ks.drop (j + 1))
  rw [List.take_append_drop, cntK_take ks j h] at this
  omega
theorem depK_le (ks : List (ByteArray × Nd)) (j : Nat) (h : j < ks.length) : dep ks[j].2 ≤ depK ks := by
  have := depK_append (ks.take (j + 1)) (ks.drop (j + 1))
  rw [List.take_append_drop, depK_take ks j h] at this
  omega
theorem cnt_eq (t : Nd) : cnt t = 1 + cntK t.kids := by
  obtain ⟨k, b, ks⟩ := t
  rfl
theorem dep_eq (t : Nd) : dep t = 1 + depK t.kids := by
  obtain ⟨k, b, ks⟩ := t
  rfl
/-- What stands at names is no greater than the tree. -/
theorem at_le : ∀ (names : List ByteArray) {t x : Nd}, atNames t names = some x → cnt x ≤ cnt t ∧ dep x + names.length ≤ dep t
  | [], t, x, h => by
    simp only [atNames, Option.some.injEq] at h
    subst h
    simp
  | nm :: r, t, x, h => by
    cases hth : isThere t.kids nm with
    | false => rw [at_none hth] at h; cases h
    | true =>
      have hl := there_lt hth
      rw [at_there hth rfl hl] at h
      obtain ⟨h1, h2⟩ := at_le r h
      have h3 := cntK_le t.kids _ hl
      have h4 := depK_le t.kids _ hl
      rw [cnt_eq t, dep_eq t, List.length_cons]
      omega
theorem at_right {t x : Nd} {names : List ByteArray} (h : atNames t names = some x) (hr : rightB t = true) : rightB x = true := by
  simp only [rightB, Bool.and_eq_true, decide_eq_true_eq] at hr ⊢
  have := at_le _ h
  exact ⟨⟨(at_within _ h hr.1.1).1, by omega⟩, by omega⟩
theorem way_size : ∀ (t : Nd) (way : ByteArray) (x : ByteArray × Nd), x ∈ waysN way t → allB t = true → x.1.size + 25 ≤ way.size + 25 * dep t := by
  refine Nd.ind fun k b ks ih => ?_
  intro way x hx ha
  obtain ⟨_, hri, hk⟩ := all_kids ha
  rw [waysN, List.mem_cons] at hx
  rcases hx with rfl | hx
  · simp only [dep]
    omega
  · obtain ⟨i, hi, hx⟩ := mem_waysK hx
    have h1 := ih ks[i] (List.getElem_mem hi) _ x hx (hk _ (List.getElem_mem hi))
    have h2 := depK_le ks i hi
    have h3 := nextW_size way ks[i].1
    have h4 := (name_size (rises_mem ks none hri _ (List.getElem_mem hi))).2
    simp only [dep]
    omega
end Pk
end Go.Proofs.YtgfgdlnlafngnaaDoor
