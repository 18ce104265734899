/- Ways of a tree are apart; ways below a way; bytes of all: plain laws. No program in sight. -/
import Derived.Test.YtgfgdlnlafngnaaDoorPath
namespace Go.Proofs.YtgfgdlnlafngnaaDoor
namespace Pk

mutual
/-- The names of all nodes, behind some. -/
def namesN (pre : List ByteArray) : Nd → List (List ByteArray)
  | .mk _ _ ks => pre :: namesK pre ks
def namesK (pre : List ByteArray) : List (ByteArray × Nd) → List (List ByteArray)
  | [] => []
  | (nm, t) :: r => namesN (pre ++ [nm]) t ++ namesK pre r
end
theorem joinW_snoc : ∀ (pre : List ByteArray) (way nm : ByteArray), joinW way (pre ++ [nm]) = nextW (joinW way pre) nm
  | [], way, nm => rfl
  | x :: r, way, nm => by
    rw [List.cons_append, joinW, joinW, joinW_snoc r]
mutual
theorem ways_names (pre : List ByteArray) : ∀ t : Nd, (waysN (joinW (str []) pre) t).map Prod.fst = (namesN pre t).map (joinW (str []))
  | .mk k b ks => by
    rw [waysN, namesN, List.map_cons, List.map_cons, waysK_names pre ks]
theorem waysK_names (pre : List ByteArray) : ∀ ks : List (ByteArray × Nd), (waysK (joinW (str []) pre) ks).map Prod.fst = (namesK pre ks).map (joinW (str []))
  | [] => rfl
  | (nm, t) :: r => by
    rw [waysK, namesK, List.map_append, List.map_append, ← joinW_snoc, ways_names (pre ++ [nm]) t, waysK_names pre r]
end
/-- Names begin as they should, and are names. -/
theorem mem_namesN : ∀ (t : Nd) (pre : List ByteArray) (l : List ByteArray), l ∈ namesN pre t → allB t = true → ∃ r, l = pre ++ r ∧ ∀ nm ∈ r, nameB nm = true := by
  refine Nd.ind fun k b ks ih => ?_
  intro pre l hl ha
  obtain ⟨_, hri, hk⟩ := all_kids ha
  have hri' : risesB none ks = true := hri
  have key : ∀ (rest : List (ByteArray × Nd)), (∀ x ∈ rest, x ∈ ks) → l ∈ namesK pre rest → ∃ r, l = pre ++ r ∧ ∀ nm ∈ r, nameB nm = true := by
    intro rest
    induction rest with
    | nil => intro _ h; simp [namesK] at h
    | cons x rest ihr =>
      obtain ⟨nm, t⟩ := x
      intro hsub h
      rw [namesK, List.mem_append] at h
      rcases h with h | h
      · have hm := hsub (nm, t) (by simp)
        obtain ⟨r, hr, hn⟩ := ih (nm, t) hm _ l h (hk _ hm)
        refine ⟨nm :: r, by rw [hr]; simp, fun y hy => ?_⟩
        rcases List.mem_cons.1 hy with rfl | hy
        · exact rises_mem ks none hri' _ hm
        · exact hn y hy
      · exact ihr (fun x hx => hsub x (by simp [hx])) h
  rw [namesN, List.mem_cons] at hl
  rcases hl with rfl | hl
  · exact ⟨[], by simp, by simp⟩
  · exact key ks (fun _ h => h) hl
theorem mem_namesK {pre : List ByteArray} {l : List ByteArray} : ∀ {ks : List (ByteArray × Nd)}, l ∈ namesK pre ks → ∃ x ∈ ks, l ∈ namesN (pre ++ [x.1]) x.2
  | [], h => by simp [namesK] at h
  | (nm, t) :: r, h => by
    rw [namesK, List.mem_append] at h
    rcases h with h | h
    · exact ⟨(nm, t), by simp, h⟩
    · obtain ⟨x, hx, hl⟩ := mem_namesK h
      exact ⟨x, by simp [hx], hl⟩
theorem rises_tail {nm : ByteArray} {t : Nd} {r : List (ByteArray × Nd)} {p : Option ByteArray} (h : risesB p ((nm, t) :: r) = true) : ∀ x ∈ r, ltB nm x.1 = true := by
  intro x hx
  obtain ⟨i, hi, rfl⟩ := List.mem_iff_getElem.1 hx
  have := rises_lt h (i := 0) (j := i + 1) (by omega) (by simpa using hi)
  simpa using this
theorem prefix_name {pre : List ByteArray} {a b : ByteArray} {r r' : List ByteArray} (h : pre ++ [a] ++ r = pre ++ [b] ++ r') : a = b := by
  rw [List.append_assoc, List.append_assoc] at h
  have := List.append_cancel_left h
  simp only [List.cons_append, List.nil_append, List.cons.injEq] at this
  exact this.1
theorem names_nodup : ∀ (t : Nd) (pre : List ByteArray), allB t = true → (namesN pre t).Nodup := by
  refine Nd.ind fun k b ks ih => ?_
  intro pre ha
  obtain ⟨_, hri, hk⟩ := all_kids ha
  have hri' : risesB none ks = true := hri
  have key : ∀ (rest : List (ByteArray × Nd)) (p : Option ByteArray), (∀ x ∈ rest, x ∈ ks) → risesB p rest = true → (namesK pre rest).Nodup := by
    intro rest
    induction rest with
    | nil => intro _ _ _; simp [namesK]
    | cons x rest ihr =>
      obtain ⟨nm, t⟩ := x
      intro p hsub hrs
      have hm := hsub (nm, t) (by simp)
      have hrs2 : risesB (some nm) rest = true := by
        simp only [risesB, Bool.and_eq_true] at hrs
        exact hrs.2
      rw [namesK, List.nodup_append]
      refine ⟨ih (nm, t) hm _ (hk _ hm), ihr (some nm) (fun x hx => hsub x (by simp [hx])) hrs2, ?_⟩
      intro l hl l' hl' e
      subst e
      obtain ⟨x, hx, hlx⟩ := mem_namesK hl'
      obtain ⟨r1, e1, _⟩ := mem_namesN t _ l hl (hk _ hm)
      obtain ⟨r2, e2, _⟩ := mem_namesN x.2 _ l hlx (hk _ (hsub x (by simp [hx])))
      have h1 := rises_tail hrs x hx
      have h2 := prefix_name (e1.symm.trans e2)
      rw [← h2, ltB_irrefl] at h1
      cases h1
  rw [namesN, List.nodup_cons]
  refine ⟨fun h => ?_, key ks none (fun _ h => h) hri'⟩
  obtain ⟨x, hx, hl⟩ := mem_namesK h
  obtain ⟨r, e, _⟩ := mem_namesN x.2 _ pre hl (hk _ hx)
  have := congrArg List.length e
  simp at this
/-- The ways of a right tree are apart. -/
theorem ways_nodup {t : Nd} (h : allB t = true) : ((waysN (str []) t).map Prod.fst).Nodup := by
  have e : (waysN (str []) t).map Prod.fst = (namesN [] t).map (joinW (str [])) := ways_names [] t
  rw [e]
  have hn := names_nodup t [] h
  rw [List.nodup_iff_pairwise_ne] at hn ⊢
  rw [List.pairwise_map]
  refine hn.imp_of_mem ?_
  intro a b ha hb hab he
  obtain ⟨r1, e1, h1⟩ := mem_namesN t [] a ha h
  obtain ⟨r2, e2, h2⟩ := mem_namesN t [] b hb h
  simp only [List.nil_append] at e1 e2
  subst e1 e2
  have p1 := pWay_join h1
  rw [he, pWay_join h2] at p1
  simp only [Prod.mk.injEq, and_true] at p1
  exact hab p1.symm
/-- What stands at names behind names. -/
theorem at_app : ∀ (a b : List ByteArray) (t : Nd), atNames t (a ++ b) = (atNames t a).bind fun x => atNames x b
  | [], b, t => rfl
  | nm :: r, b, t => by
    cases hth : isThere t.kids nm with
    | false => rw [List.cons_append, at_none hth, at_none hth]; rfl
    | true =>
      have hl := there_lt hth
      rw [List.cons_append, at_there hth rfl hl, at_there hth rfl hl, at_app r b]
theorem pWay_names {s : ByteArray} (h : (pWay s).2 = 0) (hs : s.size ≠ 0) : (pWay s).1 = (splitB s.data.toList).map str ∧ ((splitB s.data.toList).map str).all nameB = true := by
  unfold pWay at h ⊢
  rw [if_neg hs] at h ⊢
  split at h
  · rename_i h2
    rw [if_pos h2]
    exact ⟨rfl, h2⟩
  · simp at h
/-- What is found below a way is found within what is found there. -/
theorem find_below {t top x : Nd} {way s : ByteArray} (h1 : pFind t way = (top, 0)) (h2 : pFind t (way ++ ⟨#[47]⟩ ++ s) = (x, 0)) (hw : way.size ≠ 0) : pFind top s = (x, 0) := by
  rcases pFind_cases t way with ⟨y, e1, hr, hw0, ha⟩ | ⟨_, e1⟩
  · rw [h1] at e1
    simp only [Prod.mk.injEq, and_true] at e1
    subst e1
    rcases pFind_cases t (way ++ ⟨#[47]⟩ ++ s) with ⟨y, e2, _, hs0, hb⟩ | ⟨_, e2⟩
    · rw [h2] at e2
      simp only [Prod.mk.injEq, and_true] at e2
      subst e2
      have hd : (way ++ ⟨#[47]⟩ ++ s).data.toList = way.data.toList ++ 47 :: s.data.toList := by
        rw [data_append, data_append]
        simp
      obtain ⟨n1, a1⟩ := pWay_names hw0 hw
      have hsz : (way ++ ⟨#[47]⟩ ++ s).size ≠ 0 := by
        rw [← size_data, hd]
        simp
      obtain ⟨n2, a2⟩ := pWay_names hs0 hsz
      rw [hd, splitB_app, List.map_append] at n2 a2
      rw [n2, ← n1, at_app, ha] at hb
      rw [List.all_append, Bool.and_eq_true] at a2
      have hss : s.size ≠ 0 := by
        intro e
        have : s.data.toList = [] := by rw [← List.length_eq_zero_iff, size_data]; exact e
        rw [this] at a2
        have h3 := a2.2
        simp [splitB, nameB, str_size] at h3
      unfold pFind
      rw [at_right ha hr, if_pos rfl]
      have hp : pWay s = ((splitB s.data.toList).map str, 0) := by
        unfold pWay
        rw [if_neg hss, if_pos a2.2]
      rw [hp, if_pos rfl]
      have hb' : atNames top ((splitB s.data.toList).map str) = some x := hb
      rw [hb']
      rfl
    · rw [h2] at e2
      dsimp only at e2
      omega
  · rw [h1] at e1
    dsimp only at e1
    omega
/-- The bytes of nodes, all in all. -/
def sumB (l : List (ByteArray × Nd)) : Nat := (l.map fun x => x.2.bytes.length).sum
theorem sumB_append (a b : List (ByteArray × Nd)) : sumB (a ++ b) = sumB a + sumB b := by simp [sumB]
theorem sumB_le : ∀ (l : List (ByteArray × Nd)), (∀ x ∈ l, x.2.bytes.length ≤ 2048) → sumB l ≤ 2048 * l.length
  | [], _ => by simp [sumB]
  | x :: r, h => by
    have h1 := sumB_le r (fun y hy => h y (by simp [hy]))
    have h2 := h x (by simp)
    simp only [sumB, List.map_cons, List.sum_cons, List.length_cons] at h1 ⊢
    omega
end Pk
end Go.Proofs.YtgfgdlnlafngnaaDoor
