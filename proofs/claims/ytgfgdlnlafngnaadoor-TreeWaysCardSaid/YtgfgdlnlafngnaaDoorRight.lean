/- Right trees: plain laws, as a walk reckons them. No program in sight. -/
import Derived.Test.YtgfgdlnlafngnaaDoorPure
namespace Go.Proofs.YtgfgdlnlafngnaaDoor
namespace Pk

mutual
/-- The names are no longer than memory. -/
def Sz : Nd → Prop
  | .mk _ _ ks => SzK ks
def SzK : List (ByteArray × Nd) → Prop
  | [] => True
  | (nm, t) :: r => nm.size ≤ 9223372036854775807 ∧ Sz t ∧ SzK r
end
theorem SzK.mem : ∀ {ks : List (ByteArray × Nd)}, SzK ks → ∀ x ∈ ks, x.1.size ≤ 9223372036854775807 ∧ Sz x.2
  | [], _, x, hx => by simp at hx
  | (nm, t) :: r, h, x, hx => by
    unfold SzK at h
    rcases List.mem_cons.1 hx with rfl | hx
    · exact ⟨h.1, h.2.1⟩
    · exact SzK.mem h.2.2 x hx
theorem SzK.of_mem : ∀ {ks : List (ByteArray × Nd)}, (∀ x ∈ ks, x.1.size ≤ 9223372036854775807 ∧ Sz x.2) → SzK ks
  | [], _ => by unfold SzK; trivial
  | (nm, t) :: r, h => by
    unfold SzK
    exact ⟨(h (nm, t) (by simp)).1, (h (nm, t) (by simp)).2, SzK.of_mem fun x hx => h x (by simp [hx])⟩
theorem Sz.kids {t : Nd} (h : Sz t) : SzK t.kids := by
  obtain ⟨k, b, ks⟩ := t
  unfold Sz at h
  exact h

/-- A kind's bounds. -/
def lo (k : Int) : Int := if k = 3 then 1 else 0
def hi (k : Int) : Int := if k = 1 ∨ k = 2 then 2048 else if k = 3 then 200 else 0
def kd (k : Int) : Bool := decide (k = 4)
def isK (k : Int) : Bool := decide (1 ≤ k ∧ k ≤ 4)

theorem alone_eq (k : Int) (b : List UInt8) (ks : List (ByteArray × Nd)) :
    aloneB (.mk k b ks) = (isK k && (decide (lo k ≤ b.length) && (decide ((b.length : Int) ≤ hi k) && (decide (ks.length ≤ 200) && ((kd k || decide (ks.length = 0)) && risesB none ks))))) := by
  unfold aloneB
  dsimp only
  by_cases h1 : k = 1 ∨ k = 2
  · rw [if_pos h1]
    have e1 : isK k = true := by simp [isK]; omega
    have e2 : lo k = 0 := by simp [lo]; omega
    have e3 : hi k = 2048 := by simp [hi, h1]
    have e4 : kd k = false := by simp [kd]; omega
    rw [e1, e2, e3, e4]
    by_cases h2 : ks.length = 0
    · rw [List.length_eq_zero_iff] at h2
      subst h2
      simp [risesB]
      omega
    · simp [h2]
  · rw [if_neg h1]
    by_cases h3 : k = 3
    · subst h3
      by_cases h2 : ks.length = 0
      · rw [List.length_eq_zero_iff] at h2
        subst h2
        simp [isK, lo, hi, kd, risesB]
        rw [Bool.eq_iff_iff]
        simp only [Bool.and_eq_true, decide_eq_true_eq]
        omega
      · simp [isK, lo, hi, kd, h2]
    · rw [if_neg h3]
      by_cases h4 : k = 4
      · subst h4
        simp [isK, lo, hi, kd, Bool.and_assoc]
      · rw [if_neg h4]
        have e1 : isK k = false := by simp [isK]; omega
        rw [e1, Bool.false_and]

/-- Is a tree right, d deep, behind n nodes? -/
def rgtB (t : Nd) (n d : Nat) : Bool := allB t && (decide (n + cnt t ≤ 200) && decide (d + dep t ≤ 9))
def rgtK (ks : List (ByteArray × Nd)) (n d : Nat) : Bool := allK ks && (decide (n + cntK ks ≤ 200) && decide (d + depK ks ≤ 9))
theorem rgt_node (k : Int) (b : List UInt8) (ks : List (ByteArray × Nd)) (n d : Nat) :
    rgtB (.mk k b ks) n d = (decide (n + 1 ≤ 200) && (decide (d ≤ 8) && (aloneB (.mk k b ks) && rgtK ks (n + 1) (d + 1)))) := by
  have hc : cnt (.mk k b ks) = 1 + cntK ks := by rw [cnt]
  have hd : dep (.mk k b ks) = 1 + depK ks := by rw [dep]
  rw [Bool.eq_iff_iff]
  simp only [rgtB, rgtK, allB, hc, hd, Bool.and_eq_true, decide_eq_true_eq]
  constructor
  · rintro ⟨⟨h1, h2⟩, h3, h4⟩
    exact ⟨by omega, by omega, h1, h2, by omega, by omega⟩
  · rintro ⟨h1, h2, h3, h4, h5, h6⟩
    exact ⟨⟨h3, h4⟩, by omega, by omega⟩
theorem rgt_cons (x : ByteArray × Nd) (r : List (ByteArray × Nd)) (n d : Nat) : rgtK (x :: r) n d = (rgtB x.2 n d && rgtK r (n + cnt x.2) d) := by
  obtain ⟨nm, t⟩ := x
  have hc : cntK ((nm, t) :: r) = cnt t + cntK r := by rw [cntK]
  have hd : depK ((nm, t) :: r) = max (dep t) (depK r) := by rw [depK]
  rw [Bool.eq_iff_iff]
  simp only [rgtB, rgtK, allK, hc, hd, Bool.and_eq_true, decide_eq_true_eq]
  constructor
  · rintro ⟨⟨h1, h2⟩, h3, h4⟩
    exact ⟨⟨h1, by omega, by omega⟩, h2, by omega, by omega⟩
  · rintro ⟨⟨h1, h2, h3⟩, h4, h5, h6⟩
    exact ⟨⟨h1, h4⟩, by omega, by omega⟩
theorem rgtK_nil {n d : Nat} (h : n ≤ 200) (h2 : d ≤ 9) : rgtK [] n d = true := by
  have e1 : allK [] = true := by rw [allK]
  have e2 : cntK [] = 0 := by rw [cntK]
  have e3 : depK [] = 0 := by rw [depK]
  rw [rgtK, e1, e2, e3]
  simp [h, h2]
theorem rgt_right (t : Nd) : rgtB t 0 1 = rightB t := by
  unfold rgtB rightB
  rw [Bool.eq_iff_iff]
  simp only [Bool.and_eq_true, decide_eq_true_eq]
  constructor
  · rintro ⟨h1, h2, h3⟩
    exact ⟨⟨h1, by omega⟩, by omega⟩
  · rintro ⟨⟨h1, h2⟩, h3⟩
    exact ⟨h1, by omega, by omega⟩
theorem cnt_pos (t : Nd) : 1 ≤ cnt t := by
  cases t
  simp only [cnt]
  omega
theorem dep_pos (t : Nd) : 1 ≤ dep t := by
  cases t
  simp only [dep]
  omega
theorem cntK_take (ks : List (ByteArray × Nd)) (k : Nat) (h : k < ks.length) : cntK (ks.take (k + 1)) = cntK (ks.take k) + cnt ks[k].2 := by
  rw [List.take_succ_eq_append_getElem h, cntK_append]
  simp [cntK]
theorem depK_append (a b : List (ByteArray × Nd)) : depK (a ++ b) = max (depK a) (depK b) := by
  induction a with
  | nil => simp [depK]
  | cons x r ih =>
    obtain ⟨nm, t⟩ := x
    simp only [List.cons_append, depK, ih]
    omega
theorem depK_take (ks : List (ByteArray × Nd)) (k : Nat) (h : k < ks.length) : depK (ks.take (k + 1)) = max (depK (ks.take k)) (dep ks[k].2) := by
  rw [List.take_succ_eq_append_getElem h, depK_append]
  simp [depK]
theorem SzK.append {a b : List (ByteArray × Nd)} (ha : SzK a) (hb : SzK b) : SzK (a ++ b) :=
  SzK.of_mem fun x hx => by
    rcases List.mem_append.1 hx with h | h
    · exact SzK.mem ha x h
    · exact SzK.mem hb x h
theorem pText_le (most : Nat) (st : St) : (pText most st).1.length ≤ most := by
  cases st with
  | none => simp [pText]
  | some r =>
    simp only [pText]
    split
    · simp
    · split
      · rename_i h
        simp only [List.length_take]
        omega
      · simp
/-- What is read has short names. -/
theorem pKids_sz {node : Nat → St → Option (Nd × Nat × St)} (hn : ∀ left st t left' st', node left st = some (t, left', st') → Sz t) :
    ∀ m acc last left st t left' st', SzK acc → pKids node m acc last left st = some (t, left', st') → Sz t := by
  intro m
  induction m with
  | zero =>
    intro acc last left st t left' st' ha h
    simp only [pKids, Option.some.injEq, Prod.mk.injEq] at h
    obtain ⟨rfl, _⟩ := h
    unfold Sz
    exact ha
  | succ m ih =>
    intro acc last left st t left' st' ha h
    simp only [pKids] at h
    split at h
    · cases h
    · split at h
      · cases h
      · rename_i t1 left1 st1 h1
        refine ih _ _ _ _ _ _ _ (ha.append ?_) h
        unfold SzK
        exact ⟨by rw [str_size]; have := pText_le 24 st; omega, hn _ _ _ _ _ h1, by unfold SzK; trivial⟩
theorem pNode_sz : ∀ f left st t left' st', pNode f left st = some (t, left', st') → Sz t := by
  intro f
  induction f with
  | zero => intro left st t left' st' h; simp [pNode] at h
  | succ f ih =>
    intro left st t left' st' h
    cases left with
    | zero => simp [pNode] at h
    | succ left =>
      simp only [pNode] at h
      split at h
      · simp only [Option.some.injEq, Prod.mk.injEq] at h
        obtain ⟨rfl, _⟩ := h
        unfold Sz SzK
        trivial
      · exact pKids_sz ih _ _ _ _ _ _ _ _ (by unfold SzK; trivial) h
theorem allK_sz (ih : ∀ t, allB t = true → Sz t) : ∀ ks p, allK ks = true → risesB p ks = true → SzK ks := by
  intro ks
  induction ks with
  | nil => intros; unfold SzK; trivial
  | cons x r ih2 =>
    obtain ⟨nm, t⟩ := x
    intro p ha hr
    simp only [risesB, Bool.and_eq_true] at hr
    simp only [allK, Bool.and_eq_true] at ha
    unfold SzK
    exact ⟨by have := name_size hr.1.1; omega, ih t ha.1, ih2 _ ha.2 hr.2⟩
theorem rises_mem : ∀ (ks : List (ByteArray × Nd)) (p : Option ByteArray), risesB p ks = true → ∀ x ∈ ks, nameB x.1 = true
  | [], _, _, x, hx => by simp at hx
  | (nm, t) :: r, p, h, x, hx => by
    simp only [risesB, Bool.and_eq_true] at h
    rcases List.mem_cons.1 hx with rfl | hx
    · exact h.1.1
    · exact rises_mem r _ h.2 x hx
theorem allK_mem : ∀ (ks : List (ByteArray × Nd)), allK ks = true → ∀ x ∈ ks, allB x.2 = true
  | [], _, x, hx => by simp at hx
  | (nm, t) :: r, h, x, hx => by
    simp only [allK, Bool.and_eq_true] at h
    rcases List.mem_cons.1 hx with rfl | hx
    · exact h.1
    · exact allK_mem r h.2 x hx
theorem encK_take (ks : List (ByteArray × Nd)) (j : Nat) (h : j < ks.length) : encK (ks.take (j + 1)) = encK (ks.take j) ++ (num ks[j].1.size ++ (ks[j].1.data.toList ++ enc ks[j].2)) := by
  rw [List.take_succ_eq_append_getElem h, encK_append]
  simp [encK]
theorem encK_take_le (ks : List (ByteArray × Nd)) (j : Nat) : (encK (ks.take j)).length ≤ (encK ks).length := by
  have : encK ks = encK (ks.take j) ++ encK (ks.drop j) := by rw [← encK_append, List.take_append_drop]
  rw [this]
  simp
theorem encK_le : ∀ (ks : List (ByteArray × Nd)) (p : Option ByteArray), risesB p ks = true → allK ks = true → (∀ x ∈ ks, allB x.2 = true → (enc x.2).length + 1000 ≤ 4000 * cnt x.2) → (encK ks).length ≤ 4000 * cntK ks
  | [], _, _, _, _ => by simp [encK]
  | (nm, t) :: r, p, h, ha, ih => by
    simp only [risesB, Bool.and_eq_true] at h
    simp only [allK, Bool.and_eq_true] at ha
    have h1 := name_size h.1.1
    have h2 := ih (nm, t) (by simp) ha.1
    have h3 := encK_le r _ h.2 ha.2 (fun x hx => ih x (by simp [hx]))
    have hc : cntK ((nm, t) :: r) = cnt t + cntK r := by rw [cntK]
    have hnum : (num nm.size).length ≤ 1 := num_length_le 0 (by omega)
    rw [encK, hc]
    simp only [List.length_append, size_data]
    simp only at h2
    omega
theorem enc_le : ∀ t, allB t = true → (enc t).length + 1000 ≤ 4000 * cnt t := by
  refine Nd.ind fun k b ks ih h => ?_
  simp only [allB, Bool.and_eq_true] at h
  have hc : cnt (.mk k b ks) = 1 + cntK ks := by rw [cnt]
  rw [hc, enc]
  by_cases hk : k = 4
  · subst hk
    obtain ⟨rfl, h2, h3⟩ := alone4 h.1
    rw [if_pos rfl]
    have h4 := encK_le ks none h3 h.2 (fun x hx => ih x hx)
    have hn1 : (num 4).length ≤ 1 := num_length_le 0 (by omega)
    have hn2 : (num ks.length).length ≤ 2 := num_length_le 1 (by omega)
    simp only [List.length_append]
    omega
  · rw [if_neg hk]
    obtain ⟨h1, h2, h3, rfl⟩ := alone_not4 h.1 hk
    have hn1 : (num k.toNat).length ≤ 1 := num_length_le 0 (by omega)
    have hn2 : (num b.length).length ≤ 2 := num_length_le 1 (by omega)
    simp only [List.length_append]
    omega
theorem enc_right {t : Nd} (h : rightB t = true) : (enc t).length ≤ 800000 := by
  simp only [rightB, Bool.and_eq_true, decide_eq_true_eq] at h
  have := enc_le t h.1.1
  omega
end Pk
end Go.Proofs.YtgfgdlnlafngnaaDoor
