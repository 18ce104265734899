/- Trees as bytes: plain functions on lists of bytes and trees, and their laws. No program in sight. -/
import GoSem.Op.String
import Derived.Lib.Strings
namespace Go.Proofs.YtgfgdlnlafngnaaDoor
namespace Pk

/-- A tree: a kind, bytes, kids by names. -/
inductive Nd where
  | mk (kind : Int) (bytes : List UInt8) (kids : List (ByteArray × Nd))

namespace Nd
def kind : Nd → Int
  | mk k _ _ => k
def bytes : Nd → List UInt8
  | mk _ b _ => b
def kids : Nd → List (ByteArray × Nd)
  | mk _ _ ks => ks
theorem eta (t : Nd) : t = mk t.kind t.bytes t.kids := by cases t; rfl

theorem lt_of_mem {x : ByteArray × Nd} {k : Int} {b : List UInt8} {ks : List (ByteArray × Nd)} (hx : x ∈ ks) : SizeOf.sizeOf x.2 < SizeOf.sizeOf (mk k b ks) := by
  have h1 := List.sizeOf_lt_of_mem hx
  have h2 : SizeOf.sizeOf x.2 < SizeOf.sizeOf x := by
    cases x
    simp
    omega
  simp
  omega

theorem ind {P : Nd → Prop} (h : ∀ k b ks, (∀ x ∈ ks, P x.2) → P (mk k b ks)) : ∀ n, P n
  | mk k b ks => h k b ks (fun x _hx => ind h x.2)
termination_by n => SizeOf.sizeOf n
decreasing_by exact lt_of_mem _hx
end Nd

/-- A number's bytes. -/
def num (n : Nat) : List UInt8 :=
  if n < 128 then [UInt8.ofNat n] else UInt8.ofNat (n % 128 + 128) :: num (n / 128)
termination_by n
decreasing_by omega

mutual
/-- A tree's archive. -/
def enc : Nd → List UInt8
  | .mk k b ks => if k = 4 then num 4 ++ (num ks.length ++ encK ks) else num k.toNat ++ (num b.length ++ b)
def encK : List (ByteArray × Nd) → List UInt8
  | [] => []
  | (nm, t) :: r => num nm.size ++ (nm.data.toList ++ (enc t ++ encK r))
end

mutual
def cnt : Nd → Nat
  | .mk _ _ ks => 1 + cntK ks
def cntK : List (ByteArray × Nd) → Nat
  | [] => 0
  | (_, t) :: r => cnt t + cntK r
end

mutual
def dep : Nd → Nat
  | .mk _ _ ks => 1 + depK ks
def depK : List (ByteArray × Nd) → Nat
  | [] => 0
  | (_, t) :: r => max (dep t) (depK r)
end

/-- May a byte stand in a name? -/
def signB (c : UInt8) : Bool :=
  (65 ≤ c && c ≤ 90) || (97 ≤ c && c ≤ 122) || (48 ≤ c && c ≤ 57) || c == 46 || c == 95 || c == 43 || c == 45
/-- Is it a name? -/
def nameB (s : ByteArray) : Bool :=
  s.data.toList.all signB && decide (1 ≤ s.size) && decide (s.size ≤ 24) && decide (s.data.toList.head? ≠ some 46)

def ltB (a b : ByteArray) : Bool := Op.bytesLess a.data.toList b.data.toList
/-- Are kids' names names that rise, behind one? -/
def risesB : Option ByteArray → List (ByteArray × Nd) → Bool
  | _, [] => true
  | p, (nm, _) :: r => nameB nm && (match p with | none => true | some q => ltB q nm) && risesB (some nm) r

/-- Is a node right, but for its kids' nodes? -/
def aloneB : Nd → Bool
  | .mk k b ks =>
    if k = 1 ∨ k = 2 then decide (b.length ≤ 2048) && decide (ks.length = 0)
    else if k = 3 then decide (1 ≤ b.length) && decide (b.length ≤ 200) && decide (ks.length = 0)
    else if k = 4 then decide (b.length = 0) && decide (ks.length ≤ 200) && risesB none ks
    else false

mutual
def allB : Nd → Bool
  | .mk k b ks => aloneB (.mk k b ks) && allK ks
def allK : List (ByteArray × Nd) → Bool
  | [] => true
  | (_, t) :: r => allB t && allK r
end

/-- Is a tree right? -/
def rightB (t : Nd) : Bool := allB t && decide (cnt t ≤ 200) && decide (dep t ≤ 8)

mutual
/-- Are two trees one? -/
def sameB : Nd → Nd → Bool
  | .mk k b ks, .mk k' b' ks' => k == k' && (b == b' && sameK ks ks')
def sameK : List (ByteArray × Nd) → List (ByteArray × Nd) → Bool
  | [], [] => true
  | [], _ :: _ => false
  | _ :: _, [] => false
  | (nm, t) :: r, (nm', t') :: r' => (nm.toList == nm'.toList && sameB t t') && sameK r r'
end
theorem toList_data (s : ByteArray) : s.toList = s.data.toList := Lib.toList_data s
mutual
theorem sameB_iff : ∀ t t' : Nd, sameB t t' = true ↔ t = t'
  | .mk k b ks, .mk k' b' ks' => by
    simp only [sameB, Bool.and_eq_true, beq_iff_eq, sameK_iff ks ks', Nd.mk.injEq]
theorem sameK_iff : ∀ l l' : List (ByteArray × Nd), sameK l l' = true ↔ l = l'
  | [], [] => by simp [sameK]
  | [], _ :: _ => by simp [sameK]
  | _ :: _, [] => by simp [sameK]
  | (nm, t) :: r, (nm', t') :: r' => by
    simp only [sameK, Bool.and_eq_true, beq_iff_eq, sameB_iff t t', sameK_iff r r', List.cons.injEq, Prod.mk.injEq, toList_data]
    constructor
    · rintro ⟨⟨h1, h2⟩, h3⟩
      exact ⟨⟨by cases nm; cases nm'; simp_all, h2⟩, h3⟩
    · rintro ⟨⟨rfl, rfl⟩, rfl⟩
      exact ⟨⟨rfl, rfl⟩, rfl⟩
end

/-! ### numbers -/
theorem num_small {n : Nat} (h : n < 128) : num n = [UInt8.ofNat n] := by
  rw [num]; simp [h]
theorem num_big {n : Nat} (h : ¬ n < 128) : num n = UInt8.ofNat (n % 128 + 128) :: num (n / 128) := by
  rw [num]; simp [h]
theorem num_length_pos (n : Nat) : 1 ≤ (num n).length := by
  rw [num]; split <;> simp
/-- The number that bytes begin with, k bytes on, n gathered: what it is, and how many bytes it has. -/
def scan : List UInt8 → Nat → Nat → Option (Nat × Nat)
  | [], _, _ => none
  | x :: r, k, n => if k = 6 then none else if x.toNat < 128 then some (n + x.toNat * 128 ^ k, k + 1) else scan r (k + 1) (n + (x.toNat - 128) * 128 ^ k)

def getNum (r : List UInt8) : Option (Nat × List UInt8) :=
  match scan r 0 0 with
  | none => none
  | some (n, many) => if many = (num n).length ∧ n ≤ 1099511627776 then some (n, r.drop many) else none

theorem num_length_le {n : Nat} (k : Nat) (h : n < 128 ^ (k + 1)) : (num n).length ≤ k + 1 := by
  induction k generalizing n with
  | zero => rw [num_small (by simpa using h)]; simp
  | succ k ih =>
    by_cases hn : n < 128
    · rw [num_small hn]; simp
    · rw [num_big hn]
      have : n / 128 < 128 ^ (k + 1) := by
        rw [Nat.div_lt_iff_lt_mul (by omega)]
        rw [Nat.pow_succ] at h
        omega
      have := ih this
      simp; omega

theorem scan_num (n : Nat) (r : List UInt8) : ∀ (k a : Nat), k + (num n).length ≤ 6 → scan (num n ++ r) k a = some (a + n * 128 ^ k, k + (num n).length) := by
  induction n using Nat.strongRecOn with
  | _ n ih =>
    intro k a hk
    have hp := num_length_pos n
    by_cases hn : n < 128
    · rw [num_small hn]
      have e : (UInt8.ofNat n).toNat = n := by simp; omega
      simp only [List.cons_append, List.nil_append, scan, e]
      rw [if_neg (by omega), if_pos hn]
      simp
    · rw [num_big hn] at hk ⊢
      have e : (UInt8.ofNat (n % 128 + 128)).toNat = n % 128 + 128 := by simp; omega
      simp only [List.cons_append, scan, e]
      simp only [List.length_cons] at hk
      have hp2 := num_length_pos (n / 128)
      rw [if_neg (by omega), if_neg (by omega), ih (n / 128) (by omega) (k + 1) _ (by omega)]
      have : n % 128 + 128 * (n / 128) = n := Nat.mod_add_div n 128
      simp only [List.length_cons, Option.some.injEq, Prod.mk.injEq]
      refine ⟨?_, by omega⟩
      have e2 : n * 128 ^ k = (n % 128) * 128 ^ k + (n / 128) * 128 ^ (k + 1) := by
        rw [Nat.pow_succ, ← Nat.mul_assoc, Nat.mul_right_comm, ← Nat.add_mul, Nat.mul_comm (n / 128) 128, this]
      rw [e2]
      have : n % 128 + 128 - 128 = n % 128 := by omega
      rw [this]
      omega

theorem getNum_num (n : Nat) (r : List UInt8) (h : n ≤ 1099511627776) : getNum (num n ++ r) = some (n, r) := by
  have hl : (num n).length ≤ 6 := num_length_le 5 (by omega)
  unfold getNum
  rw [scan_num n r 0 0 (by omega)]
  simp [h]

theorem scan_ge : ∀ (r : List UInt8) (k a n m : Nat), scan r k a = some (n, m) → a ≤ n ∧ k < m ∧ m ≤ k + r.length
  | [], _, _, _, _, h => by simp [scan] at h
  | x :: r, k, a, n, m, h => by
    simp only [scan] at h
    split at h
    · cases h
    · split at h
      · simp only [Option.some.injEq, Prod.mk.injEq] at h
        obtain ⟨rfl, rfl⟩ := h
        simp
      · have := scan_ge r (k + 1) _ n m h
        simp only [List.length_cons]
        exact ⟨Nat.le_trans (Nat.le_add_right _ _) this.1, by omega, by omega⟩

/-- What is scanned, of as many bytes as its number has, is that number's bytes. -/
theorem scan_back : ∀ (r : List UInt8) (k a n m : Nat), scan r k a = some (a + n * 128 ^ k, m) → m = k + (num n).length → r = num n ++ r.drop (num n).length
  | [], _, _, _, _, h, _ => by simp [scan] at h
  | x :: r, k, a, n, m, h, hm => by
    have hpos : 0 < 128 ^ k := Nat.pow_pos (by omega)
    simp only [scan] at h
    split at h
    · cases h
    · split at h
      · rename_i hx
        simp only [Option.some.injEq, Prod.mk.injEq] at h
        have e : x.toNat = n := Nat.eq_of_mul_eq_mul_right hpos (by omega)
        have hn : n < 128 := by omega
        have ex : UInt8.ofNat n = x := by rw [← e]; simp
        rw [num_small hn, ex]; simp
      · rename_i hx
        have hx2 := x.toNat_lt
        have hg := scan_ge _ _ _ _ _ h
        -- the rest is a number of its own
        by_cases hn : n < 128
        · rw [num_small hn] at hm
          simp at hm
          omega
        · have h3 : a + n * 128 ^ k = (a + (x.toNat - 128) * 128 ^ k) + ((n * 128 ^ k - (x.toNat - 128) * 128 ^ k)) := by omega
          -- n = (x - 128) + 128 * q
          have key : ∀ (r : List UInt8) (j b p q : Nat), scan r j b = some (p, q) → ∃ d, p = b + d * 128 ^ j := by
            intro r
            induction r with
            | nil => intro j b p q h; simp [scan] at h
            | cons y r ih =>
              intro j b p q h
              simp only [scan] at h
              split at h
              · cases h
              · split at h
                · simp only [Option.some.injEq, Prod.mk.injEq] at h
                  exact ⟨y.toNat, h.1.symm⟩
                · obtain ⟨d, hd⟩ := ih _ _ _ _ h
                  refine ⟨(y.toNat - 128) + 128 * d, ?_⟩
                  rw [hd, Nat.pow_succ, Nat.add_mul, Nat.mul_comm (128 ^ j) 128, ← Nat.mul_assoc, Nat.mul_comm d 128]
                  omega
          obtain ⟨d, hd⟩ := key _ _ _ _ _ h
          have e1 : n = (x.toNat - 128) + 128 * d := by
            have : n * 128 ^ k = ((x.toNat - 128) + 128 * d) * 128 ^ k := by
              rw [Nat.add_mul]
              rw [Nat.pow_succ, Nat.mul_comm (128 ^ k) 128, ← Nat.mul_assoc, Nat.mul_comm d 128] at hd
              omega
            exact Nat.eq_of_mul_eq_mul_right hpos this
          have hd2 : n / 128 = d := by omega
          have hm2 : n % 128 + 128 = x.toNat := by omega
          have ex : UInt8.ofNat (n % 128 + 128) = x := by rw [hm2]; simp
          rw [num_big hn, ex, hd2]
          rw [num_big hn, hd2] at hm
          simp only [List.length_cons] at hm
          have := scan_back r (k + 1) (a + (x.toNat - 128) * 128 ^ k) d m (by rw [h, hd]) (by omega)
          simp only [List.cons_append, List.length_cons, List.drop_succ_cons]
          rw [← this]

theorem getNum_back {r r' : List UInt8} {n : Nat} (h : getNum r = some (n, r')) : r = num n ++ r' ∧ n ≤ 1099511627776 := by
  unfold getNum at h
  split at h
  · cases h
  · rename_i n' m hs
    split at h
    · rename_i hc
      simp only [Option.some.injEq, Prod.mk.injEq] at h
      obtain ⟨rfl, rfl⟩ := h
      have := scan_back r 0 0 n' m (by simpa using hs) (by omega)
      rw [hc.1]
      exact ⟨this, hc.2⟩
    · cases h
/-! ### what stands in bytes -/
/-- Bytes that are left, or none: broken. -/
abbrev St := Option (List UInt8)
def pNum (most : Nat) : St → Nat × St
  | none => (0, none)
  | some r => match getNum r with
    | none => (0, none)
    | some (n, r') => if n ≤ most then (n, some r') else (0, none)
def pText (most : Nat) : St → List UInt8 × St
  | none => ([], none)
  | some r => match getNum r with
    | none => ([], none)
    | some (n, r') => if n ≤ most ∧ n ≤ r'.length then (r'.take n, some (r'.drop n)) else ([], none)

def str (l : List UInt8) : ByteArray := ⟨l.toArray⟩
theorem str_data (l : List UInt8) : (str l).data.toList = l := by simp [str]
theorem data_str (s : ByteArray) : str s.data.toList = s := by simp [str]
theorem str_size (l : List UInt8) : (str l).size = l.length := by simp [str, ByteArray.size]
theorem size_data (s : ByteArray) : s.data.toList.length = s.size := by rw [Array.length_toList]; rfl
def leB (a b : ByteArray) : Bool := Op.bytesLess a.data.toList b.data.toList || a.data.toList == b.data.toList

def pKids (node : Nat → St → Option (Nd × Nat × St)) : Nat → List (ByteArray × Nd) → ByteArray → Nat → St → Option (Nd × Nat × St)
  | 0, acc, _, left, st => some (.mk 4 [] acc, left, st)
  | m + 1, acc, last, left, st =>
    if leB (str (pText 24 st).1) last then none
    else match node left (pText 24 st).2 with
      | none => none
      | some (t, left', st') => pKids node m (acc ++ [(str (pText 24 st).1, t)]) (str (pText 24 st).1) left' st'

/-- What tree stands there; none: it is none. -/
def pNode : Nat → Nat → St → Option (Nd × Nat × St)
  | 0, _, _ => none
  | _ + 1, 0, _ => none
  | f + 1, left + 1, st =>
    if (pNum 4 st).1 ≠ 4 then some (.mk (pNum 4 st).1 (pText 2048 (pNum 4 st).2).1 [], left, (pText 2048 (pNum 4 st).2).2)
    else pKids (pNode f) (pNum 200 (pNum 4 st).2).1 [] (str []) left (pNum 200 (pNum 4 st).2).2

theorem pNum_num (most n : Nat) (r : List UInt8) (h : n ≤ most) (h2 : n ≤ 1099511627776) : pNum most (some (num n ++ r)) = (n, some r) := by
  simp [pNum, getNum_num n r h2, h]
theorem pText_text (most : Nat) (b r : List UInt8) (h : b.length ≤ most) (h2 : b.length ≤ 1099511627776) : pText most (some (num b.length ++ (b ++ r))) = (b, some r) := by
  simp [pText, getNum_num _ _ h2, h]

theorem pNum_back {most n : Nat} {st : St} {r : List UInt8} (h : pNum most st = (n, some r)) : st = some (num n ++ r) ∧ n ≤ most := by
  cases st with
  | none => simp [pNum] at h
  | some s =>
    simp only [pNum] at h
    split at h
    · simp at h
    · rename_i m s' hg
      split at h
      · simp only [Prod.mk.injEq, Option.some.injEq] at h
        obtain ⟨rfl, rfl⟩ := h
        exact ⟨by rw [← (getNum_back hg).1], by assumption⟩
      · simp at h
theorem pText_back {most : Nat} {b r : List UInt8} {st : St} (h : pText most st = (b, some r)) : st = some (num b.length ++ (b ++ r)) ∧ b.length ≤ most := by
  cases st with
  | none => simp [pText] at h
  | some s =>
    simp only [pText] at h
    split at h
    · simp at h
    · rename_i m s' hg
      split at h
      · rename_i hm
        simp only [Prod.mk.injEq, Option.some.injEq] at h
        obtain ⟨rfl, rfl⟩ := h
        have := (getNum_back hg).1
        rw [List.length_take, Nat.min_eq_left hm.2, List.take_append_drop]
        exact ⟨by rw [← this], hm.1⟩
      · simp at h
theorem pNum_none (most : Nat) : pNum most none = (0, none) := rfl
theorem pText_none (most : Nat) : pText most none = ([], none) := rfl

theorem pKids_none {node : Nat → St → Option (Nd × Nat × St)} :
    ∀ m acc last left t left' r, pKids node m acc last left none ≠ some (t, left', some r) := by
  intro m
  cases m with
  | zero => intro acc last left t left' r h; simp [pKids] at h
  | succ m =>
    intro acc last left t left' r h
    have : leB (str []) last = true := by
      unfold leB
      rw [str_data]
      cases last.data.toList <;> simp [Op.bytesLess]
    simp [pKids, pText_none, this] at h

theorem encK_append (a b : List (ByteArray × Nd)) : encK (a ++ b) = encK a ++ encK b := by
  induction a with
  | nil => simp [encK]
  | cons x r ih => obtain ⟨nm, t⟩ := x; simp [encK, ih]
theorem cntK_append (a b : List (ByteArray × Nd)) : cntK (a ++ b) = cntK a + cntK b := by
  induction a with
  | nil => simp [cntK]
  | cons x r ih => obtain ⟨nm, t⟩ := x; simp [cntK, ih]; omega

/-- SOUND: what is read is of just the bytes that were taken. -/
theorem pKids_back {node : Nat → St → Option (Nd × Nat × St)} (hn : ∀ left st t left' r, node left st = some (t, left', some r) → st = some (enc t ++ r)) :
    ∀ m acc last left st t left' r, pKids node m acc last left st = some (t, left', some r) →
      ∃ ks, t = .mk 4 [] (acc ++ ks) ∧ ks.length = m ∧ st = some (encK ks ++ r) := by
  intro m
  induction m with
  | zero =>
    intro acc last left st t left' r h
    simp only [pKids, Option.some.injEq, Prod.mk.injEq] at h
    obtain ⟨rfl, rfl, rfl⟩ := h
    exact ⟨[], by simp, rfl, by simp [encK]⟩
  | succ m ih =>
    intro acc last left st t left' r h
    simp only [pKids] at h
    split at h
    · cases h
    · split at h
      · cases h
      · rename_i t1 left1 st1 h1
        obtain ⟨ks, rfl, hl, hst⟩ := ih _ _ _ _ _ _ _ h
        subst hst
        have h2 := hn _ _ _ _ _ h1
        have h3 := (pText_back (most := 24) (st := st) (b := (pText 24 st).1) (Prod.ext rfl h2)).1
        refine ⟨(str (pText 24 st).1, t1) :: ks, by simp, by simp [hl], ?_⟩
        refine h3.trans ?_
        simp [encK, str_data, str_size]

theorem pKids_left {node : Nat → St → Option (Nd × Nat × St)} (hn : ∀ left st t left' st', node left st = some (t, left', st') → left' ≤ left) :
    ∀ m acc last left st t left' st', pKids node m acc last left st = some (t, left', st') → left' ≤ left := by
  intro m
  induction m with
  | zero =>
    intro acc last left st t left' st' h
    simp only [pKids, Option.some.injEq, Prod.mk.injEq] at h
    omega
  | succ m ih =>
    intro acc last left st t left' st' h
    simp only [pKids] at h
    split at h
    · cases h
    · split at h
      · cases h
      · rename_i t1 left1 st1 h1
        have := ih _ _ _ _ _ _ _ h
        have := hn _ _ _ _ _ h1
        omega
theorem pNode_left : ∀ f left st t left' st', pNode f left st = some (t, left', st') → left' ≤ left := by
  intro f
  induction f with
  | zero => intro left st t left' st' h; simp [pNode] at h
  | succ f ih =>
    intro left st t left' st' h
    cases left with
    | zero => simp [pNode] at h
    | succ left =>
      simp only [pNode] at h
      split at h
      · simp only [Option.some.injEq, Prod.mk.injEq] at h
        omega
      · have := pKids_left ih _ _ _ _ _ _ _ _ h
        omega
theorem pNode_back : ∀ f left st t left' r, pNode f left st = some (t, left', some r) → st = some (enc t ++ r) := by
  intro f
  induction f with
  | zero => intro left st t left' r h; simp [pNode] at h
  | succ f ih =>
    intro left st t left' r h
    cases left with
    | zero => simp [pNode] at h
    | succ left =>
      simp only [pNode] at h
      split at h
      · rename_i hk
        simp only [Option.some.injEq, Prod.mk.injEq] at h
        obtain ⟨rfl, rfl, h2⟩ := h
        have h3 := (pText_back (most := 2048) (st := (pNum 4 st).2) (b := (pText 2048 (pNum 4 st).2).1) (Prod.ext rfl h2)).1
        have h4 := (pNum_back (most := 4) (st := st) (n := (pNum 4 st).1) (Prod.ext rfl h3)).1
        rw [enc, if_neg (by omega)]
        refine h4.trans ?_
        simp
      · rename_i hk
        obtain ⟨ks, rfl, hl, hst⟩ := pKids_back ih _ _ _ _ _ _ _ _ h
        have h3 := (pNum_back (most := 200) (st := (pNum 4 st).2) (n := (pNum 200 (pNum 4 st).2).1) (Prod.ext rfl hst)).1
        have h4 := (pNum_back (most := 4) (st := st) (n := (pNum 4 st).1) (Prod.ext rfl h3)).1
        rw [enc, if_pos rfl, List.nil_append, hl]
        have h5 : (pNum 4 st).1 = 4 := by omega
        rw [h5] at h4
        refine h4.trans ?_
        simp
/-! ### order of names -/
theorem bl_irrefl : ∀ a : List UInt8, Op.bytesLess a a = false
  | [] => rfl
  | x :: a => by simp [Op.bytesLess, bl_irrefl a]
theorem bl_asymm : ∀ a b : List UInt8, Op.bytesLess a b = true → Op.bytesLess b a = false
  | [], [], h => by simp [Op.bytesLess] at h
  | [], _ :: _, _ => rfl
  | _ :: _, [], h => by simp [Op.bytesLess] at h
  | x :: a, y :: b, h => by
    simp only [Op.bytesLess, Bool.or_eq_true, decide_eq_true_eq, Bool.and_eq_true, beq_iff_eq] at h
    simp only [Op.bytesLess, Bool.or_eq_false_iff, decide_eq_false_iff_not, Bool.and_eq_false_iff, beq_eq_false_iff_ne]
    rcases h with h | ⟨rfl, h⟩
    · exact ⟨fun h2 => by simp only [UInt8.lt_iff_toNat_lt] at h h2; omega, .inl (fun e => by subst e; simp [UInt8.lt_irrefl] at h)⟩
    · exact ⟨by simp [UInt8.lt_irrefl], .inr (bl_asymm a b h)⟩
theorem bl_trans : ∀ a b c : List UInt8, Op.bytesLess a b = true → Op.bytesLess b c = true → Op.bytesLess a c = true
  | _, _, [], _, h => by cases ‹List UInt8› <;> simp [Op.bytesLess] at h
  | [], _, _ :: _, _, _ => rfl
  | _ :: _, [], _, h, _ => by simp [Op.bytesLess] at h
  | x :: a, y :: b, z :: c, h, h2 => by
    simp only [Op.bytesLess, Bool.or_eq_true, decide_eq_true_eq, Bool.and_eq_true, beq_iff_eq, UInt8.lt_iff_toNat_lt] at h h2 ⊢
    rcases h with h | ⟨rfl, h⟩
    · rcases h2 with h2 | ⟨rfl, h2⟩
      · exact .inl (by omega)
      · exact .inl h
    · rcases h2 with h2 | ⟨rfl, h2⟩
      · exact .inl h2
      · exact .inr ⟨rfl, bl_trans a b c h h2⟩
theorem bl_total : ∀ a b : List UInt8, Op.bytesLess a b = false → Op.bytesLess b a = false → a = b
  | [], [], _, _ => rfl
  | [], _ :: _, h, _ => by simp [Op.bytesLess] at h
  | _ :: _, [], _, h => by simp [Op.bytesLess] at h
  | x :: a, y :: b, h, h2 => by
    simp only [Op.bytesLess, Bool.or_eq_false_iff, decide_eq_false_iff_not, Bool.and_eq_false_iff, beq_eq_false_iff_ne, UInt8.lt_iff_toNat_lt] at h h2
    have e : x = y := UInt8.toNat_inj.1 (by omega)
    subst e
    rw [bl_total a b (by rcases h.2 with h | h; exact absurd rfl h; exact h) (by rcases h2.2 with h | h; exact absurd rfl h; exact h)]
theorem ltB_asymm {a b : ByteArray} (h : ltB a b = true) : ltB b a = false := bl_asymm _ _ h
theorem ltB_irrefl (a : ByteArray) : ltB a a = false := bl_irrefl _
theorem ltB_trans {a b c : ByteArray} (h : ltB a b = true) (h2 : ltB b c = true) : ltB a c = true := bl_trans _ _ _ h h2
theorem bytes_ext {a b : ByteArray} (h : a.data.toList = b.data.toList) : a = b := by
  rw [← data_str a, ← data_str b, h]
theorem ltB_total {a b : ByteArray} (h : ltB a b = false) (h2 : ltB b a = false) : a = b := bytes_ext (bl_total _ _ h h2)
theorem leB_of_lt {a b : ByteArray} (h : ltB a b = true) : leB b a = false := by
  have h1 := ltB_asymm h
  unfold ltB at h1
  unfold leB
  rw [h1, Bool.false_or, beq_eq_false_iff_ne]
  intro e
  have := bytes_ext e
  subst this
  rw [ltB_irrefl] at h
  cases h
theorem leB_empty {a : ByteArray} (h : 1 ≤ a.size) : leB a (str []) = false := by
  unfold leB
  rw [str_data]
  rw [← size_data] at h
  cases ha : a.data.toList with
  | nil => rw [ha] at h; simp at h
  | cons x l => simp [Op.bytesLess]

theorem name_size {s : ByteArray} (h : nameB s = true) : 1 ≤ s.size ∧ s.size ≤ 24 := by
  simp only [nameB, Bool.and_eq_true, decide_eq_true_eq] at h
  exact ⟨h.1.1.2, h.1.2⟩

/-- COMPLETE: a right tree's archive is read. -/
theorem pKids_enc {f : Nat} (hn : ∀ t left r, allB t = true → dep t ≤ f → cnt t ≤ left → pNode f left (some (enc t ++ r)) = some (t, left - cnt t, some r)) :
    ∀ (ks : List (ByteArray × Nd)) (p : Option ByteArray) (acc : List (ByteArray × Nd)) (last : ByteArray) (left : Nat) (r : List UInt8),
      (p = none ∧ last = str [] ∨ p = some last) → risesB p ks = true → allK ks = true → depK ks ≤ f → cntK ks ≤ left →
      pKids (pNode f) ks.length acc last left (some (encK ks ++ r)) = some (.mk 4 [] (acc ++ ks), left - cntK ks, some r) := by
  intro ks
  induction ks with
  | nil => intro p acc last left r _ _ _ _ _; simp [pKids, encK, cntK]
  | cons x ks ih =>
    obtain ⟨nm, t⟩ := x
    intro p acc last left r hp hr ha hd hc
    simp only [risesB, Bool.and_eq_true] at hr
    simp only [allK, Bool.and_eq_true] at ha
    simp only [depK] at hd
    simp only [cntK] at hc
    have hs := name_size hr.1.1
    have e : pText 24 (some (encK ((nm, t) :: ks) ++ r)) = (nm.data.toList, some (enc t ++ (encK ks ++ r))) := by
      rw [encK, ← size_data, List.append_assoc, List.append_assoc, List.append_assoc]
      rw [← size_data] at hs
      exact pText_text 24 _ _ hs.2 (by omega)
    have hle : leB nm last = false := by
      rcases hp with ⟨rfl, rfl⟩ | rfl
      · exact leB_empty hs.1
      · exact leB_of_lt hr.1.2
    rw [List.length_cons, pKids, e]
    simp only [data_str]
    rw [hle, hn t left _ ha.1 (by omega) (by omega)]
    simp only [Bool.false_eq_true, if_false]
    rw [ih (some nm) _ nm _ r (.inr rfl) hr.2 ha.2 (by omega) (by omega)]
    simp [cntK]
    omega

theorem alone4 {b : List UInt8} {ks : List (ByteArray × Nd)} (h : aloneB (.mk 4 b ks) = true) : b = [] ∧ ks.length ≤ 200 ∧ risesB none ks = true := by
  simp [aloneB] at h
  exact ⟨h.1.1, h.1.2, h.2⟩
theorem alone_not4 {k : Int} {b : List UInt8} {ks : List (ByteArray × Nd)} (h : aloneB (.mk k b ks) = true) (hk : k ≠ 4) : 1 ≤ k ∧ k ≤ 3 ∧ b.length ≤ 2048 ∧ ks = [] := by
  simp only [aloneB] at h
  split at h
  · simp only [Bool.and_eq_true, decide_eq_true_eq, List.length_eq_zero_iff] at h
    exact ⟨by omega, by omega, h.1, h.2⟩
  · split at h
    · simp only [Bool.and_eq_true, decide_eq_true_eq, List.length_eq_zero_iff] at h
      exact ⟨by omega, by omega, by omega, h.2⟩
    · simp at h

theorem pNode_enc : ∀ f t left r, allB t = true → dep t ≤ f → cnt t ≤ left → pNode f left (some (enc t ++ r)) = some (t, left - cnt t, some r) := by
  intro f
  induction f with
  | zero => intro t left r _ hd _; cases t; simp [dep] at hd
  | succ f ih =>
    rintro ⟨k, b, ks⟩ left r ha hd hc
    simp only [allB, Bool.and_eq_true] at ha
    simp only [dep] at hd
    simp only [cnt] at hc
    cases left with
    | zero => omega
    | succ left =>
      by_cases hk : k = 4
      · subst hk
        obtain ⟨rfl, h2, h3⟩ := alone4 ha.1
        rw [enc, if_pos rfl, pNode, List.append_assoc, List.append_assoc, pNum_num 4 4 _ (by omega) (by omega)]
        simp only [ne_eq, not_true_eq_false, if_false]
        rw [pNum_num 200 _ _ h2 (by omega), pKids_enc ih ks none [] (str []) left r (.inl ⟨rfl, rfl⟩) h3 ha.2 (by omega) (by omega)]
        simp [cnt]
        omega
      · obtain ⟨h1, h2, h3, rfl⟩ := alone_not4 ha.1 hk
        rw [enc, if_neg hk, pNode, List.append_assoc, List.append_assoc, pNum_num 4 _ _ (by omega) (by omega)]
        simp only
        rw [if_pos (by omega), pText_text 2048 _ _ h3 (by omega)]
        simp [cnt, cntK]
        omega

/-- What tree bytes are the archive of: its error's number, or it. -/
def pOpen (b : List UInt8) : Nd × Int :=
  if 4096 < b.length then (.mk 0 [] [], 3)
  else match pNode 8 200 (some b) with
    | some (t, _, some []) => if rightB t then (t, 0) else (.mk 0 [] [], 4)
    | _ => (.mk 0 [] [], 4)

theorem pOpen_ok {b : List UInt8} {t : Nd} : pOpen b = (t, 0) ↔ b.length ≤ 4096 ∧ rightB t = true ∧ enc t = b := by
  constructor
  · intro h
    unfold pOpen at h
    split at h
    · simp at h
    · split at h
      · rename_i t' left' hn
        split at h
        · simp only [Prod.mk.injEq, and_true] at h
          subst h
          have := pNode_back _ _ _ _ _ _ hn
          simp only [List.append_nil, Option.some.injEq] at this
          exact ⟨by omega, by assumption, this.symm⟩
        · simp at h
      · simp at h
  · rintro ⟨h1, h2, rfl⟩
    unfold pOpen
    rw [if_neg (by omega)]
    have h3 := h2
    simp only [rightB, Bool.and_eq_true, decide_eq_true_eq] at h2
    have := pNode_enc 8 t 200 [] h2.1.1 h2.2 h2.1.2
    rw [List.append_nil] at this
    rw [this]
    simp [h3]
theorem pOpen_cases (b : List UInt8) : (∃ t, pOpen b = (t, 0)) ∨ pOpen b = (.mk 0 [] [], if 4096 < b.length then 3 else 4) := by
  unfold pOpen
  split
  · exact .inr rfl
  · split
    · split
      · exact .inl ⟨_, rfl⟩
      · exact .inr rfl
    · exact .inr rfl
/-- No archive begins another one. -/
theorem enc_prefix {t t' : Nd} {r r' : List UInt8} (h : rightB t = true) (h' : rightB t' = true) (e : enc t ++ r = enc t' ++ r') : t = t' ∧ r = r' := by
  simp only [rightB, Bool.and_eq_true, decide_eq_true_eq] at h h'
  have h1 := pNode_enc 8 t 200 r h.1.1 h.2 h.1.2
  have h2 := pNode_enc 8 t' 200 r' h'.1.1 h'.2 h'.1.2
  rw [e, h2] at h1
  simp only [Option.some.injEq, Prod.mk.injEq] at h1
  exact ⟨h1.1.symm, h1.2.2.symm⟩
theorem enc_inj {t t' : Nd} (h : rightB t = true) (h' : rightB t' = true) (e : enc t = enc t') : t = t' :=
  (enc_prefix (r := []) (r' := []) h h' (by simp [e])).1
end Pk
end Go.Proofs.YtgfgdlnlafngnaaDoor
