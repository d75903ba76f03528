/- The plain law of dividing by the polynomial, without any program: what the reference's loops compute, place by place, is the state that the bits lead to. -/
import Derived.Test.YtpnmoajiigjlaaaCrc
import Derived.Test.YtpnmoajiigjlaaaOwn
namespace Go.Proofs.Ytpnmoajiigjlaaa
open Go Go.RowKit

def bi (b : Bool) : Int := if b then 1 else 0
def bl (l : List Bool) : List Int := l.map bi
/-- So many places, each a bit. -/
def rowF (n : Nat) (f : Nat → Bool) : List Int := (List.range n).map fun j => bi (f j)
theorem bi_bd (b : Bool) : 0 ≤ bi b ∧ bi b ≤ 1 := by cases b <;> decide
theorem bi_xor (a b : Bool) : (bi a + bi b) % 2 = bi (a ^^ b) := by cases a <;> cases b <;> rfl
theorem bl_length (l : List Bool) : (bl l).length = l.length := by simp [bl]
theorem bl_snoc (l : List Bool) (b : Bool) : bl (l ++ [b]) = bl l ++ [bi b] := by simp [bl]
theorem bl_get (l : List Bool) (i : Nat) : (bl l).getD i 0 = bi (l.getD i false) := by
  simp only [bl, List.getD_eq_getElem?_getD, List.getElem?_map]
  cases l[i]? <;> rfl
theorem rowF_length (n : Nat) (f : Nat → Bool) : (rowF n f).length = n := by simp [rowF]
theorem rowF_get (n : Nat) (f : Nat → Bool) (j : Nat) (h : j < n) : (rowF n f).getD j 0 = bi (f j) := by simp [rowF, h]
theorem rowF_set (n : Nat) (f : Nat → Bool) (p : Nat) (b : Bool) : (rowF n f).set p (bi b) = rowF n (fun j => if j = p then b else f j) := by
  apply List.ext_getElem?
  intro j
  rw [List.getElem?_set]
  by_cases h : p = j
  · subst h
    by_cases hp : p < n <;> simp [rowF, hp]
  · have h' : ¬ j = p := fun e => h e.symm
    by_cases hj : j < n <;> simp [rowF, h, h', hj]
theorem rowF_congr (n : Nat) (f g : Nat → Bool) (h : ∀ j, j < n → f j = g j) : rowF n f = rowF n g := by
  unfold rowF
  apply List.map_congr_left
  intro j hj
  rw [h j (List.mem_range.1 hj)]
theorem rowF_of_list (l : List Bool) (m : Nat) : bl l ++ List.replicate m 0 = rowF (l.length + m) (fun j => l.getD j false) := by
  apply List.ext_getElem?
  intro j
  by_cases h : j < l.length
  · rw [List.getElem?_append_left (by rw [bl_length]; exact h)]
    simp [bl, rowF, h, Nat.lt_add_right m h]
  · rw [List.getElem?_append_right (by rw [bl_length]; omega), bl_length]
    by_cases h2 : j < l.length + m
    · have h3 : j - l.length < m := by omega
      simp [rowF, h2, h3, h, bi]
    · have h3 : ¬ j - l.length < m := by omega
      simp [rowF, h2, h3]

/-- The places ahead of the first round: the bits, with the state turned into the first k. -/
def turned (s : BitVec 32) (l : List Bool) (k j : Nat) : Bool := (l.getD j false) ^^ (decide (j < k) && s.getLsbD j)
/-- The places behind i rounds. -/
def placeA (s : BitVec 32) (l : List Bool) (i j : Nat) : Bool := if j < i then false else ((runC s (l.take i)).getLsbD (j - i) ^^ l.getD j false)
def dbit (m : Nat) : Bool := if m = 0 then true else poly.getLsbD (m - 1)
/-- The places within round i, behind k steps of a division that takes place. -/
def placeB (s : BitVec 32) (l : List Bool) (i k j : Nat) : Bool := placeA s l i j ^^ (decide (i + 32 < j + k ∧ j ≤ i + 32) && dbit (j - i))

theorem turned_zero (s : BitVec 32) (l : List Bool) (j : Nat) : turned s l 0 j = l.getD j false := by simp [turned]
theorem turned_succ (s : BitVec 32) (l : List Bool) (k j : Nat) : (if j = k then (turned s l k k ^^ s.getLsbD k) else turned s l k j) = turned s l (k + 1) j := by
  unfold turned
  by_cases h : j = k
  · subst h; simp
  · rw [if_neg h]
    have e : decide (j < k + 1) = decide (j < k) := by simp; omega
    rw [e]
theorem turned_all (s : BitVec 32) (l : List Bool) (j : Nat) : turned s l 32 j = placeA s l 0 j := by
  unfold turned placeA
  simp only [Nat.not_lt_zero, if_false, List.take_zero, runC_nil, Nat.sub_zero]
  by_cases h : j < 32
  · simp [h, Bool.xor_comm]
  · have : s.getLsbD j = false := BitVec.getLsbD_of_ge s j (by omega)
    simp [h, this]
theorem take_succ_bool (l : List Bool) (i : Nat) (h : i < l.length) : l.take (i + 1) = l.take i ++ [l.getD i false] := by
  rw [List.take_add_one, List.getElem?_eq_getElem h, List.getD_eq_getElem?_getD, List.getElem?_eq_getElem h]; rfl
theorem placeA_self (s : BitVec 32) (l : List Bool) (i : Nat) : placeA s l i i = ((runC s (l.take i)).getLsbD 0 ^^ l.getD i false) := by
  unfold placeA
  rw [if_neg (Nat.lt_irrefl _), Nat.sub_self]
theorem stepC_bit (s : BitVec 32) (b : Bool) (m : Nat) : (stepC s b).getLsbD m = (s.getLsbD (m + 1) ^^ ((s.getLsbD 0 ^^ b) && poly.getLsbD m)) := by
  unfold stepC
  rw [BitVec.getLsbD_xor, BitVec.getLsbD_ushiftRight, Nat.add_comm 1 m]
  cases (s.getLsbD 0 ^^ b) <;> simp
/-- A round in which nothing is kept. -/
theorem round_no (s : BitVec 32) (l : List Bool) (i : Nat) (hi : i < l.length) (h : placeA s l i i = false) (j : Nat) : placeA s l i j = placeA s l (i + 1) j := by
  have hk := placeA_self s l i
  rw [h] at hk
  unfold placeA at *
  rw [take_succ_bool l i hi, runC_snoc]
  by_cases h1 : j < i
  · rw [if_pos h1, if_pos (by omega)]
  · rw [if_neg h1]
    by_cases h2 : j = i
    · subst h2
      rw [if_pos (by omega)]
      simpa using h
    · rw [if_neg (by omega), stepC_bit, ← hk, Bool.false_and, Bool.xor_false, show j - (i + 1) + 1 = j - i from by omega]
theorem placeB_zero (s : BitVec 32) (l : List Bool) (i j : Nat) : placeB s l i 0 j = placeA s l i j := by
  unfold placeB
  have e : decide (i + 32 < j + 0 ∧ j ≤ i + 32) = false := by rw [decide_eq_false_iff_not]; omega
  rw [e]
  simp
theorem placeB_self (s : BitVec 32) (l : List Bool) (i k : Nat) (hk : k ≤ 32) : placeB s l i k i = placeA s l i i := by
  unfold placeB
  have e : decide (i + 32 < i + k ∧ i ≤ i + 32) = false := by rw [decide_eq_false_iff_not]; omega
  rw [e]
  simp
theorem placeB_done (s : BitVec 32) (l : List Bool) (i : Nat) (h : placeA s l i i = true) : placeB s l i 33 i = false := by
  unfold placeB
  have e : decide (i + 32 < i + 33 ∧ i ≤ i + 32) = true := by simp
  rw [e, h, Nat.sub_self]
  rfl
theorem placeB_succ (s : BitVec 32) (l : List Bool) (i k j : Nat) (hk : k ≤ 32) : (if j = i + 32 - k then (placeB s l i k (i + 32 - k) ^^ dbit (32 - k)) else placeB s l i k j) = placeB s l i (k + 1) j := by
  unfold placeB
  by_cases h : j = i + 32 - k
  · rw [if_pos h, ← h]
    have e1 : decide (i + 32 < j + k ∧ j ≤ i + 32) = false := by simp; omega
    have e2 : decide (i + 32 < j + (k + 1) ∧ j ≤ i + 32) = true := by simp; omega
    rw [e1, e2, show j - i = 32 - k from by omega]
    simp
  · rw [if_neg h]
    have e1 : decide (i + 32 < j + k ∧ j ≤ i + 32) = decide (i + 32 < j + (k + 1) ∧ j ≤ i + 32) := by
      rw [Bool.eq_iff_iff]
      simp
      omega
    rw [e1]
/-- A round in which the polynomial is taken away. -/
theorem round_yes (s : BitVec 32) (l : List Bool) (i : Nat) (hi : i < l.length) (h : placeA s l i i = true) (j : Nat) : placeB s l i 33 j = placeA s l (i + 1) j := by
  have hk := placeA_self s l i
  rw [h] at hk
  by_cases h2 : j = i
  · rw [h2, placeB_done s l i h]
    unfold placeA
    rw [if_pos (by omega)]
  · unfold placeB placeA
    rw [take_succ_bool l i hi, runC_snoc]
    by_cases h1 : j < i
    · have e : decide (i + 32 < j + 33 ∧ j ≤ i + 32) = false := by simp; omega
      rw [if_pos h1, if_pos (by omega), e]
      rfl
    · rw [if_neg h1, if_neg (by omega), stepC_bit, ← hk, Bool.true_and, show j - (i + 1) + 1 = j - i from by omega]
      by_cases h3 : j ≤ i + 32
      · have e : decide (i + 32 < j + 33 ∧ j ≤ i + 32) = true := by simp; omega
        have e2 : dbit (j - i) = poly.getLsbD (j - (i + 1)) := by
          unfold dbit
          rw [if_neg (by omega), show j - i - 1 = j - (i + 1) from by omega]
        rw [e, e2, Bool.true_and, Bool.xor_assoc, Bool.xor_assoc, Bool.xor_comm (l.getD j false)]
      · have e : decide (i + 32 < j + 33 ∧ j ≤ i + 32) = false := by simp; omega
        have e2 : poly.getLsbD (j - (i + 1)) = false := BitVec.getLsbD_of_ge _ _ (by omega)
        rw [e, e2]
        simp
/-- What is read at the end: the state's bit. -/
theorem placeA_end (s : BitVec 32) (l : List Bool) (m : Nat) : placeA s l l.length (l.length + m) = (runC s l).getLsbD m := by
  unfold placeA
  rw [if_neg (by omega), List.take_length, show l.length + m - l.length = m from by omega]
  simp
theorem out_step (s : BitVec 32) (k : Nat) : 2 * ((s.toNat / 2 ^ (k + 1) : Nat) : Int) + bi (s.getLsbD k) = ((s.toNat / 2 ^ k : Nat) : Int) := by
  have h : s.toNat / 2 ^ (k + 1) = s.toNat / 2 ^ k / 2 := by rw [Nat.pow_succ, Nat.div_div_eq_div_mul]
  have hb : s.getLsbD k = decide (s.toNat / 2 ^ k % 2 = 1) := by
    rw [BitVec.getLsbD, Nat.testBit_eq_decide_div_mod_eq]
  rw [h, hb]
  generalize s.toNat / 2 ^ k = x
  unfold bi
  by_cases hx : x % 2 = 1
  · simp [hx]; omega
  · simp [hx]; omega
theorem out_start (s : BitVec 32) : ((s.toNat / 2 ^ 32 : Nat) : Int) = 0 := by
  have := s.isLt
  omega
theorem bit_val (w k : Nat) : ((w : Int) / 2 ^ k % 2) = bi (w.testBit k) := by
  rw [Nat.testBit_eq_decide_div_mod_eq]
  have e2 : ((w : Int) / 2 ^ k) % 2 = ((w / 2 ^ k % 2 : Nat) : Int) := by simp
  rw [e2]
  unfold bi
  by_cases hx : w / 2 ^ k % 2 = 1
  · simp [hx]
  · simp [hx]; omega
def dlist : List Int := 1 :: bl (bitsN 2197175160 32)
theorem dlist_get (k : Nat) (hk : k ≤ 32) : dlist.getD (32 - k) 0 = bi (dbit (32 - k)) := by
  unfold dlist dbit
  by_cases h : 32 - k = 0
  · rw [h]; rfl
  · obtain ⟨m, hm⟩ : ∃ m, 32 - k = m + 1 := ⟨32 - k - 1, by omega⟩
    rw [hm, if_neg (by omega)]
    show (bl (bitsN 2197175160 32)).getD m 0 = _
    rw [bl_get, List.getD_eq_getElem?_getD, bitsN_get _ _ _ (by omega)]
    rfl
end Go.Proofs.Ytpnmoajiigjlaaa
