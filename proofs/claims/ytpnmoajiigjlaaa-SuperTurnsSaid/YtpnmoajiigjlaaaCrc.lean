/- The plain law of sums, without any program: a bit goes into a state of 32 bits; a run of bits; a sum is linear, and one turned bit turns it. -/
import Derived.Laws.Entries
namespace Go.Proofs.Ytpnmoajiigjlaaa
open Go

def poly : BitVec 32 := 0x82f63b78#32
def stepC (s : BitVec 32) (b : Bool) : BitVec 32 := (s >>> 1) ^^^ (if (s.getLsbD 0 ^^ b) then poly else 0#32)
def runC (s : BitVec 32) (l : List Bool) : BitVec 32 := l.foldl stepC s
def bitsN (w n : Nat) : List Bool := (List.range n).map w.testBit
def bitsOf (n : Nat) (l : List Int) : List Bool := l.flatMap fun x => bitsN x.toNat n
def ones : BitVec 32 := BitVec.allOnes 32
def notC (s : BitVec 32) : BitVec 32 := ~~~ s
/-- The sum of numbers of so many bits each. -/
def sumC (n : Nat) (l : List Int) : Int := ((notC (runC ones (bitsOf n l))).toNat : Int)
theorem notC_val (s : BitVec 32) : ((notC s).toNat : Int) = 4294967295 - (s.toNat : Int) := by
  have := s.isLt
  unfold notC
  rw [BitVec.toNat_not]
  omega
theorem state_of (x : Int) (h0 : 0 ≤ x) (h1 : x < 4294967296) : ∃ s : BitVec 32, x = (s.toNat : Int) := by
  refine ⟨BitVec.ofNat 32 x.toNat, ?_⟩
  rw [BitVec.toNat_ofNat, Nat.mod_eq_of_lt (by omega)]
  omega
theorem bit_at (b : Int) (h0 : 0 ≤ b) (k : Nat) (m : Int) (hm : m % 2 = 0) : decide ((b / 2 ^ k % m) % 2 = 1) = b.toNat.testBit k := by
  obtain ⟨n, rfl⟩ := Int.eq_ofNat_of_zero_le h0
  have e : ((n : Int) / 2 ^ k % m) % 2 = ((n : Int) / 2 ^ k) % 2 := by
    rw [Int.emod_emod_of_dvd _ (Int.dvd_of_emod_eq_zero hm)]
  rw [e, Int.toNat_natCast, Nat.testBit_eq_decide_div_mod_eq]
  congr 1
  have e2 : ((n : Int) / 2 ^ k) % 2 = ((n / 2 ^ k % 2 : Nat) : Int) := by simp
  rw [e2, eq_iff_iff]
  omega

theorem runC_nil (s : BitVec 32) : runC s [] = s := rfl
theorem runC_append (s : BitVec 32) (a b : List Bool) : runC s (a ++ b) = runC (runC s a) b := List.foldl_append
theorem runC_snoc (s : BitVec 32) (a : List Bool) (b : Bool) : runC s (a ++ [b]) = stepC (runC s a) b := by rw [runC_append]; rfl
theorem bitsN_length (w n : Nat) : (bitsN w n).length = n := by simp [bitsN]
theorem bitsN_zero (w : Nat) : bitsN w 0 = [] := rfl
theorem bitsN_succ (w n : Nat) : bitsN w (n + 1) = bitsN w n ++ [w.testBit n] := by simp [bitsN, List.range_succ]
theorem bitsN_get (w n i : Nat) (h : i < n) : (bitsN w n)[i]? = some (w.testBit i) := by simp [bitsN, h]
theorem bitsN_append (w a b : Nat) : bitsN w (a + b) = bitsN w a ++ bitsN (w / 2 ^ a) b := by
  induction b with
  | zero => simp [bitsN_zero]
  | succ b ih => rw [← Nat.add_assoc, bitsN_succ, ih, bitsN_succ, List.append_assoc, Nat.testBit_div_two_pow, Nat.add_comm b a]
theorem bitsN_mod (w n : Nat) : bitsN (w % 2 ^ n) n = bitsN w n := by
  unfold bitsN
  apply List.map_congr_left
  intro i hi
  rw [List.mem_range] at hi
  simp [Nat.testBit_mod_two_pow, hi]
theorem bitsOf_nil (n : Nat) : bitsOf n [] = [] := rfl
theorem bitsOf_append (n : Nat) (a b : List Int) : bitsOf n (a ++ b) = bitsOf n a ++ bitsOf n b := by simp [bitsOf]
theorem bitsOf_snoc (n : Nat) (a : List Int) (x : Int) : bitsOf n (a ++ [x]) = bitsOf n a ++ bitsN x.toNat n := by simp [bitsOf]
theorem bitsOf_length (n : Nat) (a : List Int) : (bitsOf n a).length = n * a.length := by
  induction a with
  | nil => simp [bitsOf]
  | cons x a ih =>
    have e : bitsOf n (x :: a) = bitsN x.toNat n ++ bitsOf n a := by simp [bitsOf]
    rw [e, List.length_append, ih, bitsN_length, List.length_cons, Nat.mul_succ, Nat.add_comm]

theorem shr_xor (a b : BitVec 32) : (a ^^^ b) >>> 1 = (a >>> 1) ^^^ (b >>> 1) := by
  apply BitVec.eq_of_getLsbD_eq
  intro i hi
  simp
theorem xor_four (a p b q : BitVec 32) : (a ^^^ p) ^^^ (b ^^^ q) = (a ^^^ b) ^^^ (p ^^^ q) := by
  rw [BitVec.xor_assoc, ← BitVec.xor_assoc p b q, BitVec.xor_comm p b, BitVec.xor_assoc b p q, ← BitVec.xor_assoc]
theorem pick_xor (x y : Bool) : (if (x ^^ y) then poly else 0#32) = (if x then poly else 0#32) ^^^ (if y then poly else 0#32) := by
  cases x <;> cases y <;> simp
/-- A bit goes in linearly. -/
theorem step_xor (s t : BitVec 32) (a b : Bool) : stepC (s ^^^ t) (a ^^ b) = stepC s a ^^^ stepC t b := by
  unfold stepC
  rw [shr_xor, BitVec.getLsbD_xor, xor_four, ← pick_xor]
  congr 2
  cases s.getLsbD 0 <;> cases t.getLsbD 0 <;> cases a <;> cases b <;> rfl
theorem run_xor (a : List Bool) : ∀ (b : List Bool) (s t : BitVec 32), a.length = b.length → runC (s ^^^ t) (List.zipWith (· ^^ ·) a b) = runC s a ^^^ runC t b := by
  induction a with
  | nil => intro b s t h; cases b with
    | nil => rfl
    | cons => simp at h
  | cons x a ih => intro b s t h; cases b with
    | nil => simp at h
    | cons y b =>
      have := ih b (stepC s x) (stepC t y) (by simpa using h)
      simpa [runC, step_xor] using this
theorem step_top (s : BitVec 32) (b : Bool) : (stepC s b).getLsbD 31 = (s.getLsbD 0 ^^ b) := by
  unfold stepC
  rw [BitVec.getLsbD_xor]
  have h1 : (s >>> 1).getLsbD 31 = false := by simp
  rw [h1]
  cases (s.getLsbD 0 ^^ b) <;> simp [poly] <;> decide
/-- No two states lead to one by one bit. -/
theorem step_inj (s t : BitVec 32) (b : Bool) (h : stepC s b = stepC t b) : s = t := by
  have h0 : s.getLsbD 0 = t.getLsbD 0 := by
    have := congrArg (fun x => x.getLsbD 31) h
    simp only [step_top] at this
    cases hs : s.getLsbD 0 <;> cases ht : t.getLsbD 0 <;> cases b <;> simp_all
  unfold stepC at h
  rw [h0] at h
  have h1 : s >>> 1 = t >>> 1 := by
    have := congrArg (fun x => x ^^^ (if (t.getLsbD 0 ^^ b) then poly else 0#32)) h
    simpa [BitVec.xor_assoc] using this
  apply BitVec.eq_of_getLsbD_eq
  intro i hi
  cases i with
  | zero => exact h0
  | succ i =>
    have := congrArg (fun x => x.getLsbD i) h1
    simpa [Nat.add_comm] using this
theorem run_inj (l : List Bool) : ∀ s t : BitVec 32, runC s l = runC t l → s = t := by
  induction l with
  | nil => intro s t h; exact h
  | cons b l ih => intro s t h; exact step_inj s t b (ih _ _ h)
/-- One bit that is turned makes another state. -/
theorem run_turn (s : BitVec 32) (l r : List Bool) (b : Bool) : runC s (l ++ (!b) :: r) ≠ runC s (l ++ b :: r) := by
  intro h
  rw [runC_append, runC_append] at h
  have h1 : stepC (runC s l) (!b) = stepC (runC s l) b := run_inj r _ _ h
  have := congrArg (fun x => x.getLsbD 31) h1
  simp only [step_top] at this
  cases (runC s l).getLsbD 0 <;> cases b <;> simp_all
theorem flip_other (w j i : Nat) (h : i ≠ j) : (w ^^^ 2 ^ j).testBit i = w.testBit i := by
  rw [Nat.testBit_xor, Nat.testBit_two_pow, show decide (j = i) = false from by simp; omega, Bool.xor_false]
theorem flip_self (w j : Nat) : (w ^^^ 2 ^ j).testBit j = !w.testBit j := by
  rw [Nat.testBit_xor, Nat.testBit_two_pow]
  simp
theorem bitsN_congr (a b n : Nat) (h : ∀ i, i < n → a.testBit i = b.testBit i) : bitsN a n = bitsN b n := by
  unfold bitsN
  apply List.map_congr_left
  intro i hi
  exact h i (List.mem_range.1 hi)
theorem flip_bits (w j n : Nat) (hj : j < n) : ∃ A b C, bitsN w n = A ++ b :: C ∧ bitsN (w ^^^ 2 ^ j) n = A ++ (!b) :: C := by
  have e : n = j + (1 + (n - j - 1)) := by omega
  refine ⟨bitsN w j, w.testBit j, bitsN (w / 2 ^ j / 2 ^ 1) (n - j - 1), ?_, ?_⟩
  · rw [e, bitsN_append, bitsN_append, show j + (1 + (n - j - 1)) - j - 1 = n - j - 1 from by omega]
    have h1 : bitsN (w / 2 ^ j) 1 = [w.testBit j] := by rw [bitsN_succ, bitsN_zero, Nat.testBit_div_two_pow, Nat.zero_add]; rfl
    rw [h1]
    rfl
  · rw [e, bitsN_append, bitsN_append, show j + (1 + (n - j - 1)) - j - 1 = n - j - 1 from by omega]
    have h0 : bitsN (w ^^^ 2 ^ j) j = bitsN w j := bitsN_congr _ _ _ fun i hi => flip_other w j i (by omega)
    have h1 : bitsN ((w ^^^ 2 ^ j) / 2 ^ j) 1 = [!w.testBit j] := by rw [bitsN_succ, bitsN_zero, Nat.testBit_div_two_pow, Nat.zero_add, flip_self]; rfl
    have h2 : bitsN ((w ^^^ 2 ^ j) / 2 ^ j / 2 ^ 1) (n - j - 1) = bitsN (w / 2 ^ j / 2 ^ 1) (n - j - 1) := bitsN_congr _ _ _ fun i _ => by
      rw [Nat.testBit_div_two_pow, Nat.testBit_div_two_pow, Nat.testBit_div_two_pow, Nat.testBit_div_two_pow]
      exact flip_other w j _ (by omega)
    rw [h0, h1, h2]
    rfl
theorem sum_inj (n : Nat) (a b : List Int) (h : sumC n a = sumC n b) : runC ones (bitsOf n a) = runC ones (bitsOf n b) := by
  unfold sumC at h
  have h1 : (notC (runC ones (bitsOf n a))).toNat = (notC (runC ones (bitsOf n b))).toNat := by omega
  have h2 := BitVec.eq_of_toNat_eq h1
  unfold notC at h2
  have h3 := congrArg (fun x => ~~~ x) h2
  simpa using h3
/-- One bit of one number that is turned makes another sum. -/
theorem sum_turn (n : Nat) (xs : List Int) (t j : Nat) (ht : t < xs.length) (hj : j < n) (q : Int) (hq : q.toNat = (xs.getD t 0).toNat ^^^ 2 ^ j) : sumC n (xs.set t q) ≠ sumC n xs := by
  intro h
  have h1 := sum_inj n _ _ h
  have e1 : xs = xs.take t ++ xs.getD t 0 :: xs.drop (t + 1) := by
    rw [List.getD_eq_getElem?_getD, List.getElem?_eq_getElem ht]
    simp
  have e2 : xs.set t q = xs.take t ++ q :: xs.drop (t + 1) := by
    rw [List.set_eq_take_append_cons_drop, if_pos ht]
  obtain ⟨A, b, C, hA, hB⟩ := flip_bits (xs.getD t 0).toNat j n hj
  have c1 : bitsOf n xs = (bitsOf n (xs.take t) ++ A) ++ b :: (C ++ bitsOf n (xs.drop (t + 1))) := by
    have : bitsOf n (xs.getD t 0 :: xs.drop (t + 1)) = bitsN (xs.getD t 0).toNat n ++ bitsOf n (xs.drop (t + 1)) := by simp [bitsOf]
    rw [e1, bitsOf_append, this, hA, ← e1]
    simp
  have c2 : bitsOf n (xs.set t q) = (bitsOf n (xs.take t) ++ A) ++ (!b) :: (C ++ bitsOf n (xs.drop (t + 1))) := by
    have : bitsOf n (q :: xs.drop (t + 1)) = bitsN q.toNat n ++ bitsOf n (xs.drop (t + 1)) := by simp [bitsOf]
    rw [e2, bitsOf_append, this, hq, hB]
    simp
  rw [c1, c2] at h1
  exact run_turn ones _ _ b h1
theorem bitsN_xor (a b n : Nat) : bitsN (a ^^^ b) n = List.zipWith (· ^^ ·) (bitsN a n) (bitsN b n) := by
  induction n with
  | zero => rfl
  | succ n ih => rw [bitsN_succ, bitsN_succ, bitsN_succ, ih, List.zipWith_append (by simp [bitsN_length]), Nat.testBit_xor]; rfl
theorem bits_mix (n : Nat) (a : List Int) : ∀ (b c m : List Int), b.length = a.length → c.length = a.length → m.length = a.length →
    (∀ i, i < a.length → (m.getD i 0).toNat = ((a.getD i 0).toNat ^^^ (b.getD i 0).toNat) ^^^ (c.getD i 0).toNat) →
    bitsOf n m = List.zipWith (· ^^ ·) (List.zipWith (· ^^ ·) (bitsOf n a) (bitsOf n b)) (bitsOf n c) := by
  induction a with
  | nil => intro b c m hb hc hm _; cases m with
    | nil => rfl
    | cons => simp at hm
  | cons x a ih =>
    intro b c m hb hc hm h
    cases b with
    | nil => simp at hb
    | cons y b => cases c with
      | nil => simp at hc
      | cons z c => cases m with
        | nil => simp at hm
        | cons q m =>
          have h0 := h 0 (by simp)
          have h1 := ih b c m (by simpa using hb) (by simpa using hc) (by simpa using hm) (fun i hi => by
            have := h (i + 1) (by simp; omega)
            simpa using this)
          have e : ∀ (u : Int) (l : List Int), bitsOf n (u :: l) = bitsN u.toNat n ++ bitsOf n l := fun u l => by simp [bitsOf]
          have h2 : q.toNat = (x.toNat ^^^ y.toNat) ^^^ z.toNat := by simpa using h0
          have hl : (bitsOf n b).length = (bitsOf n a).length := by rw [bitsOf_length, bitsOf_length, show b.length = a.length from by simpa using hb]
          rw [e, e, e, e, h1, h2, bitsN_xor, bitsN_xor, List.zipWith_append (by simp [bitsN_length]), List.zipWith_append (by simp [bitsN_length])]
theorem not_mix (a b c : BitVec 32) : ~~~ ((a ^^^ b) ^^^ c) = (~~~ a ^^^ ~~~ b) ^^^ ~~~ c := by
  apply BitVec.eq_of_getLsbD_eq
  intro i hi
  simp only [BitVec.getLsbD_not, BitVec.getLsbD_xor, hi, decide_true, Bool.true_and]
  cases a.getLsbD i <;> cases b.getLsbD i <;> cases c.getLsbD i <;> rfl
/-- Of three texts of one length the sum of their exclusive-or is that of their sums. -/
theorem sum_mix (n : Nat) (a b c m : List Int) (hb : b.length = a.length) (hc : c.length = a.length) (hm : m.length = a.length)
    (h : ∀ i, i < a.length → (m.getD i 0).toNat = ((a.getD i 0).toNat ^^^ (b.getD i 0).toNat) ^^^ (c.getD i 0).toNat) :
    notC (runC ones (bitsOf n m)) = (notC (runC ones (bitsOf n a)) ^^^ notC (runC ones (bitsOf n b))) ^^^ notC (runC ones (bitsOf n c)) := by
  have e : ones = (ones ^^^ ones) ^^^ ones := by decide
  have la : (bitsOf n a).length = (bitsOf n b).length := by rw [bitsOf_length, bitsOf_length, hb]
  have h1 : runC ones (bitsOf n m) = (runC ones (bitsOf n a) ^^^ runC ones (bitsOf n b)) ^^^ runC ones (bitsOf n c) := by
    have h2 := run_xor (List.zipWith (· ^^ ·) (bitsOf n a) (bitsOf n b)) (bitsOf n c) (ones ^^^ ones) ones (by rw [List.length_zipWith, bitsOf_length, bitsOf_length, bitsOf_length, hb, hc]; simp)
    rw [run_xor _ _ ones ones la, ← e] at h2
    rw [bits_mix n a b c m hb hc hm h, h2]
  rw [h1]
  unfold notC
  exact not_mix _ _ _
end Go.Proofs.Ytpnmoajiigjlaaa
