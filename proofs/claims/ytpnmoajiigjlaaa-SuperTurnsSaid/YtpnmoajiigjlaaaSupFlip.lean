/- A config's line with one bit turned is no config's: the plain law. -/
import Derived.Test.YtpnmoajiigjlaaaSupPlain
namespace Go.Proofs.Ytpnmoajiigjlaaa
set_option linter.unusedVariables false

theorem xor64 (x : Int) (h0 : 0 ≤ x) (h1 : x < 18446744073709551616) (j : Nat) (hj : j < 64) : bits .xor .u64 x (IntKind.u64.wrap (2 ^ j)) = ((x.toNat ^^^ 2 ^ j : Nat) : Int) := by
  obtain ⟨n, rfl⟩ := Int.eq_ofNat_of_zero_le h0
  have hn : n < 2 ^ 64 := by omega
  have hp : 2 ^ j < 2 ^ 64 := Nat.pow_lt_pow_right (by decide) hj
  have hx : n ^^^ 2 ^ j < 2 ^ 64 := Nat.xor_lt_two_pow hn hp
  have e : ((2 : Int) ^ j) = ((2 ^ j : Nat) : Int) := by simp
  have ew : IntKind.u64.wrap ((2 : Int) ^ j) = ((2 ^ j : Nat) : Int) := by
    rw [e, IntKind.wrap_u64]
    exact Int.emod_eq_of_lt (Int.natCast_nonneg _) (Int.ofNat_lt.mpr hp)
  rw [ew, Int.toNat_natCast]
  show IntKind.u64.wrap ((BitVec.ofInt 64 (n : Int) ^^^ BitVec.ofInt 64 ((2 ^ j : Nat) : Int)).toNat : Int) = _
  rw [BitVec.ofInt_natCast, BitVec.ofInt_natCast, BitVec.toNat_xor, BitVec.toNat_ofNat, BitVec.toNat_ofNat, Nat.mod_eq_of_lt hn, Nat.mod_eq_of_lt hp, IntKind.wrap_u64]
  exact Int.emod_eq_of_lt (Int.natCast_nonneg _) (Int.ofNat_lt.mpr hx)
theorem xor_ne (n j : Nat) : n ^^^ 2 ^ j ≠ n := by
  intro h
  have h2 := flip_self n j
  rw [h] at h2
  cases hb : n.testBit j <;> rw [hb] at h2 <;> simp at h2
/-- What a turned word is. -/
theorem word_turned (x : Int) (h0 : 0 ≤ x) (h1 : x < 18446744073709551616) (j : Nat) (hj : j < 64) : 0 ≤ bits .xor .u64 x (IntKind.u64.wrap (2 ^ j)) ∧ bits .xor .u64 x (IntKind.u64.wrap (2 ^ j)) ≠ x ∧ (bits .xor .u64 x (IntKind.u64.wrap (2 ^ j))).toNat = x.toNat ^^^ 2 ^ j := by
  rw [xor64 x h0 h1 j hj]
  refine ⟨Int.natCast_nonneg _, fun h => ?_, Int.toNat_natCast _⟩
  have h3 := congrArg Int.toNat h
  rw [Int.toNat_natCast] at h3
  exact xor_ne x.toNat j h3
theorem sum7_turn (c0 c1 c2 c3 q : Int) (j : Nat) (hj : j < 64) :
    ((q.toNat = c0.toNat ^^^ 2 ^ j → sum7 q c1 c2 c3 ≠ sum7 c0 c1 c2 c3) ∧ (q.toNat = c1.toNat ^^^ 2 ^ j → sum7 c0 q c2 c3 ≠ sum7 c0 c1 c2 c3)) ∧ (q.toNat = c2.toNat ^^^ 2 ^ j → sum7 c0 c1 q c3 ≠ sum7 c0 c1 c2 c3) ∧ (q.toNat = c3.toNat ^^^ 2 ^ j → sum7 c0 c1 c2 q ≠ sum7 c0 c1 c2 c3) :=
  ⟨⟨fun h => sum_turn 64 [7739836655157129782, c0, c1, c2, c3, 1, 0] 1 j (by simp) hj q h, fun h => sum_turn 64 [7739836655157129782, c0, c1, c2, c3, 1, 0] 2 j (by simp) hj q h⟩, fun h => sum_turn 64 [7739836655157129782, c0, c1, c2, c3, 1, 0] 3 j (by simp) hj q h, fun h => sum_turn 64 [7739836655157129782, c0, c1, c2, c3, 1, 0] 4 j (by simp) hj q h⟩
/-- A line of eight words with a wrong magic, version, zero or sum is no config's. -/
theorem okB_no {x0 x1 x2 x3 x4 x5 x6 x7 : Int} (h : x0 ≠ 7739836655157129782 ∨ x5 ≠ 1 ∨ x6 ≠ 0 ∨ sum7 x1 x2 x3 x4 ≠ x7) : okB x0 x1 x2 x3 x4 x5 x6 x7 = false := by
  apply Bool.eq_false_iff.2
  intro hk
  simp only [okB, Bool.and_eq_true, decide_eq_true_eq] at hk
  obtain ⟨⟨⟨⟨_, e0⟩, e5⟩, e6⟩, e7⟩ := hk
  rcases h with h | h | h | h
  · exact h e0
  · exact h e5
  · exact h e6
  · exact h e7.symm
end Go.Proofs.Ytpnmoajiigjlaaa
