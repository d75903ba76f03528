/- Contracts of package sum: each function answers the plain sum of the same bits; nothing is written. -/
import Derived.Test.YtpnmoajiigjlaaaRows
import Derived.Test.YtpnmoajiigjlaaaCrc
import Derived.WalkKit
import Derived.ProofKit
import Derived.WalkSpells
import Derived.WalkLawsBesides
import Derived.OpenShut
import Derived.Lib.Hide
namespace Go.Proofs.Ytpnmoajiigjlaaa
open Go.RowKit
set_option linter.unusedVariables false

theorem ret_int {k : IntKind} {a b : Int} (h : a = b) : Ending.returned (.int k a) = .returned (.int k b) := by rw [h]
theorem ret_bool {a b : Bool} (h : a = b) : Ending.returned (.bool a) = .returned (.bool b) := by rw [h]
theorem up {W w w' : World} (h : Below W.heap.size W w) (k : Below w.heap.size w w') : Below W.heap.size W w' := h.trans (k.mono h.size)

theorem wrap32_nat (b : BitVec 32) : IntKind.u32.wrap (b.toNat : Int) = b.toNat := by
  have := b.isLt
  rw [IntKind.wrap_u32]
  omega
theorem ofInt_toNat (b : BitVec 32) : BitVec.ofInt 32 (b.toNat : Int) = b := by
  rw [BitVec.ofInt_natCast, BitVec.ofNat_toNat, BitVec.setWidth_eq]
theorem xor_val (a : BitVec 32) (y : Int) : bits .xor .u32 (a.toNat : Int) y = ((a ^^^ BitVec.ofInt 32 y).toNat : Int) := by
  show IntKind.u32.wrap ((BitVec.ofInt 32 (a.toNat : Int) ^^^ BitVec.ofInt 32 y).toNat : Int) = _
  rw [ofInt_toNat, wrap32_nat]
theorem and_val (a : BitVec 32) (y : Int) : bits .and .u32 (a.toNat : Int) y = ((a &&& BitVec.ofInt 32 y).toNat : Int) := by
  show IntKind.u32.wrap ((BitVec.ofInt 32 (a.toNat : Int) &&& BitVec.ofInt 32 y).toNat : Int) = _
  rw [ofInt_toNat, wrap32_nat]
theorem low_bit (a : BitVec 32) : (a &&& BitVec.ofInt 32 1).toNat = if a.getLsbD 0 then 1 else 0 := by
  have h : BitVec.ofInt 32 1 = 1#32 := rfl
  rw [h, BitVec.toNat_and]
  show a.toNat &&& 1 = _
  rw [Nat.and_one_is_mod, BitVec.getLsbD, Nat.testBit_zero]
  by_cases h : a.toNat % 2 = 1 <;> simp [h] <;> omega
theorem bit_of (x : Int) (h : 0 ≤ x) : (BitVec.ofInt 32 x).getLsbD 0 = decide (x % 2 = 1) := by
  obtain ⟨n, rfl⟩ := Int.eq_ofNat_of_zero_le h
  rw [BitVec.ofInt_natCast, BitVec.getLsbD_ofNat, Nat.testBit_zero]
  simp
  omega
theorem kept_val (s : BitVec 32) (x : Int) (h : 0 ≤ x) : bits .and .u32 (bits .xor .u32 (s.toNat : Int) x) 1 = if (s.getLsbD 0 ^^ decide (x % 2 = 1)) then 1 else 0 := by
  rw [xor_val, and_val, low_bit, BitVec.getLsbD_xor, bit_of x h]
  split <;> rfl
theorem shr_val (s : BitVec 32) : (s.toNat : Int) / (2 : Int) = ((s >>> 1).toNat : Int) := by
  rw [BitVec.toNat_ushiftRight, Nat.shiftRight_eq_div_pow]
  rfl
theorem step_yes (s : BitVec 32) (b : Bool) (h : (s.getLsbD 0 ^^ b) = true) : bits .xor .u32 ((s.toNat : Int) / 2) 2197175160 = ((stepC s b).toNat : Int) := by
  rw [shr_val, xor_val]
  unfold stepC
  rw [if_pos h]
  rfl
theorem step_no (s : BitVec 32) (b : Bool) (h : (s.getLsbD 0 ^^ b) = false) : (s.toNat : Int) / 2 = ((stepC s b).toNat : Int) := by
  rw [shr_val]
  unfold stepC
  rw [h]
  simp

theorem bit_any (s : BitVec 32) (x : Int) (h : 0 ≤ x) (w : World) :
    Calls Try.prog 27 #[.int .u32 (s.toNat : Int), .int .u32 x] w fun e w' => e = .returned (.int .u32 ((stepC s (decide (x % 2 = 1))).toNat : Int)) ∧ w = w' := by
  have hk := kept_val s x h
  have h0 : (0 : Int) ≤ s.toNat := Int.natCast_nonneg _
  cases hb : (s.getLsbD 0 ^^ decide (x % 2 = 1))
  · have hn := Lib.hid (step_no s _ hb)
    rw [hb] at hk
    have ht : (bits .and .u32 (bits .xor .u32 (s.toNat : Int) x) 1 == 1) = false := by rw [hk]; rfl
    clear hk hb h
    go_enter Try.func27, Try.ntmps27
    go_wp2
    go_ret
    exact ⟨ret_int hn.out, rfl⟩
  · have hn := Lib.hid (step_yes s _ hb)
    rw [hb] at hk
    have ht : (bits .and .u32 (bits .xor .u32 (s.toNat : Int) x) 1 == 1) = true := by rw [hk]; rfl
    clear hk hb h
    go_enter Try.func27, Try.ntmps27
    go_wp2
    go_ret
    exact ⟨ret_int hn.out, rfl⟩
theorem bit_next (s : BitVec 32) (b : Int) (h0 : 0 ≤ b) (k : Nat) (w : World) :
    Calls Try.prog 27 #[.int .u32 ((runC s (bitsN b.toNat k)).toNat : Int), .int .u32 (b / 2 ^ k % 4294967296)] w fun e w' => e = .returned (.int .u32 ((runC s (bitsN b.toNat (k + 1))).toNat : Int)) ∧ w = w' := by
  have h := bit_any (runC s (bitsN b.toNat k)) (b / 2 ^ k % 4294967296) (Int.emod_nonneg _ (by decide)) w
  rw [bit_at b h0 k 4294967296 (by decide), ← runC_snoc, ← bitsN_succ] at h
  exact h
theorem begin_any (w : World) : Calls Try.prog 20 #[] w fun e w' => e = .returned (.int .u32 (ones.toNat : Int)) ∧ w = w' := by
  go_enter Try.func20, Try.ntmps20
  go_wp2
  go_ret
  exact ⟨ret_int rfl, rfl⟩
theorem end_any (s : BitVec 32) (w : World) : Calls Try.prog 22 #[.int .u32 (s.toNat : Int)] w fun e w' => e = .returned (.int .u32 ((notC s).toNat : Int)) ∧ w = w' := by
  have HX : Hid (bits BinOp.xor IntKind.u32 IntKind.u32.max (s.toNat : Int) = ((notC s).toNat : Int)) := by
    show IntKind.u32.wrap ((BitVec.ofInt 32 IntKind.u32.max ^^^ BitVec.ofInt 32 (s.toNat : Int)).toNat : Int) = _
    have e : BitVec.ofInt 32 IntKind.u32.max = BitVec.allOnes 32 := rfl
    rw [ofInt_toNat, e, BitVec.allOnes_xor, wrap32_nat]
    rfl
  go_enter Try.func22, Try.ntmps22
  go_wp2
  go_ret
  exact ⟨ret_int HX.out, rfl⟩
theorem byte_any (s : BitVec 32) (b : Int) (h0 : 0 ≤ b) (h1 : b < 256) (w : World) :
    Calls Try.prog 25 #[.int .u32 (s.toNat : Int), .int .u8 b] w fun e w' => e = .returned (.int .u32 ((runC s (bitsN b.toNat 8)).toNat : Int)) ∧ w = w' := by
  have hB := Lib.hid (fun k w => bit_next s b h0 k w)
  go_enter Try.func25, Try.ntmps25
  go_wp2
  go_loop [0, 6] (fun st c => ∃ k : Nat, k ≤ 8 ∧ c = .int .i64 k ∧ st = .int .u32 ((runC s (bitsN b.toNat k)).toNat : Int)) (fun _ c => 8 - (intOf c).toNat)
  case atStart => exact ⟨0, by omega, rfl, rfl⟩
  case round =>
    obtain ⟨k, hk, rfl, rfl⟩ := hrel
    by_cases hlt : k < 8
    · go_wp2_with (go_at_call 27; refine (hB.out k _).mono ?_; rintro e w1 ⟨rfl, rfl⟩)
      go_round
      case rel => exact ⟨k + 1, by omega, by go_num, rfl⟩
      case measure => simp [intOf]; omega
    · have e8 : k = 8 := by omega
      subst e8
      go_wp2
      go_ret
      exact ⟨rfl, rfl⟩
theorem word_any (s : BitVec 32) (v : Int) (h0 : 0 ≤ v) (w : World) :
    Calls Try.prog 21 #[.int .u32 (s.toNat : Int), .int .u64 v] w fun e w' => e = .returned (.int .u32 ((runC s (bitsN v.toNat 64)).toNat : Int)) ∧ w = w' := by
  have hN : ∀ k : Nat, ∀ w, Calls Try.prog 25 #[.int .u32 ((runC s (bitsN v.toNat (8 * k))).toNat : Int), .int .u8 (v / 2 ^ (8 * k) % 256)] w fun e w' => e = .returned (.int .u32 ((runC s (bitsN v.toNat (8 * (k + 1)))).toNat : Int)) ∧ w = w' := fun k w => by
    have h := byte_any (runC s (bitsN v.toNat (8 * k))) (v / 2 ^ (8 * k) % 256) (Int.emod_nonneg _ (by decide)) (Int.emod_lt_of_pos _ (by decide)) w
    obtain ⟨n, rfl⟩ := Int.eq_ofNat_of_zero_le h0
    have e : ((n : Int) / 2 ^ (8 * k) % 256).toNat = n / 2 ^ (8 * k) % 2 ^ 8 := by
      have e2 : (n : Int) / 2 ^ (8 * k) % 256 = ((n / 2 ^ (8 * k) % 256 : Nat) : Int) := by simp
      rw [e2, Int.toNat_natCast]
    rw [e, bitsN_mod, ← runC_append, Int.toNat_natCast, ← bitsN_append, show 8 * k + 8 = 8 * (k + 1) from by omega] at h
    exact h
  have hB := Lib.hid hN
  clear hN
  go_enter Try.func21, Try.ntmps21
  go_wp2
  go_loop [0, 6] (fun st c => ∃ k : Nat, k ≤ 8 ∧ c = .int .i64 k ∧ st = .int .u32 ((runC s (bitsN v.toNat (8 * k))).toNat : Int)) (fun _ c => 8 - (intOf c).toNat)
  case atStart => exact ⟨0, by omega, rfl, rfl⟩
  case round =>
    obtain ⟨k, hk, rfl, rfl⟩ := hrel
    by_cases hlt : k < 8
    · go_wp2_with (go_at_call 25; refine (hB.out k _).mono ?_; rintro e w1 ⟨rfl, rfl⟩)
      go_round
      case rel => exact ⟨k + 1, by omega, by go_num, rfl⟩
      case measure => simp [intOf]; omega
    · have e8 : k = 8 := by omega
      subst e8
      go_wp2
      go_ret
      exact ⟨rfl, rfl⟩

/-- A slice value that reads as these numbers (whatever it leads to where there are none). -/
def RowOf (k : IntKind) (w : World) (v : Value) (xs : List Int) : Prop :=
  xs.length ≤ 140737488351232 ∧ ∃ a cap, v = .slice a xs.length cap ∧ (xs ≠ [] → ∃ g off, a = some ⟨g, off, none⟩ ∧ g < w.heap.size ∧ ∀ i, i < xs.length → w.cell? ⟨g, off + i, none⟩ = some (.int k (xs.getD i 0)))
theorem RowOf.keep {k : IntKind} {w w' : World} {v : Value} {xs : List Int} (h : RowOf k w v xs) (b : Below w.heap.size w w') : RowOf k w' v xs := by
  obtain ⟨hl, a, cap, hv, hc⟩ := h
  refine ⟨hl, a, cap, hv, fun hne => ?_⟩
  obtain ⟨g, off, ha, hg, hcell⟩ := hc hne
  exact ⟨g, off, ha, Nat.lt_of_lt_of_le hg b.size, fun i hi => (b.cell (by exact hg)).trans (hcell i hi)⟩
theorem take_next (xs : List Int) (k : Nat) (h : k < xs.length) : xs.take (k + 1) = xs.take k ++ [xs.getD k 0] := by
  rw [List.take_add_one, List.getElem?_eq_getElem h, List.getD_eq_getElem?_getD, List.getElem?_eq_getElem h]; rfl


theorem words_any (v : Value) (xs : List Int) (w : World) (hr : RowOf .u64 w v xs) (hx : ∀ x ∈ xs, 0 ≤ x ∧ x < 18446744073709551616) :
    Calls Try.prog 18 #[v] w fun e w' => e = .returned (.int .u32 (sumC 64 xs)) ∧ w = w' := by
  obtain ⟨hl, a, cap, rfl, hc⟩ := hr
  have hN : ∀ k : Nat, k < xs.length → ∀ w, Calls Try.prog 21 #[.int .u32 ((runC ones (bitsOf 64 (xs.take k))).toNat : Int), .int .u64 (xs.getD k 0)] w fun e w' => e = .returned (.int .u32 ((runC ones (bitsOf 64 (xs.take (k + 1)))).toNat : Int)) ∧ w = w' := fun k hk w => by
    have hm := hx (xs.getD k 0) (by rw [List.getD_eq_getElem?_getD, List.getElem?_eq_getElem hk]; exact List.getElem_mem hk)
    rw [take_next xs k hk, bitsOf_snoc, runC_append]
    exact word_any _ _ hm.1 w
  have hB := Lib.hid hN
  have hE := Lib.hid (fun w => end_any (runC ones (bitsOf 64 xs)) w)
  have hG := Lib.hid begin_any
  have hz : Hid (((runC ones (bitsOf 64 (xs.take 0))).toNat : Int) = (ones.toNat : Int)) := rfl
  clear hN hx
  obtain ⟨n, hn⟩ : ∃ n, n = xs.length := ⟨_, rfl⟩
  have HN : Hid (n = xs.length) := hn
  rw [← hn] at hl hc ⊢
  clear hn
  go_enter Try.func18, Try.ntmps18
  go_wp2_with (go_at_call 20; refine (hG.out _).mono ?_; rintro e w1 ⟨rfl, rfl⟩)
  go_loop [3, 9] (fun st c => ∃ k : Nat, k ≤ n ∧ c = .int .i64 k ∧ st = .int .u32 ((runC ones (bitsOf 64 (xs.take k))).toNat : Int)) (fun _ c => n - (intOf c).toNat)
  case atStart => exact ⟨0, by omega, rfl, by rw [hz.out]⟩
  case round =>
    obtain ⟨k, hk, rfl, rfl⟩ := hrel
    by_cases hlt : k < n
    · have hb := Lib.hid (hB.out k (by rw [← HN.out]; exact hlt))
      obtain ⟨g, off, rfl, hg, hcell⟩ := hc (by intro h; rw [h] at HN; have := HN.out; simp at this; omega)
      have hk1 := hcell k hlt
      generalize xs.getD k 0 = x at *
      clear hc hcell
      go_wp2_with (go_at_call 21; refine (hb.out _).mono ?_; rintro e w1 ⟨rfl, rfl⟩)
      go_round
      case rel => exact ⟨k + 1, by omega, by go_num, rfl⟩
      case measure => simp [intOf]; omega
    · have e8 : k = xs.length := by have := HN.out; omega
      have e9 : xs.take k = xs := by rw [e8, List.take_length]
      rw [e9]
      clear e8 e9
      go_wp2_with (go_at_call 22; refine (hE.out _).mono ?_; rintro e w1 ⟨rfl, rfl⟩)
      go_ret
      exact ⟨ret_int rfl, rfl⟩
end Go.Proofs.Ytpnmoajiigjlaaa
