/- Contracts of the functions of package bits and of its reference: each answers the plain number of the same name; nothing that was there is written. -/
import Derived.Test.YtdafdodjeffaiaaRows
import Derived.WalkKit
import Derived.ProofKit
import Derived.WalkSpells
import Derived.WalkLawsBesides
import Derived.Deep.QuietTactic
import Derived.BigQuiet
namespace Go.Proofs.Ytdafdodjeffaiaa
open Go.RowKit
set_option linter.unusedVariables false

def U64 (w : Int) : Prop := 0 ≤ w ∧ w < 18446744073709551616
def U32 (w : Int) : Prop := 0 ≤ w ∧ w < 4294967296
def I64 (w : Int) : Prop := -9223372036854775808 ≤ w ∧ w ≤ 9223372036854775807

def toP (w : Int) : Int := w % 4294967296 - 1
def byP (w : Int) : Int := w / 4294967296 % 128 - 1
def dirtyP (w : Int) : Bool := decide (w / 9223372036854775808 = 1)
def cleanP (w : Int) : Int := w % 9223372036854775808
def soilP (w : Int) : Int := w % 9223372036854775808 + 9223372036854775808
def linkP (a b : Int) : Int := (a + 1) % 4294967296 + 4294967296 * ((b + 1) % 128)
def rightP (w s t : Int) : Bool := decide (toP w < s) && decide (byP w < t) && decide (w % 9223372036854775808 / 4294967296 < 128)
def stampP (w : Int) : Int := w / 4294967296 - 1
def entryP (a b : Int) : Int := (a + 1) % 4294967296 + 4294967296 * ((b + 1) % 4294967296)
def seqP (w : Int) : Int := w / 8589934592
def doneP (w : Int) : Bool := decide (w / 4294967296 % 2 = 1)
def valP (w : Int) : Int := w % 4294967296
def cellP (s : Int) (d : Bool) (v : Int) : Int := 8589934592 * (s % 2147483648) + v + if d then 4294967296 else 0
def verP (w : Int) : Int := w / 4294967296
def topP (a v : Int) : Int := (a + 1) % 4294967296 + 4294967296 * v

theorem ret_int {k : IntKind} {a b : Int} (h : a = b) : Ending.returned (.int k a) = .returned (.int k b) := by rw [h]
theorem ret_bool {a b : Bool} (h : a = b) : Ending.returned (.bool a) = .returned (.bool b) := by rw [h]
theorem below_drewN {B : Nat} {a w : World} (h : Below B a w) (n : Nat) : Below B a (w.drewN n) := ⟨h.os, h.tape, h.output, h.size, h.block⟩

theorem wrapsU (m : Int) (a : 0 ≤ m) (b : m < 2 ^ 64) : IntKind.u64.wrap m = m := by
  rw [IntKind.wrap_u64]
  exact Int.emod_eq_of_lt a b
theorem bmask (n : Nat) (x : Int) (h : U64 x) (hn : n ≤ 64) : bits .and .u64 x (2 ^ n - 1) = x % 2 ^ n :=
  bits_mask .u64 64 (Nat.le_refl _) wrapsU n hn x h.1 h.2
theorem bjoin (i : Nat) (x y : Int) (hx : U64 x) (hd : x % 2 ^ i = 0) (hy : U64 y) (h : y < 2 ^ i) : bits .or .u64 x y = x + y :=
  bits_join .u64 64 (Nat.le_refl _) wrapsU i x y hx.1 hd hx.2 hy.1 h hy.2
theorem ofInt_wrap (b : BitVec 64) : BitVec.ofInt 64 (IntKind.u64.wrap (b.toNat : Int)) = b := by
  rw [wrapsU _ (Int.natCast_nonneg _) (by exact_mod_cast b.isLt), BitVec.ofInt_natCast, BitVec.ofNat_toNat, BitVec.setWidth_eq]
theorem bor_assoc (x y z : Int) : bits .or .u64 (bits .or .u64 x y) z = bits .or .u64 x (bits .or .u64 y z) := by
  show IntKind.u64.wrap ((BitVec.ofInt 64 (IntKind.u64.wrap ((BitVec.ofInt 64 x ||| BitVec.ofInt 64 y).toNat : Int)) ||| BitVec.ofInt 64 z).toNat : Int) = IntKind.u64.wrap ((BitVec.ofInt 64 x ||| BitVec.ofInt 64 (IntKind.u64.wrap ((BitVec.ofInt 64 y ||| BitVec.ofInt 64 z).toNat : Int))).toNat : Int)
  rw [ofInt_wrap, ofInt_wrap, BitVec.or_assoc]
theorem bor_comm (x y : Int) : bits .or .u64 x y = bits .or .u64 y x := by
  show IntKind.u64.wrap ((BitVec.ofInt 64 x ||| BitVec.ofInt 64 y).toNat : Int) = IntKind.u64.wrap ((BitVec.ofInt 64 y ||| BitVec.ofInt 64 x).toNat : Int)
  rw [BitVec.or_comm]
theorem divU (n : Nat) (x : Int) (h : U64 x) : U64 (x / 2 ^ n) := by
  have hp : (0 : Int) < 2 ^ n := Int.pow_pos (by decide)
  refine ⟨Int.ediv_nonneg h.1 (by omega), ?_⟩
  have h1 : x / 2 ^ n ≤ x := Int.ediv_le_self _ h.1
  have := h.2
  omega
theorem wrapU (x : Int) : U64 (IntKind.u64.wrap x) := by rw [IntKind.wrap_u64]; unfold U64; omega
/-- 'x | 1 << 63' sets that bit. -/
theorem or63 (x : Int) (h : U64 x) : bits .or .u64 x 9223372036854775808 = soilP x := by
  obtain ⟨n, rfl⟩ := Int.eq_ofNat_of_zero_le h.1
  have hn : n < 2 ^ 64 := by have := h.2; omega
  have e := (bits_nat .u64 64 (Nat.le_refl _) wrapsU n 9223372036854775808 hn (by decide)).2
  have e2 : ((9223372036854775808 : Nat) : Int) = 9223372036854775808 := rfl
  rw [e2] at e
  rw [e]
  have hq : n ||| 9223372036854775808 = n % 9223372036854775808 + 9223372036854775808 := by
    apply Nat.eq_of_testBit_eq
    intro i
    rw [show n % 9223372036854775808 + 9223372036854775808 = 2 ^ 63 * 1 + n % 2 ^ 63 from by omega]
    rw [Nat.two_pow_add_eq_or_of_lt (Nat.mod_lt _ (by decide)), show (9223372036854775808 : Nat) = 2 ^ 63 * 1 from rfl, Nat.testBit_or, Nat.testBit_or, Nat.testBit_mod_two_pow, Nat.mul_one, Nat.testBit_two_pow]
    by_cases h1 : i < 63
    · have h2 : ¬ 63 = i := by omega
      simp [h1, h2]
    · by_cases h2 : 63 = i
      · simp [h2]
      · have h3 : n.testBit i = false := Nat.testBit_lt_two_pow (Nat.lt_of_lt_of_le hn (Nat.pow_le_pow_right (by decide) (by omega)))
        simp [h1, h2, h3]
  rw [hq]
  unfold soilP
  omega
/-- 'x &^ (1 << 63)' takes that bit away. -/
theorem andNot63 (x : Int) (h : U64 x) : bits .andNot .u64 x 9223372036854775808 = cleanP x := by
  have e : bits .andNot .u64 x 9223372036854775808 = bits .and .u64 x (2 ^ 63 - 1) := by
    have hb : ~~~ (BitVec.ofInt 64 9223372036854775808) = BitVec.ofInt 64 9223372036854775807 := rfl
    show IntKind.u64.wrap ((BitVec.ofInt 64 x &&& ~~~ (BitVec.ofInt 64 9223372036854775808)).toNat : Int) = IntKind.u64.wrap ((BitVec.ofInt 64 x &&& BitVec.ofInt 64 9223372036854775807).toNat : Int)
    rw [hb]
  rw [e, bmask 63 x h (by decide)]
  rfl

theorem mask_any (n : Nat) (hn : n ≤ 63) (w : World) :
    Calls Try.prog 43 #[.int .i64 n] w fun e w' => e = .returned (.int .u64 (2 ^ n - 1)) ∧ w = w' := by
  go_enter Try.func43, Try.ntmps43
  go_wp2
  go_ret
  refine ⟨?_, rfl⟩
  show Ending.returned (Value.int IntKind.u64 (IntKind.u64.wrap (IntKind.u64.wrap (2 ^ n) - 1))) = _
  have h1 : (2 : Int) ^ n < 18446744073709551616 := by
    have : (2 : Nat) ^ n < 2 ^ 64 := Nat.pow_lt_pow_right (by decide) (by omega)
    have h2 : ((2 ^ n : Nat) : Int) < ((2 ^ 64 : Nat) : Int) := by exact_mod_cast this
    simpa using h2
  have h0 : (1 : Int) ≤ 2 ^ n := by
    have : 1 ≤ (2 : Nat) ^ n := Nat.one_le_two_pow
    exact_mod_cast this
  rw [IntKind.wrap_u64, IntKind.wrap_u64]
  rw [Int.emod_eq_of_lt (by omega) h1, Int.emod_eq_of_lt (by omega) (by omega)]

theorem field_any (at' n : Int) (w : World) :
    Calls Try.prog 39 #[.int .i64 at', .int .i64 n] w fun e w' => e = .returned (.tuple #[.func (.func 42) #[] #[.pointer (some ⟨w.heap.size, 0, none⟩), .pointer (some ⟨w.heap.size + 1, 0, none⟩)], .func (.func 44) #[] #[.pointer (some ⟨w.heap.size + 1, 0, none⟩), .pointer (some ⟨w.heap.size, 0, none⟩)]]) ∧ (w.alloc (.cells #[.int .i64 at'] 3)).alloc (.cells #[.int .i64 n] 3) = w' := by
  go_enter Try.func39, Try.ntmps39
  go_wp2
  go_ret2
  exact ⟨rfl, rfl⟩

theorem cut_any (at' n : Nat) (hat : at' ≤ 63) (hn : n ≤ 63) (v : Int) (hv : U64 v) (a b : Addr) (w : World) (ha : w.cell? a = some (.int .i64 at')) (hb : w.cell? b = some (.int .i64 n)) :
    Calls Try.prog 42 #[.int .u64 v, .pointer (some a), .pointer (some b)] w fun e w' => e = .returned (.int .u64 (v / 2 ^ at' % 2 ^ n)) ∧ ∃ k, w' = w.drewN k := by
  have h := bmask n _ (divU at' v hv) (by omega)
  rw [← h]
  clear h hv
  go_enter Try.func42, Try.ntmps42
  go_wp2
  go_quiet ((go_at_call 43; refine Calls.quiet_of_same ((mask_any n hn _).mono fun e w' ⟨h, h'⟩ => ⟨h, h'.symm⟩)))
  go_wp2
  go_ret
  exact ⟨rfl, _, rfl⟩
theorem put_any (at' n : Nat) (hat : at' ≤ 63) (hn : n ≤ 63) (hs : at' + n ≤ 64) (v : Int) (hv : U64 v) (a b : Addr) (w : World) (ha : w.cell? a = some (.int .i64 at')) (hb : w.cell? b = some (.int .i64 n)) :
    Calls Try.prog 44 #[.int .u64 v, .pointer (some b), .pointer (some a)] w fun e w' => e = .returned (.int .u64 (v % 2 ^ n * 2 ^ at')) ∧ ∃ k, w' = w.drewN k := by
  have h := bmask n _ hv (by omega)
  have hfit : IntKind.u64.wrap (v % 2 ^ n * 2 ^ at') = v % 2 ^ n * 2 ^ at' := by
    rw [IntKind.wrap_u64]
    have hp : (0 : Int) < 2 ^ n := Int.pow_pos (by decide)
    have hq : (0 : Int) < 2 ^ at' := Int.pow_pos (by decide)
    have h1 := Int.emod_nonneg v (b := 2 ^ n) (by omega)
    have h2 := Int.emod_lt_of_pos v hp
    refine Int.emod_eq_of_lt (Int.mul_nonneg h1 (by omega)) ?_
    have h3 : v % 2 ^ n * 2 ^ at' < 2 ^ n * 2 ^ at' := Int.mul_lt_mul_of_pos_right h2 hq
    have h4 : (2 : Int) ^ n * 2 ^ at' ≤ 18446744073709551616 := by
      rw [← Int.pow_add]
      have : (2 : Nat) ^ (n + at') ≤ 2 ^ 64 := Nat.pow_le_pow_right (by decide) (by omega)
      have h2 : ((2 ^ (n + at') : Nat) : Int) ≤ ((2 ^ 64 : Nat) : Int) := by exact_mod_cast this
      simpa using h2
    omega
  rw [← h] at hfit ⊢
  rw [← hfit]
  clear h hv hfit hs
  go_enter Try.func44, Try.ntmps44
  go_wp2
  go_quiet ((go_at_call 43; refine Calls.quiet_of_same ((mask_any n hn _).mono fun e w' ⟨h, h'⟩ => ⟨h, h'.symm⟩)))
  go_wp2
  go_ret
  exact ⟨rfl, _, rfl⟩
theorem more_any (n : Int) (w : World) :
    Calls Try.prog 40 #[.int .i64 n] w fun e w' => e = .returned (.int .u64 (IntKind.u64.wrap (n + 1))) ∧ w = w' := by
  have h : IntKind.u64.wrap (IntKind.u64.wrap n + 1) = IntKind.u64.wrap (n + 1) := by simp only [IntKind.wrap_u64]; omega
  rw [← h]
  clear h
  go_enter Try.func40, Try.ntmps40
  go_wp2
  go_ret
  exact ⟨rfl, rfl⟩


theorem to_any (v : Int) (hv : U64 v) (w : World) :
    Calls Try.prog 17 #[.int .u64 v] w fun e w' => e = .returned (.int .i64 (toP v)) ∧ Below w.heap.size w w' := by
  go_enter Try.func17, Try.ntmps17
  go_wp2_with (first
   | (go_at_call 39; refine (field_any _ _ _).mono ?_; rintro e w' ⟨rfl, rfl⟩)
   | (go_at_call 42; refine (cut_any 0 32 (by decide) (by decide) _ hv _ _ _ ?_ ?_).mono ?_; (· go_simp); (· go_simp); rintro e w' ⟨rfl, k, rfl⟩))
  go_ret
  refine ⟨ret_int (by simp [toP]; omega), ?_⟩
  repeat (first | exact Below.refl _ _ | exact Below.trans ‹_› ‹_› | apply below_drewN | (refine Below.alloc ?_ ?_ _; rotate_left; (first | exact Nat.le_refl _ | (· simp) | (· (simp; omega)))))

theorem by_any (v : Int) (hv : U64 v) (w : World) :
    Calls Try.prog 19 #[.int .u64 v] w fun e w' => e = .returned (.int .i64 (byP v)) ∧ Below w.heap.size w w' := by
  go_enter Try.func19, Try.ntmps19
  go_wp2_with (first
   | (go_at_call 39; refine (field_any _ _ _).mono ?_; rintro e w' ⟨rfl, rfl⟩)
   | (go_at_call 42; refine (cut_any 32 7 (by decide) (by decide) _ hv _ _ _ ?_ ?_).mono ?_; (· go_simp); (· go_simp); rintro e w' ⟨rfl, k, rfl⟩))
  go_ret
  refine ⟨ret_int (by simp [byP]; omega), ?_⟩
  repeat (first | exact Below.refl _ _ | exact Below.trans ‹_› ‹_› | apply below_drewN | (refine Below.alloc ?_ ?_ _; rotate_left; (first | exact Nat.le_refl _ | (· simp) | (· (simp; omega)))))

theorem stamp_any (v : Int) (hv : U64 v) (w : World) :
    Calls Try.prog 29 #[.int .u64 v] w fun e w' => e = .returned (.int .i64 (stampP v)) ∧ Below w.heap.size w w' := by
  have HL : Hid (v / 4294967296 % 4294967296 = v / 4294967296) := by unfold Hid; unfold U64 at hv; omega
  go_enter Try.func29, Try.ntmps29
  go_wp2_with (first
   | (go_at_call 39; refine (field_any _ _ _).mono ?_; rintro e w' ⟨rfl, rfl⟩)
   | (go_at_call 42; refine (cut_any 32 32 (by decide) (by decide) _ hv _ _ _ ?_ ?_).mono ?_; (· go_simp); (· go_simp); rintro e w' ⟨rfl, k, rfl⟩))
  go_ret
  refine ⟨ret_int (by simp only [stampP]; have := HL.out; omega), ?_⟩
  repeat (first | exact Below.refl _ _ | exact Below.trans ‹_› ‹_› | apply below_drewN | (refine Below.alloc ?_ ?_ _; rotate_left; (first | exact Nat.le_refl _ | (· simp) | (· (simp; omega)))))

theorem seq_any (v : Int) (hv : U64 v) (w : World) :
    Calls Try.prog 31 #[.int .u64 v] w fun e w' => e = .returned (.int .i64 (seqP v)) ∧ Below w.heap.size w w' := by
  have HL : Hid (v / 8589934592 % 2147483648 = v / 8589934592) := by unfold Hid; unfold U64 at hv; omega
  go_enter Try.func31, Try.ntmps31
  go_wp2_with (first
   | (go_at_call 39; refine (field_any _ _ _).mono ?_; rintro e w' ⟨rfl, rfl⟩)
   | (go_at_call 42; refine (cut_any 33 31 (by decide) (by decide) _ hv _ _ _ ?_ ?_).mono ?_; (· go_simp); (· go_simp); rintro e w' ⟨rfl, k, rfl⟩))
  go_ret
  refine ⟨ret_int (by simp only [seqP]; exact HL.out), ?_⟩
  repeat (first | exact Below.refl _ _ | exact Below.trans ‹_› ‹_› | apply below_drewN | (refine Below.alloc ?_ ?_ _; rotate_left; (first | exact Nat.le_refl _ | (· simp) | (· (simp; omega)))))

theorem done_any (v : Int) (hv : U64 v) (w : World) :
    Calls Try.prog 33 #[.int .u64 v] w fun e w' => e = .returned (.bool (doneP v)) ∧ Below w.heap.size w w' := by
  go_enter Try.func33, Try.ntmps33
  go_wp2_with (first
   | (go_at_call 39; refine (field_any _ _ _).mono ?_; rintro e w' ⟨rfl, rfl⟩)
   | (go_at_call 42; refine (cut_any 32 1 (by decide) (by decide) _ hv _ _ _ ?_ ?_).mono ?_; (· go_simp); (· go_simp); rintro e w' ⟨rfl, k, rfl⟩))
  go_ret
  refine ⟨ret_bool rfl, ?_⟩
  repeat (first | exact Below.refl _ _ | exact Below.trans ‹_› ‹_› | apply below_drewN | (refine Below.alloc ?_ ?_ _; rotate_left; (first | exact Nat.le_refl _ | (· simp) | (· (simp; omega)))))

theorem val_any (v : Int) (hv : U64 v) (w : World) :
    Calls Try.prog 35 #[.int .u64 v] w fun e w' => e = .returned (.int .u32 (valP v)) ∧ w = w' := by
  have HL : Hid (IntKind.u32.wrap v = valP v) := by unfold Hid valP; rw [IntKind.wrap_u32]
  go_enter Try.func35, Try.ntmps35
  go_wp2
  go_ret
  exact ⟨ret_int HL.out, rfl⟩

theorem ver_any (v : Int) (hv : U64 v) (w : World) :
    Calls Try.prog 37 #[.int .u64 v] w fun e w' => e = .returned (.int .u32 (verP v)) ∧ w = w' := by
  have HL : Hid (IntKind.u32.wrap (v / 4294967296) = verP v) := by unfold Hid verP; unfold U64 at hv; rw [IntKind.wrap_u32]; omega
  go_enter Try.func37, Try.ntmps37
  go_wp2
  go_ret
  exact ⟨ret_int HL.out, rfl⟩

theorem dirty_any (v : Int) (hv : 0 ≤ v) (w : World) :
    Calls Try.prog 21 #[.int .u64 v] w fun e w' => e = .returned (.bool (dirtyP v)) ∧ w = w' := by
  go_enter Try.func21, Try.ntmps21
  go_wp2
  go_ret
  exact ⟨ret_bool rfl, rfl⟩

theorem clean_any (v : Int) (hv : U64 v) (w : World) :
    Calls Try.prog 23 #[.int .u64 v] w fun e w' => e = .returned (.int .u64 (cleanP v)) ∧ w = w' := by
  rw [← andNot63 v hv]
  go_enter Try.func23, Try.ntmps23
  go_wp2
  go_ret
  exact ⟨rfl, rfl⟩

theorem soil_any (v : Int) (hv : U64 v) (w : World) :
    Calls Try.prog 25 #[.int .u64 v] w fun e w' => e = .returned (.int .u64 (soilP v)) ∧ w = w' := by
  rw [← or63 v hv]
  go_enter Try.func25, Try.ntmps25
  go_wp2
  go_ret
  exact ⟨rfl, rfl⟩

theorem link_any (a b : Int) (w : World) :
    Calls Try.prog 9 #[.int .i64 a, .int .i64 b] w fun e w' => e = .returned (.int .u64 (linkP a b)) ∧ Below w.heap.size w w' := by
  have HL : Hid (bits .or .u64 (IntKind.u64.wrap (a + 1) % 4294967296) (IntKind.u64.wrap (b + 1) % 128 * 4294967296) = linkP a b) := by
    unfold Hid
    simp only [IntKind.wrap_u64]
    rw [bor_comm, bjoin 32 _ _ (by unfold U64; omega) (by omega) (by unfold U64; omega) (by omega)]
    unfold linkP
    omega
  go_enter Try.func9, Try.ntmps9
  go_wp2_with (first
   | (go_at_call 39; refine (field_any _ _ _).mono ?_; rintro e w' ⟨rfl, rfl⟩)
   | (go_at_call 40; refine (more_any _ _).mono ?_; rintro e w' ⟨rfl, rfl⟩)
   | (go_at_call 44; refine (put_any 0 32 (by decide) (by decide) (by decide) _ (wrapU _) _ _ _ ?_ ?_).mono ?_; (· go_simp); (· go_simp); rintro e w' ⟨rfl, k, rfl⟩)
   | (go_at_call 44; refine (put_any 32 7 (by decide) (by decide) (by decide) _ (wrapU _) _ _ _ ?_ ?_).mono ?_; (· go_simp); (· go_simp); rintro e w' ⟨rfl, k, rfl⟩))
  go_ret
  refine ⟨ret_int HL.out, ?_⟩
  repeat (first | exact Below.refl _ _ | exact Below.trans ‹_› ‹_› | apply below_drewN | (refine Below.alloc ?_ ?_ _; rotate_left; (first | exact Nat.le_refl _ | (· simp) | (· (simp; omega)))))

theorem entry_any (a b : Int) (w : World) :
    Calls Try.prog 11 #[.int .i64 a, .int .i64 b] w fun e w' => e = .returned (.int .u64 (entryP a b)) ∧ Below w.heap.size w w' := by
  have HL : Hid (bits .or .u64 (IntKind.u64.wrap (a + 1) % 4294967296) (IntKind.u64.wrap (b + 1) % 4294967296 * 4294967296) = entryP a b) := by
    unfold Hid
    simp only [IntKind.wrap_u64]
    rw [bor_comm, bjoin 32 _ _ (by unfold U64; omega) (by omega) (by unfold U64; omega) (by omega)]
    unfold entryP
    omega
  go_enter Try.func11, Try.ntmps11
  go_wp2_with (first
   | (go_at_call 39; refine (field_any _ _ _).mono ?_; rintro e w' ⟨rfl, rfl⟩)
   | (go_at_call 40; refine (more_any _ _).mono ?_; rintro e w' ⟨rfl, rfl⟩)
   | (go_at_call 44; refine (put_any 0 32 (by decide) (by decide) (by decide) _ (wrapU _) _ _ _ ?_ ?_).mono ?_; (· go_simp); (· go_simp); rintro e w' ⟨rfl, k, rfl⟩)
   | (go_at_call 44; refine (put_any 32 32 (by decide) (by decide) (by decide) _ (wrapU _) _ _ _ ?_ ?_).mono ?_; (· go_simp); (· go_simp); rintro e w' ⟨rfl, k, rfl⟩))
  go_ret
  refine ⟨ret_int HL.out, ?_⟩
  repeat (first | exact Below.refl _ _ | exact Below.trans ‹_› ‹_› | apply below_drewN | (refine Below.alloc ?_ ?_ _; rotate_left; (first | exact Nat.le_refl _ | (· simp) | (· (simp; omega)))))

theorem top_any (a v : Int) (hv : U32 v) (w : World) :
    Calls Try.prog 15 #[.int .i64 a, .int .u32 v] w fun e w' => e = .returned (.int .u64 (topP a v)) ∧ Below w.heap.size w w' := by
  have HL : Hid (bits .or .u64 (IntKind.u64.wrap (a + 1) % 4294967296) (v * 4294967296) = topP a v) := by
    unfold Hid
    unfold U32 at hv
    simp only [IntKind.wrap_u64]
    rw [bor_comm, bjoin 32 _ _ (by unfold U64; omega) (by omega) (by unfold U64; omega) (by omega)]
    unfold topP
    omega
  obtain ⟨h0, h1⟩ := hv
  go_enter Try.func15, Try.ntmps15
  go_wp2_with (first
   | (go_at_call 39; refine (field_any _ _ _).mono ?_; rintro e w' ⟨rfl, rfl⟩)
   | (go_at_call 40; refine (more_any _ _).mono ?_; rintro e w' ⟨rfl, rfl⟩)
   | (go_at_call 44; refine (put_any 0 32 (by decide) (by decide) (by decide) _ (wrapU _) _ _ _ ?_ ?_).mono ?_; (· go_simp); (· go_simp); rintro e w' ⟨rfl, k, rfl⟩))
  go_ret
  refine ⟨ret_int HL.out, ?_⟩
  repeat (first | exact Below.refl _ _ | exact Below.trans ‹_› ‹_› | apply below_drewN | (refine Below.alloc ?_ ?_ _; rotate_left; (first | exact Nat.le_refl _ | (· simp) | (· (simp; omega)))))

theorem cell_true (s v : Int) (hv : U32 v) (w : World) :
    Calls Try.prog 13 #[.int .i64 s, .bool true, .int .u32 v] w fun e w' => e = .returned (.int .u64 (cellP s true v)) ∧ Below w.heap.size w w' := by
  have HL : Hid (bits .or .u64 (bits .or .u64 (IntKind.u64.wrap s % 2147483648 * 8589934592) v) 4294967296 = cellP s true v) := by
    unfold Hid
    unfold U32 at hv
    simp only [IntKind.wrap_u64]
    rw [bor_assoc, bor_comm v, bjoin 32 4294967296 v (by unfold U64; omega) (by omega) (by unfold U64; omega) (by omega), bjoin 33 _ _ (by unfold U64; omega) (by omega) (by unfold U64; omega) (by omega)]
    unfold cellP
    simp
    omega
  obtain ⟨h0, h1⟩ := hv
  go_enter Try.func13, Try.ntmps13
  go_wp2_with (first
   | (go_at_call 39; refine (field_any _ _ _).mono ?_; rintro e w' ⟨rfl, rfl⟩)
   | (go_at_call 44; refine (put_any 33 31 (by decide) (by decide) (by decide) _ (wrapU _) _ _ _ ?_ ?_).mono ?_; (· go_simp); (· go_simp); rintro e w' ⟨rfl, k, rfl⟩))
  go_ret
  refine ⟨ret_int HL.out, ?_⟩
  repeat (first | exact Below.refl _ _ | exact Below.trans ‹_› ‹_› | apply below_drewN | (refine Below.alloc ?_ ?_ _; rotate_left; (first | exact Nat.le_refl _ | (· simp) | (· (simp; omega)))))

theorem cell_false (s v : Int) (hv : U32 v) (w : World) :
    Calls Try.prog 13 #[.int .i64 s, .bool false, .int .u32 v] w fun e w' => e = .returned (.int .u64 (cellP s false v)) ∧ Below w.heap.size w w' := by
  have HL : Hid (bits .or .u64 (IntKind.u64.wrap s % 2147483648 * 8589934592) v = cellP s false v) := by
    unfold Hid
    unfold U32 at hv
    simp only [IntKind.wrap_u64]
    rw [bjoin 33 _ _ (by unfold U64; omega) (by omega) (by unfold U64; omega) (by omega)]
    unfold cellP
    simp
    omega
  obtain ⟨h0, h1⟩ := hv
  go_enter Try.func13, Try.ntmps13
  go_wp2_with (first
   | (go_at_call 39; refine (field_any _ _ _).mono ?_; rintro e w' ⟨rfl, rfl⟩)
   | (go_at_call 44; refine (put_any 33 31 (by decide) (by decide) (by decide) _ (wrapU _) _ _ _ ?_ ?_).mono ?_; (· go_simp); (· go_simp); rintro e w' ⟨rfl, k, rfl⟩))
  go_ret
  refine ⟨ret_int HL.out, ?_⟩
  repeat (first | exact Below.refl _ _ | exact Below.trans ‹_› ‹_› | apply below_drewN | (refine Below.alloc ?_ ?_ _; rotate_left; (first | exact Nat.le_refl _ | (· simp) | (· (simp; omega)))))

end Go.Proofs.Ytdafdodjeffaiaa
