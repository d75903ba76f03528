/- Contracts of Right and of the reference's functions over words: each answers the plain number of the same name; nothing that was there is written. -/
import Derived.Test.YtdafdodjeffaiaaBits
import Derived.OpenShut
import Derived.Lib.Hide
namespace Go.Proofs.Ytdafdodjeffaiaa
open Go.RowKit
set_option linter.unusedVariables false

theorem wf_u64 {w : Int} (h : (Lit.int .u64 w).wf = true) : U64 w := by
  have := bounds_u64 h; unfold U64; omega
theorem wf_u32 {w : Int} (h : (Lit.int .u32 w).wf = true) : U32 w := by
  have := bounds_u32 h; unfold U32; omega
theorem linkU (a b : Int) : U64 (linkP a b) := by unfold U64 linkP; omega
theorem entryU (a b : Int) : U64 (entryP a b) := by unfold U64 entryP; omega
theorem cellU (s v : Int) (d : Bool) (h : U32 v) : U64 (cellP s d v) := by unfold U32 at h; unfold U64 cellP; cases d <;> simp <;> omega
theorem topU (a v : Int) (h : U32 v) : U64 (topP a v) := by unfold U32 at h; unfold U64 topP; omega
theorem cleanU {w : Int} (h : U64 w) : U64 (cleanP w) := by unfold U64 at *; unfold cleanP; omega
theorem soilU {w : Int} (h : U64 w) : U64 (soilP w) := by unfold U64 at *; unfold soilP; omega
theorem link_clean (v : Int) (h : U64 v) : linkP (toP v) (byP v) = cleanP v ↔ v % 9223372036854775808 / 4294967296 < 128 := by
  unfold U64 at h
  unfold linkP toP byP cleanP
  omega
/-- What is built on what was there, and on what was built on that. -/
theorem up {W w w' : World} (h : Below W.heap.size W w) (k : Below w.heap.size w w') : Below W.heap.size W w' := h.trans (k.mono h.size)

theorem right_any (v s t : Int) (hv : U64 v) (w : World) :
    Calls Try.prog 27 #[.int .u64 v, .int .i64 s, .int .i64 t] w fun e w' => e = .returned (.bool (rightP v s t)) ∧ Below w.heap.size w w' := by
  have HL := Lib.hid (link_clean v hv)
  have e1 : rightP v s t = (decide (linkP (toP v) (byP v) = cleanP v) && decide (toP v < s) && decide (byP v < t)) := by
    unfold rightP
    rw [Bool.eq_iff_iff]
    simp only [Bool.and_eq_true, decide_eq_true_eq, HL.out]
    exact ⟨fun ⟨⟨a, b⟩, c⟩ => ⟨⟨c, a⟩, b⟩, fun ⟨⟨c, a⟩, b⟩ => ⟨⟨a, b⟩, c⟩⟩
  rw [e1]
  clear e1 HL
  have hT := Lib.hid (fun w => to_any v hv w)
  have hB := Lib.hid (fun w => by_any v hv w)
  have hL := Lib.hid (fun w => link_any (toP v) (byP v) w)
  have hC := Lib.hid (fun w => clean_any v hv w)
  clear hv
  generalize linkP (toP v) (byP v) = z at *
  generalize cleanP v = c at *
  generalize toP v = x at *
  generalize byP v = y at *
  have ub := Below.refl w.heap.size w
  by_cases h1 : z = c
  · by_cases h2 : x < s
    · by_cases h3 : y < t
      all_goals
        go_enter Try.func27, Try.ntmps27
        go_wp2_with (first
         | (go_at_call 17; refine (hT.out _).mono ?_; rintro e w1 ⟨rfl, b⟩; replace ub := up ub b; clear b)
         | (go_at_call 19; refine (hB.out _).mono ?_; rintro e w1 ⟨rfl, b⟩; replace ub := up ub b; clear b)
         | (go_at_call 9; refine (hL.out _).mono ?_; rintro e w1 ⟨rfl, b⟩; replace ub := up ub b; clear b)
         | (go_at_call 23; refine (hC.out _).mono ?_; rintro e w1 ⟨rfl, rfl⟩))
        go_ret
        exact ⟨ret_bool (by first | (simp; done) | (simp; omega)), ub⟩
    · go_enter Try.func27, Try.ntmps27
      go_wp2_with (first
         | (go_at_call 17; refine (hT.out _).mono ?_; rintro e w1 ⟨rfl, b⟩; replace ub := up ub b; clear b)
         | (go_at_call 19; refine (hB.out _).mono ?_; rintro e w1 ⟨rfl, b⟩; replace ub := up ub b; clear b)
         | (go_at_call 9; refine (hL.out _).mono ?_; rintro e w1 ⟨rfl, b⟩; replace ub := up ub b; clear b)
         | (go_at_call 23; refine (hC.out _).mono ?_; rintro e w1 ⟨rfl, rfl⟩))
      go_ret
      exact ⟨ret_bool (by first | (simp; done) | (simp; omega)), ub⟩
  · go_enter Try.func27, Try.ntmps27
    go_wp2_with (first
         | (go_at_call 17; refine (hT.out _).mono ?_; rintro e w1 ⟨rfl, b⟩; replace ub := up ub b; clear b)
         | (go_at_call 19; refine (hB.out _).mono ?_; rintro e w1 ⟨rfl, b⟩; replace ub := up ub b; clear b)
         | (go_at_call 9; refine (hL.out _).mono ?_; rintro e w1 ⟨rfl, b⟩; replace ub := up ub b; clear b)
         | (go_at_call 23; refine (hC.out _).mono ?_; rintro e w1 ⟨rfl, rfl⟩))
    go_ret
    exact ⟨ret_bool (by first | (simp; done) | (simp; omega)), ub⟩

theorem rto_any (v : Int) (hv : U64 v) (w : World) :
    Calls Try.prog 18 #[.int .u64 v] w fun e w' => e = .returned (.int .i64 (toP v)) ∧ w = w' := by
  have h0 := hv.1
  have h1 : v / 4294967296 < 4294967296 := by have := hv.2; omega
  clear hv
  go_enter Try.func18, Try.ntmps18
  go_wp2
  go_ret
  exact ⟨ret_int (by simp only [toP]; omega), rfl⟩

theorem rby_any (v : Int) (hv : U64 v) (w : World) :
    Calls Try.prog 20 #[.int .u64 v] w fun e w' => e = .returned (.int .i64 (byP v)) ∧ w = w' := by
  have h0 := hv.1
  have h1 : v / 4294967296 < 4294967296 := by have := hv.2; omega
  clear hv
  go_enter Try.func20, Try.ntmps20
  go_wp2
  go_ret
  exact ⟨ret_int (by simp only [byP]; omega), rfl⟩

theorem rstamp_any (v : Int) (hv : U64 v) (w : World) :
    Calls Try.prog 30 #[.int .u64 v] w fun e w' => e = .returned (.int .i64 (stampP v)) ∧ w = w' := by
  have h0 := hv.1
  have h1 : v / 4294967296 < 4294967296 := by have := hv.2; omega
  clear hv
  go_enter Try.func30, Try.ntmps30
  go_wp2
  go_ret
  exact ⟨ret_int (by simp only [stampP]; omega), rfl⟩

theorem rseq_any (v : Int) (hv : U64 v) (w : World) :
    Calls Try.prog 32 #[.int .u64 v] w fun e w' => e = .returned (.int .i64 (seqP v)) ∧ w = w' := by
  have h0 := hv.1
  have h1 : v / 8589934592 < 2147483648 := by have := hv.2; omega
  clear hv
  go_enter Try.func32, Try.ntmps32
  go_wp2
  go_ret
  exact ⟨ret_int (by simp only [seqP]), rfl⟩

theorem rdone_any (v : Int) (hv : U64 v) (w : World) :
    Calls Try.prog 34 #[.int .u64 v] w fun e w' => e = .returned (.bool (doneP v)) ∧ w = w' := by
  have h0 := hv.1
  have h1 : v / 4294967296 < 4294967296 := by have := hv.2; omega
  clear hv
  go_enter Try.func34, Try.ntmps34
  go_wp2
  go_ret
  exact ⟨ret_bool rfl, rfl⟩

theorem rval_any (v : Int) (hv : U64 v) (w : World) :
    Calls Try.prog 36 #[.int .u64 v] w fun e w' => e = .returned (.int .u32 (valP v)) ∧ w = w' := by
  have h0 := hv.1
  clear hv
  go_enter Try.func36, Try.ntmps36
  go_wp2
  go_ret
  exact ⟨ret_int (by simp only [valP]), rfl⟩

theorem rver_any (v : Int) (hv : U64 v) (w : World) :
    Calls Try.prog 38 #[.int .u64 v] w fun e w' => e = .returned (.int .u32 (verP v)) ∧ w = w' := by
  have h0 := hv.1
  have h1 : v / 4294967296 < 4294967296 := by have := hv.2; omega
  clear hv
  go_enter Try.func38, Try.ntmps38
  go_wp2
  go_ret
  exact ⟨ret_int (by simp only [verP]), rfl⟩

theorem rdirty_any (v : Int) (hv : U64 v) (w : World) :
    Calls Try.prog 22 #[.int .u64 v] w fun e w' => e = .returned (.bool (dirtyP v)) ∧ w = w' := by
  have h0 := hv.1
  have h1 : v / 4294967296 < 4294967296 := by have := hv.2; omega
  clear hv
  go_enter Try.func22, Try.ntmps22
  go_wp2
  go_ret
  exact ⟨ret_bool rfl, rfl⟩

theorem rclean_any (v : Int) (hv : U64 v) (w : World) :
    Calls Try.prog 24 #[.int .u64 v] w fun e w' => e = .returned (.int .u64 (cleanP v)) ∧ w = w' := by
  have h0 := hv.1
  clear hv
  go_enter Try.func24, Try.ntmps24
  go_wp2
  go_ret
  exact ⟨ret_int rfl, rfl⟩

theorem rsoil_any (v : Int) (hv : U64 v) (w : World) :
    Calls Try.prog 26 #[.int .u64 v] w fun e w' => e = .returned (.int .u64 (soilP v)) ∧ w = w' := by
  have h0 := hv.1
  clear hv
  go_enter Try.func26, Try.ntmps26
  go_wp2
  go_ret
  exact ⟨ret_int rfl, rfl⟩

theorem tmod_cut (n m : Int) (hm : 1 ≤ m) : (n.tmod m + 1) % m = (n + 1) % m := by
  rw [Int.tmod_def, show n - m * n.tdiv m + 1 = n + 1 + m * (-n.tdiv m) from by rw [Int.mul_neg]; omega, Int.add_mul_emod_self_left]
theorem tmod_cut2 (n m : Int) (hm : 1 ≤ m) : (n.tmod m + m + 1) % m = (n + 1) % m := by
  rw [show n.tmod m + m + 1 = n.tmod m + 1 + m from by omega, Int.add_emod_right, tmod_cut n m hm]
theorem rcut_any (n m : Int) (hm : 1 ≤ m) (hm2 : m ≤ 4294967296) (w : World) :
    Calls Try.prog 41 #[.int .i64 n, .int .i64 m] w fun e w' => e = .returned (.int .i64 ((n + 1) % m)) ∧ w = w' := by
  have h1 : n.tmod m < m := Int.tmod_lt_of_pos n (by omega)
  have h2 : -m < n.tmod m := by have := Int.lt_tmod_of_pos n (b := m) (by omega); omega
  by_cases h : n.tmod m < 0
  · go_enter Try.func41, Try.ntmps41
    go_wp2
    go_ret
    exact ⟨ret_int (tmod_cut2 n m hm), rfl⟩
  · go_enter Try.func41, Try.ntmps41
    go_wp2
    go_ret
    exact ⟨ret_int (tmod_cut n m hm), rfl⟩

theorem rlink_any (a b : Int) (w : World) :
    Calls Try.prog 10 #[.int .i64 a, .int .i64 b] w fun e w' => e = .returned (.int .u64 (linkP a b)) ∧ w = w' := by
  go_enter Try.func10, Try.ntmps10
  go_wp2_with ((go_at_call 41; refine (rcut_any _ _ (by decide) (by decide) _).mono ?_; rintro e w1 ⟨rfl, rfl⟩))
  go_ret
  exact ⟨ret_int (by simp only [linkP]), rfl⟩

theorem rentry_any (a b : Int) (w : World) :
    Calls Try.prog 12 #[.int .i64 a, .int .i64 b] w fun e w' => e = .returned (.int .u64 (entryP a b)) ∧ w = w' := by
  go_enter Try.func12, Try.ntmps12
  go_wp2_with ((go_at_call 41; refine (rcut_any _ _ (by decide) (by decide) _).mono ?_; rintro e w1 ⟨rfl, rfl⟩))
  go_ret
  exact ⟨ret_int (by simp only [entryP]), rfl⟩

theorem rtop_any (a v : Int) (hv : U32 v) (w : World) :
    Calls Try.prog 16 #[.int .i64 a, .int .u32 v] w fun e w' => e = .returned (.int .u64 (topP a v)) ∧ w = w' := by
  obtain ⟨h0, h1⟩ := hv
  go_enter Try.func16, Try.ntmps16
  go_wp2_with ((go_at_call 41; refine (rcut_any _ _ (by decide) (by decide) _).mono ?_; rintro e w1 ⟨rfl, rfl⟩))
  go_ret
  exact ⟨ret_int (by simp only [topP]), rfl⟩

theorem rcell_true (s v : Int) (hv : U32 v) (w : World) :
    Calls Try.prog 14 #[.int .i64 s, .bool true, .int .u32 v] w fun e w' => e = .returned (.int .u64 (cellP s true v)) ∧ w = w' := by
  obtain ⟨h0, h1⟩ := hv
  have h2 : s.tmod 2147483648 < 2147483648 := Int.tmod_lt_of_pos s (by omega)
  have h3 : -2147483648 < s.tmod 2147483648 := by have := Int.lt_tmod_of_pos s (b := 2147483648) (by omega); omega
  have HE : Hid ((s.tmod 2147483648) % 2147483648 = s % 2147483648) := by
    unfold Hid
    rw [Int.tmod_def, show s - 2147483648 * s.tdiv 2147483648 = s + 2147483648 * (-s.tdiv 2147483648) from by rw [Int.mul_neg]; omega, Int.add_mul_emod_self_left]
  by_cases h : s.tmod 2147483648 < 0
  all_goals
    go_enter Try.func14, Try.ntmps14
    go_wp2
    go_ret
    exact ⟨ret_int (by have := HE.out; simp [cellP]; omega), rfl⟩

theorem rcell_false (s v : Int) (hv : U32 v) (w : World) :
    Calls Try.prog 14 #[.int .i64 s, .bool false, .int .u32 v] w fun e w' => e = .returned (.int .u64 (cellP s false v)) ∧ w = w' := by
  obtain ⟨h0, h1⟩ := hv
  have h2 : s.tmod 2147483648 < 2147483648 := Int.tmod_lt_of_pos s (by omega)
  have h3 : -2147483648 < s.tmod 2147483648 := by have := Int.lt_tmod_of_pos s (b := 2147483648) (by omega); omega
  have HE : Hid ((s.tmod 2147483648) % 2147483648 = s % 2147483648) := by
    unfold Hid
    rw [Int.tmod_def, show s - 2147483648 * s.tdiv 2147483648 = s + 2147483648 * (-s.tdiv 2147483648) from by rw [Int.mul_neg]; omega, Int.add_mul_emod_self_left]
  by_cases h : s.tmod 2147483648 < 0
  all_goals
    go_enter Try.func14, Try.ntmps14
    go_wp2
    go_ret
    exact ⟨ret_int (by have := HE.out; simp [cellP]; omega), rfl⟩

theorem rright_any (v s t : Int) (hv : U64 v) (w : World) :
    Calls Try.prog 28 #[.int .u64 v, .int .i64 s, .int .i64 t] w fun e w' => e = .returned (.bool (rightP v s t)) ∧ w = w' := by
  have hT := Lib.hid (fun w => rto_any v hv w)
  have hB := Lib.hid (fun w => rby_any v hv w)
  have h0 := hv.1
  have h9 : v / 4294967296 < 4294967296 := by have := hv.2; omega
  clear hv
  unfold rightP
  generalize toP v = x at *
  generalize byP v = y at *
  by_cases h1 : x < s
  · by_cases h2 : y < t
    all_goals
      go_enter Try.func28, Try.ntmps28
      go_wp2_with (first
         | (go_at_call 18; refine (hT.out _).mono ?_; rintro e w1 ⟨rfl, rfl⟩)
         | (go_at_call 20; refine (hB.out _).mono ?_; rintro e w1 ⟨rfl, rfl⟩))
      go_ret
      exact ⟨ret_bool (by first | (simp; done) | (simp; omega)), rfl⟩
  · go_enter Try.func28, Try.ntmps28
    go_wp2_with (first
         | (go_at_call 18; refine (hT.out _).mono ?_; rintro e w1 ⟨rfl, rfl⟩)
         | (go_at_call 20; refine (hB.out _).mono ?_; rintro e w1 ⟨rfl, rfl⟩))
    go_ret
    exact ⟨ret_bool (by first | (simp; done) | (simp; omega)), rfl⟩

theorem awake_any (w : World) : Calls Try.prog 8 #[] w fun e w' => e = .returned (.bool true) ∧ Below w.heap.size w w' := by
  have ub := Below.refl w.heap.size w
  have h1 : linkP 4 (-1) = 5 := by decide
  have h2 : linkP (-1) 2 = 12884901888 := by decide
  have h3 : cellP 1 true 7 = 12884901895 := by decide
  have h4 : toP 5 = 4 := by decide
  have h5 : toP 0 = -1 := by decide
  go_enter Try.func8, Try.ntmps8
  go_wp2_with (first
     | (go_at_call 9; refine (link_any _ _ _).mono ?_; rintro e w1 ⟨rfl, b⟩; replace ub := up ub b; clear b)
     | (go_at_call 13; refine (cell_true _ _ ?_ _).mono ?_; (· exact ⟨by decide, by decide⟩); rintro e w1 ⟨rfl, b⟩; replace ub := up ub b; clear b)
     | (go_at_call 17; refine (to_any _ ?_ _).mono ?_; (· exact ⟨by decide, by decide⟩); rintro e w1 ⟨rfl, b⟩; replace ub := up ub b; clear b))
  go_ret
  exact ⟨rfl, ub⟩

end Go.Proofs.Ytdafdodjeffaiaa
