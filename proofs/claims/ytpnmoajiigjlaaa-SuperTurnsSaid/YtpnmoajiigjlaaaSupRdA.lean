/- The contract of the reference's Read of a line: a number too great, or no config's numbers. -/
import Derived.Test.YtpnmoajiigjlaaaSupRef
import Derived.BigRegion
namespace Go.Proofs.Ytpnmoajiigjlaaa
open Go.RowKit
set_option linter.unusedVariables false
set_option maxHeartbeats 4000000 in
theorem rread_a1 (x0 x1 x2 x3 x4 x5 x6 x7 : Int) (h1 : 65536 < x1) (w : World) :
    Calls Try.prog 12 #[.agg #[.int .u64 x0, .int .u64 x1, .int .u64 x2, .int .u64 x3, .int .u64 x4, .int .u64 x5, .int .u64 x6, .int .u64 x7]] w fun e w' => e = .returned (.tuple #[.agg #[.int .i64 0, .int .i64 0, .int .i64 0, .int .i64 0], .bool false]) ∧ Below w.heap.size w w' := by
  go_enter Try.func12, Try.ntmps12
  go_wp2
  go_loop [4] (fun c => c = .int .i64 1) (fun c => 5 - (intOf c).toNat)
  case atStart => rfl
  case round =>
    obtain rfl := hrel
    go_wp2
    refine bodyPost_ret (v := .tuple #[.agg #[.int .i64 0, .int .i64 0, .int .i64 0, .int .i64 0], .bool false]) ?_ rfl ⟨rfl, ?_⟩
    · simp [results, Try.results12, go_sem]
    · repeat (first | exact Below.refl _ _ | (refine Below.alloc ?_ ?_ _; rotate_left; (first | exact Nat.le_refl _ | (· simp) | (· (simp; omega)))))

set_option maxHeartbeats 4000000 in
theorem rread_a2 (x0 x1 x2 x3 x4 x5 x6 x7 : Int) (h1 : x1 ≤ 65536) (h2 : 65536 < x2) (w : World) :
    Calls Try.prog 12 #[.agg #[.int .u64 x0, .int .u64 x1, .int .u64 x2, .int .u64 x3, .int .u64 x4, .int .u64 x5, .int .u64 x6, .int .u64 x7]] w fun e w' => e = .returned (.tuple #[.agg #[.int .i64 0, .int .i64 0, .int .i64 0, .int .i64 0], .bool false]) ∧ Below w.heap.size w w' := by
  go_enter Try.func12, Try.ntmps12
  go_wp2
  go_loop [4] (fun c => ∃ k : Nat, 1 ≤ k ∧ k ≤ 2 ∧ c = .int .i64 k) (fun c => 5 - (intOf c).toNat)
  case atStart => exact ⟨1, by omega, by omega, rfl⟩
  case round =>
    obtain ⟨k, hk1, hk2, rfl⟩ := hrel
    rcases (show k = 1 ∨ k = 2 from by omega) with rfl | rfl
    · go_wp2
      go_round
      case rel => exact ⟨2, by omega, by omega, rfl⟩
      case measure => simp [intOf]
    · go_wp2
      refine bodyPost_ret (v := .tuple #[.agg #[.int .i64 0, .int .i64 0, .int .i64 0, .int .i64 0], .bool false]) ?_ rfl ⟨rfl, ?_⟩
      · simp [results, Try.results12, go_sem]
      · repeat (first | exact Below.refl _ _ | (refine Below.alloc ?_ ?_ _; rotate_left; (first | exact Nat.le_refl _ | (· simp) | (· (simp; omega)))))

set_option maxHeartbeats 4000000 in
theorem rread_a3 (x0 x1 x2 x3 x4 x5 x6 x7 : Int) (h1 : x1 ≤ 65536) (h2 : x2 ≤ 65536) (h3 : 65536 < x3) (w : World) :
    Calls Try.prog 12 #[.agg #[.int .u64 x0, .int .u64 x1, .int .u64 x2, .int .u64 x3, .int .u64 x4, .int .u64 x5, .int .u64 x6, .int .u64 x7]] w fun e w' => e = .returned (.tuple #[.agg #[.int .i64 0, .int .i64 0, .int .i64 0, .int .i64 0], .bool false]) ∧ Below w.heap.size w w' := by
  go_enter Try.func12, Try.ntmps12
  go_wp2
  go_loop [4] (fun c => ∃ k : Nat, 1 ≤ k ∧ k ≤ 3 ∧ c = .int .i64 k) (fun c => 5 - (intOf c).toNat)
  case atStart => exact ⟨1, by omega, by omega, rfl⟩
  case round =>
    obtain ⟨k, hk1, hk2, rfl⟩ := hrel
    rcases (show k = 1 ∨ k = 2 ∨ k = 3 from by omega) with rfl | rfl | rfl
    · go_wp2
      go_round
      case rel => exact ⟨2, by omega, by omega, rfl⟩
      case measure => simp [intOf]
    · go_wp2
      go_round
      case rel => exact ⟨3, by omega, by omega, rfl⟩
      case measure => simp [intOf]
    · go_wp2
      refine bodyPost_ret (v := .tuple #[.agg #[.int .i64 0, .int .i64 0, .int .i64 0, .int .i64 0], .bool false]) ?_ rfl ⟨rfl, ?_⟩
      · simp [results, Try.results12, go_sem]
      · repeat (first | exact Below.refl _ _ | (refine Below.alloc ?_ ?_ _; rotate_left; (first | exact Nat.le_refl _ | (· simp) | (· (simp; omega)))))

set_option maxHeartbeats 4000000 in
theorem rread_a4 (x0 x1 x2 x3 x4 x5 x6 x7 : Int) (h1 : x1 ≤ 65536) (h2 : x2 ≤ 65536) (h3 : x3 ≤ 65536) (h4 : 65536 < x4) (w : World) :
    Calls Try.prog 12 #[.agg #[.int .u64 x0, .int .u64 x1, .int .u64 x2, .int .u64 x3, .int .u64 x4, .int .u64 x5, .int .u64 x6, .int .u64 x7]] w fun e w' => e = .returned (.tuple #[.agg #[.int .i64 0, .int .i64 0, .int .i64 0, .int .i64 0], .bool false]) ∧ Below w.heap.size w w' := by
  go_enter Try.func12, Try.ntmps12
  go_wp2
  go_loop [4] (fun c => ∃ k : Nat, 1 ≤ k ∧ k ≤ 4 ∧ c = .int .i64 k) (fun c => 5 - (intOf c).toNat)
  case atStart => exact ⟨1, by omega, by omega, rfl⟩
  case round =>
    obtain ⟨k, hk1, hk2, rfl⟩ := hrel
    rcases (show k = 1 ∨ k = 2 ∨ k = 3 ∨ k = 4 from by omega) with rfl | rfl | rfl | rfl
    · go_wp2
      go_round
      case rel => exact ⟨2, by omega, by omega, rfl⟩
      case measure => simp [intOf]
    · go_wp2
      go_round
      case rel => exact ⟨3, by omega, by omega, rfl⟩
      case measure => simp [intOf]
    · go_wp2
      go_round
      case rel => exact ⟨4, by omega, by omega, rfl⟩
      case measure => simp [intOf]
    · go_wp2
      refine bodyPost_ret (v := .tuple #[.agg #[.int .i64 0, .int .i64 0, .int .i64 0, .int .i64 0], .bool false]) ?_ rfl ⟨rfl, ?_⟩
      · simp [results, Try.results12, go_sem]
      · repeat (first | exact Below.refl _ _ | (refine Below.alloc ?_ ?_ _; rotate_left; (first | exact Nat.le_refl _ | (· simp) | (· (simp; omega)))))

set_option maxHeartbeats 4000000 in
theorem rread_b (x0 x1 x2 x3 x4 x5 x6 x7 : Int) (p1 : 0 ≤ x1) (p2 : 0 ≤ x2) (p3 : 0 ≤ x3) (p4 : 0 ≤ x4) (h1 : x1 ≤ 65536) (h2 : x2 ≤ 65536) (h3 : x3 ≤ 65536) (h4 : x4 ≤ 65536) (hr : rightB x1 x2 x3 x4 = false) (w : World) :
    Calls Try.prog 12 #[.agg #[.int .u64 x0, .int .u64 x1, .int .u64 x2, .int .u64 x3, .int .u64 x4, .int .u64 x5, .int .u64 x6, .int .u64 x7]] w fun e w' => e = .returned (.tuple #[.agg #[.int .i64 0, .int .i64 0, .int .i64 0, .int .i64 0], .bool false]) ∧ Below w.heap.size w w' := by
  have hR := rright_any x1 x2 x3 x4
  rw [hr] at hR
  have HR := Lib.hid hR
  clear hR hr
  go_enter Try.func12, Try.ntmps12
  go_wp2
  go_loop [4] (fun c => ∃ k : Nat, 1 ≤ k ∧ k ≤ 5 ∧ c = .int .i64 k) (fun c => 5 - (intOf c).toNat)
  case atStart => exact ⟨1, by omega, by omega, rfl⟩
  case round =>
    obtain ⟨k, hk1, hk2, rfl⟩ := hrel
    rcases (show k = 1 ∨ k = 2 ∨ k = 3 ∨ k = 4 ∨ k = 5 from by omega) with rfl | rfl | rfl | rfl | rfl
    · go_wp2
      go_round
      case rel => exact ⟨2, by omega, by omega, rfl⟩
      case measure => simp [intOf]
    · go_wp2
      go_round
      case rel => exact ⟨3, by omega, by omega, rfl⟩
      case measure => simp [intOf]
    · go_wp2
      go_round
      case rel => exact ⟨4, by omega, by omega, rfl⟩
      case measure => simp [intOf]
    · go_wp2
      go_round
      case rel => exact ⟨5, by omega, by omega, rfl⟩
      case measure => simp [intOf]
    · go_wp2_with (go_at_call 8; refine (HR.out _).mono ?_; rintro e w1 ⟨rfl, rfl⟩)
      refine bodyPost_ret (v := .tuple #[.agg #[.int .i64 0, .int .i64 0, .int .i64 0, .int .i64 0], .bool false]) ?_ rfl ⟨rfl, ?_⟩
      · simp [results, Try.results12, go_sem]
      · repeat (first | exact Below.refl _ _ | (refine Below.alloc ?_ ?_ _; rotate_left; (first | exact Nat.le_refl _ | (· simp) | (· (simp; omega)))))

end Go.Proofs.Ytpnmoajiigjlaaa
