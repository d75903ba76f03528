/- The contract of the reference's Read of a line: of a line that differs from its config's. -/
import Derived.Test.YtpnmoajiigjlaaaSupRef
import Derived.BigRegion
namespace Go.Proofs.Ytpnmoajiigjlaaa
open Go.RowKit
set_option linter.unusedVariables false
set_option maxHeartbeats 4000000 in
theorem rread_d0 (x0 x1 x2 x3 x4 x5 x6 x7 : Int) (hr : rightB x1 x2 x3 x4 = true) (hne : (7739836655157129782 != x0) = true) (w : World) :
    Calls Try.prog 12 #[.agg #[.int .u64 x0, .int .u64 x1, .int .u64 x2, .int .u64 x3, .int .u64 x4, .int .u64 x5, .int .u64 x6, .int .u64 x7]] w fun e w' => e = .returned (.tuple #[.agg #[.int .i64 0, .int .i64 0, .int .i64 0, .int .i64 0], .bool false]) ∧ Below w.heap.size w w' := by
  have hR := rright_any x1 x2 x3 x4
  rw [hr] at hR
  have HR := Lib.hid hR
  have HW := Lib.hid (refwords_any x1 x2 x3 x4 hr)
  obtain ⟨⟨p1, q1⟩, ⟨p2, h2⟩, ⟨p3, q3⟩, p4, q4⟩ := right_bd hr
  have h1 : x1 ≤ 65536 := by omega
  have h3 : x3 ≤ 65536 := by omega
  have h4 : x4 ≤ 65536 := by omega
  clear hR hr q1 q3 q4
  generalize sum7 x1 x2 x3 x4 = S at *
  go_enter Try.func12, Try.ntmps12
  go_wp2
  go_loop [4] (fun c => ∃ k : Nat, 1 ≤ k ∧ k ≤ 5 ∧ c = .int .i64 k) (fun c => 5 - (intOf c).toNat)
  case atStart => exact ⟨1, by omega, by omega, rfl⟩
  case round =>
    obtain ⟨k, hk1, hk2, rfl⟩ := hrel
    rcases (show k = 1 ∨ k = 2 ∨ k = 3 ∨ k = 4 ∨ k = 5 from by omega) with rfl | rfl | rfl | rfl | rfl
    · go_wp2
      go_round
      case rel => exact ⟨2, by omega, by omega, rfl⟩
      case measure => simp [intOf]
    · go_wp2
      go_round
      case rel => exact ⟨3, by omega, by omega, rfl⟩
      case measure => simp [intOf]
    · go_wp2
      go_round
      case rel => exact ⟨4, by omega, by omega, rfl⟩
      case measure => simp [intOf]
    · go_wp2
      go_round
      case rel => exact ⟨5, by omega, by omega, rfl⟩
      case measure => simp [intOf]
    · go_wp2_with (first
        | (go_at_call 8; refine (HR.out _).mono ?_; rintro e w1 ⟨rfl, rfl⟩)
        | (go_at_call 10; refine (HW.out _).mono ?_; rintro e w1 ⟨r, rfl, hown, b⟩; obtain ⟨bc, bf⟩ := bcell b; have bz := b.size; have HBel := Lib.hid b; clear b; simp at bz; have z0 : w.heap.size < w1.heap.size := (by omega); have z1 : w.heap.size + 1 < w1.heap.size := (by omega); have z2 : w.heap.size + 1 + 1 < w1.heap.size := (by omega); clear bz))
      rcases hown.form with ⟨_, h0⟩ | ⟨g, capW, rfl, hBg, hg, hcap, hmax, hc, _⟩
      · simp at h0
      · have k0 := hc 0 (by simp)
        have k1 := hc 1 (by simp)
        have k2 := hc 2 (by simp)
        have k3 := hc 3 (by simp)
        have k4 := hc 4 (by simp)
        have k5 := hc 5 (by simp)
        have k6 := hc 6 (by simp)
        have k7 := hc 7 (by simp)
        simp at k0 k1 k2 k3 k4 k5 k6 k7
        simp at hcap
        clear hc hown hBg hg hmax
        go_loopw [7] (fun c wr => ∃ k q : Nat, k ≤ 0 ∧ c = .int .i64 k ∧ wr = w1.drewN q) (fun c _ => 8 - (intOf c).toNat)
        case atStart => exact ⟨0, 0, by omega, rfl, rfl⟩
        case round =>
          obtain ⟨k, q, hk2, rfl, rfl⟩ := hrel
          rcases (show k = 0 from by omega) with rfl
          · go_wp2
            go_region
            all_goals
              go_wp2
              refine bodyPost_ret (v := .tuple #[.agg #[.int .i64 0, .int .i64 0, .int .i64 0, .int .i64 0], .bool false]) ?_ rfl ⟨rfl, ?_⟩
              · simp [results, Try.results12, go_sem, bc]
              · clear bc bf
                repeat (first | (refine Below.setCell ?_ ?_ _; rotate_left; (· (simp; done)); skip) | (refine Below.setCell ?_ ?_ _; rotate_left; (· (simp; omega)); skip) | (refine below_drewN ?_ _) | apply Below.drew)
                refine Below.trans ?_ (HBel.out.mono ?_)
                · repeat (first | exact Below.refl _ _ | (refine Below.alloc ?_ ?_ _; rotate_left; (first | exact Nat.le_refl _ | (· simp) | (· (simp; omega)))))
                · simp; omega

set_option maxHeartbeats 4000000 in
theorem rread_d5 (x1 x2 x3 x4 x5 x6 x7 : Int) (hr : rightB x1 x2 x3 x4 = true) (hne : (1 != x5) = true) (w : World) :
    Calls Try.prog 12 #[.agg #[.int .u64 7739836655157129782, .int .u64 x1, .int .u64 x2, .int .u64 x3, .int .u64 x4, .int .u64 x5, .int .u64 x6, .int .u64 x7]] w fun e w' => e = .returned (.tuple #[.agg #[.int .i64 0, .int .i64 0, .int .i64 0, .int .i64 0], .bool false]) ∧ Below w.heap.size w w' := by
  have hR := rright_any x1 x2 x3 x4
  rw [hr] at hR
  have HR := Lib.hid hR
  have HW := Lib.hid (refwords_any x1 x2 x3 x4 hr)
  obtain ⟨⟨p1, q1⟩, ⟨p2, h2⟩, ⟨p3, q3⟩, p4, q4⟩ := right_bd hr
  have h1 : x1 ≤ 65536 := by omega
  have h3 : x3 ≤ 65536 := by omega
  have h4 : x4 ≤ 65536 := by omega
  clear hR hr q1 q3 q4
  generalize sum7 x1 x2 x3 x4 = S at *
  go_enter Try.func12, Try.ntmps12
  go_wp2
  go_loop [4] (fun c => ∃ k : Nat, 1 ≤ k ∧ k ≤ 5 ∧ c = .int .i64 k) (fun c => 5 - (intOf c).toNat)
  case atStart => exact ⟨1, by omega, by omega, rfl⟩
  case round =>
    obtain ⟨k, hk1, hk2, rfl⟩ := hrel
    rcases (show k = 1 ∨ k = 2 ∨ k = 3 ∨ k = 4 ∨ k = 5 from by omega) with rfl | rfl | rfl | rfl | rfl
    · go_wp2
      go_round
      case rel => exact ⟨2, by omega, by omega, rfl⟩
      case measure => simp [intOf]
    · go_wp2
      go_round
      case rel => exact ⟨3, by omega, by omega, rfl⟩
      case measure => simp [intOf]
    · go_wp2
      go_round
      case rel => exact ⟨4, by omega, by omega, rfl⟩
      case measure => simp [intOf]
    · go_wp2
      go_round
      case rel => exact ⟨5, by omega, by omega, rfl⟩
      case measure => simp [intOf]
    · go_wp2_with (first
        | (go_at_call 8; refine (HR.out _).mono ?_; rintro e w1 ⟨rfl, rfl⟩)
        | (go_at_call 10; refine (HW.out _).mono ?_; rintro e w1 ⟨r, rfl, hown, b⟩; obtain ⟨bc, bf⟩ := bcell b; have bz := b.size; have HBel := Lib.hid b; clear b; simp at bz; have z0 : w.heap.size < w1.heap.size := (by omega); have z1 : w.heap.size + 1 < w1.heap.size := (by omega); have z2 : w.heap.size + 1 + 1 < w1.heap.size := (by omega); clear bz))
      rcases hown.form with ⟨_, h0⟩ | ⟨g, capW, rfl, hBg, hg, hcap, hmax, hc, _⟩
      · simp at h0
      · have k0 := hc 0 (by simp)
        have k1 := hc 1 (by simp)
        have k2 := hc 2 (by simp)
        have k3 := hc 3 (by simp)
        have k4 := hc 4 (by simp)
        have k5 := hc 5 (by simp)
        have k6 := hc 6 (by simp)
        have k7 := hc 7 (by simp)
        simp at k0 k1 k2 k3 k4 k5 k6 k7
        simp at hcap
        clear hc hown hBg hg hmax
        go_loopw [7] (fun c wr => ∃ k q : Nat, k ≤ 5 ∧ c = .int .i64 k ∧ wr = w1.drewN q) (fun c _ => 8 - (intOf c).toNat)
        case atStart => exact ⟨0, 0, by omega, rfl, rfl⟩
        case round =>
          obtain ⟨k, q, hk2, rfl, rfl⟩ := hrel
          rcases (show k = 0 ∨ k = 1 ∨ k = 2 ∨ k = 3 ∨ k = 4 ∨ k = 5 from by omega) with rfl | rfl | rfl | rfl | rfl | rfl
          · go_wp2
            go_region
            all_goals
              go_wp2
              go_roundw
              case rel => exact ⟨1, q + 1, by omega, rfl, by first | rfl | exact (World.drewN_succ _ _).symm⟩
              case measure => simp [intOf]
          · go_wp2
            go_region
            all_goals
              go_wp2
              go_roundw
              case rel => exact ⟨2, q + 1, by omega, rfl, by first | rfl | exact (World.drewN_succ _ _).symm⟩
              case measure => simp [intOf]
          · go_wp2
            go_region
            all_goals
              go_wp2
              go_roundw
              case rel => exact ⟨3, q + 1, by omega, rfl, by first | rfl | exact (World.drewN_succ _ _).symm⟩
              case measure => simp [intOf]
          · go_wp2
            go_region
            all_goals
              go_wp2
              go_roundw
              case rel => exact ⟨4, q + 1, by omega, rfl, by first | rfl | exact (World.drewN_succ _ _).symm⟩
              case measure => simp [intOf]
          · go_wp2
            go_region
            all_goals
              go_wp2
              go_roundw
              case rel => exact ⟨5, q + 1, by omega, rfl, by first | rfl | exact (World.drewN_succ _ _).symm⟩
              case measure => simp [intOf]
          · go_wp2
            go_region
            all_goals
              go_wp2
              refine bodyPost_ret (v := .tuple #[.agg #[.int .i64 0, .int .i64 0, .int .i64 0, .int .i64 0], .bool false]) ?_ rfl ⟨rfl, ?_⟩
              · simp [results, Try.results12, go_sem, bc]
              · clear bc bf
                repeat (first | (refine Below.setCell ?_ ?_ _; rotate_left; (· (simp; done)); skip) | (refine Below.setCell ?_ ?_ _; rotate_left; (· (simp; omega)); skip) | (refine below_drewN ?_ _) | apply Below.drew)
                refine Below.trans ?_ (HBel.out.mono ?_)
                · repeat (first | exact Below.refl _ _ | (refine Below.alloc ?_ ?_ _; rotate_left; (first | exact Nat.le_refl _ | (· simp) | (· (simp; omega)))))
                · simp; omega

set_option maxHeartbeats 4000000 in
theorem rread_d6 (x1 x2 x3 x4 x6 x7 : Int) (hr : rightB x1 x2 x3 x4 = true) (hne : (0 != x6) = true) (w : World) :
    Calls Try.prog 12 #[.agg #[.int .u64 7739836655157129782, .int .u64 x1, .int .u64 x2, .int .u64 x3, .int .u64 x4, .int .u64 1, .int .u64 x6, .int .u64 x7]] w fun e w' => e = .returned (.tuple #[.agg #[.int .i64 0, .int .i64 0, .int .i64 0, .int .i64 0], .bool false]) ∧ Below w.heap.size w w' := by
  have hR := rright_any x1 x2 x3 x4
  rw [hr] at hR
  have HR := Lib.hid hR
  have HW := Lib.hid (refwords_any x1 x2 x3 x4 hr)
  obtain ⟨⟨p1, q1⟩, ⟨p2, h2⟩, ⟨p3, q3⟩, p4, q4⟩ := right_bd hr
  have h1 : x1 ≤ 65536 := by omega
  have h3 : x3 ≤ 65536 := by omega
  have h4 : x4 ≤ 65536 := by omega
  clear hR hr q1 q3 q4
  generalize sum7 x1 x2 x3 x4 = S at *
  go_enter Try.func12, Try.ntmps12
  go_wp2
  go_loop [4] (fun c => ∃ k : Nat, 1 ≤ k ∧ k ≤ 5 ∧ c = .int .i64 k) (fun c => 5 - (intOf c).toNat)
  case atStart => exact ⟨1, by omega, by omega, rfl⟩
  case round =>
    obtain ⟨k, hk1, hk2, rfl⟩ := hrel
    rcases (show k = 1 ∨ k = 2 ∨ k = 3 ∨ k = 4 ∨ k = 5 from by omega) with rfl | rfl | rfl | rfl | rfl
    · go_wp2
      go_round
      case rel => exact ⟨2, by omega, by omega, rfl⟩
      case measure => simp [intOf]
    · go_wp2
      go_round
      case rel => exact ⟨3, by omega, by omega, rfl⟩
      case measure => simp [intOf]
    · go_wp2
      go_round
      case rel => exact ⟨4, by omega, by omega, rfl⟩
      case measure => simp [intOf]
    · go_wp2
      go_round
      case rel => exact ⟨5, by omega, by omega, rfl⟩
      case measure => simp [intOf]
    · go_wp2_with (first
        | (go_at_call 8; refine (HR.out _).mono ?_; rintro e w1 ⟨rfl, rfl⟩)
        | (go_at_call 10; refine (HW.out _).mono ?_; rintro e w1 ⟨r, rfl, hown, b⟩; obtain ⟨bc, bf⟩ := bcell b; have bz := b.size; have HBel := Lib.hid b; clear b; simp at bz; have z0 : w.heap.size < w1.heap.size := (by omega); have z1 : w.heap.size + 1 < w1.heap.size := (by omega); have z2 : w.heap.size + 1 + 1 < w1.heap.size := (by omega); clear bz))
      rcases hown.form with ⟨_, h0⟩ | ⟨g, capW, rfl, hBg, hg, hcap, hmax, hc, _⟩
      · simp at h0
      · have k0 := hc 0 (by simp)
        have k1 := hc 1 (by simp)
        have k2 := hc 2 (by simp)
        have k3 := hc 3 (by simp)
        have k4 := hc 4 (by simp)
        have k5 := hc 5 (by simp)
        have k6 := hc 6 (by simp)
        have k7 := hc 7 (by simp)
        simp at k0 k1 k2 k3 k4 k5 k6 k7
        simp at hcap
        clear hc hown hBg hg hmax
        go_loopw [7] (fun c wr => ∃ k q : Nat, k ≤ 6 ∧ c = .int .i64 k ∧ wr = w1.drewN q) (fun c _ => 8 - (intOf c).toNat)
        case atStart => exact ⟨0, 0, by omega, rfl, rfl⟩
        case round =>
          obtain ⟨k, q, hk2, rfl, rfl⟩ := hrel
          rcases (show k = 0 ∨ k = 1 ∨ k = 2 ∨ k = 3 ∨ k = 4 ∨ k = 5 ∨ k = 6 from by omega) with rfl | rfl | rfl | rfl | rfl | rfl | rfl
          · go_wp2
            go_region
            all_goals
              go_wp2
              go_roundw
              case rel => exact ⟨1, q + 1, by omega, rfl, by first | rfl | exact (World.drewN_succ _ _).symm⟩
              case measure => simp [intOf]
          · go_wp2
            go_region
            all_goals
              go_wp2
              go_roundw
              case rel => exact ⟨2, q + 1, by omega, rfl, by first | rfl | exact (World.drewN_succ _ _).symm⟩
              case measure => simp [intOf]
          · go_wp2
            go_region
            all_goals
              go_wp2
              go_roundw
              case rel => exact ⟨3, q + 1, by omega, rfl, by first | rfl | exact (World.drewN_succ _ _).symm⟩
              case measure => simp [intOf]
          · go_wp2
            go_region
            all_goals
              go_wp2
              go_roundw
              case rel => exact ⟨4, q + 1, by omega, rfl, by first | rfl | exact (World.drewN_succ _ _).symm⟩
              case measure => simp [intOf]
          · go_wp2
            go_region
            all_goals
              go_wp2
              go_roundw
              case rel => exact ⟨5, q + 1, by omega, rfl, by first | rfl | exact (World.drewN_succ _ _).symm⟩
              case measure => simp [intOf]
          · go_wp2
            go_region
            all_goals
              go_wp2
              go_roundw
              case rel => exact ⟨6, q + 1, by omega, rfl, by first | rfl | exact (World.drewN_succ _ _).symm⟩
              case measure => simp [intOf]
          · go_wp2
            go_region
            all_goals
              go_wp2
              refine bodyPost_ret (v := .tuple #[.agg #[.int .i64 0, .int .i64 0, .int .i64 0, .int .i64 0], .bool false]) ?_ rfl ⟨rfl, ?_⟩
              · simp [results, Try.results12, go_sem, bc]
              · clear bc bf
                repeat (first | (refine Below.setCell ?_ ?_ _; rotate_left; (· (simp; done)); skip) | (refine Below.setCell ?_ ?_ _; rotate_left; (· (simp; omega)); skip) | (refine below_drewN ?_ _) | apply Below.drew)
                refine Below.trans ?_ (HBel.out.mono ?_)
                · repeat (first | exact Below.refl _ _ | (refine Below.alloc ?_ ?_ _; rotate_left; (first | exact Nat.le_refl _ | (· simp) | (· (simp; omega)))))
                · simp; omega

set_option maxHeartbeats 4000000 in
theorem rread_d7 (x1 x2 x3 x4 x7 : Int) (hr : rightB x1 x2 x3 x4 = true) (hne : (sum7 x1 x2 x3 x4 != x7) = true) (w : World) :
    Calls Try.prog 12 #[.agg #[.int .u64 7739836655157129782, .int .u64 x1, .int .u64 x2, .int .u64 x3, .int .u64 x4, .int .u64 1, .int .u64 0, .int .u64 x7]] w fun e w' => e = .returned (.tuple #[.agg #[.int .i64 0, .int .i64 0, .int .i64 0, .int .i64 0], .bool false]) ∧ Below w.heap.size w w' := by
  have hR := rright_any x1 x2 x3 x4
  rw [hr] at hR
  have HR := Lib.hid hR
  have HW := Lib.hid (refwords_any x1 x2 x3 x4 hr)
  obtain ⟨⟨p1, q1⟩, ⟨p2, h2⟩, ⟨p3, q3⟩, p4, q4⟩ := right_bd hr
  have h1 : x1 ≤ 65536 := by omega
  have h3 : x3 ≤ 65536 := by omega
  have h4 : x4 ≤ 65536 := by omega
  clear hR hr q1 q3 q4
  generalize sum7 x1 x2 x3 x4 = S at *
  go_enter Try.func12, Try.ntmps12
  go_wp2
  go_loop [4] (fun c => ∃ k : Nat, 1 ≤ k ∧ k ≤ 5 ∧ c = .int .i64 k) (fun c => 5 - (intOf c).toNat)
  case atStart => exact ⟨1, by omega, by omega, rfl⟩
  case round =>
    obtain ⟨k, hk1, hk2, rfl⟩ := hrel
    rcases (show k = 1 ∨ k = 2 ∨ k = 3 ∨ k = 4 ∨ k = 5 from by omega) with rfl | rfl | rfl | rfl | rfl
    · go_wp2
      go_round
      case rel => exact ⟨2, by omega, by omega, rfl⟩
      case measure => simp [intOf]
    · go_wp2
      go_round
      case rel => exact ⟨3, by omega, by omega, rfl⟩
      case measure => simp [intOf]
    · go_wp2
      go_round
      case rel => exact ⟨4, by omega, by omega, rfl⟩
      case measure => simp [intOf]
    · go_wp2
      go_round
      case rel => exact ⟨5, by omega, by omega, rfl⟩
      case measure => simp [intOf]
    · go_wp2_with (first
        | (go_at_call 8; refine (HR.out _).mono ?_; rintro e w1 ⟨rfl, rfl⟩)
        | (go_at_call 10; refine (HW.out _).mono ?_; rintro e w1 ⟨r, rfl, hown, b⟩; obtain ⟨bc, bf⟩ := bcell b; have bz := b.size; have HBel := Lib.hid b; clear b; simp at bz; have z0 : w.heap.size < w1.heap.size := (by omega); have z1 : w.heap.size + 1 < w1.heap.size := (by omega); have z2 : w.heap.size + 1 + 1 < w1.heap.size := (by omega); clear bz))
      rcases hown.form with ⟨_, h0⟩ | ⟨g, capW, rfl, hBg, hg, hcap, hmax, hc, _⟩
      · simp at h0
      · have k0 := hc 0 (by simp)
        have k1 := hc 1 (by simp)
        have k2 := hc 2 (by simp)
        have k3 := hc 3 (by simp)
        have k4 := hc 4 (by simp)
        have k5 := hc 5 (by simp)
        have k6 := hc 6 (by simp)
        have k7 := hc 7 (by simp)
        simp at k0 k1 k2 k3 k4 k5 k6 k7
        simp at hcap
        clear hc hown hBg hg hmax
        go_loopw [7] (fun c wr => ∃ k q : Nat, k ≤ 7 ∧ c = .int .i64 k ∧ wr = w1.drewN q) (fun c _ => 8 - (intOf c).toNat)
        case atStart => exact ⟨0, 0, by omega, rfl, rfl⟩
        case round =>
          obtain ⟨k, q, hk2, rfl, rfl⟩ := hrel
          rcases (show k = 0 ∨ k = 1 ∨ k = 2 ∨ k = 3 ∨ k = 4 ∨ k = 5 ∨ k = 6 ∨ k = 7 from by omega) with rfl | rfl | rfl | rfl | rfl | rfl | rfl | rfl
          · go_wp2
            go_region
            all_goals
              go_wp2
              go_roundw
              case rel => exact ⟨1, q + 1, by omega, rfl, by first | rfl | exact (World.drewN_succ _ _).symm⟩
              case measure => simp [intOf]
          · go_wp2
            go_region
            all_goals
              go_wp2
              go_roundw
              case rel => exact ⟨2, q + 1, by omega, rfl, by first | rfl | exact (World.drewN_succ _ _).symm⟩
              case measure => simp [intOf]
          · go_wp2
            go_region
            all_goals
              go_wp2
              go_roundw
              case rel => exact ⟨3, q + 1, by omega, rfl, by first | rfl | exact (World.drewN_succ _ _).symm⟩
              case measure => simp [intOf]
          · go_wp2
            go_region
            all_goals
              go_wp2
              go_roundw
              case rel => exact ⟨4, q + 1, by omega, rfl, by first | rfl | exact (World.drewN_succ _ _).symm⟩
              case measure => simp [intOf]
          · go_wp2
            go_region
            all_goals
              go_wp2
              go_roundw
              case rel => exact ⟨5, q + 1, by omega, rfl, by first | rfl | exact (World.drewN_succ _ _).symm⟩
              case measure => simp [intOf]
          · go_wp2
            go_region
            all_goals
              go_wp2
              go_roundw
              case rel => exact ⟨6, q + 1, by omega, rfl, by first | rfl | exact (World.drewN_succ _ _).symm⟩
              case measure => simp [intOf]
          · go_wp2
            go_region
            all_goals
              go_wp2
              go_roundw
              case rel => exact ⟨7, q + 1, by omega, rfl, by first | rfl | exact (World.drewN_succ _ _).symm⟩
              case measure => simp [intOf]
          · go_wp2
            go_region
            all_goals
              go_wp2
              refine bodyPost_ret (v := .tuple #[.agg #[.int .i64 0, .int .i64 0, .int .i64 0, .int .i64 0], .bool false]) ?_ rfl ⟨rfl, ?_⟩
              · simp [results, Try.results12, go_sem, bc]
              · clear bc bf
                repeat (first | (refine Below.setCell ?_ ?_ _; rotate_left; (· (simp; done)); skip) | (refine Below.setCell ?_ ?_ _; rotate_left; (· (simp; omega)); skip) | (refine below_drewN ?_ _) | apply Below.drew)
                refine Below.trans ?_ (HBel.out.mono ?_)
                · repeat (first | exact Below.refl _ _ | (refine Below.alloc ?_ ?_ _; rotate_left; (first | exact Nat.le_refl _ | (· simp) | (· (simp; omega)))))
                · simp; omega


end Go.Proofs.Ytpnmoajiigjlaaa
