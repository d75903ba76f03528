/- The contract of super.Both, from what super.Read answers at the two lines. -/
import Derived.Test.YtpnmoajiigjlaaaSupPlain
import Derived.Deep.RegionWith
namespace Go.Proofs.Ytpnmoajiigjlaaa
open Go.RowKit
set_option linter.unusedVariables false

set_option maxHeartbeats 4000000 in
theorem both_none (x0 x1 x2 x3 x4 x5 x6 x7 y0 y1 y2 y3 y4 y5 y6 y7 : Int) (hA : ∀ w, Calls Try.prog 11 #[.agg #[.int .u64 x0, .int .u64 x1, .int .u64 x2, .int .u64 x3, .int .u64 x4, .int .u64 x5, .int .u64 x6, .int .u64 x7]] w fun e w' => e = .returned (.tuple #[.agg #[.int .i64 0, .int .i64 0, .int .i64 0, .int .i64 0], .int .i64 8]) ∧ Below w.heap.size w w') (hB : ∀ w, Calls Try.prog 11 #[.agg #[.int .u64 y0, .int .u64 y1, .int .u64 y2, .int .u64 y3, .int .u64 y4, .int .u64 y5, .int .u64 y6, .int .u64 y7]] w fun e w' => e = .returned (.tuple #[.agg #[.int .i64 0, .int .i64 0, .int .i64 0, .int .i64 0], .int .i64 8]) ∧ Below w.heap.size w w') (w : World) :
    Calls Try.prog 13 #[.agg #[.int .u64 x0, .int .u64 x1, .int .u64 x2, .int .u64 x3, .int .u64 x4, .int .u64 x5, .int .u64 x6, .int .u64 x7], .agg #[.int .u64 y0, .int .u64 y1, .int .u64 y2, .int .u64 y3, .int .u64 y4, .int .u64 y5, .int .u64 y6, .int .u64 y7]] w fun e w' => e = .returned (.tuple #[.agg #[.int .i64 0, .int .i64 0, .int .i64 0, .int .i64 0], .int .i64 0, .int .i64 8]) ∧ Below w.heap.size w w' := by
  have HA := Lib.hid hA
  have HB := Lib.hid hB
  clear hA hB
  go_enter Try.func13, Try.ntmps13
  go_wp2_with (first
    | (go_at_call_of 11 (Value.int .u64 x0); refine (HA.out _).mono ?_; rintro e w1 ⟨rfl, b⟩; obtain ⟨bc, bf⟩ := bcell b; have bz := b.size; have HBel := Lib.hid b; clear b; simp at bz; have z0 : w.heap.size < w1.heap.size := (by omega); have z1 : w.heap.size + 1 < w1.heap.size := (by omega); have z2 : w.heap.size + 1 + 1 < w1.heap.size := (by omega); clear bz)
    | (go_at_call_of 11 (Value.int .u64 y0); refine (HB.out _).mono ?_; rintro e w2 ⟨rfl, b⟩; obtain ⟨bd, bg⟩ := bcell b; have bz := b.size; have HBel2 := Lib.hid b; clear b; simp at bz; have f0 : w.heap.size < w2.heap.size := (by omega); have f1 : w1.heap.size < w2.heap.size := (by omega); have f2 : w.heap.size + 1 + 1 < w2.heap.size := (by omega); have f3 : w.heap.size + 1 + 1 < w1.heap.size + 1 := (by omega); clear bz))
  refine bodyPost_ret (v := .tuple #[.agg #[.int .i64 0, .int .i64 0, .int .i64 0, .int .i64 0], .int .i64 0, .int .i64 8]) ?_ rfl ⟨rfl, ?_⟩
  · simp [results, Try.results13, go_sem, bc, bd, z2, f2, f3]
  · clear bc bf bd bg
    repeat (first | (refine Below.setCell ?_ ?_ _; rotate_left; (· (simp; done)); skip) | (refine Below.setCell ?_ ?_ _; rotate_left; (· (simp; omega)); skip) | apply Below.drew | (refine Below.alloc ?_ ?_ _; rotate_left; (· omega); skip) | (refine Below.alloc ?_ ?_ _; rotate_left; (· (simp; omega)); skip))
    refine Below.trans ?_ (HBel2.out.mono ?_)
    · refine Below.alloc ?_ (by omega) _
      refine Below.trans ?_ (HBel.out.mono ?_)
      · repeat (first | exact Below.refl _ _ | (refine Below.alloc ?_ ?_ _; rotate_left; (first | exact Nat.le_refl _ | (· simp) | (· (simp; omega)))))
      · simp; omega
    · simp; omega

set_option maxHeartbeats 4000000 in
theorem both_diff (x0 x1 x2 x3 x4 x5 x6 x7 y0 y1 y2 y3 y4 y5 y6 y7 a0 a1 a2 a3 b0 b1 b2 b3 : Int) (hA : ∀ w, Calls Try.prog 11 #[.agg #[.int .u64 x0, .int .u64 x1, .int .u64 x2, .int .u64 x3, .int .u64 x4, .int .u64 x5, .int .u64 x6, .int .u64 x7]] w fun e w' => e = .returned (.tuple #[.agg #[.int .i64 a0, .int .i64 a1, .int .i64 a2, .int .i64 a3], .int .i64 0]) ∧ Below w.heap.size w w') (hB : ∀ w, Calls Try.prog 11 #[.agg #[.int .u64 y0, .int .u64 y1, .int .u64 y2, .int .u64 y3, .int .u64 y4, .int .u64 y5, .int .u64 y6, .int .u64 y7]] w fun e w' => e = .returned (.tuple #[.agg #[.int .i64 b0, .int .i64 b1, .int .i64 b2, .int .i64 b3], .int .i64 0]) ∧ Below w.heap.size w w') (hne : (a0 == b0 && (a1 == b1 && (a2 == b2 && a3 == b3))) = false) (w : World) :
    Calls Try.prog 13 #[.agg #[.int .u64 x0, .int .u64 x1, .int .u64 x2, .int .u64 x3, .int .u64 x4, .int .u64 x5, .int .u64 x6, .int .u64 x7], .agg #[.int .u64 y0, .int .u64 y1, .int .u64 y2, .int .u64 y3, .int .u64 y4, .int .u64 y5, .int .u64 y6, .int .u64 y7]] w fun e w' => e = .returned (.tuple #[.agg #[.int .i64 0, .int .i64 0, .int .i64 0, .int .i64 0], .int .i64 0, .int .i64 8]) ∧ Below w.heap.size w w' := by
  have HA := Lib.hid hA
  have HB := Lib.hid hB
  clear hA hB
  go_enter Try.func13, Try.ntmps13
  go_wp2_with (first
    | (go_at_call_of 11 (Value.int .u64 x0); refine (HA.out _).mono ?_; rintro e w1 ⟨rfl, b⟩; obtain ⟨bc, bf⟩ := bcell b; have bz := b.size; have HBel := Lib.hid b; clear b; simp at bz; have z0 : w.heap.size < w1.heap.size := (by omega); have z1 : w.heap.size + 1 < w1.heap.size := (by omega); have z2 : w.heap.size + 1 + 1 < w1.heap.size := (by omega); clear bz)
    | (go_at_call_of 11 (Value.int .u64 y0); refine (HB.out _).mono ?_; rintro e w2 ⟨rfl, b⟩; obtain ⟨bd, bg⟩ := bcell b; have bz := b.size; have HBel2 := Lib.hid b; clear b; simp at bz; have f0 : w.heap.size < w2.heap.size := (by omega); have f1 : w1.heap.size < w2.heap.size := (by omega); have f2 : w.heap.size + 1 + 1 < w2.heap.size := (by omega); have f3 : w.heap.size + 1 + 1 < w1.heap.size + 1 := (by omega); clear bz))
  all_goals first | (exfalso; subst_vars; simp at hne; done) | skip
  all_goals
    refine bodyPost_ret (v := .tuple #[.agg #[.int .i64 0, .int .i64 0, .int .i64 0, .int .i64 0], .int .i64 0, .int .i64 8]) ?_ rfl ⟨rfl, ?_⟩
    · simp [results, Try.results13, go_sem, bc, bd, z2, f2, f3]
    · clear bc bf bd bg
      repeat (first | (refine Below.setCell ?_ ?_ _; rotate_left; (· (simp; done)); skip) | (refine Below.setCell ?_ ?_ _; rotate_left; (· (simp; omega)); skip) | apply Below.drew | (refine Below.alloc ?_ ?_ _; rotate_left; (· omega); skip) | (refine Below.alloc ?_ ?_ _; rotate_left; (· (simp; omega)); skip))
      refine Below.trans ?_ (HBel2.out.mono ?_)
      · refine Below.alloc ?_ (by omega) _
        refine Below.trans ?_ (HBel.out.mono ?_)
        · repeat (first | exact Below.refl _ _ | (refine Below.alloc ?_ ?_ _; rotate_left; (first | exact Nat.le_refl _ | (· simp) | (· (simp; omega)))))
        · simp; omega
      · simp; omega

set_option maxHeartbeats 4000000 in
theorem both_same (x0 x1 x2 x3 x4 x5 x6 x7 y0 y1 y2 y3 y4 y5 y6 y7 a0 a1 a2 a3 : Int) (hA : ∀ w, Calls Try.prog 11 #[.agg #[.int .u64 x0, .int .u64 x1, .int .u64 x2, .int .u64 x3, .int .u64 x4, .int .u64 x5, .int .u64 x6, .int .u64 x7]] w fun e w' => e = .returned (.tuple #[.agg #[.int .i64 a0, .int .i64 a1, .int .i64 a2, .int .i64 a3], .int .i64 0]) ∧ Below w.heap.size w w') (hB : ∀ w, Calls Try.prog 11 #[.agg #[.int .u64 y0, .int .u64 y1, .int .u64 y2, .int .u64 y3, .int .u64 y4, .int .u64 y5, .int .u64 y6, .int .u64 y7]] w fun e w' => e = .returned (.tuple #[.agg #[.int .i64 a0, .int .i64 a1, .int .i64 a2, .int .i64 a3], .int .i64 0]) ∧ Below w.heap.size w w') (w : World) :
    Calls Try.prog 13 #[.agg #[.int .u64 x0, .int .u64 x1, .int .u64 x2, .int .u64 x3, .int .u64 x4, .int .u64 x5, .int .u64 x6, .int .u64 x7], .agg #[.int .u64 y0, .int .u64 y1, .int .u64 y2, .int .u64 y3, .int .u64 y4, .int .u64 y5, .int .u64 y6, .int .u64 y7]] w fun e w' => e = .returned (.tuple #[.agg #[.int .i64 a0, .int .i64 a1, .int .i64 a2, .int .i64 a3], .int .i64 0, .int .i64 0]) ∧ Below w.heap.size w w' := by
  have HA := Lib.hid hA
  have HB := Lib.hid hB
  clear hA hB
  go_enter Try.func13, Try.ntmps13
  go_wp2_with (first
    | (go_at_call_of 11 (Value.int .u64 x0); refine (HA.out _).mono ?_; rintro e w1 ⟨rfl, b⟩; obtain ⟨bc, bf⟩ := bcell b; have bz := b.size; have HBel := Lib.hid b; clear b; simp at bz; have z0 : w.heap.size < w1.heap.size := (by omega); have z1 : w.heap.size + 1 < w1.heap.size := (by omega); have z2 : w.heap.size + 1 + 1 < w1.heap.size := (by omega); clear bz)
    | (go_at_call_of 11 (Value.int .u64 y0); refine (HB.out _).mono ?_; rintro e w2 ⟨rfl, b⟩; obtain ⟨bd, bg⟩ := bcell b; have bz := b.size; have HBel2 := Lib.hid b; clear b; simp at bz; have f0 : w.heap.size < w2.heap.size := (by omega); have f1 : w1.heap.size < w2.heap.size := (by omega); have f2 : w.heap.size + 1 + 1 < w2.heap.size := (by omega); have f3 : w.heap.size + 1 + 1 < w1.heap.size + 1 := (by omega); clear bz))
  refine bodyPost_ret (v := .tuple #[.agg #[.int .i64 a0, .int .i64 a1, .int .i64 a2, .int .i64 a3], .int .i64 0, .int .i64 0]) ?_ rfl ⟨rfl, ?_⟩
  · simp [results, Try.results13, go_sem, bc, bd, z2, f2, f3]
  · clear bc bf bd bg
    repeat (first | (refine Below.setCell ?_ ?_ _; rotate_left; (· (simp; done)); skip) | (refine Below.setCell ?_ ?_ _; rotate_left; (· (simp; omega)); skip) | apply Below.drew | (refine Below.alloc ?_ ?_ _; rotate_left; (· omega); skip) | (refine Below.alloc ?_ ?_ _; rotate_left; (· (simp; omega)); skip))
    refine Below.trans ?_ (HBel2.out.mono ?_)
    · refine Below.alloc ?_ (by omega) _
      refine Below.trans ?_ (HBel.out.mono ?_)
      · repeat (first | exact Below.refl _ _ | (refine Below.alloc ?_ ?_ _; rotate_left; (first | exact Nat.le_refl _ | (· simp) | (· (simp; omega)))))
      · simp; omega
    · simp; omega

set_option maxHeartbeats 4000000 in
theorem both_second (x0 x1 x2 x3 x4 x5 x6 x7 y0 y1 y2 y3 y4 y5 y6 y7 b0 b1 b2 b3 : Int) (hA : ∀ w, Calls Try.prog 11 #[.agg #[.int .u64 x0, .int .u64 x1, .int .u64 x2, .int .u64 x3, .int .u64 x4, .int .u64 x5, .int .u64 x6, .int .u64 x7]] w fun e w' => e = .returned (.tuple #[.agg #[.int .i64 0, .int .i64 0, .int .i64 0, .int .i64 0], .int .i64 8]) ∧ Below w.heap.size w w') (hB : ∀ w, Calls Try.prog 11 #[.agg #[.int .u64 y0, .int .u64 y1, .int .u64 y2, .int .u64 y3, .int .u64 y4, .int .u64 y5, .int .u64 y6, .int .u64 y7]] w fun e w' => e = .returned (.tuple #[.agg #[.int .i64 b0, .int .i64 b1, .int .i64 b2, .int .i64 b3], .int .i64 0]) ∧ Below w.heap.size w w') (w : World) :
    Calls Try.prog 13 #[.agg #[.int .u64 x0, .int .u64 x1, .int .u64 x2, .int .u64 x3, .int .u64 x4, .int .u64 x5, .int .u64 x6, .int .u64 x7], .agg #[.int .u64 y0, .int .u64 y1, .int .u64 y2, .int .u64 y3, .int .u64 y4, .int .u64 y5, .int .u64 y6, .int .u64 y7]] w fun e w' => e = .returned (.tuple #[.agg #[.int .i64 b0, .int .i64 b1, .int .i64 b2, .int .i64 b3], .int .i64 1, .int .i64 0]) ∧ Below w.heap.size w w' := by
  have HA := Lib.hid hA
  have HB := Lib.hid hB
  clear hA hB
  go_enter Try.func13, Try.ntmps13
  go_wp2_with (first
    | (go_at_call_of 11 (Value.int .u64 x0); refine (HA.out _).mono ?_; rintro e w1 ⟨rfl, b⟩; obtain ⟨bc, bf⟩ := bcell b; have bz := b.size; have HBel := Lib.hid b; clear b; simp at bz; have z0 : w.heap.size < w1.heap.size := (by omega); have z1 : w.heap.size + 1 < w1.heap.size := (by omega); have z2 : w.heap.size + 1 + 1 < w1.heap.size := (by omega); clear bz)
    | (go_at_call_of 11 (Value.int .u64 y0); refine (HB.out _).mono ?_; rintro e w2 ⟨rfl, b⟩; obtain ⟨bd, bg⟩ := bcell b; have bz := b.size; have HBel2 := Lib.hid b; clear b; simp at bz; have f0 : w.heap.size < w2.heap.size := (by omega); have f1 : w1.heap.size < w2.heap.size := (by omega); have f2 : w.heap.size + 1 + 1 < w2.heap.size := (by omega); have f3 : w.heap.size + 1 + 1 < w1.heap.size + 1 := (by omega); clear bz))
  refine bodyPost_ret (v := .tuple #[.agg #[.int .i64 b0, .int .i64 b1, .int .i64 b2, .int .i64 b3], .int .i64 1, .int .i64 0]) ?_ rfl ⟨rfl, ?_⟩
  · simp [results, Try.results13, go_sem, bc, bd, z2, f2, f3]
  · clear bc bf bd bg
    repeat (first | (refine Below.setCell ?_ ?_ _; rotate_left; (· (simp; done)); skip) | (refine Below.setCell ?_ ?_ _; rotate_left; (· (simp; omega)); skip) | apply Below.drew | (refine Below.alloc ?_ ?_ _; rotate_left; (· omega); skip) | (refine Below.alloc ?_ ?_ _; rotate_left; (· (simp; omega)); skip))
    refine Below.trans ?_ (HBel2.out.mono ?_)
    · refine Below.alloc ?_ (by omega) _
      refine Below.trans ?_ (HBel.out.mono ?_)
      · repeat (first | exact Below.refl _ _ | (refine Below.alloc ?_ ?_ _; rotate_left; (first | exact Nat.le_refl _ | (· simp) | (· (simp; omega)))))
      · simp; omega
    · simp; omega

set_option maxHeartbeats 4000000 in
theorem both_first (x0 x1 x2 x3 x4 x5 x6 x7 y0 y1 y2 y3 y4 y5 y6 y7 a0 a1 a2 a3 : Int) (hA : ∀ w, Calls Try.prog 11 #[.agg #[.int .u64 x0, .int .u64 x1, .int .u64 x2, .int .u64 x3, .int .u64 x4, .int .u64 x5, .int .u64 x6, .int .u64 x7]] w fun e w' => e = .returned (.tuple #[.agg #[.int .i64 a0, .int .i64 a1, .int .i64 a2, .int .i64 a3], .int .i64 0]) ∧ Below w.heap.size w w') (hB : ∀ w, Calls Try.prog 11 #[.agg #[.int .u64 y0, .int .u64 y1, .int .u64 y2, .int .u64 y3, .int .u64 y4, .int .u64 y5, .int .u64 y6, .int .u64 y7]] w fun e w' => e = .returned (.tuple #[.agg #[.int .i64 0, .int .i64 0, .int .i64 0, .int .i64 0], .int .i64 8]) ∧ Below w.heap.size w w') (w : World) :
    Calls Try.prog 13 #[.agg #[.int .u64 x0, .int .u64 x1, .int .u64 x2, .int .u64 x3, .int .u64 x4, .int .u64 x5, .int .u64 x6, .int .u64 x7], .agg #[.int .u64 y0, .int .u64 y1, .int .u64 y2, .int .u64 y3, .int .u64 y4, .int .u64 y5, .int .u64 y6, .int .u64 y7]] w fun e w' => e = .returned (.tuple #[.agg #[.int .i64 a0, .int .i64 a1, .int .i64 a2, .int .i64 a3], .int .i64 0, .int .i64 0]) ∧ Below w.heap.size w w' := by
  have HA := Lib.hid hA
  have HB := Lib.hid hB
  clear hA hB
  go_enter Try.func13, Try.ntmps13
  go_wp2_with (first
    | (go_at_call_of 11 (Value.int .u64 x0); refine (HA.out _).mono ?_; rintro e w1 ⟨rfl, b⟩; obtain ⟨bc, bf⟩ := bcell b; have bz := b.size; have HBel := Lib.hid b; clear b; simp at bz; have z0 : w.heap.size < w1.heap.size := (by omega); have z1 : w.heap.size + 1 < w1.heap.size := (by omega); have z2 : w.heap.size + 1 + 1 < w1.heap.size := (by omega); clear bz)
    | (go_at_call_of 11 (Value.int .u64 y0); refine (HB.out _).mono ?_; rintro e w2 ⟨rfl, b⟩; obtain ⟨bd, bg⟩ := bcell b; have bz := b.size; have HBel2 := Lib.hid b; clear b; simp at bz; have f0 : w.heap.size < w2.heap.size := (by omega); have f1 : w1.heap.size < w2.heap.size := (by omega); have f2 : w.heap.size + 1 + 1 < w2.heap.size := (by omega); have f3 : w.heap.size + 1 + 1 < w1.heap.size + 1 := (by omega); clear bz))
  refine bodyPost_ret (v := .tuple #[.agg #[.int .i64 a0, .int .i64 a1, .int .i64 a2, .int .i64 a3], .int .i64 0, .int .i64 0]) ?_ rfl ⟨rfl, ?_⟩
  · simp [results, Try.results13, go_sem, bc, bd, z2, f2, f3]
  · clear bc bf bd bg
    repeat (first | (refine Below.setCell ?_ ?_ _; rotate_left; (· (simp; done)); skip) | (refine Below.setCell ?_ ?_ _; rotate_left; (· (simp; omega)); skip) | apply Below.drew | (refine Below.alloc ?_ ?_ _; rotate_left; (· omega); skip) | (refine Below.alloc ?_ ?_ _; rotate_left; (· (simp; omega)); skip))
    refine Below.trans ?_ (HBel2.out.mono ?_)
    · refine Below.alloc ?_ (by omega) _
      refine Below.trans ?_ (HBel.out.mono ?_)
      · repeat (first | exact Below.refl _ _ | (refine Below.alloc ?_ ?_ _; rotate_left; (first | exact Nat.le_refl _ | (· simp) | (· (simp; omega)))))
      · simp; omega
    · simp; omega

end Go.Proofs.Ytpnmoajiigjlaaa
