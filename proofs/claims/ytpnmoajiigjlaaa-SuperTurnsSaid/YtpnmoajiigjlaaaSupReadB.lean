/- The contract of super.Read: of a line that is not its config's. -/
import Derived.Test.YtpnmoajiigjlaaaSupPlain
import Derived.Deep.RegionHeld3
namespace Go.Proofs.Ytpnmoajiigjlaaa
open Go.RowKit
set_option linter.unusedVariables false

set_option maxHeartbeats 2000000 in
theorem read_no2 (x0 x1 x2 x3 x4 x5 x6 x7 : Int) (h1 : 0 ≤ x1) (h2 : 0 ≤ x2) (h3 : 0 ≤ x3) (h4 : 0 ≤ x4) (hr : rightB (numP x1 64) (numP x2 65536) (numP x3 64) (numP x4 64) = true) (hn : okB x0 x1 x2 x3 x4 x5 x6 x7 = false) (w : World) :
    Calls Try.prog 11 #[.agg #[.int .u64 x0, .int .u64 x1, .int .u64 x2, .int .u64 x3, .int .u64 x4, .int .u64 x5, .int .u64 x6, .int .u64 x7]] w fun e w' => e = .returned (.tuple #[.agg #[.int .i64 0, .int .i64 0, .int .i64 0, .int .i64 0], .int .i64 8]) ∧ Below w.heap.size w w' := by
  have n1 := number_any x1 64 h1 (by decide) (by decide)
  have n2 := number_any x2 65536 h2 (by decide) (by decide)
  have n3 := number_any x3 64 h3 (by decide) (by decide)
  have n4 := number_any x4 64 h4 (by decide) (by decide)
  have hL := Lib.hid (line_yes (numP x1 64) (numP x2 65536) (numP x3 64) (numP x4 64) hr)
  have hne : (7739836655157129782 == x0 && (numP x1 64 == x1 && (numP x2 65536 == x2 && (numP x3 64 == x3 && (numP x4 64 == x4 && (1 == x5 && (0 == x6 && sum7 (numP x1 64) (numP x2 65536) (numP x3 64) (numP x4 64) == x7))))))) = false := by
    obtain ⟨⟨e1, e2⟩, e3, e4⟩ := num_right h1 h2 h3 h4 hr
    rw [e1, e2, e3, e4] at hr ⊢
    unfold okB at hn
    rw [hr] at hn
    rw [← hn, Bool.eq_iff_iff]
    simp
    constructor
    · rintro ⟨a, b, c, d⟩
      exact ⟨⟨⟨a.symm, b.symm⟩, c.symm⟩, d.symm⟩
    · rintro ⟨⟨⟨a, b⟩, c⟩, d⟩
      exact ⟨a.symm, b.symm, c.symm, d.symm⟩
  clear hr hn
  generalize sum7 (numP x1 64) (numP x2 65536) (numP x3 64) (numP x4 64) = S at *
  generalize numP x1 64 = y1 at *
  generalize numP x2 65536 = y2 at *
  generalize numP x3 64 = y3 at *
  generalize numP x4 64 = y4 at *
  have N1 := Lib.hid n1
  have N2 := Lib.hid n2
  have N3 := Lib.hid n3
  have N4 := Lib.hid n4
  clear n1 n2 n3 n4
  go_enter Try.func11, Try.ntmps11
  go_wp2_with (fail)
  go_region_held3 (fun w' => w'.cell? ⟨w.heap.size, 1, none⟩ = some (.int .u64 x1) ∧ w'.cell? ⟨w.heap.size, 2, none⟩ = some (.int .u64 x2) ∧ w'.cell? ⟨w.heap.size, 3, none⟩ = some (.int .u64 x3) ∧ w'.cell? ⟨w.heap.size, 4, none⟩ = some (.int .u64 x4))
    (first | go_keep)
    (first
      | (go_at_call_of 17 (Value.int .u64 x1); refine (N1.out _).mono ?_; rintro e w1 ⟨rfl, rfl⟩)
      | (go_at_call_of 17 (Value.int .u64 x2); refine (N2.out _).mono ?_; rintro e w1 ⟨rfl, rfl⟩)
      | (go_at_call_of 17 (Value.int .u64 x3); refine (N3.out _).mono ?_; rintro e w1 ⟨rfl, rfl⟩)
      | (go_at_call_of 17 (Value.int .u64 x4); refine (N4.out _).mono ?_; rintro e w1 ⟨rfl, rfl⟩))
  all_goals
    go_wp2_with (go_at_call 6; refine (hL.out _).mono ?_; rintro e w1 ⟨rfl, b⟩; obtain ⟨bc, bf⟩ := bcell b; have bz := b.size; have HBel := Lib.hid b; clear b; simp at bz; have z0 : w.heap.size < w1.heap.size := (by omega); have z1 : w.heap.size + 1 < w1.heap.size := (by omega); have z2 : w.heap.size + 1 + 1 < w1.heap.size := (by omega); clear bz)
    refine bodyPost_ret (v := .tuple #[.agg #[.int .i64 0, .int .i64 0, .int .i64 0, .int .i64 0], .int .i64 8]) ?_ rfl ⟨rfl, ?_⟩
    · simp [results, Try.results11, go_sem, bc, z1]
    · clear bc bf
      repeat (first | (refine Below.setCell ?_ ?_ _; rotate_left; (· (simp; done)); skip) | (refine Below.setCell ?_ ?_ _; rotate_left; (· (simp; omega)); skip) | (refine Below.alloc ?_ ?_ _; rotate_left; (· (simp; omega)); skip) | (refine Below.alloc ?_ ?_ _; rotate_left; (· omega); skip))
      refine Below.trans ?_ (HBel.out.mono ?_)
      · repeat (first | exact Below.refl _ _ | apply Below.drew | (refine Below.alloc ?_ ?_ _; rotate_left; (first | exact Nat.le_refl _ | (· simp) | (· (simp; omega)))))
      · simp; omega
end Go.Proofs.Ytpnmoajiigjlaaa
