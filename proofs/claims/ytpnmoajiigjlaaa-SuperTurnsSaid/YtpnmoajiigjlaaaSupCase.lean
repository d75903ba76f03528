/- What super.Read and its reference answer at any line: case by case, of whether it is a config's. -/
import Derived.Test.YtpnmoajiigjlaaaSupRead
import Derived.Test.YtpnmoajiigjlaaaSupReadA
import Derived.Test.YtpnmoajiigjlaaaSupReadB
import Derived.Test.YtpnmoajiigjlaaaSupRdA
import Derived.Test.YtpnmoajiigjlaaaSupRdC
import Derived.Test.YtpnmoajiigjlaaaSupRdD
namespace Go.Proofs.Ytpnmoajiigjlaaa
open Go.RowKit
set_option linter.unusedVariables false

theorem read_no (x0 x1 x2 x3 x4 x5 x6 x7 : Int) (h1 : 0 ≤ x1) (h2 : 0 ≤ x2) (h3 : 0 ≤ x3) (h4 : 0 ≤ x4) (hn : okB x0 x1 x2 x3 x4 x5 x6 x7 = false) (w : World) :
    Calls Try.prog 11 #[.agg #[.int .u64 x0, .int .u64 x1, .int .u64 x2, .int .u64 x3, .int .u64 x4, .int .u64 x5, .int .u64 x6, .int .u64 x7]] w fun e w' => e = .returned (.tuple #[.agg #[.int .i64 0, .int .i64 0, .int .i64 0, .int .i64 0], .int .i64 8]) ∧ Below w.heap.size w w' := by
  by_cases hr : rightB (numP x1 64) (numP x2 65536) (numP x3 64) (numP x4 64) = true
  · exact read_no2 x0 x1 x2 x3 x4 x5 x6 x7 h1 h2 h3 h4 hr hn w
  · exact read_no1 x0 x1 x2 x3 x4 x5 x6 x7 h1 h2 h3 h4 (by simpa using hr) w
theorem rread_ok (x0 x1 x2 x3 x4 x5 x6 x7 : Int) (h : okB x0 x1 x2 x3 x4 x5 x6 x7 = true) (w : World) :
    Calls Try.prog 12 #[.agg #[.int .u64 x0, .int .u64 x1, .int .u64 x2, .int .u64 x3, .int .u64 x4, .int .u64 x5, .int .u64 x6, .int .u64 x7]] w fun e w' => e = .returned (.tuple #[.agg #[.int .i64 x1, .int .i64 x2, .int .i64 x3, .int .i64 x4], .bool true]) ∧ Below w.heap.size w w' := by
  simp only [okB, Bool.and_eq_true, decide_eq_true_eq] at h
  obtain ⟨⟨⟨⟨hr, rfl⟩, rfl⟩, rfl⟩, rfl⟩ := h
  exact rread_yes x1 x2 x3 x4 hr w
theorem rread_no (x0 x1 x2 x3 x4 x5 x6 x7 : Int) (h1 : 0 ≤ x1) (h2 : 0 ≤ x2) (h3 : 0 ≤ x3) (h4 : 0 ≤ x4) (hn : okB x0 x1 x2 x3 x4 x5 x6 x7 = false) (w : World) :
    Calls Try.prog 12 #[.agg #[.int .u64 x0, .int .u64 x1, .int .u64 x2, .int .u64 x3, .int .u64 x4, .int .u64 x5, .int .u64 x6, .int .u64 x7]] w fun e w' => e = .returned (.tuple #[.agg #[.int .i64 0, .int .i64 0, .int .i64 0, .int .i64 0], .bool false]) ∧ Below w.heap.size w w' := by
  by_cases c1 : 65536 < x1
  · exact rread_a1 x0 x1 x2 x3 x4 x5 x6 x7 c1 w
  by_cases c2 : 65536 < x2
  · exact rread_a2 x0 x1 x2 x3 x4 x5 x6 x7 (by omega) c2 w
  by_cases c3 : 65536 < x3
  · exact rread_a3 x0 x1 x2 x3 x4 x5 x6 x7 (by omega) (by omega) c3 w
  by_cases c4 : 65536 < x4
  · exact rread_a4 x0 x1 x2 x3 x4 x5 x6 x7 (by omega) (by omega) (by omega) c4 w
  by_cases hr : rightB x1 x2 x3 x4 = true
  · by_cases e0 : x0 = 7739836655157129782
    · subst e0
      by_cases e5 : x5 = 1
      · subst e5
        by_cases e6 : x6 = 0
        · subst e6
          by_cases e7 : x7 = sum7 x1 x2 x3 x4
          · simp [okB, hr, e7] at hn
          · exact rread_d7 x1 x2 x3 x4 x7 hr (by simpa using fun h => e7 h.symm) w
        · exact rread_d6 x1 x2 x3 x4 x6 x7 hr (by simpa using fun h => e6 h.symm) w
      · exact rread_d5 x1 x2 x3 x4 x5 x6 x7 hr (by simpa using fun h => e5 h.symm) w
    · exact rread_d0 x0 x1 x2 x3 x4 x5 x6 x7 hr (by simpa using fun h => e0 h.symm) w
  · exact rread_b x0 x1 x2 x3 x4 x5 x6 x7 h1 h2 h3 h4 (by omega) (by omega) (by omega) (by omega) (by simpa using hr) w
end Go.Proofs.Ytpnmoajiigjlaaa
