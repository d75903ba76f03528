/- Contracts of package super and of its reference. -/
import Derived.Test.YtpnmoajiigjlaaaRefSum
import Derived.Deep.RegionWith
import Derived.Laws.CopyOwn
namespace Go.Proofs.Ytpnmoajiigjlaaa
open Go.RowKit
set_option linter.unusedVariables false

def fromB (n most : Int) : Bool := decide (1 ≤ n) && decide (n ≤ most)
def rightB (t s l b : Int) : Bool := fromB t 64 && fromB s 65536 && fromB l 64 && fromB b 64
def cfgV (t s l b : Int) : Value := .agg #[.int .i64 t, .int .i64 s, .int .i64 l, .int .i64 b]
def numP (w most : Int) : Int := if most < w then 0 else w

theorem from_any (n most : Int) (w : World) :
    Calls Try.prog 15 #[.int .i64 n, .int .i64 most] w fun e w' => e = .returned (.bool (fromB n most)) ∧ w = w' := by
  unfold fromB
  by_cases h1 : 1 ≤ n
  · by_cases h2 : n ≤ most
    all_goals
      go_enter Try.func15, Try.ntmps15
      go_wp2
      go_ret
      exact ⟨ret_bool (by first | (simp; done) | (simp; omega)), rfl⟩
  · go_enter Try.func15, Try.ntmps15
    go_wp2
    go_ret
    exact ⟨ret_bool (by first | (simp; done) | (simp; omega)), rfl⟩

theorem number_any (v most : Int) (h0 : 0 ≤ v) (h1 : 0 ≤ most) (h2 : most ≤ 65536) (w : World) :
    Calls Try.prog 17 #[.int .u64 v, .int .i64 most] w fun e w' => e = .returned (.int .i64 (numP v most)) ∧ w = w' := by
  by_cases h3 : most < v
  · have h4 : Hid (0 = numP v most) := by show _ = _; unfold numP; rw [if_pos h3]
    go_enter Try.func17, Try.ntmps17
    go_wp2
    go_ret
    exact ⟨ret_int h4.out, rfl⟩
  · have h4 : Hid (v = numP v most) := by show _ = _; unfold numP; rw [if_neg h3]
    go_enter Try.func17, Try.ntmps17
    go_wp2
    go_ret
    exact ⟨ret_int h4.out, rfl⟩
theorem right_any (t s l b : Int) (w : World) :
    Calls Try.prog 7 #[.agg #[.int .i64 t, .int .i64 s, .int .i64 l, .int .i64 b]] w fun e w' => e = .returned (.bool (rightB t s l b)) ∧ w.alloc (.cells #[.int .i64 t, .int .i64 s, .int .i64 l, .int .i64 b] 23) = w' := by
  have h1 := Lib.hid (from_any t 64)
  have h2 := Lib.hid (from_any s 65536)
  have h3 := Lib.hid (from_any l 64)
  have h4 := Lib.hid (from_any b 64)
  unfold rightB
  generalize fromB t 64 = c1 at *
  generalize fromB s 65536 = c2 at *
  generalize fromB l 64 = c3 at *
  generalize fromB b 64 = c4 at *
  cases c1 <;> cases c2 <;> cases c3 <;> cases c4
  all_goals
    go_enter Try.func7, Try.ntmps7
    go_wp2_with (first
      | (go_at_call_of 15 (Value.int .i64 t); refine (h1.out _).mono ?_; rintro e w1 ⟨rfl, rfl⟩)
      | (go_at_call_of 15 (Value.int .i64 s); refine (h2.out _).mono ?_; rintro e w1 ⟨rfl, rfl⟩)
      | (go_at_call_of 15 (Value.int .i64 l); refine (h3.out _).mono ?_; rintro e w1 ⟨rfl, rfl⟩)
      | (go_at_call_of 15 (Value.int .i64 b); refine (h4.out _).mono ?_; rintro e w1 ⟨rfl, rfl⟩))
    go_ret
    exact ⟨ret_bool rfl, rfl⟩

theorem rright_any (t s l b : Int) (w : World) :
    Calls Try.prog 8 #[.agg #[.int .i64 t, .int .i64 s, .int .i64 l, .int .i64 b]] w fun e w' => e = .returned (.bool (rightB t s l b)) ∧ w.alloc (.cells #[.int .i64 t, .int .i64 s, .int .i64 l, .int .i64 b] 23) = w' := by
  by_cases h1 : 1 ≤ t
  · by_cases h2 : t ≤ 64
    · by_cases h3 : 1 ≤ s
      · by_cases h4 : s ≤ 65536
        · by_cases h5 : 1 ≤ l
          · by_cases h6 : l ≤ 64
            · by_cases h7 : 1 ≤ b
              · by_cases h8 : b ≤ 64
                · have hv : Hid (true = rightB t s l b) := by show _ = _; simp [rightB, fromB, h1, h2, h3, h4, h5, h6, h7, h8]
                  go_enter Try.func8, Try.ntmps8
                  go_wp2
                  go_ret
                  exact ⟨ret_bool hv.out, rfl⟩
                · have hv : Hid (false = rightB t s l b) := by show _ = _; simp [rightB, fromB, h8]
                  go_enter Try.func8, Try.ntmps8
                  go_wp2
                  go_ret
                  exact ⟨ret_bool hv.out, rfl⟩
              · have hv : Hid (false = rightB t s l b) := by show _ = _; simp [rightB, fromB, h7]
                go_enter Try.func8, Try.ntmps8
                go_wp2
                go_ret
                exact ⟨ret_bool hv.out, rfl⟩
            · have hv : Hid (false = rightB t s l b) := by show _ = _; simp [rightB, fromB, h6]
              go_enter Try.func8, Try.ntmps8
              go_wp2
              go_ret
              exact ⟨ret_bool hv.out, rfl⟩
          · have hv : Hid (false = rightB t s l b) := by show _ = _; simp [rightB, fromB, h5]
            go_enter Try.func8, Try.ntmps8
            go_wp2
            go_ret
            exact ⟨ret_bool hv.out, rfl⟩
        · have hv : Hid (false = rightB t s l b) := by show _ = _; simp [rightB, fromB, h4]
          go_enter Try.func8, Try.ntmps8
          go_wp2
          go_ret
          exact ⟨ret_bool hv.out, rfl⟩
      · have hv : Hid (false = rightB t s l b) := by show _ = _; simp [rightB, fromB, h3]
        go_enter Try.func8, Try.ntmps8
        go_wp2
        go_ret
        exact ⟨ret_bool hv.out, rfl⟩
    · have hv : Hid (false = rightB t s l b) := by show _ = _; simp [rightB, fromB, h2]
      go_enter Try.func8, Try.ntmps8
      go_wp2
      go_ret
      exact ⟨ret_bool hv.out, rfl⟩
  · have hv : Hid (false = rightB t s l b) := by show _ = _; simp [rightB, fromB, h1]
    go_enter Try.func8, Try.ntmps8
    go_wp2
    go_ret
    exact ⟨ret_bool hv.out, rfl⟩


end Go.Proofs.Ytpnmoajiigjlaaa
