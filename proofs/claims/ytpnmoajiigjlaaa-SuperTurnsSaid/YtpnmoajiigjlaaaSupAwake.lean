/- The contract of awake of the laws of super, from what super.Read answers at its line. -/
import Derived.Test.YtpnmoajiigjlaaaSupPlain
import Derived.Deep.RegionWith
namespace Go.Proofs.Ytpnmoajiigjlaaa
open Go.RowKit
set_option linter.unusedVariables false

set_option maxHeartbeats 4000000 in
theorem awake_of (hA : ∀ w, Calls Try.prog 11 #[.agg #[.int .u64 7739836655157129782, .int .u64 1, .int .u64 2, .int .u64 3, .int .u64 4, .int .u64 1, .int .u64 0, .int .u64 (sum7 1 2 3 4)]] w fun e w' => e = .returned (.tuple #[.agg #[.int .i64 1, .int .i64 2, .int .i64 3, .int .i64 4], .int .i64 0]) ∧ Below w.heap.size w w') (w : World) :
    Calls Try.prog 9 #[] w fun e w' => e = .returned (.bool true) ∧ Below w.heap.size w w' := by
  have HA := Lib.hid hA
  have HL := Lib.hid (line_yes 1 2 3 4 (by decide))
  clear hA
  generalize sum7 1 2 3 4 = S at *
  go_enter Try.func9, Try.ntmps9
  go_wp2_with (first
    | (go_at_call 6; refine (HL.out _).mono ?_; rintro e w1 ⟨rfl, b⟩; have bz := b.size; have HBel := Lib.hid b; clear b)
    | (go_at_call 11; refine (HA.out _).mono ?_; rintro e w2 ⟨rfl, b⟩; obtain ⟨bd, bg⟩ := bcell b; have by2 := b.size; have HBel2 := Lib.hid b; clear b; simp at by2; have f1 : w1.heap.size < w2.heap.size := (by omega)))
  go_ret
  exact ⟨rfl, Below.alloc (Below.trans (Below.alloc HBel.out bz _) (HBel2.out.mono (by simp; omega))) (by omega) _⟩
end Go.Proofs.Ytpnmoajiigjlaaa
