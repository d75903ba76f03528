/-
  PROVED HERE: 'Rows.SumStatesSaid': for every input of its parameter types the law returns true and its arguments read as before; no condition.
  THE SHELL OF A PROOF OF 'Rows.SumStatesSaid' ('limekiln/limekilnlaw02.SumStates'), WRITTEN BY PROGRAM (proof-skeleton.mjs) off the guide's own print for that function. Not trusted: Lean checks it.
-/
import Derived.Test.YtmeablfcpejkiaaRows
import Derived.WalkKit
import Derived.ProofKit
import Derived.OpenShut
import Derived.Below
import Derived.Test.YtmeablfcpejkiaaSum
import Derived.Test.YtmeablfcpejkiaaSumLaw
import Derived.Test.YtmeablfcpejkiaaOwn
import Derived.Test.YtmeablfcpejkiaaRefSum
import Derived.ShutString
namespace Go.Proofs.Ytmeablfcpejkiaa.sumStates
open Go.ChangeShapes Go.WideShapes Go.ChangeAt Go.RowKit
open Go.ChangeMaps (open_string shut_string)
set_option linter.unusedVariables false      -- a walk need not use every 'w<i>' (that an integer argument fits its kind)

theorem own : ownKnob Try.prog.godebug = none := by kernel_rfl

/-! ### STEP 1: THE WALK: the Go text returns true. 'Grown w w'': the world has at most new blocks (Derived/RowKit3.lean). Part the cases AHEAD of 'go_enter' where a test parts the walk; take each callee by a contract of your own. -/
theorem walk (a0 : Int) (a1 : Int) (a2 : Int) (w0 : (Lit.int .u32 a0).wf = true) (w1 : (Lit.int .u8 a1).wf = true) (w2 : (Lit.int .u64 a2).wf = true) (w : World) :
    Calls Try.prog 3 #[.int .u32 a0, .int .u8 a1, .int .u64 a2] w fun e w' => e = .returned (.bool true) ∧ Below w.heap.size w w' := by
  have ub := Below.refl w.heap.size w
  have u0 := bounds_u32 w0
  have u1 := bounds_u8 w1
  have u2 := bounds_u64 w2
  clear w0 w1 w2
  obtain ⟨s, rfl⟩ := state_of a0 (by omega) (by omega)
  have hA := Lib.hid awake_any
  have h1 := Lib.hid (byte_any s a1 (by omega) (by omega))
  have h2 := Lib.hid (rbyte_any s a1 (by omega) (by omega))
  have h3 := Lib.hid (word_any s a2 (by omega))
  have h4 := Lib.hid (rword_any s a2 (by omega) (by omega))
  have h5 := end_any s
  rw [notC_val] at h5
  have h6 : ∀ w, Calls Try.prog 14 #[] w fun e w' => e = .returned (.int .u32 4294967295) ∧ w = w' := begin_any
  have H5 := Lib.hid h5
  have H6 := Lib.hid h6
  obtain ⟨c0, c1⟩ := u0
  clear u1 u2 h5 h6
  generalize ((runC s (bitsN a1.toNat 8)).toNat : Int) = R1 at *
  generalize ((runC s (bitsN a2.toNat 64)).toNat : Int) = R2 at *
  generalize (s.toNat : Int) = S at *
  go_enter Try.func3, Try.ntmps3
  go_wp2_with (first
    | (go_at_call 8; refine (hA.out _).mono ?_; rintro e w1 ⟨rfl, b⟩; replace ub := up ub b; clear b)
    | (go_at_call 9; refine (h1.out _).mono ?_; rintro e w1 ⟨rfl, rfl⟩)
    | (go_at_call 10; refine (h2.out _).mono ?_; rintro e w1 ⟨rfl, b⟩; replace ub := up ub b; clear b)
    | (go_at_call 11; refine (h3.out _).mono ?_; rintro e w1 ⟨rfl, rfl⟩)
    | (go_at_call 12; refine (h4.out _).mono ?_; rintro e w1 ⟨rfl, b⟩; replace ub := up ub b; clear b)
    | (go_at_call 13; refine (H5.out _).mono ?_; rintro e w1 ⟨rfl, rfl⟩)
    | (go_at_call 14; refine (H6.out _).mono ?_; rintro e w1 ⟨rfl, rfl⟩))
  go_ret
  exact ⟨rfl, ub⟩

/-! ### THE ROW's STEP: WRITTEN OUT: LEAVE IT -/
set_option maxRecDepth 100000 in
theorem lifted (os : Os) (started : os.Started) (H : Type) (enc : TypeId × Value → H) :
    ReturnsInHanded {} Try.checked os 3 .any (Rows.sumStatesSpec.pre6 enc Try.prog Try.f3 Rows.sumStatesRow.domain false) (Rows.sumStatesSpec.post enc Try.prog Try.f3 false true false false) := by
  refine returnsInHanded_of_change (C := Try.checked) own started (by kernel_rfl) Try.func3
    (ChangeSpec.witness6 (enc := enc) (C := Try.checked) false ⟨#[], #[.int .u32 0, .int .u8 0, .int .u64 0], []⟩ 8 (by kernel_rfl) (by kernel_rfl) (by kernel_rfl) (by kernel_rfl)) ?_
  intro W base args ds gs before hval0 hW hcnd _
  have hval : ∀ (j : Nat) t v, Try.f3.params[j]? = some t → args[j]? = some v → Value.okWide Try.prog W .any base t v := hval0
  have hW' := hW
  obtain ⟨p, q, hA0, hV, rfl, hfz, hnd⟩ := hW
  have hA : DataW.TrodAll enc Try.prog W 0 (fun _ => true) true Try.f3.params.toList args.toList ds p := hA0
  rw [Try.params3] at hA hval
  obtain ⟨v0, vs0, d0, ds0, p0, q0, hargs, rfl, rfl, h0, r0⟩ := trodAll_cons hA
  obtain ⟨v1, vs1, d1, ds1, p1, q1, rfl, rfl, rfl, h1, r1⟩ := trodAll_cons r0
  obtain ⟨v2, vs2, d2, ds2, p2, q2, rfl, rfl, rfl, h2, r2⟩ := trodAll_cons r1
  obtain ⟨rfl, rfl, rfl⟩ := trodAll_nil r2
  obtain rfl : args = #[v0, v1, v2] := by cases args; simp_all
  obtain ⟨rfl, rfl⟩ := trodVars_none hV
  obtain ⟨a0, rfl, rfl, rfl, w0⟩ := open_int Try.underlying22 (hval 0 22 v0 rfl rfl) h0
  obtain ⟨a1, rfl, rfl, rfl, w1⟩ := open_int Try.underlying5 (hval 1 5 v1 rfl rfl) h1
  obtain ⟨a2, rfl, rfl, rfl, w2⟩ := open_int Try.underlying23 (hval 2 23 v2 rfl rfl) h2
  clear hA0 hval0
  simp only [List.append_nil] at hW'
  refine (walk a0 a1 a2 w0 w1 w2 W).mono fun e W' ⟨he, hg⟩ => ?_
  subst he
  exact ⟨_, rfl, _, _, _, [], [], [], hW', (trodAll_cons_mk (shut_bool Try.underlying4 _) trodAll_mk0), (trodAll_cons_mk (shut_int Try.underlying22 w0) (trodAll_cons_mk (shut_int Try.underlying5 w1) (trodAll_cons_mk (shut_int Try.underlying23 w2) trodAll_mk0))), rfl, hg.frame _, fun h => by cases h⟩

theorem over : Rows.sumStatesRow.holds Try.pinned (OpenSpec.ofChange Rows.sumStatesSpec) :=
  OpenClaim.holds_of_wide 3 Try.f3 rfl rfl rfl rfl rfl rfl rfl ⟨rfl, rfl, rfl, rfl, rfl⟩ rfl rfl rfl rfl rfl (by kernel_rfl) Try.func3 (by kernel_rfl)
    (of_decide_eq_true (by kernel_rfl)) (by unfold Func.isWrapper; first | (rw [if_pos (by decide +kernel)]; kernel_rfl) | (rw [if_neg (by decide +kernel)]; exact ⟨rfl, rfl⟩))
    (fun os started H enc _ => lifted os started H enc)

/-- ████ THE STATEMENT ████ -/
theorem proved : Rows.SumStatesSaid :=
  over
#print axioms proved
end Go.Proofs.Ytmeablfcpejkiaa.sumStates
