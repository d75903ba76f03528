/-
  PROVED HERE: 'Rows.BitsDirtySaid': for every input of its parameter types the law returns true and its arguments read as before; no condition.
  THE SHELL OF A PROOF OF 'Rows.BitsDirtySaid' ('limekiln/limekilnlaw01.BitsDirty'), WRITTEN BY PROGRAM (proof-skeleton.mjs) off the guide's own print for that function. Not trusted: Lean checks it.
-/
import Derived.Test.YtdafdodjeffaiaaRows
import Derived.WalkKit
import Derived.ProofKit
import Derived.OpenShut
import Derived.Below
import Derived.Deep.RegionWith
import Derived.Test.YtdafdodjeffaiaaBitsRef
import Derived.ShutString
namespace Go.Proofs.Ytdafdodjeffaiaa.bitsDirty
open Go.ChangeShapes Go.WideShapes Go.ChangeAt Go.RowKit
open Go.ChangeMaps (open_string shut_string)
set_option linter.unusedVariables false      -- a walk need not use every 'w<i>' (that an integer argument fits its kind)

theorem own : ownKnob Try.prog.godebug = none := by kernel_rfl

/-! ### STEP 1: THE WALK: the Go text returns true. 'Grown w w'': the world has at most new blocks (Derived/RowKit3.lean). Part the cases AHEAD of 'go_enter' where a test parts the walk; take each callee by a contract of your own. -/
theorem walk (a0 : Int) (a1 : Int) (a2 : Int) (w0 : (Lit.int .u64 a0).wf = true) (w1 : (Lit.int .i64 a1).wf = true) (w2 : (Lit.int .i64 a2).wf = true) (w : World) :
    Calls Try.prog 5 #[.int .u64 a0, .int .i64 a1, .int .i64 a2] w fun e w' => e = .returned (.bool true) ∧ Below w.heap.size w w' := by
  have ub := Below.refl w.heap.size w
  have u0 := wf_u64 w0
  clear w0 w1 w2
  have us : U64 (soilP a0) := soilU u0
  have uc : U64 (cleanP a0) := cleanU u0
  have e1 : toP (soilP a0) = toP (cleanP a0) := by unfold U64 at u0; unfold toP soilP cleanP; omega
  have e2 : byP (soilP a0) = byP (cleanP a0) := by unfold U64 at u0; unfold byP soilP cleanP; omega
  have e3 : rightP (soilP a0) a1 a2 = rightP (cleanP a0) a1 a2 := by
    unfold rightP
    rw [e1, e2, show soilP a0 % 9223372036854775808 = cleanP a0 % 9223372036854775808 from by unfold U64 at u0; unfold soilP cleanP; omega]
  have e4 : dirtyP (soilP a0) = true := by unfold U64 at u0; unfold dirtyP soilP; simp; omega
  have e5 : dirtyP (cleanP a0) = false := by unfold U64 at u0; unfold dirtyP cleanP; simp; omega
  have e6 : cleanP (soilP a0) = cleanP a0 := by unfold U64 at u0; unfold soilP cleanP; omega
  have e7 : soilP (cleanP a0) = soilP a0 := by unfold U64 at u0; unfold soilP cleanP; omega
  have e8 : soilP a0 = cleanP a0 + 9223372036854775808 := rfl
  have e9 : a0 = soilP a0 ∨ a0 = cleanP a0 := by unfold U64 at u0; unfold soilP cleanP; omega
  have hA := Lib.hid awake_any
  have hS := Lib.hid (soil_any a0 u0)
  have hC := Lib.hid (clean_any a0 u0)
  have us' := Lib.hid us
  have uc' := Lib.hid uc
  have hne1 : (soilP a0 == cleanP a0) = false := by rw [beq_eq_false_iff_ne]; rw [e8]; omega
  have hne2 : (soilP a0 != cleanP a0) = true := by rw [bne_iff_ne]; rw [e8]; omega
  have hor := Lib.hid e9
  clear u0 us uc e8 e9
  generalize soilP a0 = s at *
  generalize cleanP a0 = c at *
  rcases hor.out with h | h
  · have h1 : (a0 == s) = true := by rw [h]; exact beq_self_eq_true _
    clear h hor
    go_enter Try.func5, Try.ntmps5
    go_wp2_with (first
      | (go_at_call 8; refine (hA.out _).mono ?_; rintro e w1 ⟨rfl, b⟩; replace ub := up ub b; clear b)
      | (go_at_call_of 17 (Value.int .u64 s); refine (to_any s us'.out _).mono ?_; rintro e w1 ⟨rfl, b⟩; replace ub := up ub b; clear b)
      | (go_at_call_of 17 (Value.int .u64 c); refine (to_any c uc'.out _).mono ?_; rintro e w1 ⟨rfl, b⟩; replace ub := up ub b; clear b)
      | (go_at_call_of 19 (Value.int .u64 s); refine (by_any s us'.out _).mono ?_; rintro e w1 ⟨rfl, b⟩; replace ub := up ub b; clear b)
      | (go_at_call_of 19 (Value.int .u64 c); refine (by_any c uc'.out _).mono ?_; rintro e w1 ⟨rfl, b⟩; replace ub := up ub b; clear b)
      | (go_at_call_of 27 (Value.int .u64 s); refine (right_any s a1 a2 us'.out _).mono ?_; rintro e w1 ⟨rfl, b⟩; replace ub := up ub b; clear b)
      | (go_at_call_of 27 (Value.int .u64 c); refine (right_any c a1 a2 uc'.out _).mono ?_; rintro e w1 ⟨rfl, b⟩; replace ub := up ub b; clear b)
      | (go_at_call_of 21 (Value.int .u64 s); refine (dirty_any s us'.out.1 _).mono ?_; rintro e w1 ⟨rfl, rfl⟩)
      | (go_at_call_of 21 (Value.int .u64 c); refine (dirty_any c uc'.out.1 _).mono ?_; rintro e w1 ⟨rfl, rfl⟩)
      | (go_at_call_of 23 (Value.int .u64 s); refine (clean_any s us'.out _).mono ?_; rintro e w1 ⟨rfl, rfl⟩)
      | (go_at_call_of 25 (Value.int .u64 c); refine (soil_any c uc'.out _).mono ?_; rintro e w1 ⟨rfl, rfl⟩)
      | (go_at_call_of 25 (Value.int .u64 a0); refine (hS.out _).mono ?_; rintro e w1 ⟨rfl, rfl⟩)
      | (go_at_call_of 23 (Value.int .u64 a0); refine (hC.out _).mono ?_; rintro e w1 ⟨rfl, rfl⟩))
    go_ret
    exact ⟨rfl, ub⟩
  · have h1 : (a0 == s) = false := by rw [h, beq_eq_false_iff_ne]; rw [beq_eq_false_iff_ne] at hne1; exact fun e => hne1 e.symm
    have h2 : (a0 == c) = true := by rw [h]; exact beq_self_eq_true _
    clear h hor
    go_enter Try.func5, Try.ntmps5
    go_wp2_with (first
      | (go_at_call 8; refine (hA.out _).mono ?_; rintro e w1 ⟨rfl, b⟩; replace ub := up ub b; clear b)
      | (go_at_call_of 17 (Value.int .u64 s); refine (to_any s us'.out _).mono ?_; rintro e w1 ⟨rfl, b⟩; replace ub := up ub b; clear b)
      | (go_at_call_of 17 (Value.int .u64 c); refine (to_any c uc'.out _).mono ?_; rintro e w1 ⟨rfl, b⟩; replace ub := up ub b; clear b)
      | (go_at_call_of 19 (Value.int .u64 s); refine (by_any s us'.out _).mono ?_; rintro e w1 ⟨rfl, b⟩; replace ub := up ub b; clear b)
      | (go_at_call_of 19 (Value.int .u64 c); refine (by_any c uc'.out _).mono ?_; rintro e w1 ⟨rfl, b⟩; replace ub := up ub b; clear b)
      | (go_at_call_of 27 (Value.int .u64 s); refine (right_any s a1 a2 us'.out _).mono ?_; rintro e w1 ⟨rfl, b⟩; replace ub := up ub b; clear b)
      | (go_at_call_of 27 (Value.int .u64 c); refine (right_any c a1 a2 uc'.out _).mono ?_; rintro e w1 ⟨rfl, b⟩; replace ub := up ub b; clear b)
      | (go_at_call_of 21 (Value.int .u64 s); refine (dirty_any s us'.out.1 _).mono ?_; rintro e w1 ⟨rfl, rfl⟩)
      | (go_at_call_of 21 (Value.int .u64 c); refine (dirty_any c uc'.out.1 _).mono ?_; rintro e w1 ⟨rfl, rfl⟩)
      | (go_at_call_of 23 (Value.int .u64 s); refine (clean_any s us'.out _).mono ?_; rintro e w1 ⟨rfl, rfl⟩)
      | (go_at_call_of 25 (Value.int .u64 c); refine (soil_any c uc'.out _).mono ?_; rintro e w1 ⟨rfl, rfl⟩)
      | (go_at_call_of 25 (Value.int .u64 a0); refine (hS.out _).mono ?_; rintro e w1 ⟨rfl, rfl⟩)
      | (go_at_call_of 23 (Value.int .u64 a0); refine (hC.out _).mono ?_; rintro e w1 ⟨rfl, rfl⟩))
    go_ret
    exact ⟨rfl, ub⟩

/-! ### THE ROW's STEP: WRITTEN OUT: LEAVE IT -/
set_option maxRecDepth 100000 in
theorem lifted (os : Os) (started : os.Started) (H : Type) (enc : TypeId × Value → H) :
    ReturnsInHanded {} Try.checked os 5 .any (Rows.bitsDirtySpec.pre6 enc Try.prog Try.f5 Rows.bitsDirtyRow.domain false) (Rows.bitsDirtySpec.post enc Try.prog Try.f5 false true false false) := by
  refine returnsInHanded_of_change (C := Try.checked) own started (by kernel_rfl) Try.func5
    (ChangeSpec.witness6 (enc := enc) (C := Try.checked) false ⟨#[], #[.int .u64 0, .int .i64 0, .int .i64 0], []⟩ 8 (by kernel_rfl) (by kernel_rfl) (by kernel_rfl) (by kernel_rfl)) ?_
  intro W base args ds gs before hval0 hW hcnd _
  have hval : ∀ (j : Nat) t v, Try.f5.params[j]? = some t → args[j]? = some v → Value.okWide Try.prog W .any base t v := hval0
  have hW' := hW
  obtain ⟨p, q, hA0, hV, rfl, hfz, hnd⟩ := hW
  have hA : DataW.TrodAll enc Try.prog W 0 (fun _ => true) true Try.f5.params.toList args.toList ds p := hA0
  rw [Try.params5] at hA hval
  obtain ⟨v0, vs0, d0, ds0, p0, q0, hargs, rfl, rfl, h0, r0⟩ := trodAll_cons hA
  obtain ⟨v1, vs1, d1, ds1, p1, q1, rfl, rfl, rfl, h1, r1⟩ := trodAll_cons r0
  obtain ⟨v2, vs2, d2, ds2, p2, q2, rfl, rfl, rfl, h2, r2⟩ := trodAll_cons r1
  obtain ⟨rfl, rfl, rfl⟩ := trodAll_nil r2
  obtain rfl : args = #[v0, v1, v2] := by cases args; simp_all
  obtain ⟨rfl, rfl⟩ := trodVars_none hV
  obtain ⟨a0, rfl, rfl, rfl, w0⟩ := open_int Try.underlying24 (hval 0 24 v0 rfl rfl) h0
  obtain ⟨a1, rfl, rfl, rfl, w1⟩ := open_int Try.underlying3 (hval 1 3 v1 rfl rfl) h1
  obtain ⟨a2, rfl, rfl, rfl, w2⟩ := open_int Try.underlying3 (hval 2 3 v2 rfl rfl) h2
  clear hA0 hval0
  simp only [List.append_nil] at hW'
  refine (walk a0 a1 a2 w0 w1 w2 W).mono fun e W' ⟨he, hg⟩ => ?_
  subst he
  exact ⟨_, rfl, _, _, _, [], [], [], hW', (trodAll_cons_mk (shut_bool Try.underlying4 _) trodAll_mk0), (trodAll_cons_mk (shut_int Try.underlying24 w0) (trodAll_cons_mk (shut_int Try.underlying3 w1) (trodAll_cons_mk (shut_int Try.underlying3 w2) trodAll_mk0))), rfl, hg.frame _, fun h => by cases h⟩

theorem over : Rows.bitsDirtyRow.holds Try.pinned (OpenSpec.ofChange Rows.bitsDirtySpec) :=
  OpenClaim.holds_of_wide 5 Try.f5 rfl rfl rfl rfl rfl rfl rfl ⟨rfl, rfl, rfl, rfl, rfl⟩ rfl rfl rfl rfl rfl (by kernel_rfl) Try.func5 (by kernel_rfl)
    (of_decide_eq_true (by kernel_rfl)) (by unfold Func.isWrapper; first | (rw [if_pos (by decide +kernel)]; kernel_rfl) | (rw [if_neg (by decide +kernel)]; exact ⟨rfl, rfl⟩))
    (fun os started H enc _ => lifted os started H enc)

/-- ████ THE STATEMENT ████ -/
theorem proved : Rows.BitsDirtySaid :=
  over
#print axioms proved
end Go.Proofs.Ytdafdodjeffaiaa.bitsDirty
