/-
  PROVED HERE: 'Rows.BitsBackSaid': for every input of its parameter types the law returns true and its arguments read as before; no condition.
  THE SHELL OF A PROOF OF 'Rows.BitsBackSaid' ('limekiln/limekilnlaw01.BitsBack'), WRITTEN BY PROGRAM (proof-skeleton.mjs) off the guide's own print for that function. Not trusted: Lean checks it.
-/
import Derived.Test.YtdafdodjeffaiaaRows
import Derived.WalkKit
import Derived.ProofKit
import Derived.OpenShut
import Derived.Below
import Derived.Deep.RegionWith
import Derived.Test.YtdafdodjeffaiaaBitsRef
import Derived.ShutString
namespace Go.Proofs.Ytdafdodjeffaiaa.bitsBack
open Go.ChangeShapes Go.WideShapes Go.ChangeAt Go.RowKit
open Go.ChangeMaps (open_string shut_string)
set_option linter.unusedVariables false      -- a walk need not use every 'w<i>' (that an integer argument fits its kind)

theorem own : ownKnob Try.prog.godebug = none := by kernel_rfl

/-! ### STEP 1: THE WALK: the Go text returns true. 'Grown w w'': the world has at most new blocks (Derived/RowKit3.lean). Part the cases AHEAD of 'go_enter' where a test parts the walk; take each callee by a contract of your own. -/
set_option maxHeartbeats 1000000 in
theorem walk (a0 : Int) (a1 : Int) (a2 : Int) (w0 : (Lit.int .u32 a0).wf = true) (w1 : (Lit.int .u8 a1).wf = true) (w2 : (Lit.int .u32 a2).wf = true) (w : World) :
    Calls Try.prog 7 #[.int .u32 a0, .int .u8 a1, .int .u32 a2] w fun e w' => e = .returned (.bool true) ∧ Below w.heap.size w w' := by
  have ub := Below.refl w.heap.size w
  have u0 := wf_u32 w0
  have u1 := bounds_u8 w1
  have u2 := wf_u32 w2
  have b0 := u0.1
  have b1 := u0.2
  have b2 := u1.1
  have b3 := u1.2
  have b4 := u2.1
  have b5 := u2.2
  clear w0 w1 w2
  have hA := Lib.hid awake_any
  have hL := Lib.hid (link_any (a0 - 1) (a1 % 128 - 1))
  have ul := Lib.hid (linkU (a0 - 1) (a1 % 128 - 1))
  have el1 : toP (linkP (a0 - 1) (a1 % 128 - 1)) = a0 - 1 := by unfold U32 at u0; unfold toP linkP; omega
  have el2 : byP (linkP (a0 - 1) (a1 % 128 - 1)) = a1 % 128 - 1 := by unfold U32 at u0; unfold byP linkP; omega
  have el3 : dirtyP (linkP (a0 - 1) (a1 % 128 - 1)) = false := by unfold U32 at u0; unfold dirtyP linkP; simp; omega
  have el7 : linkP (a0 - 1) (a1 % 128 - 1) % 9223372036854775808 / 4294967296 < 128 := by unfold U32 at u0; unfold linkP; omega
  have el4 : rightP (linkP (a0 - 1) (a1 % 128 - 1)) a0 (a1 % 128) = true := by unfold rightP; rw [el1, el2]; simp [el7]; omega
  have el5 : rightP (linkP (a0 - 1) (a1 % 128 - 1)) (a0 - 1) (a1 % 128) = false := by unfold rightP; rw [el1, el2]; simp
  have el6 : rightP (linkP (a0 - 1) (a1 % 128 - 1)) a0 (a1 % 128 - 1) = false := by unfold rightP; rw [el1, el2]; simp
  clear el7
  generalize linkP (a0 - 1) (a1 % 128 - 1) = l at *
  have hE := Lib.hid (entry_any (a0 - 1) (a2 - 1))
  have ue := Lib.hid (entryU (a0 - 1) (a2 - 1))
  have ee1 : toP (entryP (a0 - 1) (a2 - 1)) = a0 - 1 := by unfold U32 at u0; unfold toP entryP; omega
  have ee2 : stampP (entryP (a0 - 1) (a2 - 1)) = a2 - 1 := by unfold U32 at u0 u2; unfold stampP entryP; omega
  generalize entryP (a0 - 1) (a2 - 1) = e at *
  have hT := Lib.hid (top_any (a0 - 1) a2 u2)
  have ut := Lib.hid (topU (a0 - 1) a2 u2)
  have et1 : toP (topP (a0 - 1) a2) = a0 - 1 := by unfold U32 at u0; unfold toP topP; omega
  have et2 : verP (topP (a0 - 1) a2) = a2 := by unfold U32 at u0 u2; unfold verP topP; omega
  generalize topP (a0 - 1) a2 = t at *
  by_cases hby : 128 ≤ a1
  · have hC := Lib.hid (cell_true (a2 / 2) a0 u0)
    have uc := Lib.hid (cellU (a2 / 2) a0 true u0)
    have ec1 : seqP (cellP (a2 / 2) true a0) = a2 / 2 := by unfold U32 at u0 u2; unfold seqP cellP; simp; omega
    have ec2 : doneP (cellP (a2 / 2) true a0) = true := by unfold U32 at u0 u2; unfold doneP cellP; simp; omega
    have ec3 : valP (cellP (a2 / 2) true a0) = a0 := by unfold U32 at u0 u2; unfold valP cellP; simp; omega
    clear u0 u1 u2
    generalize cellP (a2 / 2) true a0 = c at *
    go_enter Try.func7, Try.ntmps7
    go_wp2_with (first
      | (go_at_call 8; refine (hA.out _).mono ?_; rintro e w1 ⟨rfl, b⟩; replace ub := up ub b; clear b)
      | (go_at_call 9; refine (hL.out _).mono ?_; rintro e w1 ⟨rfl, b⟩; replace ub := up ub b; clear b)
      | (go_at_call 11; refine (hE.out _).mono ?_; rintro e w1 ⟨rfl, b⟩; replace ub := up ub b; clear b)
      | (go_at_call 13; refine (hC.out _).mono ?_; rintro e w1 ⟨rfl, b⟩; replace ub := up ub b; clear b)
      | (go_at_call 15; refine (hT.out _).mono ?_; rintro e w1 ⟨rfl, b⟩; replace ub := up ub b; clear b)
      | (go_at_call_of 17 (Value.int .u64 l); refine (to_any _ ul.out _).mono ?_; rintro e w1 ⟨rfl, b⟩; replace ub := up ub b; clear b)
      | (go_at_call_of 17 (Value.int .u64 e); refine (to_any _ ue.out _).mono ?_; rintro e w1 ⟨rfl, b⟩; replace ub := up ub b; clear b)
      | (go_at_call_of 17 (Value.int .u64 t); refine (to_any _ ut.out _).mono ?_; rintro e w1 ⟨rfl, b⟩; replace ub := up ub b; clear b)
      | (go_at_call_of 19 (Value.int .u64 l); refine (by_any _ ul.out _).mono ?_; rintro e w1 ⟨rfl, b⟩; replace ub := up ub b; clear b)
      | (go_at_call_of 27 (Value.int .u64 l); refine (right_any _ _ _ ul.out _).mono ?_; rintro e w1 ⟨rfl, b⟩; replace ub := up ub b; clear b)
      | (go_at_call_of 29 (Value.int .u64 e); refine (stamp_any _ ue.out _).mono ?_; rintro e w1 ⟨rfl, b⟩; replace ub := up ub b; clear b)
      | (go_at_call_of 31 (Value.int .u64 c); refine (seq_any _ uc.out _).mono ?_; rintro e w1 ⟨rfl, b⟩; replace ub := up ub b; clear b)
      | (go_at_call_of 33 (Value.int .u64 c); refine (done_any _ uc.out _).mono ?_; rintro e w1 ⟨rfl, b⟩; replace ub := up ub b; clear b)
      | (go_at_call_of 21 (Value.int .u64 l); refine (dirty_any _ ul.out.1 _).mono ?_; rintro e w1 ⟨rfl, rfl⟩)
      | (go_at_call_of 35 (Value.int .u64 c); refine (val_any _ uc.out _).mono ?_; rintro e w1 ⟨rfl, rfl⟩)
      | (go_at_call_of 37 (Value.int .u64 t); refine (ver_any _ ut.out _).mono ?_; rintro e w1 ⟨rfl, rfl⟩))
    go_ret
    exact ⟨rfl, ub⟩
  · have hby2 : decide (128 ≤ a1) = false := by simpa using hby
    replace hby : a1 < 128 := by omega
    have hC := Lib.hid (cell_false (a2 / 2) a0 u0)
    have uc := Lib.hid (cellU (a2 / 2) a0 false u0)
    have ec1 : seqP (cellP (a2 / 2) false a0) = a2 / 2 := by unfold U32 at u0 u2; unfold seqP cellP; simp; omega
    have ec2 : doneP (cellP (a2 / 2) false a0) = false := by unfold U32 at u0 u2; unfold doneP cellP; simp; omega
    have ec3 : valP (cellP (a2 / 2) false a0) = a0 := by unfold U32 at u0 u2; unfold valP cellP; simp; omega
    clear u0 u1 u2
    generalize cellP (a2 / 2) false a0 = c at *
    go_enter Try.func7, Try.ntmps7
    go_wp2_with (first
      | (go_at_call 8; refine (hA.out _).mono ?_; rintro e w1 ⟨rfl, b⟩; replace ub := up ub b; clear b)
      | (go_at_call 9; refine (hL.out _).mono ?_; rintro e w1 ⟨rfl, b⟩; replace ub := up ub b; clear b)
      | (go_at_call 11; refine (hE.out _).mono ?_; rintro e w1 ⟨rfl, b⟩; replace ub := up ub b; clear b)
      | (go_at_call 13; refine (hC.out _).mono ?_; rintro e w1 ⟨rfl, b⟩; replace ub := up ub b; clear b)
      | (go_at_call 15; refine (hT.out _).mono ?_; rintro e w1 ⟨rfl, b⟩; replace ub := up ub b; clear b)
      | (go_at_call_of 17 (Value.int .u64 l); refine (to_any _ ul.out _).mono ?_; rintro e w1 ⟨rfl, b⟩; replace ub := up ub b; clear b)
      | (go_at_call_of 17 (Value.int .u64 e); refine (to_any _ ue.out _).mono ?_; rintro e w1 ⟨rfl, b⟩; replace ub := up ub b; clear b)
      | (go_at_call_of 17 (Value.int .u64 t); refine (to_any _ ut.out _).mono ?_; rintro e w1 ⟨rfl, b⟩; replace ub := up ub b; clear b)
      | (go_at_call_of 19 (Value.int .u64 l); refine (by_any _ ul.out _).mono ?_; rintro e w1 ⟨rfl, b⟩; replace ub := up ub b; clear b)
      | (go_at_call_of 27 (Value.int .u64 l); refine (right_any _ _ _ ul.out _).mono ?_; rintro e w1 ⟨rfl, b⟩; replace ub := up ub b; clear b)
      | (go_at_call_of 29 (Value.int .u64 e); refine (stamp_any _ ue.out _).mono ?_; rintro e w1 ⟨rfl, b⟩; replace ub := up ub b; clear b)
      | (go_at_call_of 31 (Value.int .u64 c); refine (seq_any _ uc.out _).mono ?_; rintro e w1 ⟨rfl, b⟩; replace ub := up ub b; clear b)
      | (go_at_call_of 33 (Value.int .u64 c); refine (done_any _ uc.out _).mono ?_; rintro e w1 ⟨rfl, b⟩; replace ub := up ub b; clear b)
      | (go_at_call_of 21 (Value.int .u64 l); refine (dirty_any _ ul.out.1 _).mono ?_; rintro e w1 ⟨rfl, rfl⟩)
      | (go_at_call_of 35 (Value.int .u64 c); refine (val_any _ uc.out _).mono ?_; rintro e w1 ⟨rfl, rfl⟩)
      | (go_at_call_of 37 (Value.int .u64 t); refine (ver_any _ ut.out _).mono ?_; rintro e w1 ⟨rfl, rfl⟩))
    go_ret
    exact ⟨rfl, ub⟩

/-! ### THE ROW's STEP: WRITTEN OUT: LEAVE IT -/
set_option maxRecDepth 100000 in
theorem lifted (os : Os) (started : os.Started) (H : Type) (enc : TypeId × Value → H) :
    ReturnsInHanded {} Try.checked os 7 .any (Rows.bitsBackSpec.pre6 enc Try.prog Try.f7 Rows.bitsBackRow.domain false) (Rows.bitsBackSpec.post enc Try.prog Try.f7 false true false false) := by
  refine returnsInHanded_of_change (C := Try.checked) own started (by kernel_rfl) Try.func7
    (ChangeSpec.witness6 (enc := enc) (C := Try.checked) false ⟨#[], #[.int .u32 0, .int .u8 0, .int .u32 0], []⟩ 8 (by kernel_rfl) (by kernel_rfl) (by kernel_rfl) (by kernel_rfl)) ?_
  intro W base args ds gs before hval0 hW hcnd _
  have hval : ∀ (j : Nat) t v, Try.f7.params[j]? = some t → args[j]? = some v → Value.okWide Try.prog W .any base t v := hval0
  have hW' := hW
  obtain ⟨p, q, hA0, hV, rfl, hfz, hnd⟩ := hW
  have hA : DataW.TrodAll enc Try.prog W 0 (fun _ => true) true Try.f7.params.toList args.toList ds p := hA0
  rw [Try.params7] at hA hval
  obtain ⟨v0, vs0, d0, ds0, p0, q0, hargs, rfl, rfl, h0, r0⟩ := trodAll_cons hA
  obtain ⟨v1, vs1, d1, ds1, p1, q1, rfl, rfl, rfl, h1, r1⟩ := trodAll_cons r0
  obtain ⟨v2, vs2, d2, ds2, p2, q2, rfl, rfl, rfl, h2, r2⟩ := trodAll_cons r1
  obtain ⟨rfl, rfl, rfl⟩ := trodAll_nil r2
  obtain rfl : args = #[v0, v1, v2] := by cases args; simp_all
  obtain ⟨rfl, rfl⟩ := trodVars_none hV
  obtain ⟨a0, rfl, rfl, rfl, w0⟩ := open_int Try.underlying22 (hval 0 22 v0 rfl rfl) h0
  obtain ⟨a1, rfl, rfl, rfl, w1⟩ := open_int Try.underlying5 (hval 1 5 v1 rfl rfl) h1
  obtain ⟨a2, rfl, rfl, rfl, w2⟩ := open_int Try.underlying22 (hval 2 22 v2 rfl rfl) h2
  clear hA0 hval0
  simp only [List.append_nil] at hW'
  refine (walk a0 a1 a2 w0 w1 w2 W).mono fun e W' ⟨he, hg⟩ => ?_
  subst he
  exact ⟨_, rfl, _, _, _, [], [], [], hW', (trodAll_cons_mk (shut_bool Try.underlying4 _) trodAll_mk0), (trodAll_cons_mk (shut_int Try.underlying22 w0) (trodAll_cons_mk (shut_int Try.underlying5 w1) (trodAll_cons_mk (shut_int Try.underlying22 w2) trodAll_mk0))), rfl, hg.frame _, fun h => by cases h⟩

theorem over : Rows.bitsBackRow.holds Try.pinned (OpenSpec.ofChange Rows.bitsBackSpec) :=
  OpenClaim.holds_of_wide 7 Try.f7 rfl rfl rfl rfl rfl rfl rfl ⟨rfl, rfl, rfl, rfl, rfl⟩ rfl rfl rfl rfl rfl (by kernel_rfl) Try.func7 (by kernel_rfl)
    (of_decide_eq_true (by kernel_rfl)) (by unfold Func.isWrapper; first | (rw [if_pos (by decide +kernel)]; kernel_rfl) | (rw [if_neg (by decide +kernel)]; exact ⟨rfl, rfl⟩))
    (fun os started H enc _ => lifted os started H enc)

/-- ████ THE STATEMENT ████ -/
theorem proved : Rows.BitsBackSaid :=
  over
#print axioms proved
end Go.Proofs.Ytdafdodjeffaiaa.bitsBack
