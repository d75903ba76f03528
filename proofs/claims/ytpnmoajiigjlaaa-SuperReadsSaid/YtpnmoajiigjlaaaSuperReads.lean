/- PROVED HERE: 'Rows.SuperReadsSaid': for every input of its parameter types the law returns true and its arguments read as before; no condition. -/
import Derived.Test.YtpnmoajiigjlaaaRows
import Derived.WalkKit
import Derived.ProofKit
import Derived.OpenShut
import Derived.ChangeOld
import Derived.Below
import Derived.Test.YtpnmoajiigjlaaaSupOpen
import Derived.Test.YtpnmoajiigjlaaaSupCase
import Derived.Test.YtpnmoajiigjlaaaSupBoth
import Derived.Test.YtpnmoajiigjlaaaSupWLines
import Derived.Test.YtpnmoajiigjlaaaSupWReads
namespace Go.Proofs.Ytpnmoajiigjlaaa.superReads
open Go.ChangeShapes Go.WideShapes Go.ChangeAt Go.RowKit
set_option linter.unusedVariables false

theorem own : ownKnob Try.prog.godebug = none := by kernel_rfl
theorem laidOut : laidOutB Try.prog = true := by kernel_rfl


theorem walk (x0 x1 x2 x3 x4 x5 x6 x7 y0 y1 y2 y3 y4 y5 y6 y7 : Int) (w : World) (g0 : (((Lit.int .u64 x0).wf = true ∧ (Lit.int .u64 x1).wf = true) ∧ ((Lit.int .u64 x2).wf = true ∧ (Lit.int .u64 x3).wf = true)) ∧ ((Lit.int .u64 x4).wf = true ∧ (Lit.int .u64 x5).wf = true) ∧ ((Lit.int .u64 x6).wf = true ∧ (Lit.int .u64 x7).wf = true)) (g1 : (((Lit.int .u64 y0).wf = true ∧ (Lit.int .u64 y1).wf = true) ∧ ((Lit.int .u64 y2).wf = true ∧ (Lit.int .u64 y3).wf = true)) ∧ ((Lit.int .u64 y4).wf = true ∧ (Lit.int .u64 y5).wf = true) ∧ ((Lit.int .u64 y6).wf = true ∧ (Lit.int .u64 y7).wf = true)) :
    Calls Try.prog 4 #[.agg #[.int .u64 x0, .int .u64 x1, .int .u64 x2, .int .u64 x3, .int .u64 x4, .int .u64 x5, .int .u64 x6, .int .u64 x7], .agg #[.int .u64 y0, .int .u64 y1, .int .u64 y2, .int .u64 y3, .int .u64 y4, .int .u64 y5, .int .u64 y6, .int .u64 y7]] w fun e w' => e = .returned (.bool true) ∧ Below w.heap.size w w' := by
  obtain ⟨⟨⟨u0, u1⟩, u2, u3⟩, ⟨u4, u5⟩, u6, u7⟩ := g0
  obtain ⟨⟨⟨v0, v1⟩, v2, v3⟩, ⟨v4, v5⟩, v6, v7⟩ := g1
  have p1 := (bounds_u64 u1).1
  have p2 := (bounds_u64 u2).1
  have p3 := (bounds_u64 u3).1
  have p4 := (bounds_u64 u4).1
  have q1 := (bounds_u64 v1).1
  have q2 := (bounds_u64 v2).1
  have q3 := (bounds_u64 v3).1
  have q4 := (bounds_u64 v4).1
  by_cases hA : okB x0 x1 x2 x3 x4 x5 x6 x7 = true
  · have rA := read_yes x0 x1 x2 x3 x4 x5 x6 x7 p1 p2 p3 p4 hA
    have rrA := rread_ok x0 x1 x2 x3 x4 x5 x6 x7 hA
    by_cases hB : okB y0 y1 y2 y3 y4 y5 y6 y7 = true
    · have rB := read_yes y0 y1 y2 y3 y4 y5 y6 y7 q1 q2 q3 q4 hB
      have rrB := rread_ok y0 y1 y2 y3 y4 y5 y6 y7 hB
      by_cases hE : (x1 == y1 && (x2 == y2 && (x3 == y3 && x4 == y4))) = true
      · simp at hE
        obtain ⟨e1, e2, e3, e4⟩ := hE
        rw [← e1, ← e2, ← e3, ← e4] at rB rrB ⊢
        exact reads_same _ _ _ _ _ _ _ _ _ _ _ _ _ _ _ _ _ _ _ _ rA rrA rrB (both_same _ _ _ _ _ _ _ _ _ _ _ _ _ _ _ _ _ _ _ _ rA rB) awake_any w
      · have hE' := Bool.eq_false_iff.2 hE
        exact reads_diff _ _ _ _ _ _ _ _ _ _ _ _ _ _ _ _ _ _ _ _ _ _ _ _ rA rrA rrB (both_diff _ _ _ _ _ _ _ _ _ _ _ _ _ _ _ _ _ _ _ _ _ _ _ _ rA rB hE') awake_any hE' w
    · have hB' := Bool.eq_false_iff.2 hB
      have rB := read_no y0 y1 y2 y3 y4 y5 y6 y7 q1 q2 q3 q4 hB'
      have rrB := rread_no y0 y1 y2 y3 y4 y5 y6 y7 q1 q2 q3 q4 hB'
      exact reads_first _ _ _ _ _ _ _ _ _ _ _ _ _ _ _ _ _ _ _ _ rA rrA rrB (both_first _ _ _ _ _ _ _ _ _ _ _ _ _ _ _ _ _ _ _ _ rA rB) awake_any w
  · have hA' := Bool.eq_false_iff.2 hA
    have rA := read_no x0 x1 x2 x3 x4 x5 x6 x7 p1 p2 p3 p4 hA'
    have rrA := rread_no x0 x1 x2 x3 x4 x5 x6 x7 p1 p2 p3 p4 hA'
    by_cases hB : okB y0 y1 y2 y3 y4 y5 y6 y7 = true
    · have rB := read_yes y0 y1 y2 y3 y4 y5 y6 y7 q1 q2 q3 q4 hB
      have rrB := rread_ok y0 y1 y2 y3 y4 y5 y6 y7 hB
      exact reads_second _ _ _ _ _ _ _ _ _ _ _ _ _ _ _ _ _ _ _ _ rA rrA rrB (both_second _ _ _ _ _ _ _ _ _ _ _ _ _ _ _ _ _ _ _ _ rA rB) awake_any w
    · have hB' := Bool.eq_false_iff.2 hB
      have rB := read_no y0 y1 y2 y3 y4 y5 y6 y7 q1 q2 q3 q4 hB'
      have rrB := rread_no y0 y1 y2 y3 y4 y5 y6 y7 q1 q2 q3 q4 hB'
      exact reads_none _ _ _ _ _ _ _ _ _ _ _ _ _ _ _ _ rA rrA rrB (both_none _ _ _ _ _ _ _ _ _ _ _ _ _ _ _ _ rA rB) awake_any w

set_option maxRecDepth 100000 in
theorem lifted (os : Os) (started : os.Started) (H : Type) (enc : TypeId × Value → H) :
    ReturnsInHanded {} Try.checked os 4 .any (Rows.superReadsSpec.pre6 enc Try.prog Try.f4 Rows.superReadsRow.domain false) (Rows.superReadsSpec.post enc Try.prog Try.f4 false true false false) := by
  refine returnsInHanded_of_change (C := Try.checked) own started (by kernel_rfl) Try.func4
    (ChangeSpec.witness6 (enc := enc) (C := Try.checked) false ⟨#[], #[.agg #[.int .u64 0, .int .u64 0, .int .u64 0, .int .u64 0, .int .u64 0, .int .u64 0, .int .u64 0, .int .u64 0], .agg #[.int .u64 0, .int .u64 0, .int .u64 0, .int .u64 0, .int .u64 0, .int .u64 0, .int .u64 0, .int .u64 0]], []⟩ 8 (by kernel_rfl) (by kernel_rfl) (by kernel_rfl) (by kernel_rfl)) ?_
  intro W base args ds gs before hval0 hW hcnd _
  have hval : ∀ (j : Nat) t v, Try.f4.params[j]? = some t → args[j]? = some v → Value.okWide Try.prog W .any base t v := hval0
  have hW' := hW
  obtain ⟨p, q, hA0, hV, rfl, hfz, hnd⟩ := hW
  have hA : DataW.TrodAll enc Try.prog W 0 (fun _ => true) true Try.f4.params.toList args.toList ds p := hA0
  rw [Try.params4] at hA hval
  obtain ⟨v0, vs0, d0, ds0, p0, q0, hargs, rfl, rfl, h0, r0⟩ := trodAll_cons hA
  obtain ⟨v1, vs1, d1, ds1, p1, q1, rfl, rfl, rfl, h1, r1⟩ := trodAll_cons r0
  obtain ⟨rfl, rfl, rfl⟩ := trodAll_nil r1
  obtain rfl : args = #[v0, v1] := by cases args; simp_all
  obtain ⟨rfl, rfl⟩ := trodVars_none hV
  have k0 := h0
  have lt0 : ∀ x ∈ p0, x.block < W.heap.size := by obtain ⟨m, hm⟩ := k0; exact DataW.trod_lt m _ _ _ hm
  obtain ⟨x0, x1, x2, x3, x4, x5, x6, x7, rfl, g0⟩ := open_line (hval 0 26 v0 rfl rfl) h0
  have k1 := h1
  have lt1 : ∀ x ∈ p1, x.block < W.heap.size := by obtain ⟨m, hm⟩ := k1; exact DataW.trod_lt m _ _ _ hm
  obtain ⟨y0, y1, y2, y3, y4, y5, y6, y7, rfl, g1⟩ := open_line (hval 1 26 v1 rfl rfl) h1
  clear hA0 hval0
  refine (walk x0 x1 x2 x3 x4 x5 x6 x7 y0 y1 y2 y3 y4 y5 y6 y7 W g0 g1).mono fun e W' ⟨he, bel⟩ => ?_
  subst he
  exact ⟨_, rfl, _, _, _, [], _, [], hW', trodAll_mk1 (shut_bool Try.underlying4 _), (trodAll_cons_mk (Below.trod laidOut (by kernel_rfl) (of_decide_eq_true (by kernel_rfl)) k0 bel lt0) (trodAll_cons_mk (Below.trod laidOut (by kernel_rfl) (of_decide_eq_true (by kernel_rfl)) k1 bel lt1) trodAll_mk0)), rfl, bel.frame _, fun h => by cases h⟩

theorem over : Rows.superReadsRow.holds Try.pinned (OpenSpec.ofChange Rows.superReadsSpec) :=
  OpenClaim.holds_of_wide 4 Try.f4 rfl rfl rfl rfl rfl rfl rfl ⟨rfl, rfl, rfl, rfl, rfl⟩ rfl rfl rfl rfl rfl (by kernel_rfl) Try.func4 (by kernel_rfl)
    (of_decide_eq_true (by kernel_rfl)) (by unfold Func.isWrapper; first | (rw [if_pos (by decide +kernel)]; kernel_rfl) | (rw [if_neg (by decide +kernel)]; exact ⟨rfl, rfl⟩))
    (fun os started H enc _ => lifted os started H enc)

theorem proved : Rows.SuperReadsSaid := over
#print axioms proved
end Go.Proofs.Ytpnmoajiigjlaaa.superReads
