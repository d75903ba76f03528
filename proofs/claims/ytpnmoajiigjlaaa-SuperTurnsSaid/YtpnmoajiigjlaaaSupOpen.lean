/- How a config and a line that come in as arguments are opened. -/
import Derived.Test.YtpnmoajiigjlaaaRows
import Derived.WalkKit
import Derived.ProofKit
import Derived.OpenShut
import Derived.Lib.SmallJoins
namespace Go.Proofs.Ytpnmoajiigjlaaa
open Go.ChangeShapes Go.WideShapes Go.ChangeAt Go.RowKit Go.Joins
set_option linter.unusedVariables false

theorem Try.cellsCfg : Try.prog.cellsOf 23 = 4 := by kernel_rfl
theorem Try.cellsLine : Try.prog.cellsOf 26 = 8 := by kernel_rfl
theorem Try.cellsU : Try.prog.cellsOf 24 = 1 := by kernel_rfl
section
variable {H : Type} {enc : TypeId × Value → H} {W : World} {b1 b2 : Nat} {spare : Nat → Bool} {held : Bool} {r : Reach} {v : Value} {d : DataW H} {p : List MemPlace}
theorem open_cfg (hv : Value.okWide Try.prog W r b1 23 v) (h : DataW.Trod enc Try.prog W b2 spare held 23 v d p) :
    ∃ t s l b : Int, v = .agg #[.int .i64 t, .int .i64 s, .int .i64 l, .int .i64 b] ∧ ((Lit.int .i64 t).wf = true ∧ (Lit.int .i64 s).wf = true) ∧ ((Lit.int .i64 l).wf = true ∧ (Lit.int .i64 b).wf = true) := by
  obtain ⟨c0, c1, c2, c3, y0, y1, y2, y3, m, rfl, _, _, h0, h1, h2, h3⟩ := open_agg4 Try.underlying23 (by kernel_rfl) Try.cellsCfg hv h
  obtain ⟨t, e0, _, w0⟩ := DataW.trod_int Try.underlying3 h0
  obtain ⟨s, e1, _, w1⟩ := DataW.trod_int Try.underlying3 h1
  obtain ⟨l, e2, _, w2⟩ := DataW.trod_int Try.underlying3 h2
  obtain ⟨b, e3, _, w3⟩ := DataW.trod_int Try.underlying3 h3
  simp at e0 e1 e2 e3
  subst e0 e1 e2 e3
  exact ⟨t, s, l, b, rfl, ⟨w0, w1⟩, w2, w3⟩
theorem open_line (hv : Value.okWide Try.prog W r b1 26 v) (h : DataW.Trod enc Try.prog W b2 spare held 26 v d p) :
    ∃ x0 x1 x2 x3 x4 x5 x6 x7 : Int, v = .agg #[.int .u64 x0, .int .u64 x1, .int .u64 x2, .int .u64 x3, .int .u64 x4, .int .u64 x5, .int .u64 x6, .int .u64 x7] ∧
      (((Lit.int .u64 x0).wf = true ∧ (Lit.int .u64 x1).wf = true) ∧ ((Lit.int .u64 x2).wf = true ∧ (Lit.int .u64 x3).wf = true)) ∧ ((Lit.int .u64 x4).wf = true ∧ (Lit.int .u64 x5).wf = true) ∧ ((Lit.int .u64 x6).wf = true ∧ (Lit.int .u64 x7).wf = true) := by
  simp only [Value.okWide, Try.underlying26] at hv
  obtain ⟨cs, rfl, hs, _⟩ := hv
  rw [Try.cellsLine] at hs
  obtain ⟨fuel, hf⟩ := h
  obtain ⟨l⟩ := cs
  match l, hs with
  | [c0, c1, c2, c3, c4, c5, c6, c7], _ =>
    obtain ⟨ys, m, _, _, _, hl, he⟩ := DataW.trod_array Try.underlying26 hf
    match ys, hl with
    | [y0, y1, y2, y3, y4, y5, y6, y7], _ =>
      have e0 := he 0 (by decide)
      have e1 := he 1 (by decide)
      have e2 := he 2 (by decide)
      have e3 := he 3 (by decide)
      have e4 := he 4 (by decide)
      have e5 := he 5 (by decide)
      have e6 := he 6 (by decide)
      have e7 := he 7 (by decide)
      simp [Try.cellsU, Value.cells] at e0 e1 e2 e3 e4 e5 e6 e7
      obtain ⟨x0, a0, _, w0⟩ := DataW.trod_int Try.underlying24 e0
      obtain ⟨x1, a1, _, w1⟩ := DataW.trod_int Try.underlying24 e1
      obtain ⟨x2, a2, _, w2⟩ := DataW.trod_int Try.underlying24 e2
      obtain ⟨x3, a3, _, w3⟩ := DataW.trod_int Try.underlying24 e3
      obtain ⟨x4, a4, _, w4⟩ := DataW.trod_int Try.underlying24 e4
      obtain ⟨x5, a5, _, w5⟩ := DataW.trod_int Try.underlying24 e5
      obtain ⟨x6, a6, _, w6⟩ := DataW.trod_int Try.underlying24 e6
      obtain ⟨x7, a7, _, w7⟩ := DataW.trod_int Try.underlying24 e7
      simp at a0 a1 a2 a3 a4 a5 a6 a7
      subst a0 a1 a2 a3 a4 a5 a6 a7
      exact ⟨x0, x1, x2, x3, x4, x5, x6, x7, rfl, ⟨⟨w0, w1⟩, w2, w3⟩, ⟨w4, w5⟩, w6, w7⟩
end
end Go.Proofs.Ytpnmoajiigjlaaa
