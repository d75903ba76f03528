/- The contract of the reference's Words of a config. -/
import Derived.Test.YtpnmoajiigjlaaaSupPlain
namespace Go.Proofs.Ytpnmoajiigjlaaa
open Go.RowKit
set_option linter.unusedVariables false

theorem below_drewN {B : Nat} {a w : World} (h : Below B a w) (n : Nat) : Below B a (w.drewN n) := ⟨h.os, h.tape, h.output, h.size, h.block⟩
theorem Try.infoW : (Try.prog.info? 24).map (fun i => (i.zero, i.size, i.bytes)) = some (some (.int .u64 0), 1, 8) := by kernel_rfl
set_option maxHeartbeats 1000000 in
theorem refwords_any (t s l b : Int) (h : rightB t s l b = true) (w : World) :
    Calls Try.prog 10 #[.agg #[.int .i64 t, .int .i64 s, .int .i64 l, .int .i64 b]] w fun e w' => ∃ r, e = .returned r ∧ Own .u64 24 w.heap.size w' r [7739836655157129782, t, s, l, b, 1, 0, sum7 t s l b] ∧ Below w.heap.size w w' := by
  obtain ⟨⟨a1, a2⟩, ⟨a3, a4⟩, ⟨a5, a6⟩, a7, a8⟩ := right_bd h
  have HB : Hid (∀ x ∈ [7739836655157129782, t, s, l, b, 1, 0], 0 ≤ x ∧ x < 18446744073709551616) := fun x hx => by
    simp at hx
    omega
  have hS := Lib.hid (fun v w (hr : RowOf .u64 w v [7739836655157129782, t, s, l, b, 1, 0]) => rwords_any v [7739836655157129782, t, s, l, b, 1, 0] w hr HB.out (by simp))
  obtain ⟨s0, s1⟩ := sum7_bd t s l b
  have hE : Hid (sumC 64 [7739836655157129782, t, s, l, b, 1, 0] = sum7 t s l b) := rfl
  rw [hE.out] at hS
  generalize sum7 t s l b = S at *
  clear h
  obtain ⟨i0, hi0, hz0, hz1, hz2⟩ := info_parts Try.infoW
  go_enter Try.func10, Try.ntmps10
  go_wp2_with (fail)
  have hown0 : Own .u64 24 w.heap.size ((w.alloc (.cells #[.int .i64 t, .int .i64 s, .int .i64 l, .int .i64 b] 23)).alloc (.cells #[.int .u64 7739836655157129782, .int .u64 t, .int .u64 s, .int .u64 l, .int .u64 b, .int .u64 1, .int .u64 0] 24)) (.slice (some ⟨w.heap.size + 1, 0, none⟩) 7 7) [7739836655157129782, t, s, l, b, 1, 0] := by
    have h2 := World.ownsRow_lit (base := w.heap.size) (e := 24) (size := 1) (w.alloc (.cells #[.int .i64 t, .int .i64 s, .int .i64 l, .int .i64 b] 23)) #[.int .u64 7739836655157129782, .int .u64 t, .int .u64 s, .int .u64 l, .int .u64 b, .int .u64 1, .int .u64 0] 7 (by simp) (by decide) rfl
    unfold Own
    simpa using h2
  refine (hS.out _ _ (hown0.row' (by simp))).mono ?_
  rintro e w1 ⟨rfl, hb1⟩
  have hown1 := hown0.under hb1
  have hbel1 : Below w.heap.size w w1 := Below.trans (((Below.refl _ _).alloc (Nat.le_refl _) _).alloc (by simp) _) (hb1.mono (by simp; omega))
  clear hown0 hb1
  go_wp2_with (at_builtin; refine append_one _ rfl (.tmp 20) (.tmp 23) 32 rfl .u64 24 i0 8 w.heap.size Try.underlying32 hi0 hz0 hz1 hz2 _ _ _ rfl rfl hown1 ?c1 (by decide) ?c2 ?_)
  case c1 => simp
  case c2 => exact hbel1.size
  intro v' w2 hown' hgr
  have hbel2 : Below w.heap.size w w2 := hown1.below hbel1 hbel1.size hgr
  clear hgr hown1 hbel1
  go_wp2
  go_ret
  exact ⟨_, rfl, hown', hbel2⟩
end Go.Proofs.Ytpnmoajiigjlaaa
