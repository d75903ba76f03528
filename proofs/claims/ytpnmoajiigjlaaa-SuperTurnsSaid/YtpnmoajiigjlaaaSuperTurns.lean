/- PROVED HERE: 'Rows.SuperTurnsSaid': for every input of its parameter types the law returns true and its arguments read as before; no condition. -/
import Derived.Test.YtpnmoajiigjlaaaRows
import Derived.WalkKit
import Derived.ProofKit
import Derived.OpenShut
import Derived.ChangeOld
import Derived.Below
import Derived.Test.YtpnmoajiigjlaaaSupOpen
import Derived.Test.YtpnmoajiigjlaaaSupCase
import Derived.Test.YtpnmoajiigjlaaaSupBoth
import Derived.Test.YtpnmoajiigjlaaaSupWLines
import Derived.Test.YtpnmoajiigjlaaaSupWTurns
import Derived.Test.YtpnmoajiigjlaaaSupWTurnsB
import Derived.Test.YtpnmoajiigjlaaaSupFlip
namespace Go.Proofs.Ytpnmoajiigjlaaa.superTurns
open Go.ChangeShapes Go.WideShapes Go.ChangeAt Go.RowKit
set_option linter.unusedVariables false

theorem own : ownKnob Try.prog.godebug = none := by kernel_rfl
theorem laidOut : laidOutB Try.prog = true := by kernel_rfl

set_option maxHeartbeats 4000000 in
theorem err_walk (c0 c1 c2 c3 : Int) (a1 a2 : Int) (h : rightB c0 c1 c2 c3 = false) (w : World) :
    Calls Try.prog 5 #[.agg #[.int .i64 c0, .int .i64 c1, .int .i64 c2, .int .i64 c3], .int .u8 a1, .int .u8 a2] w fun e w' => e = .returned (.bool true) ∧ Below w.heap.size w w' := by
  have HA := Lib.hid awake_any
  have HL := Lib.hid (line_no c0 c1 c2 c3 h)
  clear h
  go_enter Try.func5, Try.ntmps5
  go_wp2_with (first
    | (go_at_call 6; refine (HL.out _).mono ?_; rintro e w1 ⟨rfl, b⟩; have bz := b.size; have HB1 := Lib.hid b; simp at bz; clear b)
    | (go_at_call 9; refine (HA.out _).mono ?_; rintro e w2 ⟨rfl, b⟩; have HB2 := Lib.hid b; clear b))
  go_ret
  refine ⟨rfl, Below.trans ?_ (HB2.out.mono (by first | (simp; done) | (simp; omega)))⟩
  refine Below.alloc ?_ (by omega) _
  refine Below.trans ?_ (HB1.out.mono (by first | (simp; done) | (simp; omega)))
  refine Below.alloc ?_ ?_ _
  · exact Below.refl _ _
  · exact Nat.le_refl _

theorem walk (t0 s0 l0 b0 a1 a2 : Int) (w : World) (g0 : ((Lit.int .i64 t0).wf = true ∧ (Lit.int .i64 s0).wf = true) ∧ ((Lit.int .i64 l0).wf = true ∧ (Lit.int .i64 b0).wf = true)) (g1 : (Lit.int .u8 a1).wf = true) (g2 : (Lit.int .u8 a2).wf = true) :
    Calls Try.prog 5 #[.agg #[.int .i64 t0, .int .i64 s0, .int .i64 l0, .int .i64 b0], .int .u8 a1, .int .u8 a2] w fun e w' => e = .returned (.bool true) ∧ Below w.heap.size w w' := by
  by_cases h : rightB t0 s0 l0 b0 = true
  · obtain ⟨⟨p1, p2⟩, ⟨p3, p4⟩, ⟨p5, p6⟩, p7, p8⟩ := right_bd h
    obtain ⟨s1, s2⟩ := sum7_bd t0 s0 l0 b0
    have n1 := (bounds_u8 g1).1
    have n2 := (bounds_u8 g2).1
    obtain ⟨j, hj⟩ := Int.eq_ofNat_of_zero_le (show 0 ≤ a2 % 64 by omega)
    have hj64 : j < 64 := by omega
    have rL := line_yes t0 s0 l0 b0 h
    have rX := read_yes 7739836655157129782 t0 s0 l0 b0 1 0 (sum7 t0 s0 l0 b0) (by omega) (by omega) (by omega) (by omega) (okB_of h)
    rcases (show a1 % 8 = 0 ∨ a1 % 8 = 1 ∨ a1 % 8 = 2 ∨ a1 % 8 = 3 ∨ a1 % 8 = 4 ∨ a1 % 8 = 5 ∨ a1 % 8 = 6 ∨ a1 % 8 = 7 by omega) with hi | hi | hi | hi | hi | hi | hi | hi
    · obtain ⟨t1, t2, t3⟩ := word_turned 7739836655157129782 (by omega) (by omega) j hj64
      have rM := read_no (bits .xor .u64 7739836655157129782 (IntKind.u64.wrap (2 ^ j))) t0 s0 l0 b0 1 0 (sum7 t0 s0 l0 b0) (by omega) (by omega) (by omega) (by omega) (okB_no (.inl t2))
      exact turns_0 t0 s0 l0 b0 (sum7 t0 s0 l0 b0) a1 a2 _ j n1 n2 hi hj rfl rL rM (both_second (bits .xor .u64 7739836655157129782 (IntKind.u64.wrap (2 ^ j))) t0 s0 l0 b0 1 0 (sum7 t0 s0 l0 b0) 7739836655157129782 t0 s0 l0 b0 1 0 (sum7 t0 s0 l0 b0) _ _ _ _ rM rX) (both_first 7739836655157129782 t0 s0 l0 b0 1 0 (sum7 t0 s0 l0 b0) (bits .xor .u64 7739836655157129782 (IntKind.u64.wrap (2 ^ j))) t0 s0 l0 b0 1 0 (sum7 t0 s0 l0 b0) _ _ _ _ rX rM) awake_any w
    · obtain ⟨t1, t2, t3⟩ := word_turned t0 (by omega) (by omega) j hj64
      have rM := read_no 7739836655157129782 (bits .xor .u64 t0 (IntKind.u64.wrap (2 ^ j))) s0 l0 b0 1 0 (sum7 t0 s0 l0 b0) t1 (by omega) (by omega) (by omega) (okB_no (.inr (.inr (.inr ((sum7_turn t0 s0 l0 b0 _ j hj64).1.1 t3)))))
      exact turns_1 t0 s0 l0 b0 (sum7 t0 s0 l0 b0) a1 a2 _ j n1 n2 hi hj rfl rL rM (both_second 7739836655157129782 (bits .xor .u64 t0 (IntKind.u64.wrap (2 ^ j))) s0 l0 b0 1 0 (sum7 t0 s0 l0 b0) 7739836655157129782 t0 s0 l0 b0 1 0 (sum7 t0 s0 l0 b0) _ _ _ _ rM rX) (both_first 7739836655157129782 t0 s0 l0 b0 1 0 (sum7 t0 s0 l0 b0) 7739836655157129782 (bits .xor .u64 t0 (IntKind.u64.wrap (2 ^ j))) s0 l0 b0 1 0 (sum7 t0 s0 l0 b0) _ _ _ _ rX rM) awake_any w
    · obtain ⟨t1, t2, t3⟩ := word_turned s0 (by omega) (by omega) j hj64
      have rM := read_no 7739836655157129782 t0 (bits .xor .u64 s0 (IntKind.u64.wrap (2 ^ j))) l0 b0 1 0 (sum7 t0 s0 l0 b0) (by omega) t1 (by omega) (by omega) (okB_no (.inr (.inr (.inr ((sum7_turn t0 s0 l0 b0 _ j hj64).1.2 t3)))))
      exact turns_2 t0 s0 l0 b0 (sum7 t0 s0 l0 b0) a1 a2 _ j n1 n2 hi hj rfl rL rM (both_second 7739836655157129782 t0 (bits .xor .u64 s0 (IntKind.u64.wrap (2 ^ j))) l0 b0 1 0 (sum7 t0 s0 l0 b0) 7739836655157129782 t0 s0 l0 b0 1 0 (sum7 t0 s0 l0 b0) _ _ _ _ rM rX) (both_first 7739836655157129782 t0 s0 l0 b0 1 0 (sum7 t0 s0 l0 b0) 7739836655157129782 t0 (bits .xor .u64 s0 (IntKind.u64.wrap (2 ^ j))) l0 b0 1 0 (sum7 t0 s0 l0 b0) _ _ _ _ rX rM) awake_any w
    · obtain ⟨t1, t2, t3⟩ := word_turned l0 (by omega) (by omega) j hj64
      have rM := read_no 7739836655157129782 t0 s0 (bits .xor .u64 l0 (IntKind.u64.wrap (2 ^ j))) b0 1 0 (sum7 t0 s0 l0 b0) (by omega) (by omega) t1 (by omega) (okB_no (.inr (.inr (.inr ((sum7_turn t0 s0 l0 b0 _ j hj64).2.1 t3)))))
      exact turns_3 t0 s0 l0 b0 (sum7 t0 s0 l0 b0) a1 a2 _ j n1 n2 hi hj rfl rL rM (both_second 7739836655157129782 t0 s0 (bits .xor .u64 l0 (IntKind.u64.wrap (2 ^ j))) b0 1 0 (sum7 t0 s0 l0 b0) 7739836655157129782 t0 s0 l0 b0 1 0 (sum7 t0 s0 l0 b0) _ _ _ _ rM rX) (both_first 7739836655157129782 t0 s0 l0 b0 1 0 (sum7 t0 s0 l0 b0) 7739836655157129782 t0 s0 (bits .xor .u64 l0 (IntKind.u64.wrap (2 ^ j))) b0 1 0 (sum7 t0 s0 l0 b0) _ _ _ _ rX rM) awake_any w
    · obtain ⟨t1, t2, t3⟩ := word_turned b0 (by omega) (by omega) j hj64
      have rM := read_no 7739836655157129782 t0 s0 l0 (bits .xor .u64 b0 (IntKind.u64.wrap (2 ^ j))) 1 0 (sum7 t0 s0 l0 b0) (by omega) (by omega) (by omega) t1 (okB_no (.inr (.inr (.inr ((sum7_turn t0 s0 l0 b0 _ j hj64).2.2 t3)))))
      exact turns_4 t0 s0 l0 b0 (sum7 t0 s0 l0 b0) a1 a2 _ j n1 n2 hi hj rfl rL rM (both_second 7739836655157129782 t0 s0 l0 (bits .xor .u64 b0 (IntKind.u64.wrap (2 ^ j))) 1 0 (sum7 t0 s0 l0 b0) 7739836655157129782 t0 s0 l0 b0 1 0 (sum7 t0 s0 l0 b0) _ _ _ _ rM rX) (both_first 7739836655157129782 t0 s0 l0 b0 1 0 (sum7 t0 s0 l0 b0) 7739836655157129782 t0 s0 l0 (bits .xor .u64 b0 (IntKind.u64.wrap (2 ^ j))) 1 0 (sum7 t0 s0 l0 b0) _ _ _ _ rX rM) awake_any w
    · obtain ⟨t1, t2, t3⟩ := word_turned 1 (by omega) (by omega) j hj64
      have rM := read_no 7739836655157129782 t0 s0 l0 b0 (bits .xor .u64 1 (IntKind.u64.wrap (2 ^ j))) 0 (sum7 t0 s0 l0 b0) (by omega) (by omega) (by omega) (by omega) (okB_no (.inr (.inl t2)))
      exact turns_5 t0 s0 l0 b0 (sum7 t0 s0 l0 b0) a1 a2 _ j n1 n2 hi hj rfl rL rM (both_second 7739836655157129782 t0 s0 l0 b0 (bits .xor .u64 1 (IntKind.u64.wrap (2 ^ j))) 0 (sum7 t0 s0 l0 b0) 7739836655157129782 t0 s0 l0 b0 1 0 (sum7 t0 s0 l0 b0) _ _ _ _ rM rX) (both_first 7739836655157129782 t0 s0 l0 b0 1 0 (sum7 t0 s0 l0 b0) 7739836655157129782 t0 s0 l0 b0 (bits .xor .u64 1 (IntKind.u64.wrap (2 ^ j))) 0 (sum7 t0 s0 l0 b0) _ _ _ _ rX rM) awake_any w
    · obtain ⟨t1, t2, t3⟩ := word_turned 0 (by omega) (by omega) j hj64
      have rM := read_no 7739836655157129782 t0 s0 l0 b0 1 (bits .xor .u64 0 (IntKind.u64.wrap (2 ^ j))) (sum7 t0 s0 l0 b0) (by omega) (by omega) (by omega) (by omega) (okB_no (.inr (.inr (.inl t2))))
      exact turns_6 t0 s0 l0 b0 (sum7 t0 s0 l0 b0) a1 a2 _ j n1 n2 hi hj rfl rL rM (both_second 7739836655157129782 t0 s0 l0 b0 1 (bits .xor .u64 0 (IntKind.u64.wrap (2 ^ j))) (sum7 t0 s0 l0 b0) 7739836655157129782 t0 s0 l0 b0 1 0 (sum7 t0 s0 l0 b0) _ _ _ _ rM rX) (both_first 7739836655157129782 t0 s0 l0 b0 1 0 (sum7 t0 s0 l0 b0) 7739836655157129782 t0 s0 l0 b0 1 (bits .xor .u64 0 (IntKind.u64.wrap (2 ^ j))) (sum7 t0 s0 l0 b0) _ _ _ _ rX rM) awake_any w
    · obtain ⟨t1, t2, t3⟩ := word_turned (sum7 t0 s0 l0 b0) (by omega) (by omega) j hj64
      have rM := read_no 7739836655157129782 t0 s0 l0 b0 1 0 (bits .xor .u64 (sum7 t0 s0 l0 b0) (IntKind.u64.wrap (2 ^ j))) (by omega) (by omega) (by omega) (by omega) (okB_no (.inr (.inr (.inr (fun k => t2 k.symm)))))
      exact turns_7 t0 s0 l0 b0 (sum7 t0 s0 l0 b0) a1 a2 _ j n1 n2 hi hj rfl rL rM (both_second 7739836655157129782 t0 s0 l0 b0 1 0 (bits .xor .u64 (sum7 t0 s0 l0 b0) (IntKind.u64.wrap (2 ^ j))) 7739836655157129782 t0 s0 l0 b0 1 0 (sum7 t0 s0 l0 b0) _ _ _ _ rM rX) (both_first 7739836655157129782 t0 s0 l0 b0 1 0 (sum7 t0 s0 l0 b0) 7739836655157129782 t0 s0 l0 b0 1 0 (bits .xor .u64 (sum7 t0 s0 l0 b0) (IntKind.u64.wrap (2 ^ j))) _ _ _ _ rX rM) awake_any w
  · exact err_walk t0 s0 l0 b0 a1 a2 (by simpa using h) w

set_option maxRecDepth 100000 in
theorem lifted (os : Os) (started : os.Started) (H : Type) (enc : TypeId × Value → H) :
    ReturnsInHanded {} Try.checked os 5 .any (Rows.superTurnsSpec.pre6 enc Try.prog Try.f5 Rows.superTurnsRow.domain false) (Rows.superTurnsSpec.post enc Try.prog Try.f5 false true false false) := by
  refine returnsInHanded_of_change (C := Try.checked) own started (by kernel_rfl) Try.func5
    (ChangeSpec.witness6 (enc := enc) (C := Try.checked) false ⟨#[], #[.agg #[.int .i64 0, .int .i64 0, .int .i64 0, .int .i64 0], .int .u8 0, .int .u8 0], []⟩ 8 (by kernel_rfl) (by kernel_rfl) (by kernel_rfl) (by kernel_rfl)) ?_
  intro W base args ds gs before hval0 hW hcnd _
  have hval : ∀ (j : Nat) t v, Try.f5.params[j]? = some t → args[j]? = some v → Value.okWide Try.prog W .any base t v := hval0
  have hW' := hW
  obtain ⟨p, q, hA0, hV, rfl, hfz, hnd⟩ := hW
  have hA : DataW.TrodAll enc Try.prog W 0 (fun _ => true) true Try.f5.params.toList args.toList ds p := hA0
  rw [Try.params5] at hA hval
  obtain ⟨v0, vs0, d0, ds0, p0, q0, hargs, rfl, rfl, h0, r0⟩ := trodAll_cons hA
  obtain ⟨v1, vs1, d1, ds1, p1, q1, rfl, rfl, rfl, h1, r1⟩ := trodAll_cons r0
  obtain ⟨v2, vs2, d2, ds2, p2, q2, rfl, rfl, rfl, h2, r2⟩ := trodAll_cons r1
  obtain ⟨rfl, rfl, rfl⟩ := trodAll_nil r2
  obtain rfl : args = #[v0, v1, v2] := by cases args; simp_all
  obtain ⟨rfl, rfl⟩ := trodVars_none hV
  have k0 := h0
  have lt0 : ∀ x ∈ p0, x.block < W.heap.size := by obtain ⟨m, hm⟩ := k0; exact DataW.trod_lt m _ _ _ hm
  obtain ⟨t0, s0, l0, b0, rfl, g0⟩ := open_cfg (hval 0 23 v0 rfl rfl) h0
  obtain ⟨a1, rfl, rfl, rfl, g1⟩ := open_int Try.underlying5 (hval 1 5 v1 rfl rfl) h1
  obtain ⟨a2, rfl, rfl, rfl, g2⟩ := open_int Try.underlying5 (hval 2 5 v2 rfl rfl) h2
  clear hA0 hval0
  refine (walk t0 s0 l0 b0 a1 a2 W g0 g1 g2).mono fun e W' ⟨he, bel⟩ => ?_
  subst he
  exact ⟨_, rfl, _, _, _, [], _, [], hW', trodAll_mk1 (shut_bool Try.underlying4 _), (trodAll_cons_mk (Below.trod laidOut (by kernel_rfl) (of_decide_eq_true (by kernel_rfl)) k0 bel lt0) (trodAll_cons_mk (shut_int Try.underlying5 g1) (trodAll_cons_mk (shut_int Try.underlying5 g2) trodAll_mk0))), rfl, bel.frame _, fun h => by cases h⟩

theorem over : Rows.superTurnsRow.holds Try.pinned (OpenSpec.ofChange Rows.superTurnsSpec) :=
  OpenClaim.holds_of_wide 5 Try.f5 rfl rfl rfl rfl rfl rfl rfl ⟨rfl, rfl, rfl, rfl, rfl⟩ rfl rfl rfl rfl rfl (by kernel_rfl) Try.func5 (by kernel_rfl)
    (of_decide_eq_true (by kernel_rfl)) (by unfold Func.isWrapper; first | (rw [if_pos (by decide +kernel)]; kernel_rfl) | (rw [if_neg (by decide +kernel)]; exact ⟨rfl, rfl⟩))
    (fun os started H enc _ => lifted os started H enc)

theorem proved : Rows.SuperTurnsSaid := over
#print axioms proved
end Go.Proofs.Ytpnmoajiigjlaaa.superTurns
