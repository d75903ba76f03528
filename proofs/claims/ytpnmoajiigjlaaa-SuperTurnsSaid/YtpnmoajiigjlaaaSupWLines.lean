/- The walk of SuperLines. -/
import Derived.Test.YtpnmoajiigjlaaaSupAwake
import Derived.Test.YtpnmoajiigjlaaaSupRead
import Derived.Test.YtpnmoajiigjlaaaSupRef
import Derived.BigRegion
import Derived.Deep.RegionHeld3
namespace Go.Proofs.Ytpnmoajiigjlaaa
open Go.RowKit
set_option linter.unusedVariables false

theorem okB_of {t s l b : Int} (h : rightB t s l b = true) : okB 7739836655157129782 t s l b 1 0 (sum7 t s l b) = true := by
  simp [okB, h]
theorem awake_any (w : World) : Calls Try.prog 9 #[] w fun e w' => e = .returned (.bool true) ∧ Below w.heap.size w w' :=
  awake_of (fun w => read_yes 7739836655157129782 1 2 3 4 1 0 (sum7 1 2 3 4) (by decide) (by decide) (by decide) (by decide) (okB_of (by decide)) w) w

set_option maxHeartbeats 4000000 in
theorem lines_no (t s l b : Int) (h : rightB t s l b = false) (w : World) :
    Calls Try.prog 3 #[.agg #[.int .i64 t, .int .i64 s, .int .i64 l, .int .i64 b]] w fun e w' => e = .returned (.bool true) ∧ Below w.heap.size w w' := by
  have HA := Lib.hid awake_any
  have HL := Lib.hid (line_no t s l b h)
  have hR := right_any t s l b
  have hRR := rright_any t s l b
  rw [h] at hR hRR
  have HR := Lib.hid hR
  have HRR := Lib.hid hRR
  clear hR hRR h
  go_enter Try.func3, Try.ntmps3
  go_wp2_with (go_at_call 6; refine (HL.out _).mono ?_; rintro e w1 ⟨rfl, b⟩; obtain ⟨bc, bf⟩ := bcell b; have bz := b.size; have HBel := Lib.hid b; clear b; simp at bz; have z0 : w.heap.size < w1.heap.size := (by omega); have z1 : w.heap.size < w1.heap.size + 1 := (by omega); have z2 : w.heap.size < w1.heap.size + 1 + 1 := (by omega); have z3 : w.heap.size < w1.heap.size + 1 + 1 + 1 := (by omega); have z4 : w.heap.size < w1.heap.size + 1 + 1 + 1 + 1 := (by omega); clear bz; have k0 : w1.cell? ⟨w.heap.size, 0, none⟩ = some (.int .i64 t) := (by rw [bc _ _ (by simp)]; simp); have k1 : w1.cell? ⟨w.heap.size, 1, none⟩ = some (.int .i64 s) := (by rw [bc _ _ (by simp)]; simp); have k2 : w1.cell? ⟨w.heap.size, 2, none⟩ = some (.int .i64 l) := (by rw [bc _ _ (by simp)]; simp); have k3 : w1.cell? ⟨w.heap.size, 3, none⟩ = some (.int .i64 b) := (by rw [bc _ _ (by simp)]; simp); clear bc bf)
  go_region_held3 (fun w' => w'.cell? ⟨w.heap.size, 0, none⟩ = some (.int .i64 t) ∧ w'.cell? ⟨w.heap.size, 1, none⟩ = some (.int .i64 s) ∧ w'.cell? ⟨w.heap.size, 2, none⟩ = some (.int .i64 l) ∧ w'.cell? ⟨w.heap.size, 3, none⟩ = some (.int .i64 b))
    (simp (maxDischargeDepth := 8) [*, World.cell?_alloc_some])
    (first
      | (go_at_call 7; refine (HR.out _).mono ?_; rintro e w2 ⟨rfl, rfl⟩)
      | (go_at_call 8; refine (HRR.out _).mono ?_; rintro e w3 ⟨rfl, rfl⟩))
  all_goals
    go_wp2_with (first
      | (go_at_call 8; refine (HRR.out _).mono ?_; rintro e w3 ⟨rfl, rfl⟩)
      | (go_at_call 9; refine (HA.out _).mono ?_; rintro e w4 ⟨rfl, b⟩; obtain ⟨bd, bg⟩ := bcell b; have by2 := b.size; have HBel2 := Lib.hid b; clear b; simp at by2; have f1 : w1.heap.size < w4.heap.size := (by omega)))
    go_ret
    refine ⟨rfl, Below.trans ?_ (HBel2.out.mono ?_)⟩
    · repeat (first | exact Below.refl _ _ | apply Below.drew | (refine below_drewN ?_ _) | (refine Below.alloc ?_ ?_ _; rotate_left; (first | exact Nat.le_refl _ | (· omega) | (· (simp; done)) | (· (simp; omega)))))
      refine Below.trans ?_ (HBel.out.mono ?_)
      · repeat (first | exact Below.refl _ _ | apply Below.drew | (refine below_drewN ?_ _) | (refine Below.alloc ?_ ?_ _; rotate_left; (first | exact Nat.le_refl _ | (· omega) | (· (simp; done)) | (· (simp; omega)))))
      · (simp; done)
    · simp; omega

set_option maxHeartbeats 8000000 in
theorem lines_yes (t s l b : Int) (h : rightB t s l b = true) (w : World) :
    Calls Try.prog 3 #[.agg #[.int .i64 t, .int .i64 s, .int .i64 l, .int .i64 b]] w fun e w' => e = .returned (.bool true) ∧ Below w.heap.size w w' := by
  have HA := Lib.hid awake_any
  obtain ⟨⟨a1, a2⟩, ⟨a3, a4⟩, ⟨a5, a6⟩, a7, a8⟩ := right_bd h
  have HL := Lib.hid (line_yes t s l b h)
  have HRd := Lib.hid (read_yes 7739836655157129782 t s l b 1 0 (sum7 t s l b) (by omega) (by omega) (by omega) (by omega) (okB_of h))
  have HW := Lib.hid (refwords_any t s l b h)
  have hR := right_any t s l b
  have hRR := rright_any t s l b
  rw [h] at hR hRR
  have HR := Lib.hid hR
  have HRR := Lib.hid hRR
  clear hR hRR h
  generalize sum7 t s l b = S at *
  go_enter Try.func3, Try.ntmps3
  go_wp2_with (go_at_call 6; refine (HL.out _).mono ?_; rintro e w1 ⟨rfl, b⟩; obtain ⟨bc, bf⟩ := bcell b; have bz := b.size; have HBel := Lib.hid b; clear b; simp at bz; have z0 : w.heap.size < w1.heap.size := (by omega); have z1 : w.heap.size < w1.heap.size + 1 := (by omega); have z2 : w.heap.size < w1.heap.size + 1 + 1 := (by omega); have z3 : w.heap.size < w1.heap.size + 1 + 1 + 1 := (by omega); have z4 : w.heap.size < w1.heap.size + 1 + 1 + 1 + 1 := (by omega); clear bz; have k0 : w1.cell? ⟨w.heap.size, 0, none⟩ = some (.int .i64 t) := (by rw [bc _ _ (by simp)]; simp); have k1 : w1.cell? ⟨w.heap.size, 1, none⟩ = some (.int .i64 s) := (by rw [bc _ _ (by simp)]; simp); have k2 : w1.cell? ⟨w.heap.size, 2, none⟩ = some (.int .i64 l) := (by rw [bc _ _ (by simp)]; simp); have k3 : w1.cell? ⟨w.heap.size, 3, none⟩ = some (.int .i64 b) := (by rw [bc _ _ (by simp)]; simp); clear bc bf)
  go_region_held3 (fun w' => w'.cell? ⟨w.heap.size, 0, none⟩ = some (.int .i64 t) ∧ w'.cell? ⟨w.heap.size, 1, none⟩ = some (.int .i64 s) ∧ w'.cell? ⟨w.heap.size, 2, none⟩ = some (.int .i64 l) ∧ w'.cell? ⟨w.heap.size, 3, none⟩ = some (.int .i64 b))
    (simp (maxDischargeDepth := 8) [*, World.cell?_alloc_some])
    (first
      | (go_at_call 7; refine (HR.out _).mono ?_; rintro e w2 ⟨rfl, rfl⟩)
      | (go_at_call 8; refine (HRR.out _).mono ?_; rintro e w3 ⟨rfl, rfl⟩))
  go_wp2_with (first
    | (go_at_call 8; refine (HRR.out _).mono ?_; rintro e w3 ⟨rfl, rfl⟩)
    | (go_at_call 10; refine (HW.out _).mono ?_; rintro e w5 ⟨r, rfl, hown, b⟩; obtain ⟨be, bf⟩ := bcell b; have bz := b.size; have HBel5 := Lib.hid b; clear b; simp at bz; have y0 : w.heap.size < w5.heap.size := (by omega); have y1 : w1.heap.size < w5.heap.size := (by omega); clear bz; have m0 : w5.cell? ⟨w1.heap.size, 0, none⟩ = some (.int .u64 7739836655157129782) := (by rw [be _ _ (by first | (simp; done) | (simp; omega))]; simp (maxDischargeDepth := 10) [*, World.cell?_alloc_some]); have m1 : w5.cell? ⟨w1.heap.size, 1, none⟩ = some (.int .u64 t) := (by rw [be _ _ (by first | (simp; done) | (simp; omega))]; simp (maxDischargeDepth := 10) [*, World.cell?_alloc_some]); have m2 : w5.cell? ⟨w1.heap.size, 2, none⟩ = some (.int .u64 s) := (by rw [be _ _ (by first | (simp; done) | (simp; omega))]; simp (maxDischargeDepth := 10) [*, World.cell?_alloc_some]); have m3 : w5.cell? ⟨w1.heap.size, 3, none⟩ = some (.int .u64 l) := (by rw [be _ _ (by first | (simp; done) | (simp; omega))]; simp (maxDischargeDepth := 10) [*, World.cell?_alloc_some]); have m4 : w5.cell? ⟨w1.heap.size, 4, none⟩ = some (.int .u64 b) := (by rw [be _ _ (by first | (simp; done) | (simp; omega))]; simp (maxDischargeDepth := 10) [*, World.cell?_alloc_some]); have m5 : w5.cell? ⟨w1.heap.size, 5, none⟩ = some (.int .u64 1) := (by rw [be _ _ (by first | (simp; done) | (simp; omega))]; simp (maxDischargeDepth := 10) [*, World.cell?_alloc_some]); have m6 : w5.cell? ⟨w1.heap.size, 6, none⟩ = some (.int .u64 0) := (by rw [be _ _ (by first | (simp; done) | (simp; omega))]; simp (maxDischargeDepth := 10) [*, World.cell?_alloc_some]); have m7 : w5.cell? ⟨w1.heap.size, 7, none⟩ = some (.int .u64 S) := (by rw [be _ _ (by first | (simp; done) | (simp; omega))]; simp (maxDischargeDepth := 10) [*, World.cell?_alloc_some]); have kk0 : w5.cell? ⟨w.heap.size, 0, none⟩ = some (.int .i64 t) := (by rw [be _ _ (by first | (simp; done) | (simp; omega))]; simp (maxDischargeDepth := 10) [*, World.cell?_alloc_some]); have kk1 : w5.cell? ⟨w.heap.size, 1, none⟩ = some (.int .i64 s) := (by rw [be _ _ (by first | (simp; done) | (simp; omega))]; simp (maxDischargeDepth := 10) [*, World.cell?_alloc_some]); have kk2 : w5.cell? ⟨w.heap.size, 2, none⟩ = some (.int .i64 l) := (by rw [be _ _ (by first | (simp; done) | (simp; omega))]; simp (maxDischargeDepth := 10) [*, World.cell?_alloc_some]); have kk3 : w5.cell? ⟨w.heap.size, 3, none⟩ = some (.int .i64 b) := (by rw [be _ _ (by first | (simp; done) | (simp; omega))]; simp (maxDischargeDepth := 10) [*, World.cell?_alloc_some]); clear be bf k0 k1 k2 k3))
  rcases hown.form with ⟨_, h0⟩ | ⟨g, capW, rfl, hBg, hg, hcap, hmax, hc, _⟩
  · simp at h0
  · have c0 := hc 0 (by simp)
    have c1 := hc 1 (by simp)
    have c2 := hc 2 (by simp)
    have c3 := hc 3 (by simp)
    have c4 := hc 4 (by simp)
    have c5 := hc 5 (by simp)
    have c6 := hc 6 (by simp)
    have c7 := hc 7 (by simp)
    simp at c0 c1 c2 c3 c4 c5 c6 c7
    simp at hcap
    clear hc hown hBg hg hmax
    go_loopw [6] (fun c wr => ∃ k q : Nat, k ≤ 8 ∧ c = .int .i64 k ∧ wr = w5.drewN q) (fun c _ => 8 - (intOf c).toNat)
    case atStart => exact ⟨0, 0, by omega, rfl, rfl⟩
    case round =>
      obtain ⟨k, q, hk2, rfl, rfl⟩ := hrel
      rcases (show k = 0 ∨ k = 1 ∨ k = 2 ∨ k = 3 ∨ k = 4 ∨ k = 5 ∨ k = 6 ∨ k = 7 ∨ k = 8 from by omega) with rfl | rfl | rfl | rfl | rfl | rfl | rfl | rfl | rfl
      · go_wp2
        go_region
        all_goals
          go_wp2
          go_roundw
          case rel => exact ⟨1, q + 1, by omega, rfl, by first | rfl | exact (World.drewN_succ _ _).symm⟩
          case measure => simp [intOf]
      · go_wp2
        go_region
        all_goals
          go_wp2
          go_roundw
          case rel => exact ⟨2, q + 1, by omega, rfl, by first | rfl | exact (World.drewN_succ _ _).symm⟩
          case measure => simp [intOf]
      · go_wp2
        go_region
        all_goals
          go_wp2
          go_roundw
          case rel => exact ⟨3, q + 1, by omega, rfl, by first | rfl | exact (World.drewN_succ _ _).symm⟩
          case measure => simp [intOf]
      · go_wp2
        go_region
        all_goals
          go_wp2
          go_roundw
          case rel => exact ⟨4, q + 1, by omega, rfl, by first | rfl | exact (World.drewN_succ _ _).symm⟩
          case measure => simp [intOf]
      · go_wp2
        go_region
        all_goals
          go_wp2
          go_roundw
          case rel => exact ⟨5, q + 1, by omega, rfl, by first | rfl | exact (World.drewN_succ _ _).symm⟩
          case measure => simp [intOf]
      · go_wp2
        go_region
        all_goals
          go_wp2
          go_roundw
          case rel => exact ⟨6, q + 1, by omega, rfl, by first | rfl | exact (World.drewN_succ _ _).symm⟩
          case measure => simp [intOf]
      · go_wp2
        go_region
        all_goals
          go_wp2
          go_roundw
          case rel => exact ⟨7, q + 1, by omega, rfl, by first | rfl | exact (World.drewN_succ _ _).symm⟩
          case measure => simp [intOf]
      · go_wp2
        go_region
        all_goals
          go_wp2
          go_roundw
          case rel => exact ⟨8, q + 1, by omega, rfl, by first | rfl | exact (World.drewN_succ _ _).symm⟩
          case measure => simp [intOf]
      · go_wp2_with (first
          | (go_at_call 11; refine (HRd.out _).mono ?_; rintro e w6 ⟨rfl, b⟩; obtain ⟨bg, bi⟩ := bcell b; have bz := b.size; have HBel6 := Lib.hid b; clear b; simp at bz; have x0 : w.heap.size < w6.heap.size := (by omega); have x1 : w.heap.size < w6.heap.size + 1 := (by omega); have n0 : w6.cell? ⟨w.heap.size, 0, none⟩ = some (.int .i64 t) := (by rw [bg _ _ (by first | (simp; done) | (simp; omega))]; simp [*]); have n1 : w6.cell? ⟨w.heap.size, 1, none⟩ = some (.int .i64 s) := (by rw [bg _ _ (by first | (simp; done) | (simp; omega))]; simp [*]); have n2 : w6.cell? ⟨w.heap.size, 2, none⟩ = some (.int .i64 l) := (by rw [bg _ _ (by first | (simp; done) | (simp; omega))]; simp [*]); have n3 : w6.cell? ⟨w.heap.size, 3, none⟩ = some (.int .i64 b) := (by rw [bg _ _ (by first | (simp; done) | (simp; omega))]; simp [*]); clear bi)
          | (go_at_call 9; refine (HA.out _).mono ?_; rintro e w7 ⟨rfl, b⟩; obtain ⟨bh, bj⟩ := bcell b; have by2 := b.size; have HBel7 := Lib.hid b; clear b; simp at by2; have f1 : w6.heap.size < w7.heap.size := (by omega); have pp0 : w7.cell? ⟨w.heap.size, 0, none⟩ = some (.int .i64 t) := (by rw [bh _ _ (by first | (simp; done) | (simp; omega))]; simp (maxDischargeDepth := 10) [*, World.cell?_alloc_some]); have pp1 : w7.cell? ⟨w.heap.size, 1, none⟩ = some (.int .i64 s) := (by rw [bh _ _ (by first | (simp; done) | (simp; omega))]; simp (maxDischargeDepth := 10) [*, World.cell?_alloc_some]); have pp2 : w7.cell? ⟨w.heap.size, 2, none⟩ = some (.int .i64 l) := (by rw [bh _ _ (by first | (simp; done) | (simp; omega))]; simp (maxDischargeDepth := 10) [*, World.cell?_alloc_some]); have pp3 : w7.cell? ⟨w.heap.size, 3, none⟩ = some (.int .i64 b) := (by rw [bh _ _ (by first | (simp; done) | (simp; omega))]; simp (maxDischargeDepth := 10) [*, World.cell?_alloc_some]); have dd0 : w7.cell? ⟨w6.heap.size, 0, none⟩ = some (.int .i64 t) := (by rw [bh _ _ (by first | (simp; done) | (simp; omega))]; simp); have dd1 : w7.cell? ⟨w6.heap.size, 1, none⟩ = some (.int .i64 s) := (by rw [bh _ _ (by first | (simp; done) | (simp; omega))]; simp); have dd2 : w7.cell? ⟨w6.heap.size, 2, none⟩ = some (.int .i64 l) := (by rw [bh _ _ (by first | (simp; done) | (simp; omega))]; simp); have dd3 : w7.cell? ⟨w6.heap.size, 3, none⟩ = some (.int .i64 b) := (by rw [bh _ _ (by first | (simp; done) | (simp; omega))]; simp); clear bj))
        go_ret
        refine ⟨rfl, Below.trans ?_ (HBel7.out.mono (by (first | (simp; done) | (simp; omega))))⟩
        refine Below.alloc ?_ (by omega) _
        refine Below.trans ?_ (HBel6.out.mono (by (first | (simp; done) | (simp; omega))))
        refine below_drewN ?_ _
        refine Below.trans ?_ (HBel5.out.mono (by (first | (simp; done) | (simp; omega))))
        repeat (first | exact Below.refl _ _ | apply Below.drew | (refine below_drewN ?_ _) | (refine Below.alloc ?_ ?_ _; rotate_left; (first | exact Nat.le_refl _ | (· omega) | (· (simp; done)) | (· (simp; omega)))))
        refine Below.trans ?_ (HBel.out.mono (by (first | (simp; done) | (simp; omega))))
        repeat (first | exact Below.refl _ _ | apply Below.drew | (refine below_drewN ?_ _) | (refine Below.alloc ?_ ?_ _; rotate_left; (first | exact Nat.le_refl _ | (· omega) | (· (simp; done)) | (· (simp; omega)))))
end Go.Proofs.Ytpnmoajiigjlaaa
