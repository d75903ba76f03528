/- Contracts of super.summed and super.Line: the line of a config. -/
import Derived.Test.YtpnmoajiigjlaaaSuper
namespace Go.Proofs.Ytpnmoajiigjlaaa
open Go.RowKit
set_option linter.unusedVariables false

theorem setRow_new (W : World) (cur cs : Array Value) (t : TypeId) : (W.alloc (.cells cur t)).setRow W.heap.size cs = W.alloc (.cells cs t) := by
  unfold World.setRow
  show ({ W.alloc (.cells cur t) with heap := (W.heap.push (.cells cur t)).modify W.heap.size _ } : World) = _
  have hm : ∀ (a : Array Obj) (x : Obj) (f : Obj → Obj), (a.push x).modify a.size f = a.push (f x) := by
    intro a x f
    apply Array.ext
    · simp
    · intro i h1 h2
      simp only [Array.getElem_modify, Array.getElem_push]
      by_cases h : a.size = i
      · subst h
        simp
      · have hi : i < a.size := by simp at h1; omega
        simp [h, hi]
  rw [hm]
  rfl
theorem copy_six {P : Program} (W : World) {ops : Array Oper} {rest : List Oper} {o : Oper} {a : Act} {Q : Exit → Act → World → Prop} (hgd : o.guard = none) (d s : Operand) (dT sT : TypeId)
    (ho : o.op = .call { callee := .builtin .copy, args := #[d, s], argTypes := #[dT, sT] }) (elem : TypeId) (hu : P.underlying dT = some (.slice elem)) (hsz : (P.info? elem).map (·.size) = some 1)
    (z c0 c1 c2 c3 c4 c5 : Value) (t : TypeId) (g off cap b : Nat) (hbw : b = W.heap.size) (hd : a.eval d = .slice (some ⟨b, 0, none⟩) 7 8) (hs : a.eval s = .slice (some ⟨g, off, none⟩) 6 cap) (hg : g < W.heap.size)
    (hc : ∀ j, j < 6 → W.cell? ⟨g, off + j, none⟩ = [c0, c1, c2, c3, c4, c5][j]?) (h1 : ∀ v ∈ [c0, c1, c2, c3, c4, c5], v.oneCell' = true)
    (h : wpList P ops Q rest (a.put o.dst (goInt 6)) (W.alloc (.cells #[c0, c1, c2, c3, c4, c5, z, z] t))) :
    wpList P ops Q (o :: rest) a (W.alloc (.cells #[z, z, z, z, z, z, z, z] t)) := by
  subst hbw
  refine wpList_copy_own hgd d s dT sT ho elem hu hsz W.heap.size 0 7 8 ⟨g, off, none⟩ 6 cap hd hs #[z, z, z, z, z, z, z, z] t (heap_alloc_new W _) [c0, c1, c2, c3, c4, c5] rfl ?_ (by simp) h1 ?_
  · intro j v hj
    have hj6 : j < 6 := by
      have := (List.getElem?_eq_some_iff.1 hj).1
      simpa using this
    rw [show (⟨g, off, none⟩ : Addr).add j = ⟨g, off + j, none⟩ from by unfold Addr.add; split <;> simp_all, World.cell?_alloc_past _ _ _ hg, hc j hj6]
    exact hj
  · rw [setRow_new]
    exact h
theorem sumC_bd (n : Nat) (l : List Int) : 0 ≤ sumC n l ∧ sumC n l < 4294967296 := by
  unfold sumC
  have := (notC (runC ones (bitsOf n l))).isLt
  omega

set_option maxHeartbeats 1000000 in
theorem summed_any (c0 c1 c2 c3 c4 c5 : Int) (v : Value) (w : World) (hr : RowOf .u64 w v [c0, c1, c2, c3, c4, c5]) (hb : ∀ x ∈ [c0, c1, c2, c3, c4, c5, 0], 0 ≤ x ∧ x < 18446744073709551616) :
    Calls Try.prog 14 #[v] w fun e w' => e = .returned (.agg #[.int .u64 c0, .int .u64 c1, .int .u64 c2, .int .u64 c3, .int .u64 c4, .int .u64 c5, .int .u64 0, .int .u64 (sumC 64 [c0, c1, c2, c3, c4, c5, 0])]) ∧ (w.alloc (.cells #[.int .u64 c0, .int .u64 c1, .int .u64 c2, .int .u64 c3, .int .u64 c4, .int .u64 c5, .int .u64 0, .int .u64 (sumC 64 [c0, c1, c2, c3, c4, c5, 0])] 26)).alloc (.cells #[.int .u64 c0, .int .u64 c1, .int .u64 c2, .int .u64 c3, .int .u64 c4, .int .u64 c5, .int .u64 0, .int .u64 (sumC 64 [c0, c1, c2, c3, c4, c5, 0])] 26) = w' := by
  obtain ⟨hd, a, cap, rfl, hc⟩ := hr
  obtain ⟨g, off, rfl, hg, hcell⟩ := hc (by simp)
  obtain ⟨s0, s1⟩ := sumC_bd 64 [c0, c1, c2, c3, c4, c5, 0]
  have hS := Lib.hid (words_any (.slice (some ⟨w.heap.size + 1, 0, none⟩) 7 8) [c0, c1, c2, c3, c4, c5, 0])
  have HB := Lib.hid hb
  have HC : Hid (∀ j, j < 6 → w.cell? ⟨g, off + j, none⟩ = [Value.int .u64 c0, Value.int .u64 c1, Value.int .u64 c2, Value.int .u64 c3, Value.int .u64 c4, Value.int .u64 c5][j]?) := fun j hj => by
    rw [hcell j hj]
    match j, hj with
    | 0, _ => rfl
    | 1, _ => rfl
    | 2, _ => rfl
    | 3, _ => rfl
    | 4, _ => rfl
    | 5, _ => rfl
  have HG := Lib.hid hg
  generalize sumC 64 [c0, c1, c2, c3, c4, c5, 0] = S at *
  clear hb hd hc hcell hg
  go_enter Try.func14, Try.ntmps14
  go_wp2_with (with_reducible refine copy_six _ rfl (.tmp 4) (.tmp 5) 32 32 rfl 24 Try.underlying32 (by kernel_rfl) (.int .u64 0) (.int .u64 c0) (.int .u64 c1) (.int .u64 c2) (.int .u64 c3) (.int .u64 c4) (.int .u64 c5) 26 g off cap (w.heap.size + 1) ?h0 rfl rfl ?h1 ?h2 ?h3 ?_)
  case h0 => simp
  case h1 => have := HG.out; simp; omega
  case h2 => exact fun j hj => (World.cell?_alloc_past _ _ _ HG.out).trans (HC.out j hj)
  case h3 => simp [Value.oneCell']
  refine (hS.out _ ?_ HB.out).mono ?_
  · refine ⟨by simp, _, 8, rfl, fun _ => ⟨w.heap.size + 1, 0, rfl, by simp, fun j hj => ?_⟩⟩
    rw [Nat.zero_add, World.cell?_alloc_at _ _ _ _ (by simp)]
    match j, hj with
    | 0, _ => rfl
    | 1, _ => rfl
    | 2, _ => rfl
    | 3, _ => rfl
    | 4, _ => rfl
    | 5, _ => rfl
    | 6, _ => rfl
  · rintro e w2 ⟨rfl, rfl⟩
    go_wp2
    refine bodyPost_ret (v := .agg #[.int .u64 c0, .int .u64 c1, .int .u64 c2, .int .u64 c3, .int .u64 c4, .int .u64 c5, .int .u64 0, .int .u64 S]) ?_ rfl ⟨rfl, ?_⟩
    · simp [results, Try.results14, go_sem]
    · rfl

/-- The sum of a config's seven words. -/
def sum7 (t s l b : Int) : Int := sumC 64 [7739836655157129782, t, s, l, b, 1, 0]
theorem sum7_bd (t s l b : Int) : 0 ≤ sum7 t s l b ∧ sum7 t s l b < 4294967296 := sumC_bd _ _
theorem right_bd {t s l b : Int} (h : rightB t s l b = true) : (1 ≤ t ∧ t ≤ 64) ∧ (1 ≤ s ∧ s ≤ 65536) ∧ (1 ≤ l ∧ l ≤ 64) ∧ (1 ≤ b ∧ b ≤ 64) := by
  simp [rightB, fromB] at h
  omega

set_option maxHeartbeats 1000000 in
theorem line_yes (t s l b : Int) (h : rightB t s l b = true) (w : World) :
    Calls Try.prog 6 #[.agg #[.int .i64 t, .int .i64 s, .int .i64 l, .int .i64 b]] w fun e w' => e = .returned (.tuple #[.agg #[.int .u64 7739836655157129782, .int .u64 t, .int .u64 s, .int .u64 l, .int .u64 b, .int .u64 1, .int .u64 0, .int .u64 (sum7 t s l b)], .int .i64 0]) ∧ Below w.heap.size w w' := by
  have hR := right_any t s l b
  rw [h] at hR
  have HR := Lib.hid hR
  obtain ⟨⟨a1, a2⟩, ⟨a3, a4⟩, ⟨a5, a6⟩, a7, a8⟩ := right_bd h
  have hS := Lib.hid (summed_any 7739836655157129782 t s l b 1)
  have HB : Hid (∀ x ∈ [7739836655157129782, t, s, l, b, 1, 0], 0 ≤ x ∧ x < 18446744073709551616) := fun x hx => by
    simp at hx
    omega
  clear hR h
  go_enter Try.func6, Try.ntmps6
  have hE : Hid (sumC 64 [7739836655157129782, t, s, l, b, 1, 0] = sum7 t s l b) := rfl
  rw [hE.out] at hS
  generalize sum7 t s l b = S at *
  go_wp2_with (go_at_call 7; refine (HR.out _).mono ?_; rintro e w1 ⟨rfl, rfl⟩)
  refine (hS.out _ _ ?_ HB.out).mono ?_
  · refine ⟨by simp, _, 6, rfl, fun _ => ⟨w.heap.size + 1 + 1 + 1, 0, rfl, by simp, fun j hj => ?_⟩⟩
    rw [Nat.zero_add, World.cell?_alloc_at _ _ _ _ (by simp)]
    match j, hj with
    | 0, _ => rfl
    | 1, _ => rfl
    | 2, _ => rfl
    | 3, _ => rfl
    | 4, _ => rfl
    | 5, _ => rfl
  · rintro e w2 ⟨rfl, rfl⟩
    go_wp2
    refine bodyPost_ret (v := .tuple #[.agg #[.int .u64 7739836655157129782, .int .u64 t, .int .u64 s, .int .u64 l, .int .u64 b, .int .u64 1, .int .u64 0, .int .u64 S], .int .i64 0]) ?_ rfl ⟨rfl, ?_⟩
    · simp [results, Try.results6, go_sem]
    · repeat (first | exact Below.refl _ _ | (refine Below.alloc ?_ ?_ _; rotate_left; (first | exact Nat.le_refl _ | (· simp) | (· (simp; omega)))))

theorem line_no (t s l b : Int) (h : rightB t s l b = false) (w : World) :
    Calls Try.prog 6 #[.agg #[.int .i64 t, .int .i64 s, .int .i64 l, .int .i64 b]] w fun e w' => e = .returned (.tuple #[.agg #[.int .u64 0, .int .u64 0, .int .u64 0, .int .u64 0, .int .u64 0, .int .u64 0, .int .u64 0, .int .u64 0], .int .i64 1]) ∧ Below w.heap.size w w' := by
  have hR := right_any t s l b
  rw [h] at hR
  have HR := Lib.hid hR
  clear hR h
  go_enter Try.func6, Try.ntmps6
  go_wp2_with (go_at_call 7; refine (HR.out _).mono ?_; rintro e w1 ⟨rfl, rfl⟩)
  refine bodyPost_ret (v := .tuple #[.agg #[.int .u64 0, .int .u64 0, .int .u64 0, .int .u64 0, .int .u64 0, .int .u64 0, .int .u64 0, .int .u64 0], .int .i64 1]) ?_ rfl ⟨rfl, ?_⟩
  · simp [results, Try.results6, go_sem]
  · repeat (first | exact Below.refl _ _ | (refine Below.alloc ?_ ?_ _; rotate_left; (first | exact Nat.le_refl _ | (· simp) | (· (simp; omega)))))
end Go.Proofs.Ytpnmoajiigjlaaa
