/-
  PROVED HERE: 'Rows.SumPartsSaid': for every input of its parameter types the law returns true and its arguments read as before; no condition.
  THE SHELL OF A PROOF OF 'Rows.SumPartsSaid' ('limekiln/limekilnlaw02.SumParts'), WRITTEN BY PROGRAM (proof-skeleton.mjs, third state) off the guide's own print for that function. Not trusted: Lean checks it.
-/
import Derived.Test.YtmeablfcpejkiaaRows
import Derived.WalkKit
import Derived.ProofKit
import Derived.OpenShut
import Derived.Test.YtmeablfcpejkiaaSum
import Derived.Test.YtmeablfcpejkiaaSumLaw
import Derived.Test.YtmeablfcpejkiaaOwn
import Derived.ShutString
import Derived.ChangeOld
import Derived.Below
namespace Go.Proofs.Ytmeablfcpejkiaa.sumParts
open Go.ChangeShapes Go.WideShapes Go.ChangeAt Go.RowKit
open Go.ChangeMaps (open_string shut_string)
set_option linter.unusedVariables false

theorem own : ownKnob Try.prog.godebug = none := by kernel_rfl
theorem laidOut : laidOutB Try.prog = true := by kernel_rfl

/-- WHAT THE WALK IS TOLD OF A SLICE OF INTEGERS THAT CAME IN: it is nil; or it leads to a row of 'cap' cells, the numbers 'zs' (the first 'len' are its elements, the rest its spare room), each fitting its kind. -/
def IsRow (k : IntKind) (w : World) (a : Option Addr) (len cap : Nat) (zs : List Int) : Prop :=
  (a = none ∧ len = 0 ∧ cap = 0 ∧ zs = []) ∨
  ∃ x, a = some x ∧ len ≤ cap ∧ cap ≤ maxLen ∧ zs.length = cap ∧ (∀ i, i < zs.length → w.cell? (x.add i) = some (.int k (zs.getD i 0))) ∧ ∀ n ∈ zs, (Lit.int k n).wf = true

/-! ### STEP 1: THE WALK: the Go text returns true, AND WRITES NOTHING THAT WAS THERE: 'Below w.heap.size w w'' (Derived/Below.lean: '.refl', '.alloc', '.drew', '.setCell' at a new block, '.trans'). Open each 'IsRow' by 'rcases' AHEAD of 'go_enter'; part every test ahead of the walk. -/
theorem Try.info5 : (Try.prog.info? 5).map (fun i => (i.zero, i.size, i.bytes)) = some (some (.int .u8 0), 1, 1) := by kernel_rfl
set_option maxHeartbeats 2000000 in
theorem walk (a0 : Option Addr) (len0 cap0 : Nat) (z0 : List Int) (a1 : Option Addr) (len1 cap1 : Nat) (z1 : List Int) (w : World) (w0 : IsRow .u8 w a0 len0 cap0 z0) (w1 : IsRow .u8 w a1 len1 cap1 z1) :
    Calls Try.prog 5 #[.slice a0 len0 cap0, .slice a1 len1 cap1] w fun e w' => e = .returned (.bool true) ∧ Below w.heap.size w w' := by
  have hA := Lib.hid awake_any
  by_cases h0 : 300 < len0
  · go_enter Try.func5, Try.ntmps5
    go_wp2_with (go_at_call 8; refine (hA.out _).mono ?_; rintro e w1 ⟨rfl, b⟩)
    go_ret
    exact ⟨rfl, b⟩
  · by_cases h1 : 300 < len1
    · go_enter Try.func5, Try.ntmps5
      go_wp2_with (go_at_call 8; refine (hA.out _).mono ?_; rintro e w1 ⟨rfl, b⟩)
      go_ret
      exact ⟨rfl, b⟩
    · obtain ⟨xs, rfl, rx, bx, lx, nx⟩ := row_is w0 (by omega)
      obtain ⟨ys, rfl, ry, by', ly, ny⟩ := row_is w1 (by omega)
      clear w0 w1
      obtain ⟨n, hn⟩ : ∃ n, n = xs.length := ⟨_, rfl⟩
      obtain ⟨m, hm⟩ : ∃ m, m = ys.length := ⟨_, rfl⟩
      have hl0 : n ≤ 300 := by omega
      have hl1 : m ≤ 300 := by omega
      obtain ⟨hx1, ax, cx, hx2, hx3⟩ := rx
      obtain ⟨hy1, ay, cy, hy2, hy3⟩ := ry
      simp only [Value.slice.injEq] at hx2 hy2
      obtain ⟨rfl, _, rfl⟩ := hx2
      obtain ⟨rfl, _, rfl⟩ := hy2
      have hN : ∀ (zs : List Int), (∀ x ∈ zs, 0 ≤ x ∧ x < 256) → ∀ (s : BitVec 32) (k : Nat), k < zs.length → ∀ w, Calls Try.prog 9 #[.int .u32 ((runC s (bitsOf 8 (zs.take k))).toNat : Int), .int .u8 (zs.getD k 0)] w fun e w' => e = .returned (.int .u32 ((runC s (bitsOf 8 (zs.take (k + 1)))).toNat : Int)) ∧ w = w' := fun zs bz s k hk w => by
        have hm := bz (zs.getD k 0) (by rw [List.getD_eq_getElem?_getD, List.getElem?_eq_getElem hk]; exact List.getElem_mem hk)
        rw [take_next zs k hk, bitsOf_snoc, runC_append]
        exact byte_any _ _ hm.1 hm.2 w
      have hB := Lib.hid hN
      have hG := Lib.hid begin_any
      have hE : Hid (∀ w, Calls Try.prog 13 #[.int .u32 ((runC ones (bitsOf 8 xs)).toNat : Int)] w fun e w' => e = .returned (.int .u32 (sumC 8 xs)) ∧ w = w') := fun w => end_any _ w
      have hS : Hid (∀ w', Below w.heap.size w w' → Calls Try.prog 15 #[.slice a0 n cap0] w' fun e w'' => e = .returned (.int .u32 (sumC 8 xs)) ∧ w' = w'') := fun w' hb => bytes_any _ xs w' (RowOf.keep ⟨hx1, a0, cap0, by rw [hn], hx3⟩ hb) bx
      have HN : Hid (n = xs.length) := hn
      have HM : Hid (m = ys.length) := hm
      have BX := Lib.hid bx
      have BY := Lib.hid by'
      rw [← hn] at hx3 h0 hx1 lx nx ⊢
      have NX := Lib.hid nx
      clear nx ny ly
      rw [← hm] at hy3 h1 hy1 ⊢
      have hz : Hid (((runC ones (bitsOf 8 (xs.take 0))).toNat : Int) = (ones.toNat : Int)) := rfl
      clear hN hn hm bx by'
      go_enter Try.func5, Try.ntmps5
      go_wp2_with (go_at_call 14; refine (hG.out _).mono ?_; rintro e w1 ⟨rfl, rfl⟩)
      go_loop [5, 6] (fun st c => ∃ k : Nat, k ≤ n ∧ c = .int .i64 k ∧ st = .int .u32 ((runC ones (bitsOf 8 (xs.take k))).toNat : Int)) (fun _ c => n - (intOf c).toNat)
      case atStart => exact ⟨0, by omega, rfl, by rw [hz.out]⟩
      case round =>
        obtain ⟨k, hk, rfl, rfl⟩ := hrel
        by_cases hlt : k < n
        · have hb := Lib.hid (hB.out xs BX.out ones k (by rw [← HN.out]; exact hlt))
          obtain ⟨g, off, rfl, hg, hcell⟩ := hx3 (by intro h; rw [h] at HN; have := HN.out; simp at this; omega)
          have hk1 := hcell k hlt
          generalize xs.getD k 0 = x at *
          clear hx3 hy3 hcell
          go_wp2_with (go_at_call 9; refine (hb.out _).mono ?_; rintro e w1 ⟨rfl, rfl⟩)
          go_round
          case rel => exact ⟨k + 1, by omega, by go_num, rfl⟩
          case measure => simp [intOf]; omega
        · have e8 : k = xs.length := by have := HN.out; omega
          have e9 : xs.take k = xs := by rw [e8, List.take_length]
          rw [e9]
          clear e8 e9
          go_wp2_with (first
            | (go_at_call 13; refine (hE.out _).mono ?_; rintro e w1 ⟨rfl, rfl⟩)
            | (go_at_call 15; refine (hS.out _ (Below.refl _ _)).mono ?_; rintro e w1 ⟨rfl, rfl⟩))
          have hs0 : Hid (((runC ones (bitsOf 8 xs)).toNat : Int) = ((runC (runC ones (bitsOf 8 xs)) (bitsOf 8 (ys.take 0))).toNat : Int)) := rfl
          go_loopw [5, 7, 8] (fun st v c wr => ∃ i : Nat, i ≤ m ∧ c = .int .i64 i ∧ st = .int .u32 ((runC (runC ones (bitsOf 8 xs)) (bitsOf 8 (ys.take i))).toNat : Int) ∧
              ((i = 0 ∧ v = .slice a0 n n) ∨ Own .u8 5 w.heap.size wr v (xs ++ ys.take i)) ∧ Below w.heap.size w wr) (fun _ _ c _ => m - (intOf c).toNat)
          case atStart => exact ⟨0, by omega, rfl, by rw [hs0.out], .inl ⟨rfl, rfl⟩, Below.refl _ _⟩
          case round =>
            obtain ⟨i, hi, rfl, rfl, hv, hbel⟩ := hrel
            by_cases hlt2 : i < m
            · have hb := Lib.hid (hB.out ys BY.out (runC ones (bitsOf 8 xs)) i (by rw [← HM.out]; exact hlt2))
              obtain ⟨g, off, rfl, hg, hcell⟩ := hy3 (by intro h; rw [h] at HM; have := HM.out; simp at this; omega)
              have hk1 := (hbel.cell (p := ⟨g, off + i, none⟩) hg).trans (hcell i hlt2)
              have hsn := Lib.hid (take_next ys i (by rw [← HM.out]; exact hlt2))
              have hlen : Hid ((xs ++ ys.take i).length ≤ n + i) := by
                show _ ≤ _
                rw [List.length_append, List.length_take, ← HN.out]; omega
              generalize ys.getD i 0 = x at *
              obtain ⟨i0, hi0, hz0, hz1, hz2⟩ := info_parts Try.info5
              rcases hv with ⟨hi00, rfl⟩ | hown
              · have HI0 := Lib.hid hi00
                clear hi00
                have hnx := Lib.hid (hx3)
                have hold : Hid (xs ≠ [] → ∃ g off, a0 = some ⟨g, off, none⟩ ∧ g < wr.heap.size ∧ ∀ j, j < n → wr.cell? ⟨g, off + j, none⟩ = some (.int .u8 (xs.getD j 0))) := fun hne => by
                  obtain ⟨g2, o2, ha, hg2, hc2⟩ := hnx.out hne
                  exact ⟨g2, o2, ha, Nat.lt_of_lt_of_le hg2 hbel.size, fun j hj => (hbel.cell (p := ⟨g2, o2 + j, none⟩) hg2).trans (hc2 j hj)⟩
                clear hx3 hy3 hcell hnx
                go_wp2_with (first
                  | (go_at_call 9; refine (hb.out _).mono ?_; rintro e w1 ⟨rfl, rfl⟩)
                  | (at_builtin; refine append_first _ rfl (.tmp 54) (.tmp 59) 30 rfl .u8 5 i0 1 w.heap.size Try.underlying30 hi0 hz0 hz1 hz2 a0 n xs _ rfl rfl HN.out NX.out hold.out ?d1 (by decide) ?d2 ?_))
                case d1 => have := HN.out; omega
                case d2 => exact hbel.size
                intro v' w2 hown' hgr
                have hbel2 : Below w.heap.size w w2 := hbel.grown hgr hbel.size (fun j hj => by cases hj)
                clear hk1 hgr
                go_wp2
                go_roundw
                case rel => exact ⟨i + 1, by omega, by go_num, rfl, .inr (by rw [hsn.out, show ys.take i = [] from by rw [HI0.out]; rfl]; exact hown'), hbel2⟩
                case measure => simp [intOf]; omega
              · clear hx3 hy3 hcell
                go_wp2_with (first
                  | (go_at_call 9; refine (hb.out _).mono ?_; rintro e w1 ⟨rfl, rfl⟩)
                  | (at_builtin; refine append_one _ rfl (.tmp 54) (.tmp 59) 30 rfl .u8 5 i0 1 w.heap.size Try.underlying30 hi0 hz0 hz1 hz2 _ _ _ rfl rfl hown ?c1 (by decide) ?c2 ?_))
                case c1 => have := hlen.out; omega
                case c2 => exact hbel.size
                intro v' w2 hown' hgr
                have hbel2 : Below w.heap.size w w2 := hown.below hbel hbel.size hgr
                clear hk1 hgr
                go_wp2
                go_roundw
                case rel => exact ⟨i + 1, by omega, by go_num, rfl, .inr (by rw [hsn.out]; first | exact hown' | (rw [← List.append_assoc]; exact hown')), hbel2⟩
                case measure => simp [intOf]; omega
            · have e8 : i = ys.length := by have := HM.out; omega
              have e9 : ys.take i = ys := by rw [e8, List.take_length]
              have hrow : RowOf .u8 wr u7 (xs ++ ys) := by
                rcases hv with ⟨hi0, hv0⟩ | hown
                · have ey : ys = [] := List.eq_nil_of_length_eq_zero (by omega)
                  rw [hv0, ey, List.append_nil]
                  exact RowOf.keep ⟨by rw [← HN.out]; omega, a0, n, by rw [HN.out], by rw [← HN.out]; exact hx3⟩ hbel
                · rw [e9] at hown
                  exact hown.row (by rw [List.length_append, ← HN.out, ← HM.out]; omega)
              have bxy : ∀ x ∈ xs ++ ys, 0 ≤ x ∧ x < 256 := fun x hx => by
                rcases List.mem_append.1 hx with h | h
                · exact BX.out x h
                · exact BY.out x h
              have hE2 : Hid (∀ w, Calls Try.prog 13 #[.int .u32 ((runC (runC ones (bitsOf 8 xs)) (bitsOf 8 ys)).toNat : Int)] w fun e w' => e = .returned (.int .u32 (sumC 8 (xs ++ ys))) ∧ w = w') := fun w => by
                have h := end_any (runC (runC ones (bitsOf 8 xs)) (bitsOf 8 ys)) w
                rw [← runC_append, ← bitsOf_append] at h
                rw [← runC_append, ← bitsOf_append]
                exact h
              rw [e9]
              have hBy : Hid (∀ w', Below wr.heap.size wr w' → Calls Try.prog 15 #[u7] w' fun e w'' => e = .returned (.int .u32 (sumC 8 (xs ++ ys))) ∧ w' = w'') := fun w' hb => bytes_any _ (xs ++ ys) w' (hrow.keep hb) bxy
              clear e8 e9 hrow bxy hx3 hy3 hv
              go_wp2_with (first
                | (go_at_call 8; refine (hA.out _).mono ?_; rintro e w1 ⟨rfl, b⟩)
                | (go_at_call 13; refine (hE2.out _).mono ?_; rintro e w2 ⟨rfl, rfl⟩)
                | (go_at_call 15; refine (hBy.out _ b).mono ?_; rintro e w2 ⟨rfl, rfl⟩))
              go_ret
              exact ⟨rfl, up hbel b⟩

/-! ### THE ROW's STEP: WRITTEN OUT: LEAVE IT -/
set_option maxRecDepth 100000 in
theorem lifted (os : Os) (started : os.Started) (H : Type) (enc : TypeId × Value → H) :
    ReturnsInHanded {} Try.checked os 5 .any (Rows.sumPartsSpec.pre6 enc Try.prog Try.f5 Rows.sumPartsRow.domain false) (Rows.sumPartsSpec.post enc Try.prog Try.f5 false true false false) := by
  refine returnsInHanded_of_change (C := Try.checked) own started (by kernel_rfl) Try.func5
    (ChangeSpec.witness6 (enc := enc) (C := Try.checked) false ⟨#[], #[.slice none 0 0, .slice none 0 0], []⟩ 8 (by kernel_rfl) (by kernel_rfl) (by kernel_rfl) (by kernel_rfl)) ?_
  intro W base args ds gs before hval0 hW hcnd _
  have hval : ∀ (j : Nat) t v, Try.f5.params[j]? = some t → args[j]? = some v → Value.okWide Try.prog W .any base t v := hval0
  have hW' := hW
  obtain ⟨p, q, hA0, hV, rfl, hfz, hnd⟩ := hW
  have hA : DataW.TrodAll enc Try.prog W 0 (fun _ => true) true Try.f5.params.toList args.toList ds p := hA0
  rw [Try.params5] at hA hval
  obtain ⟨v0, vs0, d0, ds0, p0, q0, hargs, rfl, rfl, h0, r0⟩ := trodAll_cons hA
  obtain ⟨v1, vs1, d1, ds1, p1, q1, rfl, rfl, rfl, h1, r1⟩ := trodAll_cons r0
  obtain ⟨rfl, rfl, rfl⟩ := trodAll_nil r1
  obtain rfl : args = #[v0, v1] := by cases args; simp_all
  obtain ⟨rfl, rfl⟩ := trodVars_none hV
  obtain ⟨a0, len0, cap0, rfl⟩ := okWide_slice Try.underlying30 (hval 0 30 v0 rfl rfl)
  have k0 := h0
  have lt0 : ∀ x ∈ p0, x.block < W.heap.size := by obtain ⟨m, hm⟩ := k0; exact DataW.trod_lt m _ _ _ hm
  obtain ⟨z0, w0⟩ : ∃ zs, IsRow .u8 W a0 len0 cap0 zs := by
    obtain ⟨fuel, hf⟩ := h0
    rcases open_ints Try.underlying30 Try.underlying5 (by kernel_rfl) hf with ⟨hcs, _⟩ | ⟨x, l, c, zs, hcs, _, hl, hm, hz, _, hcell, hwz⟩
    · simp [Value.cells] at hcs
      obtain ⟨rfl, rfl, rfl⟩ := hcs
      exact ⟨[], .inl ⟨rfl, rfl, rfl, rfl⟩⟩
    · simp [Value.cells] at hcs
      obtain ⟨rfl, rfl, rfl⟩ := hcs
      exact ⟨zs, .inr ⟨_, rfl, hl, hm, by simpa using hz, hcell, hwz⟩⟩
  obtain ⟨a1, len1, cap1, rfl⟩ := okWide_slice Try.underlying30 (hval 1 30 v1 rfl rfl)
  have k1 := h1
  have lt1 : ∀ x ∈ p1, x.block < W.heap.size := by obtain ⟨m, hm⟩ := k1; exact DataW.trod_lt m _ _ _ hm
  obtain ⟨z1, w1⟩ : ∃ zs, IsRow .u8 W a1 len1 cap1 zs := by
    obtain ⟨fuel, hf⟩ := h1
    rcases open_ints Try.underlying30 Try.underlying5 (by kernel_rfl) hf with ⟨hcs, _⟩ | ⟨x, l, c, zs, hcs, _, hl, hm, hz, _, hcell, hwz⟩
    · simp [Value.cells] at hcs
      obtain ⟨rfl, rfl, rfl⟩ := hcs
      exact ⟨[], .inl ⟨rfl, rfl, rfl, rfl⟩⟩
    · simp [Value.cells] at hcs
      obtain ⟨rfl, rfl, rfl⟩ := hcs
      exact ⟨zs, .inr ⟨_, rfl, hl, hm, by simpa using hz, hcell, hwz⟩⟩
  clear hA0 hval0
  refine (walk a0 len0 cap0 z0 a1 len1 cap1 z1 W w0 w1).mono fun e W' ⟨he, bel⟩ => ?_
  subst he
  exact ⟨_, rfl, _, _, _, [], _, [], hW', trodAll_mk1 (shut_bool Try.underlying4 _), (trodAll_cons_mk (Below.trod laidOut (by kernel_rfl) (of_decide_eq_true (by kernel_rfl)) k0 bel lt0) (trodAll_cons_mk (Below.trod laidOut (by kernel_rfl) (of_decide_eq_true (by kernel_rfl)) k1 bel lt1) trodAll_mk0)), rfl, bel.frame _, fun h => by cases h⟩

theorem over : Rows.sumPartsRow.holds Try.pinned (OpenSpec.ofChange Rows.sumPartsSpec) :=
  OpenClaim.holds_of_wide 5 Try.f5 rfl rfl rfl rfl rfl rfl rfl ⟨rfl, rfl, rfl, rfl, rfl⟩ rfl rfl rfl rfl rfl (by kernel_rfl) Try.func5 (by kernel_rfl)
    (of_decide_eq_true (by kernel_rfl)) (by unfold Func.isWrapper; first | (rw [if_pos (by decide +kernel)]; kernel_rfl) | (rw [if_neg (by decide +kernel)]; exact ⟨rfl, rfl⟩))
    (fun os started H enc _ => lifted os started H enc)

/-- ████ THE STATEMENT ████ -/
theorem proved : Rows.SumPartsSaid := over
#print axioms proved
end Go.Proofs.Ytmeablfcpejkiaa.sumParts
