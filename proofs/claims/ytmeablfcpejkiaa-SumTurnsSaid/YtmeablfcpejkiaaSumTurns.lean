/-
  PROVED HERE: 'Rows.SumTurnsSaid': for every input of its parameter types the law returns true and its arguments read as before; no condition.
  THE SHELL OF A PROOF OF 'Rows.SumTurnsSaid' ('limekiln/limekilnlaw02.SumTurns'), WRITTEN BY PROGRAM (proof-skeleton.mjs, third state) off the guide's own print for that function. Not trusted: Lean checks it.
-/
import Derived.Test.YtmeablfcpejkiaaRows
import Derived.WalkKit
import Derived.ProofKit
import Derived.OpenShut
import Derived.Test.YtmeablfcpejkiaaSum
import Derived.Test.YtmeablfcpejkiaaSumLaw
import Derived.Test.YtmeablfcpejkiaaOwn
import Derived.ShutString
import Derived.ChangeOld
import Derived.Below
namespace Go.Proofs.Ytmeablfcpejkiaa.sumTurns
open Go.ChangeShapes Go.WideShapes Go.ChangeAt Go.RowKit
open Go.ChangeMaps (open_string shut_string)
set_option linter.unusedVariables false

theorem own : ownKnob Try.prog.godebug = none := by kernel_rfl
theorem laidOut : laidOutB Try.prog = true := by kernel_rfl

/-- WHAT THE WALK IS TOLD OF A SLICE OF INTEGERS THAT CAME IN: it is nil; or it leads to a row of 'cap' cells, the numbers 'zs' (the first 'len' are its elements, the rest its spare room), each fitting its kind. -/
def IsRow (k : IntKind) (w : World) (a : Option Addr) (len cap : Nat) (zs : List Int) : Prop :=
  (a = none ∧ len = 0 ∧ cap = 0 ∧ zs = []) ∨
  ∃ x, a = some x ∧ len ≤ cap ∧ cap ≤ maxLen ∧ zs.length = cap ∧ (∀ i, i < zs.length → w.cell? (x.add i) = some (.int k (zs.getD i 0))) ∧ ∀ n ∈ zs, (Lit.int k n).wf = true

/-! ### STEP 1: THE WALK: the Go text returns true, AND WRITES NOTHING THAT WAS THERE: 'Below w.heap.size w w'' (Derived/Below.lean: '.refl', '.alloc', '.drew', '.setCell' at a new block, '.trans'). Open each 'IsRow' by 'rcases' AHEAD of 'go_enter'; part every test ahead of the walk. -/
theorem Try.info5 : (Try.prog.info? 5).map (fun i => (i.zero, i.size, i.bytes)) = some (some (.int .u8 0), 1, 1) := by kernel_rfl
theorem xor8 (x : Int) (h0 : 0 ≤ x) (h1 : x < 256) (j : Nat) (hj : j < 8) : bits .xor .u8 x (2 ^ j) = ((x.toNat ^^^ 2 ^ j : Nat) : Int) := by
  obtain ⟨n, rfl⟩ := Int.eq_ofNat_of_zero_le h0
  have hn : n < 2 ^ 8 := by omega
  have hp : 2 ^ j < 2 ^ 8 := Nat.pow_lt_pow_right (by decide) hj
  have hx : n ^^^ 2 ^ j < 2 ^ 8 := Nat.xor_lt_two_pow hn hp
  have e : ((2 : Int) ^ j) = ((2 ^ j : Nat) : Int) := by simp
  rw [e, Int.toNat_natCast]
  show IntKind.u8.wrap ((BitVec.ofInt 8 (n : Int) ^^^ BitVec.ofInt 8 ((2 ^ j : Nat) : Int)).toNat : Int) = _
  rw [BitVec.ofInt_natCast, BitVec.ofInt_natCast, BitVec.toNat_xor, BitVec.toNat_ofNat, BitVec.toNat_ofNat, Nat.mod_eq_of_lt hn, Nat.mod_eq_of_lt hp, IntKind.wrap_u8]
  omega
set_option maxHeartbeats 2000000 in
theorem walk (a0 : Option Addr) (len0 cap0 : Nat) (z0 : List Int) (a1 : Int) (a2 : Int) (w : World) (w0 : IsRow .u8 w a0 len0 cap0 z0) (w1 : (Lit.int .i64 a1).wf = true) (w2 : (Lit.int .u8 a2).wf = true) :
    Calls Try.prog 7 #[.slice a0 len0 cap0, .int .i64 a1, .int .u8 a2] w fun e w' => e = .returned (.bool true) ∧ Below w.heap.size w w' := by
  have hA := Lib.hid awake_any
  by_cases h0 : 300 < len0
  · go_enter Try.func7, Try.ntmps7
    go_wp2_with (go_at_call 8; refine (hA.out _).mono ?_; rintro e w1 ⟨rfl, b⟩)
    go_ret
    exact ⟨rfl, b⟩
  by_cases h1 : a1 < 0
  · go_enter Try.func7, Try.ntmps7
    go_wp2_with (go_at_call 8; refine (hA.out _).mono ?_; rintro e w1 ⟨rfl, b⟩)
    go_ret
    exact ⟨rfl, b⟩
  by_cases h2 : (len0 : Int) ≤ a1
  · go_enter Try.func7, Try.ntmps7
    go_wp2_with (go_at_call 8; refine (hA.out _).mono ?_; rintro e w1 ⟨rfl, b⟩)
    go_ret
    exact ⟨rfl, b⟩
  obtain ⟨xs, hn, rx, bx, lx, _⟩ := row_is w0 (by omega)
  obtain ⟨t, rfl⟩ := Int.eq_ofNat_of_zero_le (show 0 ≤ a1 by omega)
  have hb := bounds_u8 w2
  obtain ⟨j, hj⟩ := Int.eq_ofNat_of_zero_le (show 0 ≤ a2 % 8 by omega)
  have hj8 : j < 8 := by omega
  have ht : t < len0 := by omega
  have hl : len0 ≤ 300 := by omega
  have hb0 : 0 ≤ a2 := by omega
  have hmx : (xs.getD t 0) ∈ xs := by rw [List.getD_eq_getElem?_getD, List.getElem?_eq_getElem (by omega)]; exact List.getElem_mem (by omega)
  have hxt := bx _ hmx
  have hp : 2 ^ j < 2 ^ 8 := Nat.pow_lt_pow_right (by decide) hj8
  have hpj : (2 : Int) ^ j % 256 = 2 ^ j := by
    have e : ((2 : Int) ^ j) = ((2 ^ j : Nat) : Int) := by simp
    rw [e]
    exact Int.emod_eq_of_lt (Int.natCast_nonneg _) (Int.ofNat_lt.mpr hp)
  have hq : bits .xor .u8 (xs.getD t 0) (2 ^ j % 256) = (((xs.getD t 0).toNat ^^^ 2 ^ j : Nat) : Int) := by
    rw [hpj]
    exact xor8 (xs.getD t 0) hxt.1 hxt.2 j hj8
  have hne := Lib.hid (sum_turn 8 xs t j (by omega) hj8 (bits .xor .u8 (xs.getD t 0) (2 ^ j % 256)) (by rw [hq, Int.toNat_natCast]))
  have hqb : Hid (0 ≤ bits .xor .u8 (xs.getD t 0) (2 ^ j % 256) ∧ bits .xor .u8 (xs.getD t 0) (2 ^ j % 256) < 256) := by
    have h3 : (xs.getD t 0).toNat ^^^ 2 ^ j < 2 ^ 8 := Nat.xor_lt_two_pow (by omega) (Nat.pow_lt_pow_right (by decide) hj8)
    show _ ∧ _
    rw [hq]
    exact ⟨Int.natCast_nonneg _, Int.ofNat_lt.mpr h3⟩
  have HX : Hid (xs.length = len0) := hn
  have BX := Lib.hid bx
  have RX := Lib.hid rx
  obtain ⟨hdrop, ax, cx, hx2, hx3⟩ := rx
  simp only [Value.slice.injEq] at hx2
  obtain ⟨rfl, hdrop2, rfl⟩ := hx2
  clear hdrop hdrop2
  rw [hn] at hx3
  clear w0 w1 w2 hn bx hb hq hxt hmx h0 h1 h2 lx hp hpj
  obtain ⟨i0, hi0, hz0, hz1, hz2⟩ := info_parts Try.info5
  have hd1 : decide (300 < (len0 : Int)) = false := by simp; omega
  have hd2 : decide ((t : Int) < 0) = false := by simp
  have hd3 : decide (len0 ≤ t) = false := by simp; omega
  go_enter Try.func7, Try.ntmps7
  go_wp2
  go_loopw [7, 8] (fun v c wr => ∃ i : Nat, i ≤ len0 ∧ c = .int .i64 i ∧ Own .u8 5 w.heap.size wr v (xs.take i) ∧ Below w.heap.size w wr) (fun _ c _ => len0 - (intOf c).toNat)
  case atStart => exact ⟨0, by omega, rfl, Own.nil _ _ _ _, Below.refl _ _⟩
  case round =>
    obtain ⟨i, hi, rfl, hown, hbel⟩ := hrel
    by_cases hlt : i < len0
    · obtain ⟨g, off, rfl, hg, hcell⟩ := hx3 (by intro h; have := HX.out; rw [h] at this; simp at this; omega)
      have hk1 := (hbel.cell (p := ⟨g, off + i, none⟩) hg).trans (hcell i hlt)
      have hsn := Lib.hid (take_next xs i (by rw [HX.out]; exact hlt))
      have hlen : Hid ((xs.take i).length ≤ i) := List.length_take_le _ _
      generalize xs.getD i 0 = x at *
      clear hx3 hcell
      go_wp2_with (at_builtin; refine append_one _ rfl (.tmp 29) (.tmp 34) 30 rfl .u8 5 i0 1 w.heap.size Try.underlying30 hi0 hz0 hz1 hz2 _ _ _ rfl rfl hown ?c1 (by decide) ?c2 ?_)
      case c1 => have := hlen.out; omega
      case c2 => exact hbel.size
      intro v' w2 hown' hgr
      have hbel2 : Below w.heap.size w w2 := hown.below hbel hbel.size hgr
      clear hk1 hgr
      go_wp2
      go_roundw
      case rel => exact ⟨i + 1, by omega, by go_num, by rw [hsn.out]; exact hown', hbel2⟩
      case measure => simp [intOf]; omega
    · have e9 : xs.take i = xs := List.take_of_length_le (by rw [HX.out]; omega)
      rw [e9] at hown
      clear e9 hx3
      rcases hown.form with ⟨_, h0⟩ | ⟨g, cap, rfl, hBg, hg, hcap, hmax, hc, hf⟩
      · exfalso
        have := HX.out
        rw [h0] at this
        simp at this
        omega
      · rw [HX.out] at hown hcap hc ⊢
        have hct := hc t ht
        have hft := hf t
        have hst := Own.stored hown HX.out.symm t (bits .xor .u8 (xs.getD t 0) (2 ^ j % 256))
        have hrow := hst.1.row (by rw [List.length_set, HX.out]; omega)
        have hbel2 := hbel.setCell (p := ⟨g, t, none⟩) hBg (.int .u8 (bits .xor .u8 (xs.getD t 0) (2 ^ j % 256)))
        have bq : ∀ x ∈ xs.set t (bits .xor .u8 (xs.getD t 0) (2 ^ j % 256)), 0 ≤ x ∧ x < 256 := fun x hx => by
          rcases List.mem_or_eq_of_mem_set hx with h | h
          · exact BX.out x h
          · rw [h]; exact hqb.out
        have RO : Hid (RowOf .u8 (wr.setCell ⟨g, t, none⟩ (.int .u8 (bits .xor .u8 (xs.getD t 0) (2 ^ j % 256)))) (.slice (some ⟨g, 0, none⟩) len0 cap) (xs.set t (bits .xor .u8 (xs.getD t 0) (2 ^ j % 256)))) := hrow
        have RI : Hid (RowOf .u8 (wr.setCell ⟨g, t, none⟩ (.int .u8 (bits .xor .u8 (xs.getD t 0) (2 ^ j % 256)))) (.slice a0 len0 cap0) xs) := RowOf.keep RX.out hbel2
        have HB2 := Lib.hid hbel2
        have BQ := Lib.hid bq
        clear hbel2 bq hrow hst hc hf hbel hown
        generalize xs.getD t 0 = y at *
        have e1 : Hid ((sumC 8 (xs.set t (bits .xor .u8 y (2 ^ j % 256))) != sumC 8 xs) = true) := by
          have := hne.out
          show _ = _
          simpa using this
        generalize hset : sumC 8 (xs.set t (bits .xor .u8 y (2 ^ j % 256))) = S1 at *
        have HS := Lib.hid hset
        clear hset
        have hneb := e1.out
        have C1 : Hid (∀ w', Below (wr.setCell ⟨g, t, none⟩ (.int .u8 (bits .xor .u8 y (2 ^ j % 256)))).heap.size (wr.setCell ⟨g, t, none⟩ (.int .u8 (bits .xor .u8 y (2 ^ j % 256)))) w' → Calls Try.prog 15 #[.slice (some ⟨g, 0, none⟩) len0 cap] w' fun e w'' => e = .returned (.int .u32 S1) ∧ w' = w'') := fun w' hb => by
          rw [← HS.out]
          exact bytes_any _ _ w' (RO.out.keep hb) BQ.out
        have C2 : Hid (∀ w', Below (wr.setCell ⟨g, t, none⟩ (.int .u8 (bits .xor .u8 y (2 ^ j % 256)))).heap.size (wr.setCell ⟨g, t, none⟩ (.int .u8 (bits .xor .u8 y (2 ^ j % 256)))) w' → Calls Try.prog 15 #[.slice a0 len0 cap0] w' fun e w'' => e = .returned (.int .u32 (sumC 8 xs)) ∧ w' = w'') := fun w' hb => bytes_any _ _ w' (RI.out.keep hb) BX.out
        go_wp2_with (first
          | (go_at_call 8; refine (hA.out _).mono ?_; rintro e w1 ⟨rfl, b⟩)
          | (go_at_call_of 15 (Value.slice a0 len0 cap0); refine (C2.out _ b).mono ?_; rintro e w2 ⟨rfl, rfl⟩)
          | (go_at_call 15; refine (C1.out _ b).mono ?_; rintro e w2 ⟨rfl, rfl⟩))
        go_ret
        exact ⟨rfl, up HB2.out b⟩

/-! ### THE ROW's STEP: WRITTEN OUT: LEAVE IT -/
set_option maxRecDepth 100000 in
theorem lifted (os : Os) (started : os.Started) (H : Type) (enc : TypeId × Value → H) :
    ReturnsInHanded {} Try.checked os 7 .any (Rows.sumTurnsSpec.pre6 enc Try.prog Try.f7 Rows.sumTurnsRow.domain false) (Rows.sumTurnsSpec.post enc Try.prog Try.f7 false true false false) := by
  refine returnsInHanded_of_change (C := Try.checked) own started (by kernel_rfl) Try.func7
    (ChangeSpec.witness6 (enc := enc) (C := Try.checked) false ⟨#[], #[.slice none 0 0, .int .i64 0, .int .u8 0], []⟩ 8 (by kernel_rfl) (by kernel_rfl) (by kernel_rfl) (by kernel_rfl)) ?_
  intro W base args ds gs before hval0 hW hcnd _
  have hval : ∀ (j : Nat) t v, Try.f7.params[j]? = some t → args[j]? = some v → Value.okWide Try.prog W .any base t v := hval0
  have hW' := hW
  obtain ⟨p, q, hA0, hV, rfl, hfz, hnd⟩ := hW
  have hA : DataW.TrodAll enc Try.prog W 0 (fun _ => true) true Try.f7.params.toList args.toList ds p := hA0
  rw [Try.params7] at hA hval
  obtain ⟨v0, vs0, d0, ds0, p0, q0, hargs, rfl, rfl, h0, r0⟩ := trodAll_cons hA
  obtain ⟨v1, vs1, d1, ds1, p1, q1, rfl, rfl, rfl, h1, r1⟩ := trodAll_cons r0
  obtain ⟨v2, vs2, d2, ds2, p2, q2, rfl, rfl, rfl, h2, r2⟩ := trodAll_cons r1
  obtain ⟨rfl, rfl, rfl⟩ := trodAll_nil r2
  obtain rfl : args = #[v0, v1, v2] := by cases args; simp_all
  obtain ⟨rfl, rfl⟩ := trodVars_none hV
  obtain ⟨a0, len0, cap0, rfl⟩ := okWide_slice Try.underlying30 (hval 0 30 v0 rfl rfl)
  have k0 := h0
  have lt0 : ∀ x ∈ p0, x.block < W.heap.size := by obtain ⟨m, hm⟩ := k0; exact DataW.trod_lt m _ _ _ hm
  obtain ⟨z0, w0⟩ : ∃ zs, IsRow .u8 W a0 len0 cap0 zs := by
    obtain ⟨fuel, hf⟩ := h0
    rcases open_ints Try.underlying30 Try.underlying5 (by kernel_rfl) hf with ⟨hcs, _⟩ | ⟨x, l, c, zs, hcs, _, hl, hm, hz, _, hcell, hwz⟩
    · simp [Value.cells] at hcs
      obtain ⟨rfl, rfl, rfl⟩ := hcs
      exact ⟨[], .inl ⟨rfl, rfl, rfl, rfl⟩⟩
    · simp [Value.cells] at hcs
      obtain ⟨rfl, rfl, rfl⟩ := hcs
      exact ⟨zs, .inr ⟨_, rfl, hl, hm, by simpa using hz, hcell, hwz⟩⟩
  obtain ⟨a1, rfl, rfl, rfl, w1⟩ := open_int Try.underlying3 (hval 1 3 v1 rfl rfl) h1
  obtain ⟨a2, rfl, rfl, rfl, w2⟩ := open_int Try.underlying5 (hval 2 5 v2 rfl rfl) h2
  clear hA0 hval0
  refine (walk a0 len0 cap0 z0 a1 a2 W w0 w1 w2).mono fun e W' ⟨he, bel⟩ => ?_
  subst he
  exact ⟨_, rfl, _, _, _, [], _, [], hW', trodAll_mk1 (shut_bool Try.underlying4 _), (trodAll_cons_mk (Below.trod laidOut (by kernel_rfl) (of_decide_eq_true (by kernel_rfl)) k0 bel lt0) (trodAll_cons_mk (shut_int Try.underlying3 w1) (trodAll_cons_mk (shut_int Try.underlying5 w2) trodAll_mk0))), rfl, bel.frame _, fun h => by cases h⟩

theorem over : Rows.sumTurnsRow.holds Try.pinned (OpenSpec.ofChange Rows.sumTurnsSpec) :=
  OpenClaim.holds_of_wide 7 Try.f7 rfl rfl rfl rfl rfl rfl rfl ⟨rfl, rfl, rfl, rfl, rfl⟩ rfl rfl rfl rfl rfl (by kernel_rfl) Try.func7 (by kernel_rfl)
    (of_decide_eq_true (by kernel_rfl)) (by unfold Func.isWrapper; first | (rw [if_pos (by decide +kernel)]; kernel_rfl) | (rw [if_neg (by decide +kernel)]; exact ⟨rfl, rfl⟩))
    (fun os started H enc _ => lifted os started H enc)

/-- ████ THE STATEMENT ████ -/
theorem proved : Rows.SumTurnsSaid := over
#print axioms proved
end Go.Proofs.Ytmeablfcpejkiaa.sumTurns
