/-
  PROVED HERE: 'Rows.SumMixesSaid': for every input of its parameter types the law returns true and its arguments read as before; no condition.
  THE SHELL OF A PROOF OF 'Rows.SumMixesSaid' ('limekiln/limekilnlaw02.SumMixes'), WRITTEN BY PROGRAM (proof-skeleton.mjs, third state) off the guide's own print for that function. Not trusted: Lean checks it.
-/
import Derived.Test.YtmeablfcpejkiaaRows
import Derived.WalkKit
import Derived.ProofKit
import Derived.OpenShut
import Derived.Deep.RegionLaw
import Derived.Deep.QuietTactic
import Derived.BigQuiet
import Derived.Test.YtmeablfcpejkiaaSum
import Derived.Test.YtmeablfcpejkiaaSumLaw
import Derived.Test.YtmeablfcpejkiaaOwn
import Derived.ShutString
import Derived.ChangeOld
import Derived.Below
namespace Go.Proofs.Ytmeablfcpejkiaa.sumMixes
open Go.ChangeShapes Go.WideShapes Go.ChangeAt Go.RowKit
open Go.ChangeMaps (open_string shut_string)
set_option linter.unusedVariables false

theorem own : ownKnob Try.prog.godebug = none := by kernel_rfl
theorem laidOut : laidOutB Try.prog = true := by kernel_rfl

/-- WHAT THE WALK IS TOLD OF A SLICE OF INTEGERS THAT CAME IN: it is nil; or it leads to a row of 'cap' cells, the numbers 'zs' (the first 'len' are its elements, the rest its spare room), each fitting its kind. -/
def IsRow (k : IntKind) (w : World) (a : Option Addr) (len cap : Nat) (zs : List Int) : Prop :=
  (a = none ∧ len = 0 ∧ cap = 0 ∧ zs = []) ∨
  ∃ x, a = some x ∧ len ≤ cap ∧ cap ≤ maxLen ∧ zs.length = cap ∧ (∀ i, i < zs.length → w.cell? (x.add i) = some (.int k (zs.getD i 0))) ∧ ∀ n ∈ zs, (Lit.int k n).wf = true

/-! ### STEP 1: THE WALK: the Go text returns true, AND WRITES NOTHING THAT WAS THERE: 'Below w.heap.size w w'' (Derived/Below.lean: '.refl', '.alloc', '.drew', '.setCell' at a new block, '.trans'). Open each 'IsRow' by 'rcases' AHEAD of 'go_enter'; part every test ahead of the walk. -/
theorem Try.info5 : (Try.prog.info? 5).map (fun i => (i.zero, i.size, i.bytes)) = some (some (.int .u8 0), 1, 1) := by kernel_rfl
theorem row_cut {w : World} {a : Option Addr} {len cap : Nat} {zs : List Int} (n : Nat) (hn : n ≤ 300) (hnl : n ≤ len)
    (h : (a = none ∧ len = 0 ∧ cap = 0 ∧ zs = []) ∨ ∃ x, a = some x ∧ len ≤ cap ∧ cap ≤ maxLen ∧ zs.length = cap ∧ (∀ i, i < zs.length → w.cell? (x.add i) = some (.int .u8 (zs.getD i 0))) ∧ ∀ n ∈ zs, (Lit.int .u8 n).wf = true) :
    ∃ xs : List Int, xs.length = n ∧ RowOf .u8 w (.slice a n cap) xs ∧ (∀ x ∈ xs, 0 ≤ x ∧ x < 256) ∧ n ≤ cap := by
  have h' : (a = none ∧ n = 0 ∧ cap = 0 ∧ zs = []) ∨ ∃ x, a = some x ∧ n ≤ cap ∧ cap ≤ maxLen ∧ zs.length = cap ∧ (∀ i, i < zs.length → w.cell? (x.add i) = some (.int .u8 (zs.getD i 0))) ∧ ∀ n ∈ zs, (Lit.int .u8 n).wf = true := by
    rcases h with ⟨h1, h2, h3, h4⟩ | ⟨x, h1, h2, h3⟩
    · exact .inl ⟨h1, by omega, h3, h4⟩
    · exact .inr ⟨x, h1, by omega, h3⟩
  obtain ⟨xs, h1, h2, h3, h4, _⟩ := row_is h' hn
  exact ⟨xs, h1, h2, h3, h4⟩
theorem region_class {P : Program} {id : Nat} {Q : Exit → Act → World → Prop} {a : Act} {w : World} {l : List Oper} (C : World → Prop) (hm : P.follows .mixedOrders = true) (hB : Region.lexB .any l.toArray = true) (hC : C w.drew)
    (h : wpQuiet P l.toArray C (fun a' => ∀ w', C w' → Q .normal a' w') l a) : (Code.region id l.toArray true).wp P Q a w :=
  wp_region_quiet (C := C) hm hB hC (by simpa using h)
theorem xor8_nat (a b c : Int) (ha : 0 ≤ a ∧ a < 256) (hb : 0 ≤ b ∧ b < 256) (hc : 0 ≤ c ∧ c < 256) :
    (bits .xor .u8 (bits .xor .u8 a b) c).toNat = (a.toNat ^^^ b.toNat) ^^^ c.toNat := by
  have h1 : ∀ x y : Nat, x < 2 ^ 8 → y < 2 ^ 8 → bits .xor .u8 (x : Int) (y : Int) = ((x ^^^ y : Nat) : Int) := by
    intro x y hx hy
    have hxy := Nat.xor_lt_two_pow hx hy
    show IntKind.u8.wrap ((BitVec.ofInt 8 (x : Int) ^^^ BitVec.ofInt 8 (y : Int)).toNat : Int) = _
    rw [BitVec.ofInt_natCast, BitVec.ofInt_natCast, BitVec.toNat_xor, BitVec.toNat_ofNat, BitVec.toNat_ofNat, Nat.mod_eq_of_lt hx, Nat.mod_eq_of_lt hy, IntKind.wrap_u8]
    exact Int.emod_eq_of_lt (Int.natCast_nonneg _) (Int.ofNat_lt.mpr hxy)
  obtain ⟨x, rfl⟩ := Int.eq_ofNat_of_zero_le ha.1
  obtain ⟨y, rfl⟩ := Int.eq_ofNat_of_zero_le hb.1
  obtain ⟨z, rfl⟩ := Int.eq_ofNat_of_zero_le hc.1
  have hx : x < 2 ^ 8 := by omega
  have hy : y < 2 ^ 8 := by omega
  rw [h1 x y hx hy, h1 _ z (Nat.xor_lt_two_pow hx hy) (by omega)]
  rfl
theorem xor8_bd (a b : Int) : 0 ≤ bits .xor .u8 a b ∧ bits .xor .u8 a b < 256 := by
  show 0 ≤ IntKind.u8.wrap _ ∧ IntKind.u8.wrap _ < 256
  rw [IntKind.wrap_u8]
  omega
theorem sum_xor (n : Nat) (a b c : List Int) : bits .xor .u32 (bits .xor .u32 (sumC n a) (sumC n b)) (sumC n c) = (((notC (runC ones (bitsOf n a)) ^^^ notC (runC ones (bitsOf n b))) ^^^ notC (runC ones (bitsOf n c))).toNat : Int) := by
  unfold sumC
  rw [xor_val, ofInt_toNat, xor_val, ofInt_toNat]
theorem sum_mix_val (n : Nat) (a b c m : List Int) (hb : b.length = a.length) (hc : c.length = a.length) (hm : m.length = a.length)
    (h : ∀ i, i < a.length → (m.getD i 0).toNat = ((a.getD i 0).toNat ^^^ (b.getD i 0).toNat) ^^^ (c.getD i 0).toNat) :
    (((notC (runC ones (bitsOf n a)) ^^^ notC (runC ones (bitsOf n b))) ^^^ notC (runC ones (bitsOf n c))).toNat : Int) = sumC n m := by
  rw [← sum_mix n a b c m hb hc hm h]
  rfl
set_option maxHeartbeats 2000000 in
theorem walk (a0 : Option Addr) (len0 cap0 : Nat) (z0 : List Int) (a1 : Option Addr) (len1 cap1 : Nat) (z1 : List Int) (a2 : Option Addr) (len2 cap2 : Nat) (z2 : List Int) (w : World) (w0 : IsRow .u8 w a0 len0 cap0 z0) (w1 : IsRow .u8 w a1 len1 cap1 z1) (w2 : IsRow .u8 w a2 len2 cap2 z2) :
    Calls Try.prog 6 #[.slice a0 len0 cap0, .slice a1 len1 cap1, .slice a2 len2 cap2] w fun e w' => e = .returned (.bool true) ∧ Below w.heap.size w w' := by
  have hA := Lib.hid awake_any
  obtain ⟨n, hmin⟩ : ∃ n : Nat, n = min (min (min len0 len1) len2) 300 := ⟨_, rfl⟩
  obtain ⟨xs, hx, rx, bx, lx⟩ := row_cut n (by omega) (by omega) w0
  obtain ⟨ys, hy, ry, by', ly⟩ := row_cut n (by omega) (by omega) w1
  obtain ⟨zs, hz, rz, bz, lz⟩ := row_cut n (by omega) (by omega) w2
  have h0 : n ≤ len0 := by omega
  have h1 : n ≤ len1 := by omega
  have h2 : n ≤ len2 := by omega
  have h3 : n ≤ 300 := by omega
  have hmn : ∀ (ts : Array TypeId) (t : TypeId) (wx : World), (Builtin.min_ ts t #[.int .i64 (len0 : Int), .int .i64 (len1 : Int), .int .i64 (len2 : Int), .int .i64 300]).run Try.prog wx = .ok (.int .i64 (n : Int)) wx := fun ts t wx => by
    have e : (if (300 : Int) < (if (len2 : Int) < (if (len1 : Int) < len0 then (len1 : Int) else len0) then (len2 : Int) else (if (len1 : Int) < len0 then (len1 : Int) else len0)) then (300 : Int) else (if (len2 : Int) < (if (len1 : Int) < len0 then (len1 : Int) else len0) then (len2 : Int) else (if (len1 : Int) < len0 then (len1 : Int) else len0))) = (n : Int) := by
      rw [hmin]
      by_cases a1 : len1 < len0 <;> by_cases a2 : len2 < min len0 len1 <;> by_cases a3 : 300 < min (min len0 len1) len2 <;> (repeat' split) <;> omega
    rw [← e]
    simp [Builtin.min_, Builtin.min2]
  clear hmin w0 w1 w2
  obtain ⟨f, hf⟩ : ∃ f : Nat → Int, ∀ i, f i = bits .xor .u8 (bits .xor .u8 (xs.getD i 0) (ys.getD i 0)) (zs.getD i 0) := ⟨_, fun _ => rfl⟩
  have HF := Lib.hid hf
  have BX := Lib.hid bx
  have BY := Lib.hid by'
  have BZ := Lib.hid bz
  have RX := Lib.hid rx
  have RY := Lib.hid ry
  have RZ := Lib.hid rz
  have HXL := Lib.hid hx
  have HYL := Lib.hid hy
  have HZL := Lib.hid hz
  obtain ⟨hd1, ax, cx, hx2, hx3⟩ := rx
  obtain ⟨hd2, ay, cy, hy2, hy3⟩ := ry
  obtain ⟨hd3, az, cz, hz2', hz3⟩ := rz
  simp only [Value.slice.injEq] at hx2 hy2 hz2'
  obtain ⟨rfl, hd4, rfl⟩ := hx2
  obtain ⟨rfl, hd5, rfl⟩ := hy2
  obtain ⟨rfl, hd6, rfl⟩ := hz2'
  rw [hx] at hx3
  rw [hy] at hy3
  rw [hz] at hz3
  clear hd1 hd2 hd3 hd4 hd5 hd6 hx hy hz bx by' bz hf
  obtain ⟨i0, hi0, hz0, hz1, hz2⟩ := info_parts Try.info5
  go_enter Try.func6, Try.ntmps6
  go_wp2
  go_loopw [8, 9] (fun v c wr => ∃ i : Nat, i ≤ n ∧ c = .int .i64 i ∧ Own .u8 5 w.heap.size wr v ((List.range i).map f) ∧ Below w.heap.size w wr) (fun _ c _ => n - (intOf c).toNat)
  case atStart => exact ⟨0, by omega, rfl, Own.nil _ _ _ _, Below.refl _ _⟩
  case round =>
    obtain ⟨i, hi, rfl, hown, hbel⟩ := hrel
    by_cases hlt : i < n
    · obtain ⟨gx, ox, rfl, hgx, hcx⟩ := hx3 (by intro h; have := HXL.out; rw [h] at this; simp at this; omega)
      obtain ⟨gy, oy, rfl, hgy, hcy⟩ := hy3 (by intro h; have := HYL.out; rw [h] at this; simp at this; omega)
      obtain ⟨gz, oz, rfl, hgz, hcz⟩ := hz3 (by intro h; have := HZL.out; rw [h] at this; simp at this; omega)
      have kx := (hbel.cell (p := ⟨gx, ox + i, none⟩) hgx).trans (hcx i hlt)
      have ky := (hbel.cell (p := ⟨gy, oy + i, none⟩) hgy).trans (hcy i hlt)
      have kz := (hbel.cell (p := ⟨gz, oz + i, none⟩) hgz).trans (hcz i hlt)
      have hfi := Lib.hid (HF.out i)
      have b1 : (i : Int) < len0 := by omega
      have b2 : (i : Int) < len1 := by omega
      have b3 : (i : Int) < len2 := by omega
      generalize xs.getD i 0 = x at *
      generalize ys.getD i 0 = y at *
      generalize zs.getD i 0 = z at *
      clear hx3 hy3 hz3 hcx hcy hcz hmn
      go_wp2
      have hlen : Hid (((List.range i).map f).length = i) := by show _ = _; simp
      go_region_law (refine step_append_one wr.drew rfl (.tmp 22) (.tmp 37) 30 rfl .u8 5 i0 1 w.heap.size Try.underlying30 hi0 hz0 hz1 hz2 u8 ((List.range i).map f) _ (by simp [Act.eval]) (by simp [Act.eval]) hown (by rw [hlen.out]; omega) (by decide) hbel.size ?_; intro v' w3 hown' hgr)
      all_goals
        have hbel3 : Below w.heap.size w w3 := Own.below (w := wr.drew) hown hbel.drew hbel.size hgr
        clear hgr hown hbel kx ky kz
        go_wp2
        go_roundw
        case rel => exact ⟨i + 1, by omega, by go_num, by rw [List.range_succ, List.map_append, List.map_cons, List.map_nil, hfi.out]; exact hown', hbel3⟩
        case measure => simp [intOf]; omega
    · have ei : i = n := by omega
      have hmlen : ((List.range i).map f).length = xs.length := by simp [ei, HXL.out]
      have RM : RowOf .u8 wr u8 ((List.range i).map f) := hown.row (by rw [hmlen, HXL.out]; omega)
      have RX' : RowOf .u8 wr (.slice a0 n cap0) xs := RX.out.keep hbel
      have RY' : RowOf .u8 wr (.slice a1 n cap1) ys := RY.out.keep hbel
      have RZ' : RowOf .u8 wr (.slice a2 n cap2) zs := RZ.out.keep hbel
      have bm : ∀ x ∈ (List.range i).map f, 0 ≤ x ∧ x < 256 := by
        intro x hx
        obtain ⟨j, hj, rfl⟩ := List.mem_map.1 hx
        rw [HF.out j]
        exact xor8_bd _ _
      have C0 := Lib.hid (fun w' (hb : Below wr.heap.size wr w') => bytes_any u8 _ w' (RM.keep hb) bm)
      have C1 := Lib.hid (fun w' (hb : Below wr.heap.size wr w') => bytes_any _ _ w' (RX'.keep hb) BX.out)
      have C2 := Lib.hid (fun w' (hb : Below wr.heap.size wr w') => bytes_any _ _ w' (RY'.keep hb) BY.out)
      have C3 := Lib.hid (fun w' (hb : Below wr.heap.size wr w') => bytes_any _ _ w' (RZ'.keep hb) BZ.out)
      have CA : Hid (∀ w', Below wr.heap.size wr w' → Calls Try.prog 8 #[] w' fun e w'' => e = .returned (.bool true) ∧ Below wr.heap.size wr w'') := fun w' hb => (hA.out w').mono fun e w'' ⟨h, k⟩ => ⟨h, up hb k⟩
      have heq : Hid (bits .xor .u32 (bits .xor .u32 (sumC 8 xs) (sumC 8 ys)) (sumC 8 zs) = sumC 8 ((List.range i).map f)) := by
        show _ = _
        rw [sum_xor, sum_mix_val 8 xs ys zs _ (by rw [HXL.out, HYL.out]) (by rw [HXL.out, HZL.out]) hmlen]
        intro j hj
        rw [HXL.out] at hj
        have hjx := BX.out (xs.getD j 0) (by rw [List.getD_eq_getElem?_getD, List.getElem?_eq_getElem (by rw [HXL.out]; exact hj)]; exact List.getElem_mem _)
        have hjy := BY.out (ys.getD j 0) (by rw [List.getD_eq_getElem?_getD, List.getElem?_eq_getElem (by rw [HYL.out]; exact hj)]; exact List.getElem_mem _)
        have hjz := BZ.out (zs.getD j 0) (by rw [List.getD_eq_getElem?_getD, List.getElem?_eq_getElem (by rw [HZL.out]; exact hj)]; exact List.getElem_mem _)
        rw [← xor8_nat _ _ _ hjx hjy hjz, ← HF.out j]
        simp [ei, hj]
      generalize sumC 8 ((List.range i).map f) = S0 at *
      generalize sumC 8 xs = S1 at *
      generalize sumC 8 ys = S2 at *
      generalize sumC 8 zs = S3 at *
      have l0 : (n : Int) ≤ len0 := by omega
      clear hx3 hy3 hz3 RM RX' RY' RZ' bm hmlen hown hmn ei
      go_wp2
      have hpick := heq.out
      refine region_class (fun w' => Below wr.heap.size wr w') (by kernel_rfl) (by kernel_rfl) (Below.refl _ _).drew ?_
      repeat (first
        | go_big_quiet_step ((intro hb; first
          | (go_at_call 8; exact CA.out _ hb)
          | (go_at_call_of 15 u8; exact (C0.out _ hb).mono fun e w'' hh => ⟨hh.1, hh.2 ▸ hb⟩)
          | (go_at_call_of 15 (Value.slice a0 n cap0); exact (C1.out _ hb).mono fun e w'' hh => ⟨hh.1, hh.2 ▸ hb⟩)
          | (go_at_call_of 15 (Value.slice a1 n cap1); exact (C2.out _ hb).mono fun e w'' hh => ⟨hh.1, hh.2 ▸ hb⟩)
          | (go_at_call_of 15 (Value.slice a2 n cap2); exact (C3.out _ hb).mono fun e w'' hh => ⟨hh.1, hh.2 ▸ hb⟩)))
        | (refine wpQuiet_step (fun K hK => ?_); go_simp; refine ⟨_, fun _ _ => rfl, hK _ ?_⟩; clear hK K))
      refine wpQuiet_nil ?_
      intro w4 hb4
      go_wp2
      go_ret
      exact ⟨rfl, up hbel hb4⟩

/-! ### THE ROW's STEP: WRITTEN OUT: LEAVE IT -/
set_option maxRecDepth 100000 in
theorem lifted (os : Os) (started : os.Started) (H : Type) (enc : TypeId × Value → H) :
    ReturnsInHanded {} Try.checked os 6 .any (Rows.sumMixesSpec.pre6 enc Try.prog Try.f6 Rows.sumMixesRow.domain false) (Rows.sumMixesSpec.post enc Try.prog Try.f6 false true false false) := by
  refine returnsInHanded_of_change (C := Try.checked) own started (by kernel_rfl) Try.func6
    (ChangeSpec.witness6 (enc := enc) (C := Try.checked) false ⟨#[], #[.slice none 0 0, .slice none 0 0, .slice none 0 0], []⟩ 8 (by kernel_rfl) (by kernel_rfl) (by kernel_rfl) (by kernel_rfl)) ?_
  intro W base args ds gs before hval0 hW hcnd _
  have hval : ∀ (j : Nat) t v, Try.f6.params[j]? = some t → args[j]? = some v → Value.okWide Try.prog W .any base t v := hval0
  have hW' := hW
  obtain ⟨p, q, hA0, hV, rfl, hfz, hnd⟩ := hW
  have hA : DataW.TrodAll enc Try.prog W 0 (fun _ => true) true Try.f6.params.toList args.toList ds p := hA0
  rw [Try.params6] at hA hval
  obtain ⟨v0, vs0, d0, ds0, p0, q0, hargs, rfl, rfl, h0, r0⟩ := trodAll_cons hA
  obtain ⟨v1, vs1, d1, ds1, p1, q1, rfl, rfl, rfl, h1, r1⟩ := trodAll_cons r0
  obtain ⟨v2, vs2, d2, ds2, p2, q2, rfl, rfl, rfl, h2, r2⟩ := trodAll_cons r1
  obtain ⟨rfl, rfl, rfl⟩ := trodAll_nil r2
  obtain rfl : args = #[v0, v1, v2] := by cases args; simp_all
  obtain ⟨rfl, rfl⟩ := trodVars_none hV
  obtain ⟨a0, len0, cap0, rfl⟩ := okWide_slice Try.underlying30 (hval 0 30 v0 rfl rfl)
  have k0 := h0
  have lt0 : ∀ x ∈ p0, x.block < W.heap.size := by obtain ⟨m, hm⟩ := k0; exact DataW.trod_lt m _ _ _ hm
  obtain ⟨z0, w0⟩ : ∃ zs, IsRow .u8 W a0 len0 cap0 zs := by
    obtain ⟨fuel, hf⟩ := h0
    rcases open_ints Try.underlying30 Try.underlying5 (by kernel_rfl) hf with ⟨hcs, _⟩ | ⟨x, l, c, zs, hcs, _, hl, hm, hz, _, hcell, hwz⟩
    · simp [Value.cells] at hcs
      obtain ⟨rfl, rfl, rfl⟩ := hcs
      exact ⟨[], .inl ⟨rfl, rfl, rfl, rfl⟩⟩
    · simp [Value.cells] at hcs
      obtain ⟨rfl, rfl, rfl⟩ := hcs
      exact ⟨zs, .inr ⟨_, rfl, hl, hm, by simpa using hz, hcell, hwz⟩⟩
  obtain ⟨a1, len1, cap1, rfl⟩ := okWide_slice Try.underlying30 (hval 1 30 v1 rfl rfl)
  have k1 := h1
  have lt1 : ∀ x ∈ p1, x.block < W.heap.size := by obtain ⟨m, hm⟩ := k1; exact DataW.trod_lt m _ _ _ hm
  obtain ⟨z1, w1⟩ : ∃ zs, IsRow .u8 W a1 len1 cap1 zs := by
    obtain ⟨fuel, hf⟩ := h1
    rcases open_ints Try.underlying30 Try.underlying5 (by kernel_rfl) hf with ⟨hcs, _⟩ | ⟨x, l, c, zs, hcs, _, hl, hm, hz, _, hcell, hwz⟩
    · simp [Value.cells] at hcs
      obtain ⟨rfl, rfl, rfl⟩ := hcs
      exact ⟨[], .inl ⟨rfl, rfl, rfl, rfl⟩⟩
    · simp [Value.cells] at hcs
      obtain ⟨rfl, rfl, rfl⟩ := hcs
      exact ⟨zs, .inr ⟨_, rfl, hl, hm, by simpa using hz, hcell, hwz⟩⟩
  obtain ⟨a2, len2, cap2, rfl⟩ := okWide_slice Try.underlying30 (hval 2 30 v2 rfl rfl)
  have k2 := h2
  have lt2 : ∀ x ∈ p2, x.block < W.heap.size := by obtain ⟨m, hm⟩ := k2; exact DataW.trod_lt m _ _ _ hm
  obtain ⟨z2, w2⟩ : ∃ zs, IsRow .u8 W a2 len2 cap2 zs := by
    obtain ⟨fuel, hf⟩ := h2
    rcases open_ints Try.underlying30 Try.underlying5 (by kernel_rfl) hf with ⟨hcs, _⟩ | ⟨x, l, c, zs, hcs, _, hl, hm, hz, _, hcell, hwz⟩
    · simp [Value.cells] at hcs
      obtain ⟨rfl, rfl, rfl⟩ := hcs
      exact ⟨[], .inl ⟨rfl, rfl, rfl, rfl⟩⟩
    · simp [Value.cells] at hcs
      obtain ⟨rfl, rfl, rfl⟩ := hcs
      exact ⟨zs, .inr ⟨_, rfl, hl, hm, by simpa using hz, hcell, hwz⟩⟩
  clear hA0 hval0
  refine (walk a0 len0 cap0 z0 a1 len1 cap1 z1 a2 len2 cap2 z2 W w0 w1 w2).mono fun e W' ⟨he, bel⟩ => ?_
  subst he
  exact ⟨_, rfl, _, _, _, [], _, [], hW', trodAll_mk1 (shut_bool Try.underlying4 _), (trodAll_cons_mk (Below.trod laidOut (by kernel_rfl) (of_decide_eq_true (by kernel_rfl)) k0 bel lt0) (trodAll_cons_mk (Below.trod laidOut (by kernel_rfl) (of_decide_eq_true (by kernel_rfl)) k1 bel lt1) (trodAll_cons_mk (Below.trod laidOut (by kernel_rfl) (of_decide_eq_true (by kernel_rfl)) k2 bel lt2) trodAll_mk0))), rfl, bel.frame _, fun h => by cases h⟩

theorem over : Rows.sumMixesRow.holds Try.pinned (OpenSpec.ofChange Rows.sumMixesSpec) :=
  OpenClaim.holds_of_wide 6 Try.f6 rfl rfl rfl rfl rfl rfl rfl ⟨rfl, rfl, rfl, rfl, rfl⟩ rfl rfl rfl rfl rfl (by kernel_rfl) Try.func6 (by kernel_rfl)
    (of_decide_eq_true (by kernel_rfl)) (by unfold Func.isWrapper; first | (rw [if_pos (by decide +kernel)]; kernel_rfl) | (rw [if_neg (by decide +kernel)]; exact ⟨rfl, rfl⟩))
    (fun os started H enc _ => lifted os started H enc)

/-- ████ THE STATEMENT ████ -/
theorem proved : Rows.SumMixesSaid := over
#print axioms proved
end Go.Proofs.Ytmeablfcpejkiaa.sumMixes
