/- Contracts of the reference of sums: bits, divisor, Rest, Byte, Word, Bytes, Words: each answers the plain sum; nothing that was there is written. -/
import Derived.Test.YtpnmoajiigjlaaaSum
import Derived.Test.YtpnmoajiigjlaaaRest
import Derived.Deep.RegionWith
import Derived.BigRegion
namespace Go.Proofs.Ytpnmoajiigjlaaa
open Go.RowKit
set_option linter.unusedVariables false

theorem Try.infoI : (Try.prog.info? 3).map (fun i => (i.zero, i.size, i.bytes)) = some (some (.int .i64 0), 1, 8) := by kernel_rfl
theorem Try.infoB : (Try.prog.info? 5).map (fun i => (i.zero, i.size, i.bytes)) = some (some (.int .u8 0), 1, 1) := by kernel_rfl
theorem Own.row' {k : IntKind} {e : TypeId} {B : Nat} {w : World} {v : Value} {xs : List Int} (h : Own k e B w v xs) (hl : xs.length ≤ 140737488351232) : RowOf k w v xs := by
  rcases h.form with ⟨rfl, rfl⟩ | ⟨g, cap, rfl, _, hg, _, _, hc, _⟩
  · exact ⟨by simp, none, 0, rfl, fun h => absurd rfl h⟩
  · exact ⟨hl, _, cap, rfl, fun _ => ⟨g, 0, rfl, hg, fun i hi => by rw [Nat.zero_add]; exact hc i hi⟩⟩
/-- A row of the call's own, behind a call that writes nothing that was there. -/
theorem Own.under {k : IntKind} {e : TypeId} {B : Nat} {w w' : World} {v : Value} {xs : List Int} (h : Own k e B w v xs) (hb : Below w.heap.size w w') : Own k e B w' v xs := by
  refine ⟨h.1, ?_⟩
  rcases h.2 with hn | ⟨g, cap, cur, rfl, hB, hg, rest⟩
  · exact .inl hn
  · refine .inr ⟨g, cap, cur, rfl, hB, ?_, rest⟩
    rw [hb.block g (Array.getElem?_eq_some_iff.1 hg).1]
    exact hg

theorem rbits_any (v : Int) (hv : 0 ≤ v) (hv2 : v < 18446744073709551616) (n : Nat) (hn : n ≤ 1000) (w : World) :
    Calls Try.prog 23 #[.int .u64 v, .int .i64 n] w fun e w' => ∃ r, e = .returned r ∧ Own .i64 3 w.heap.size w' r (bl (bitsN v.toNat n)) ∧ Below w.heap.size w w' := by
  obtain ⟨u, rfl⟩ := Int.eq_ofNat_of_zero_le hv
  rw [Int.toNat_natCast]
  have hb : ∀ k : Nat, ((u : Int) / 2 ^ k) / 2 = (u : Int) / 2 ^ (k + 1) := fun k => by
    have e1 : (u : Int) / 2 ^ k = ((u / 2 ^ k : Nat) : Int) := by simp
    have e2 : (u : Int) / 2 ^ (k + 1) = ((u / 2 ^ (k + 1) : Nat) : Int) := by simp
    rw [e1, e2, Nat.pow_succ, ← Nat.div_div_eq_div_mul]
    rfl
  have HB := Lib.hid hb
  have hlt : ∀ k : Nat, (u : Int) / 2 ^ k < 18446744073709551616 := fun k => by
    have e1 : (u : Int) / 2 ^ k = ((u / 2 ^ k : Nat) : Int) := by simp
    have := Nat.div_le_self u (2 ^ k)
    omega
  have HLT := Lib.hid hlt
  clear hb hlt hv2
  obtain ⟨i0, hi0, hz0, hz1, hz2⟩ := info_parts Try.infoI
  have hs : Hid ((u : Int) = (u : Int) / 2 ^ 0) := by show _ = _; simp
  go_enter Try.func23, Try.ntmps23
  go_wp2
  go_loopw [0, 5, 6] (fun x o c wr => ∃ k : Nat, k ≤ n ∧ c = .int .i64 k ∧ x = .int .u64 ((u : Int) / 2 ^ k) ∧ Own .i64 3 w.heap.size wr o (bl (bitsN u k)) ∧ Below w.heap.size w wr) (fun _ _ c _ => n - (intOf c).toNat)
  case atStart => exact ⟨0, by omega, rfl, by rw [← hs.out], Own.nil _ _ _ _, Below.refl _ _⟩
  case round =>
    obtain ⟨k, hk, rfl, rfl, hown, hbel⟩ := hrel
    by_cases hltk : k < n
    · have hbit := Lib.hid (bit_val u k)
      have hdiv := Lib.hid (HB.out k)
      have hx0 : 0 ≤ (u : Int) / 2 ^ k := Int.ediv_nonneg (by omega) (Int.pow_nonneg (by decide))
      have hx1 := HLT.out k
      generalize (u : Int) / 2 ^ k = x at *
      have hlen : Hid ((bl (bitsN u k)).length = k) := by show _ = _; rw [bl_length, bitsN_length]
      have hxx : x / 4294967296 < 4294967296 := by omega
      clear hx1
      go_wp2_with (at_builtin; refine append_one _ rfl (.tmp 12) (.tmp 16) 53 rfl .i64 3 i0 8 w.heap.size Try.underlying53 hi0 hz0 hz1 hz2 _ _ _ rfl rfl hown ?c1 (by decide) ?c2 ?_)
      case c1 => rw [hlen.out]; omega
      case c2 => exact hbel.size
      intro v' w2 hown' hgr
      have hbel2 : Below w.heap.size w w2 := hown.below hbel hbel.size hgr
      clear hgr hown hbel
      go_wp2
      go_roundw
      case rel => exact ⟨k + 1, by omega, by go_num, by rw [hdiv.out], by rw [bitsN_succ, bl_snoc, ← hbit.out]; exact hown', hbel2⟩
      case measure => simp [intOf]; omega
    · have ek : k = n := by omega
      rw [ek] at hown
      clear ek
      go_wp2
      go_ret
      exact ⟨_, rfl, hown, hbel⟩

theorem rdivisor_any (w : World) :
    Calls Try.prog 26 #[] w fun e w' => ∃ r, e = .returned r ∧ Own .i64 3 w.heap.size w' r dlist ∧ Below w.heap.size w w' := by
  have hb := Lib.hid (rbits_any 2197175160 (by decide) (by decide) 32 (by decide) w)
  obtain ⟨i0, hi0, hz0, hz1, hz2⟩ := info_parts Try.infoI
  go_enter Try.func26, Try.ntmps26
  go_wp2_with (go_at_call 23; refine hb.out.mono ?_; rintro e w1 ⟨one, rfl, hone, hbel1⟩)
  have hone' : Own .i64 3 w.heap.size w1 one (bl (bitsN 2197175160 32)) := hone
  go_loopw [2, 3] (fun o c wr => ∃ k : Nat, k ≤ 32 ∧ c = .int .i64 k ∧ Own .i64 3 w.heap.size wr o (1 :: bl (bitsN 2197175160 k)) ∧ Own .i64 3 w.heap.size wr one (bl (bitsN 2197175160 32)) ∧ Apart one o ∧ Below w.heap.size w wr) (fun _ c _ => 32 - (intOf c).toNat)
  case atStart =>
    refine ⟨0, by omega, rfl, ?_, World.ownsRow.alloc hone' _, ?_, hbel1.alloc hbel1.size _⟩
    · exact World.ownsRow_lit w1 #[.int .i64 1] 1 hbel1.size (by decide) rfl
    · intro g hg
      have := (World.ownsRow.lt hone' g hg).2
      simp [Value.ownBlock]
      omega
  case round =>
    obtain ⟨k, hk, rfl, hown, hon, hap, hbel⟩ := hrel
    by_cases hltk : k < 32
    · rcases hon.form with ⟨_, h0⟩ | ⟨g, cap, rfl, hBg, hg, hcap, hmax, hc, hf⟩
      · exfalso
        have := congrArg List.length h0
        rw [bl_length, bitsN_length] at this
        simp at this
      · rw [bl_length, bitsN_length] at hc
        have hck := hc k hltk
        have hxk : Hid ((bl (bitsN 2197175160 32)).getD k 0 = bi (Nat.testBit 2197175160 k)) := by
          show _ = _
          rw [bl_get, List.getD_eq_getElem?_getD, bitsN_get _ _ _ hltk]
          rfl
        generalize (bl (bitsN 2197175160 32)).getD k 0 = x at *
        have hlen : Hid ((1 :: bl (bitsN 2197175160 k)).length = k + 1) := by show _ = _; rw [List.length_cons, bl_length, bitsN_length]
        have hll : Hid ((bl (bitsN 2197175160 32)).length = 32) := by show _ = _; rw [bl_length, bitsN_length]
        rw [hll.out] at hon hap hcap ⊢
        clear hc hf hone hone'
        go_wp2_with (at_builtin; refine append_one _ rfl (.tmp 10) (.tmp 15) 53 rfl .i64 3 i0 8 w.heap.size Try.underlying53 hi0 hz0 hz1 hz2 _ _ _ rfl rfl hown ?c1 (by decide) ?c2 ?_)
        case c1 => rw [hlen.out]; omega
        case c2 => exact hbel.size
        intro v' w2 hown' hgr
        have hbel2 : Below w.heap.size w w2 := hown.below hbel hbel.size hgr
        have hk2 := hon.keep hgr hap
        clear hgr hown hbel hck hon hap
        go_wp2
        go_roundw
        case rel => exact ⟨k + 1, by omega, by go_num, by rw [bitsN_succ, bl_snoc, ← hxk.out]; exact hown', hk2.1, hk2.2, hbel2⟩
        case measure => simp [intOf]; omega
    · have ek : k = 32 := by omega
      rw [ek] at hown
      clear ek hone hone' hon hap
      go_wp2
      go_ret
      exact ⟨_, rfl, hown, hbel⟩
end Go.Proofs.Ytpnmoajiigjlaaa
