/- Contracts of the reference's Byte, Word, Bytes, Words: each answers the plain sum; nothing that was there is written. -/
import Derived.Test.YtpnmoajiigjlaaaRefRest
namespace Go.Proofs.Ytpnmoajiigjlaaa
open Go.RowKit
set_option linter.unusedVariables false


set_option maxHeartbeats 1000000 in
theorem rbytes_any (v : Value) (xs : List Int) (w : World) (hr : RowOf .u8 w v xs) (hx : ∀ x ∈ xs, 0 ≤ x ∧ x < 256) (hlx : xs.length ≤ 1000) :
    Calls Try.prog 19 #[v] w fun e w' => e = .returned (.int .u32 (sumC 8 xs)) ∧ Below w.heap.size w w' := by
  obtain ⟨hd, a, cap, rfl, hc⟩ := hr
  obtain ⟨n, hn⟩ : ∃ n, n = xs.length := ⟨_, rfl⟩
  rw [← hn] at hc hlx ⊢
  have HN := Lib.hid hn
  have BX := Lib.hid hx
  clear hn hx hd
  obtain ⟨i0, hi0, hz0, hz1, hz2⟩ := info_parts Try.infoI
  go_enter Try.func19, Try.ntmps19
  go_wp2
  go_loopw [3, 4] (fun o c wr => ∃ i : Nat, i ≤ n ∧ c = .int .i64 i ∧ Own .i64 3 w.heap.size wr o (bl (bitsOf 8 (xs.take i))) ∧ Below w.heap.size w wr) (fun _ c _ => n - (intOf c).toNat)
  case atStart => exact ⟨0, by omega, rfl, Own.nil _ _ _ _, Below.refl _ _⟩
  case round =>
    obtain ⟨i, hi, rfl, hown, hbel⟩ := hrel
    by_cases hlt : i < n
    · obtain ⟨g, off, rfl, hg, hcell⟩ := hc (by intro h; have h2 := congrArg List.length h; rw [← HN.out] at h2; simp at h2; omega)
      have hk1 := (hbel.cell (p := ⟨g, off + i, none⟩) hg).trans (hcell i hlt)
      have hbx := BX.out (xs.getD i 0) (by rw [List.getD_eq_getElem?_getD, List.getElem?_eq_getElem (by rw [← HN.out]; exact hlt)]; exact List.getElem_mem _)
      have hsn := Lib.hid (take_next xs i (by rw [← HN.out]; exact hlt))
      generalize xs.getD i 0 = x at *
      obtain ⟨b1, b2⟩ := hbx
      have hB := Lib.hid (fun w => rbits_any x b1 (by omega) 8 (by decide) w)
      obtain ⟨wo, rfl⟩ : ∃ wo, wo = wr := ⟨_, rfl⟩
      clear hc hcell
      go_wp2_with (go_at_call 23; refine (hB.out _).mono ?_; rintro e w1 ⟨r, rfl, hr1, hb1⟩)
      have hownW := hown.under hb1
      have hbelW : Below w.heap.size w w1 := hbel.trans (hb1.mono hbel.size)
      have hlt8 := World.ownsRow.lt hown
      rcases hr1.form with ⟨_, h0⟩ | ⟨g2, cap2, rfl, hBg2, _, hcap2, hmax2, _, _⟩
      · exfalso
        have h2 := congrArg List.length h0
        rw [bl_length, bitsN_length] at h2
        simp at h2
      · rw [bl_length, bitsN_length] at hr1 hcap2 ⊢
        have hr2 : Own .i64 3 w.heap.size w1 (.slice (some ⟨g2, 0, none⟩) 8 cap2) (bl (bitsN x.toNat 8)) := World.ownsRow.mono' hr1 hbel.size
        have hap : Apart (.slice (some ⟨g2, 0, none⟩) 8 cap2) u3 := fun z hz hy => by
          have := (hlt8 z hy).2
          simp [Value.ownBlock] at hz
          omega
        have hlb : Hid (∀ k, (bl (bitsOf 8 (xs.take i) ++ bitsN x.toNat k)).length ≤ 8000 + k) := fun k => by
          rw [bl_length, List.length_append, bitsOf_length, bitsN_length, List.length_take]
          omega
        clear hr1 hb1 hown hbel hlt8 hBg2 hk1 hg
        have hownW2 : Own .i64 3 w.heap.size w1 u3 (bl (bitsOf 8 (xs.take i) ++ bitsN x.toNat 0)) := by rw [bitsN_zero, List.append_nil]; exact hownW
        clear hownW
        go_loopw [3, 6] (fun o c wr => ∃ k : Nat, k ≤ 8 ∧ c = .int .i64 k ∧ Own .i64 3 w.heap.size wr o (bl (bitsOf 8 (xs.take i) ++ bitsN x.toNat k)) ∧ Own .i64 3 w.heap.size wr (.slice (some ⟨g2, 0, none⟩) 8 cap2) (bl (bitsN x.toNat 8)) ∧ Apart (.slice (some ⟨g2, 0, none⟩) 8 cap2) o ∧ Below w.heap.size w wr) (fun _ c _ => 8 - (intOf c).toNat)
        case atStart => exact ⟨0, by omega, rfl, hownW2, hr2, hap, hbelW⟩
        case round =>
          clear hownW2 hr2 hap hbelW
          obtain ⟨k, hk, rfl, hown, hrr, hap, hbel⟩ := hrel
          by_cases hlt2 : k < 8
          · have ky := (hrr.at' (by rw [bl_length, bitsN_length]) k hlt2).1
            rw [bl_get, List.getD_eq_getElem?_getD, bitsN_get _ _ _ hlt2] at ky
            simp only [Option.getD_some] at ky
            have hbs : Hid (bl (bitsOf 8 (xs.take i) ++ bitsN x.toNat (k + 1)) = bl (bitsOf 8 (xs.take i) ++ bitsN x.toNat k) ++ [bi (x.toNat.testBit k)]) := by
              show _ = _
              rw [bitsN_succ, ← List.append_assoc, bl_snoc]
            generalize bi (x.toNat.testBit k) = y at *
            go_wp2_with (at_builtin; refine append_one _ rfl (.tmp 23) (.tmp 28) 53 rfl .i64 3 i0 8 w.heap.size Try.underlying53 hi0 hz0 hz1 hz2 _ _ _ rfl rfl hown ?c1 (by decide) ?c2 ?_)
            case c1 => have := hlb.out k; omega
            case c2 => exact hbel.size
            intro v' w2 hown' hgr
            have hbel2 : Below w.heap.size w w2 := hown.below hbel hbel.size hgr
            have hk2 := hrr.keep hgr hap
            clear hgr hown hbel ky hrr hap
            go_wp2
            go_roundw
            case rel => exact ⟨k + 1, by omega, by go_num, by rw [hbs.out]; exact hown', hk2.1, hk2.2, hbel2⟩
            case measure => simp [intOf]; omega
          · have ek : k = 8 := by omega
            rw [ek, ← bitsOf_snoc, ← hsn.out] at hown
            clear ek hrr hap
            go_wp2
            go_roundw
            case rel => exact ⟨i + 1, by omega, by go_num, hown, hbel⟩
            case measure => simp [intOf]; omega
    · have ei : xs.take i = xs := List.take_of_length_le (by rw [← HN.out]; omega)
      rw [ei] at hown
      have hR := Lib.hid (rest_any ones (bitsOf 8 xs) _ wr (hown.row' (by rw [bl_length, bitsOf_length, ← HN.out]; omega)) (by rw [bitsOf_length, ← HN.out]; omega))
      have hones : Hid ((ones.toNat : Int) = 4294967295) := rfl
      rw [hones.out] at hR
      have hfin : Hid (4294967295 - ((runC ones (bitsOf 8 xs)).toNat : Int) = sumC 8 xs) := (notC_val _).symm
      have hb := (runC ones (bitsOf 8 xs)).isLt
      have hb2 : ((runC ones (bitsOf 8 xs)).toNat : Int) < 4294967296 := by omega
      have hb3 : 0 ≤ ((runC ones (bitsOf 8 xs)).toNat : Int) := by omega
      clear ei hown hc hb
      generalize ((runC ones (bitsOf 8 xs)).toNat : Int) = R at *
      go_wp2_with (go_at_call 24; refine hR.out.mono ?_; rintro e w2 ⟨rfl, hb2⟩)
      go_ret
      exact ⟨ret_int hfin.out, up hbel hb2⟩

/-- A word's first k bytes. -/
def wbytes (x : Int) (k : Nat) : List Int := (List.range k).map fun j => x / 256 ^ j % 256
theorem wbytes_succ (x : Int) (k : Nat) : wbytes x (k + 1) = wbytes x k ++ [x / 256 ^ k % 256] := by simp [wbytes, List.range_succ]
theorem wbytes_length (x : Int) (k : Nat) : (wbytes x k).length = k := by simp [wbytes]
theorem wbytes_bits (x : Int) (h : 0 ≤ x) (k : Nat) : bitsOf 8 (wbytes x k) = bitsN x.toNat (8 * k) := by
  obtain ⟨u, rfl⟩ := Int.eq_ofNat_of_zero_le h
  rw [Int.toNat_natCast]
  induction k with
  | zero => rfl
  | succ k ih =>
    have e : ((u : Int) / 256 ^ k % 256).toNat = u / 2 ^ (8 * k) % 2 ^ 8 := by
      have e2 : (u : Int) / 256 ^ k % 256 = ((u / 256 ^ k % 256 : Nat) : Int) := by simp
      rw [e2, Int.toNat_natCast, Nat.pow_mul]
    rw [wbytes_succ, bitsOf_snoc, ih, e, bitsN_mod, ← bitsN_append]
    rfl
theorem wbytes_bd (x : Int) (k : Nat) : ∀ y ∈ wbytes x k, 0 ≤ y ∧ y < 256 := by
  intro y hy
  obtain ⟨j, _, rfl⟩ := List.mem_map.1 hy
  omega
def allBytes (ws : List Int) : List Int := ws.flatMap fun x => wbytes x 8
theorem allBytes_snoc (ws : List Int) (x : Int) : allBytes (ws ++ [x]) = allBytes ws ++ wbytes x 8 := by simp [allBytes]
theorem allBytes_bits (ws : List Int) (h : ∀ x ∈ ws, 0 ≤ x) : bitsOf 8 (allBytes ws) = bitsOf 64 ws := by
  induction ws with
  | nil => rfl
  | cons x ws ih =>
    have e1 : allBytes (x :: ws) = wbytes x 8 ++ allBytes ws := by simp [allBytes]
    have e2 : bitsOf 64 (x :: ws) = bitsN x.toNat 64 ++ bitsOf 64 ws := by simp [bitsOf]
    rw [e1, e2, bitsOf_append, wbytes_bits x (h x (by simp)), ih (fun y hy => h y (by simp [hy]))]
theorem allBytes_length (ws : List Int) : (allBytes ws).length = 8 * ws.length := by
  induction ws with
  | nil => rfl
  | cons x ws ih =>
    have e1 : allBytes (x :: ws) = wbytes x 8 ++ allBytes ws := by simp [allBytes]
    rw [e1, List.length_append, ih, wbytes_length, List.length_cons]
    omega
theorem allBytes_bd (ws : List Int) : ∀ y ∈ allBytes ws, 0 ≤ y ∧ y < 256 := by
  intro y hy
  obtain ⟨x, _, h⟩ := List.mem_flatMap.1 hy
  exact wbytes_bd x 8 y h

set_option maxHeartbeats 1000000 in
theorem rwords_any (v : Value) (ws : List Int) (w : World) (hr : RowOf .u64 w v ws) (hx : ∀ x ∈ ws, 0 ≤ x ∧ x < 18446744073709551616) (hlx : ws.length ≤ 100) :
    Calls Try.prog 16 #[v] w fun e w' => e = .returned (.int .u32 (sumC 64 ws)) ∧ Below w.heap.size w w' := by
  obtain ⟨hd, a, cap, rfl, hc⟩ := hr
  obtain ⟨n, hn⟩ : ∃ n, n = ws.length := ⟨_, rfl⟩
  rw [← hn] at hc hlx ⊢
  have HN := Lib.hid hn
  have BX := Lib.hid hx
  clear hn hx hd
  obtain ⟨i0, hi0, hz0, hz1, hz2⟩ := info_parts Try.infoB
  go_enter Try.func16, Try.ntmps16
  go_wp2
  go_loopw [3, 4] (fun o c wr => ∃ i : Nat, i ≤ n ∧ c = .int .i64 i ∧ Own .u8 5 w.heap.size wr o (allBytes (ws.take i)) ∧ Below w.heap.size w wr) (fun _ c _ => n - (intOf c).toNat)
  case atStart => exact ⟨0, by omega, rfl, Own.nil _ _ _ _, Below.refl _ _⟩
  case round =>
    obtain ⟨i, hi, rfl, hown, hbel⟩ := hrel
    by_cases hlt : i < n
    · obtain ⟨g, off, rfl, hg, hcell⟩ := hc (by intro h; have h2 := congrArg List.length h; rw [← HN.out] at h2; simp at h2; omega)
      have hk1 := (hbel.cell (p := ⟨g, off + i, none⟩) hg).trans (hcell i hlt)
      have hbx := BX.out (ws.getD i 0) (by rw [List.getD_eq_getElem?_getD, List.getElem?_eq_getElem (by rw [← HN.out]; exact hlt)]; exact List.getElem_mem _)
      have hsn := Lib.hid (take_next ws i (by rw [← HN.out]; exact hlt))
      generalize ws.getD i 0 = x at *
      obtain ⟨b1, b2⟩ := hbx
      have hdiv : ∀ k : Nat, (x / 256 ^ k) / 256 = x / 256 ^ (k + 1) := fun k => by rw [Int.pow_succ, Int.ediv_ediv_of_nonneg (Int.pow_nonneg (by decide))]
      have HD := Lib.hid hdiv
      have hbd : ∀ k : Nat, 0 ≤ x / 256 ^ k ∧ x / 256 ^ k < 18446744073709551616 := fun k => by
        have h1 : (0 : Int) ≤ 256 ^ k := Int.pow_nonneg (by decide)
        exact ⟨Int.ediv_nonneg b1 h1, Int.lt_of_le_of_lt (Int.ediv_le_self _ b1) b2⟩
      have HBD := Lib.hid hbd
      obtain ⟨wo, rfl⟩ : ∃ wo, wo = wr := ⟨_, rfl⟩
      have hx0 : Hid (x = x / 256 ^ 0) := by show _ = _; simp
      have hlen : Hid ((allBytes (ws.take i)).length ≤ 800) := by
        show _ ≤ _
        rw [allBytes_length, List.length_take]
        omega
      clear hc hcell hdiv hbd b1 b2
      go_wp2
      have hown0 : Own .u8 5 w.heap.size wo u3 (allBytes (ws.take i) ++ wbytes x 0) := by
        rw [show wbytes x 0 = [] from rfl, List.append_nil]
        exact hown
      clear hown
      go_loopw [3, 5, 6] (fun o y c wr => ∃ k : Nat, k ≤ 8 ∧ c = .int .i64 k ∧ y = .int .u64 (x / 256 ^ k) ∧ Own .u8 5 w.heap.size wr o (allBytes (ws.take i) ++ wbytes x k) ∧ Below w.heap.size w wr) (fun _ _ c _ => 8 - (intOf c).toNat)
      case atStart => exact ⟨0, by omega, rfl, by rw [← hx0.out], hown0, hbel⟩
      case round =>
        clear hown0 hbel
        obtain ⟨k, hk, rfl, rfl, hown, hbel⟩ := hrel
        by_cases hlt2 : k < 8
        · have hws := Lib.hid (wbytes_succ x k)
          have hdk := Lib.hid (HD.out k)
          obtain ⟨c1, c2⟩ := HBD.out k
          generalize x / 256 ^ k = y at *
          have c3 : y / 4294967296 < 4294967296 := by omega
          clear c2
          go_wp2_with (at_builtin; refine append_one _ rfl (.tmp 21) (.tmp 25) 48 rfl .u8 5 i0 1 w.heap.size Try.underlying48 hi0 hz0 hz1 hz2 _ _ _ rfl rfl hown ?c1 (by decide) ?c2 ?_)
          case c1 => rw [List.length_append, wbytes_length]; have := hlen.out; omega
          case c2 => exact hbel.size
          intro v' w2 hown' hgr
          have hbel2 : Below w.heap.size w w2 := hown.below hbel hbel.size hgr
          clear hgr hown hbel
          go_wp2
          go_roundw
          case rel => exact ⟨k + 1, by omega, by go_num, by rw [hdk.out], by rw [hws.out, ← List.append_assoc]; first | exact hown' | (rw [List.append_assoc]; exact hown'), hbel2⟩
          case measure => simp [intOf]; omega
        · have ek : k = 8 := by omega
          rw [ek, ← allBytes_snoc, ← hsn.out] at hown
          clear ek
          go_wp2
          go_roundw
          case rel => exact ⟨i + 1, by omega, by go_num, hown, hbel⟩
          case measure => simp [intOf]; omega
    · have ei : ws.take i = ws := List.take_of_length_le (by rw [← HN.out]; omega)
      rw [ei] at hown
      have hR := rbytes_any _ (allBytes ws) wr (hown.row' (by rw [allBytes_length, ← HN.out]; omega)) (allBytes_bd ws) (by rw [allBytes_length, ← HN.out]; omega)
      rw [show sumC 8 (allBytes ws) = sumC 64 ws from by unfold sumC; rw [allBytes_bits ws (fun x hx => (BX.out x hx).1)]] at hR
      have HR := Lib.hid hR
      clear ei hown hc hR
      go_wp2_with (go_at_call 19; refine HR.out.mono ?_; rintro e w2 ⟨rfl, hb2⟩)
      go_ret
      exact ⟨ret_int rfl, up hbel hb2⟩
end Go.Proofs.Ytpnmoajiigjlaaa
