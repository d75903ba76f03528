/- The contract of the reference's Rest: what is left by the polynomial is the state that the bits lead to. -/
import Derived.Test.YtpnmoajiigjlaaaRef
namespace Go.Proofs.Ytpnmoajiigjlaaa
open Go.RowKit
set_option linter.unusedVariables false

theorem Own.at' {k : IntKind} {e : TypeId} {B g n cap : Nat} {w : World} {xs : List Int} (h : Own k e B w (.slice (some ⟨g, 0, none⟩) n cap) xs) (hn : n = xs.length) (j : Nat) (hj : j < n) :
    w.cell? ⟨g, j, none⟩ = some (.int k (xs.getD j 0)) ∧ w.frozen? ⟨g, j, none⟩ = false := by
  subst hn
  refine ⟨?_, World.ownsRow.frozenAt h j⟩
  rw [World.ownsRow.cellAt h j (by omega)]
  simp [hj]
set_option maxHeartbeats 4000000 in
set_option maxRecDepth 100000 in
theorem rest_any (s : BitVec 32) (l : List Bool) (v : Value) (w : World) (hr : RowOf .i64 w v (bl l)) (hl : l.length ≤ 100000) :
    Calls Try.prog 24 #[.int .u32 (s.toNat : Int), v] w fun e w' => e = .returned (.int .u32 ((runC s l).toNat : Int)) ∧ Below w.heap.size w w' := by
  obtain ⟨hd, a, cap, hv, hc⟩ := hr
  rw [bl_length] at hv hc
  subst hv
  obtain ⟨n, hn⟩ : ∃ n, n = l.length := ⟨_, rfl⟩
  rw [← hn] at hl hc ⊢
  have HN := Lib.hid hn
  have hB0 : ∀ w, Calls Try.prog 23 #[.int .u64 (s.toNat : Int), .int .i64 32] w fun e w' => ∃ r, e = .returned r ∧ Own .i64 3 w.heap.size w' r (bl (bitsN s.toNat 32)) ∧ Below w.heap.size w w' := fun w => rbits_any (s.toNat : Int) (by omega) (by have := s.isLt; omega) 32 (by decide) w
  have hst : (s.toNat : Int) < 4294967296 := by have := s.isLt; omega
  have hst0 : (0 : Int) ≤ s.toNat := by omega
  generalize (s.toNat : Int) = S at *
  have hB := Lib.hid hB0
  clear hB0
  have hD := Lib.hid rdivisor_any
  clear hn hd
  obtain ⟨i0, hi0, hz0, hz1, hz2⟩ := info_parts Try.infoI
  go_enter Try.func24, Try.ntmps24
  go_wp2
  go_loopw [5, 6] (fun o c wr => ∃ k : Nat, k ≤ n ∧ c = .int .i64 k ∧ Own .i64 3 w.heap.size wr o (bl (l.take k)) ∧ Below w.heap.size w wr) (fun _ c _ => n - (intOf c).toNat)
  case atStart => exact ⟨0, by omega, rfl, Own.nil _ _ _ _, Below.refl _ _⟩
  case round =>
    obtain ⟨k, hk, rfl, hown, hbel⟩ := hrel
    by_cases hlt : k < n
    · obtain ⟨g, off, rfl, hg, hcell⟩ := hc (by intro h; have h2 := congrArg List.length h; rw [bl_length, ← HN.out] at h2; simp at h2; omega)
      have hk1 := (hbel.cell (p := ⟨g, off + k, none⟩) hg).trans (hcell k hlt)
      have hx : Hid ((bl l).getD k 0 = bi (l.getD k false)) := bl_get _ _
      generalize (bl l).getD k 0 = x at *
      have hlen : Hid ((bl (l.take k)).length ≤ k) := by show _ ≤ _; rw [bl_length]; exact List.length_take_le _ _
      clear hc hcell
      go_wp2_with (at_builtin; refine append_one _ rfl (.tmp 21) (.tmp 26) 53 rfl .i64 3 i0 8 w.heap.size Try.underlying53 hi0 hz0 hz1 hz2 _ _ _ rfl rfl hown ?c1 (by decide) ?c2 ?_)
      case c1 => have := hlen.out; omega
      case c2 => exact hbel.size
      intro v' w2 hown' hgr
      have hbel2 : Below w.heap.size w w2 := hown.below hbel hbel.size hgr
      clear hgr hown hbel hk1
      go_wp2
      go_roundw
      case rel => exact ⟨k + 1, by omega, by go_num, by rw [take_succ_bool l k (by rw [← HN.out]; exact hlt), bl_snoc, ← hx.out]; exact hown', hbel2⟩
      case measure => simp [intOf]; omega
    · have e9 : l.take k = l := List.take_of_length_le (by rw [← HN.out]; omega)
      have hown0 : Own .i64 3 w.heap.size wr u5 (bl l ++ List.replicate 0 0) := by rw [e9] at hown; simpa using hown
      clear e9 hown hc
      go_wp2
      clear hlt hk
      go_loopw [5, 7] (fun o c w1 => ∃ j : Nat, j ≤ 32 ∧ c = .int .i64 j ∧ Own .i64 3 w.heap.size w1 o (bl l ++ List.replicate j 0) ∧ Below w.heap.size w w1) (fun _ c _ => 32 - (intOf c).toNat)
      case atStart => exact ⟨0, by omega, rfl, hown0, hbel⟩
      case round =>
        clear hown0 hbel
        obtain ⟨j, hj, rfl, hown, hbel⟩ := hrel
        by_cases hlt2 : j < 32
        · have hlen : Hid ((bl l ++ List.replicate j 0).length = n + j) := by show _ = _; rw [List.length_append, bl_length, ← HN.out, List.length_replicate]
          go_wp2_with (at_builtin; refine append_one _ rfl (.tmp 32) (.tmp 33) 53 rfl .i64 3 i0 8 w.heap.size Try.underlying53 hi0 hz0 hz1 hz2 _ _ _ rfl rfl hown ?d1 (by decide) ?d2 ?_)
          case d1 => rw [hlen.out]; omega
          case d2 => exact hbel.size
          intro v' w2 hown' hgr
          have hbel2 : Below w.heap.size w w2 := hown.below hbel hbel.size hgr
          clear hgr hown hbel
          go_wp2
          go_roundw
          case rel => exact ⟨j + 1, by omega, by go_num, by rw [List.replicate_succ', ← List.append_assoc]; first | exact hown' | (rw [List.append_assoc]; exact hown'), hbel2⟩
          case measure => simp [intOf]; omega
        · have ej : j = 32 := by omega
          rw [ej, rowF_of_list, ← HN.out] at hown
          have hown0 : Own .i64 3 w.heap.size wr u5 (rowF (n + 32) (turned s l 0)) := by
            rw [show turned s l 0 = fun j => l.getD j false from funext fun j => turned_zero s l j]
            exact hown
          clear hown ej
          obtain ⟨N, hN⟩ : ∃ N, N = n + 32 := ⟨_, rfl⟩
          rw [← hN] at hown0
          have HNN := Lib.hid hN
          have hN1 : n + 32 ≤ N := by omega
          have hN2 : N ≤ n + 32 := by omega
          clear hN
          rcases hown0.form with ⟨_, h0⟩ | ⟨g, capA, rfl, hBg, hg, hcap, hmax, _, _⟩
          · exfalso
            have h2 := congrArg List.length h0
            rw [rowF_length] at h2
            simp at h2
            omega
          · rw [rowF_length] at hown0 hcap ⊢
            go_wp2_with (go_at_call 23; refine (hB.out _).mono ?_; rintro e w3 ⟨sv, rfl, hsv, hb3⟩)
            have hownW : Own .i64 3 w.heap.size w3 (.slice (some ⟨g, 0, none⟩) N capA) (rowF N (turned s l 0)) := hown0.under hb3
            have hbel3 : Below w.heap.size w w3 := hbel.trans (hb3.mono hbel.size)
            rcases hsv.form with ⟨_, h0⟩ | ⟨g2, cap2, rfl, hBg2, hg2, hcap2, hmax2, hc2, _⟩
            · exfalso
              have h2 := congrArg List.length h0
              rw [bl_length, bitsN_length] at h2
              simp at h2
            · rw [bl_length, bitsN_length] at hsv hcap2 hc2 ⊢
              have hsvW : Own .i64 3 w.heap.size w3 (.slice (some ⟨g2, 0, none⟩) 32 cap2) (bl (bitsN s.toNat 32)) := World.ownsRow.mono' hsv hbel.size
              have hgg : g < g2 := by omega
              have hap : Apart (.slice (some ⟨g2, 0, none⟩) 32 cap2) (.slice (some ⟨g, 0, none⟩) N capA) := fun x hx hy => by
                simp [Value.ownBlock] at hx hy
                omega
              have HAP := Lib.hid hap
              clear hsv hb3 hown0 hbel hap hc2 hBg2 hg2 hg
              go_loopw [9] (fun c w4 => ∃ j : Nat, j ≤ 32 ∧ c = .int .i64 j ∧ Own .i64 3 w.heap.size w4 (.slice (some ⟨g, 0, none⟩) N capA) (rowF N (turned s l j)) ∧ Own .i64 3 w.heap.size w4 (.slice (some ⟨g2, 0, none⟩) 32 cap2) (bl (bitsN s.toNat 32)) ∧ Below w.heap.size w w4) (fun c _ => 32 - (intOf c).toNat)
              case atStart => exact ⟨0, by omega, rfl, hownW, hsvW, hbel3⟩
              case round =>
                clear hownW hsvW hbel3
                obtain ⟨q, hq, rfl, hown, hsv, hbel⟩ := hrel
                by_cases hlt3 : q < 32
                · obtain ⟨ka, kf⟩ := hown.at' (rowF_length N _).symm q (by omega)
                  rw [rowF_get N _ q (by omega)] at ka
                  have ks := (hsv.at' (by rw [bl_length, bitsN_length]) q hlt3).1
                  rw [bl_get, List.getD_eq_getElem?_getD, bitsN_get _ _ _ hlt3] at ks
                  simp only [Option.getD_some] at ks
                  have b1 := bi_bd (turned s l q q)
                  have b2 := bi_bd (s.toNat.testBit q)
                  have hst := hown.stored (rowF_length N _).symm q (bi (turned s l q q ^^ s.getLsbD q))
                  rw [rowF_set, show (fun j => if j = q then (turned s l q q ^^ s.getLsbD q) else turned s l q j) = turned s l (q + 1) from funext fun j => turned_succ s l q j, ← show (bi (turned s l q q) + bi (s.toNat.testBit q)) % 2 = bi (turned s l q q ^^ s.getLsbD q) from bi_xor _ _] at hst
                  have hk2 := hsv.keep hst.2 HAP.out
                  have hb2 := hown.below hbel hbel.size hst.2
                  have H1 := Lib.hid hst.1
                  have H2 := Lib.hid hk2.1
                  have H3 := Lib.hid hb2
                  obtain ⟨c1, c2⟩ := b1
                  obtain ⟨c3, c4⟩ := b2
                  generalize bi (turned s l q q) = x at *
                  generalize bi (s.toNat.testBit q) = y at *
                  clear hst hk2 hb2 hown hsv hbel
                  go_wp2
                  go_region
                  all_goals
                    go_wp2
                    go_roundw
                    case rel => exact ⟨q + 1, by omega, by go_num, H1.out, H2.out, H3.out.drew⟩
                    case measure => simp [intOf]; omega
                · have eq2 : q = 32 := by omega
                  rw [eq2, show turned s l 32 = placeA s l 0 from funext fun j => turned_all s l j] at hown
                  clear eq2 hsv
                  go_wp2_with (go_at_call 26; refine (hD.out _).mono ?_; rintro e w5 ⟨dv, rfl, hdv, hb5⟩)
                  have hownW : Own .i64 3 w.heap.size w5 (.slice (some ⟨g, 0, none⟩) N capA) (rowF N (placeA s l 0)) := hown.under hb5
                  have hbel5 : Below w.heap.size w w5 := hbel.trans (hb5.mono hbel.size)
                  have hgw : g < wr.heap.size := (World.ownsRow.lt hown g rfl).2
                  rcases hdv.form with ⟨_, h0⟩ | ⟨g3, cap3, rfl, hBg3, _, hcap3, hmax3, _, _⟩
                  · exfalso
                    have h2 := congrArg List.length h0
                    simp [dlist] at h2
                  · have hdl : dlist.length = 33 := by unfold dlist; rw [List.length_cons, bl_length, bitsN_length]
                    rw [hdl] at hdv hcap3 ⊢
                    have hdvW : Own .i64 3 w.heap.size w5 (.slice (some ⟨g3, 0, none⟩) 33 cap3) dlist := World.ownsRow.mono' hdv hbel.size
                    have hap : Apart (.slice (some ⟨g3, 0, none⟩) 33 cap3) (.slice (some ⟨g, 0, none⟩) N capA) := fun x hx hy => by
                      simp [Value.ownBlock] at hx hy
                      omega
                    have HAP2 := Lib.hid hap
                    have HDL := Lib.hid hdl
                    clear hdv hb5 hown hbel hap hBg3 hgw hdl HAP hcap2 hmax2 hgg
                    go_loopw [11] (fun c w4 => ∃ i : Nat, i ≤ n ∧ c = .int .i64 i ∧ Own .i64 3 w.heap.size w4 (.slice (some ⟨g, 0, none⟩) N capA) (rowF N (placeA s l i)) ∧ Own .i64 3 w.heap.size w4 (.slice (some ⟨g3, 0, none⟩) 33 cap3) dlist ∧ Below w.heap.size w w4) (fun c _ => n - (intOf c).toNat)
                    case atStart => exact ⟨0, by omega, rfl, hownW, hdvW, hbel5⟩
                    case round =>
                      clear hownW hdvW hbel5
                      obtain ⟨i, hi, rfl, hown, hdv, hbel⟩ := hrel
                      by_cases hlt4 : i < n
                      · obtain ⟨wo, rfl⟩ : ∃ wo, wo = wr := ⟨_, rfl⟩
                        have HI := Lib.hid hlt4
                        cases hkept : placeA s l i i
                        · go_wp2
                          go_loopw [12] (fun c w4 => c = .int .i64 0 ∧ Own .i64 3 w.heap.size w4 (.slice (some ⟨g, 0, none⟩) N capA) (rowF N (placeA s l i)) ∧ Own .i64 3 w.heap.size w4 (.slice (some ⟨g3, 0, none⟩) 33 cap3) dlist ∧ Below w.heap.size w w4) (fun c _ => 0)
                          case atStart => exact ⟨rfl, hown, hdv, hbel⟩
                          case round =>
                            clear hown hdv hbel
                            obtain ⟨rfl, hown, hdv, hbel⟩ := hrel
                            have ka := (hown.at' (rowF_length N _).symm i (by omega)).1
                            rw [rowF_get N _ i (by omega), hkept, show bi false = 0 from rfl] at ka
                            rw [rowF_congr N _ _ (fun j _ => round_no s l i (by rw [← HN.out]; exact hlt4) hkept j)] at hown
                            clear hkept
                            go_wp2
                            go_roundw
                            case rel => exact ⟨i + 1, by omega, by go_num, hown, hdv, hbel⟩
                            case measure => simp [intOf]; omega
                        · go_wp2
                          have hown1 : Own .i64 3 w.heap.size wo (.slice (some ⟨g, 0, none⟩) N capA) (rowF N (placeB s l i 0)) := by
                            rw [rowF_congr N (placeB s l i 0) (placeA s l i) (fun j _ => placeB_zero s l i j)]
                            exact hown
                          clear hown
                          go_loopw [12] (fun c w4 => ∃ k : Nat, k ≤ 33 ∧ c = .int .i64 k ∧ Own .i64 3 w.heap.size w4 (.slice (some ⟨g, 0, none⟩) N capA) (rowF N (placeB s l i k)) ∧ Own .i64 3 w.heap.size w4 (.slice (some ⟨g3, 0, none⟩) 33 cap3) dlist ∧ Below w.heap.size w w4) (fun c _ => 33 - (intOf c).toNat)
                          case atStart => exact ⟨0, by omega, rfl, hown1, hdv, hbel⟩
                          case round =>
                            clear hown1 hdv hbel
                            obtain ⟨k, hk, rfl, hown, hdv, hbel⟩ := hrel
                            by_cases hlt5 : k < 33
                            · have ka := (hown.at' (rowF_length N _).symm i (by omega)).1
                              rw [rowF_get N _ i (by omega), placeB_self s l i k (by omega), hkept, show bi true = 1 from rfl] at ka
                              obtain ⟨kx, kf⟩ := hown.at' (rowF_length N _).symm (i + 32 - k) (by omega)
                              rw [rowF_get N _ (i + 32 - k) (by omega)] at kx
                              have ky := (hdv.at' HDL.out.symm (32 - k) (by omega)).1
                              rw [dlist_get k (by omega)] at ky
                              have hst := hown.stored (rowF_length N _).symm (i + 32 - k) (bi (placeB s l i k (i + 32 - k) ^^ dbit (32 - k)))
                              rw [rowF_set, rowF_congr N _ _ (fun j _ => placeB_succ s l i k j (by omega)), ← bi_xor] at hst
                              have hk2 := hdv.keep hst.2 HAP2.out
                              have hb2 := hown.below hbel hbel.size hst.2
                              have H1 := Lib.hid hst.1
                              have H2 := Lib.hid hk2.1
                              have H3 := Lib.hid hb2
                              have HK := Lib.hid hkept
                              obtain ⟨c1, c2⟩ := bi_bd (placeB s l i k (i + 32 - k))
                              obtain ⟨c3, c4⟩ := bi_bd (dbit (32 - k))
                              generalize bi (placeB s l i k (i + 32 - k)) = x at *
                              generalize bi (dbit (32 - k)) = y at *
                              clear hst hk2 hb2 hown hdv hbel hkept
                              go_wp2
                              go_region
                              all_goals
                                go_wp2
                                go_roundw
                                case rel => exact ⟨k + 1, by omega, by go_num, H1.out, H2.out, H3.out.drew⟩
                                case measure => simp [intOf]; omega
                            · have ek : k = 33 := by omega
                              rw [ek] at hown
                              have ka := (hown.at' (rowF_length N _).symm i (by omega)).1
                              rw [rowF_get N _ i (by omega), placeB_done s l i hkept, show bi false = 0 from rfl] at ka
                              rw [rowF_congr N _ _ (fun j _ => round_yes s l i (by rw [← HN.out]; exact hlt4) hkept j)] at hown
                              clear hkept ek
                              go_wp2
                              go_roundw
                              case rel => exact ⟨i + 1, by omega, by go_num, hown, hdv, hbel⟩
                              case measure => simp [intOf]; omega
                      · have ei : i = n := by omega
                        rw [ei] at hown
                        clear ei hdv
                        go_wp2
                        have ho0 : Hid (((( runC s l).toNat / 2 ^ (32 - 0) : Nat) : Int) = 0) := out_start (runC s l)
                        have hOlt : ∀ j, (((runC s l).toNat / 2 ^ j : Nat) : Int) ≤ 4294967295 := fun j => by
                          have h1 := (runC s l).isLt
                          have h2 := Nat.div_le_self (runC s l).toNat (2 ^ j)
                          omega
                        have HO := Lib.hid hOlt
                        clear hOlt
                        go_loop [13, 14] (fun o c => ∃ j : Nat, j ≤ 32 ∧ c = .int .i64 (31 - (j : Int)) ∧ o = .int .i64 (((runC s l).toNat / 2 ^ (32 - j) : Nat) : Int)) (fun _ c => (intOf c + 1).toNat)
                        case atStart => exact ⟨0, by omega, rfl, by rw [ho0.out]⟩
                        case round =>
                          obtain ⟨j, hj, rfl, rfl⟩ := hrel
                          have hO1 := HO.out (32 - j)
                          have hO0 : (0 : Int) ≤ (((runC s l).toNat / 2 ^ (32 - j) : Nat) : Int) := Int.natCast_nonneg _
                          by_cases hlt6 : j < 32
                          · have hstep := out_step (runC s l) (31 - j)
                            rw [show 31 - j + 1 = 32 - j from by omega] at hstep
                            have HS := Lib.hid hstep
                            have ka := (hown.at' (rowF_length N _).symm (n + (31 - j)) (by omega)).1
                            rw [rowF_get N _ (n + (31 - j)) (by omega), show placeA s l n (n + (31 - j)) = (runC s l).getLsbD (31 - j) from by rw [HN.out]; exact placeA_end s l (31 - j)] at ka
                            obtain ⟨c1, c2⟩ := bi_bd ((runC s l).getLsbD (31 - j))
                            clear hstep
                            generalize bi ((runC s l).getLsbD (31 - j)) = x at *
                            generalize (((runC s l).toNat / 2 ^ (32 - j) : Nat) : Int) = O at *
                            have hidx : ((n : Int) + (31 - (j : Int))).toNat = n + (31 - j) := by omega
                            clear hown hbel
                            go_wp2
                            go_round
                            case rel => exact ⟨j + 1, by omega, by go_num, by rw [show 32 - (j + 1) = 31 - j from by omega, ← HS.out]⟩
                            case measure => simp [intOf]; omega
                          · have ej : j = 32 := by omega
                            have hfin : Hid ((((runC s l).toNat / 2 ^ (32 - j) : Nat) : Int) = ((runC s l).toNat : Int)) := by
                              show _ = _
                              rw [ej]
                              simp
                            generalize (((runC s l).toNat / 2 ^ (32 - j) : Nat) : Int) = O at *
                            clear ej hown
                            go_wp2
                            go_ret
                            exact ⟨ret_int hfin.out, hbel⟩
end Go.Proofs.Ytpnmoajiigjlaaa
