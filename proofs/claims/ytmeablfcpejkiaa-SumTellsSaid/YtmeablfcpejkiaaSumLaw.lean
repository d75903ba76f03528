/- The example of the page, and what the laws over bytes share. -/
import Derived.Test.YtmeablfcpejkiaaSum
import Derived.Test.YtmeablfcpejkiaaOwn
import Derived.Lib.SlBytesConst
import Derived.Deep.RegionWith
namespace Go.Proofs.Ytmeablfcpejkiaa
open Go.RowKit
set_option linter.unusedVariables false
theorem row_alloc {k : IntKind} (w : World) (xs : List Int) (e : TypeId) (f : Nat × Nat) (cap : Nat) (hl : xs.length ≤ 140737488351232) :
    RowOf k (w.alloc (.cells (xs.map (Value.int k)).toArray e f)) (.slice (some ⟨w.heap.size, 0, none⟩) xs.length cap) xs := by
  refine ⟨hl, _, cap, rfl, fun _ => ⟨w.heap.size, 0, rfl, by simp, fun i hi => by rw [Nat.zero_add, World.cell?_alloc_mark]; simp [hi]⟩⟩
theorem row_nil {k : IntKind} (w : World) : RowOf k w (.slice none 0 0) [] := ⟨by simp, none, 0, rfl, fun h => absurd rfl h⟩
theorem awake_any (w : World) : Calls Try.prog 8 #[] w fun e w' => e = .returned (.bool true) ∧ Below w.heap.size w w' := by
  have h1 : sumC 8 [49, 50, 51, 52, 53, 54, 55, 56, 57] = 3808858755 := by decide +kernel
  have h2 : sumC 8 [] = 0 := by decide +kernel
  have h3 : sumC 64 [] = 0 := by decide +kernel
  have kc := fun (w : World) (C : Array Value) (n c : Nat) => Lib.run_convert_bytes_const (P := Try.prog) w 30 5 C n c Try.underlying30 Try.underlying5
  have hb := Lib.hid (bytes_any (.slice (some ⟨w.heap.size, 0, none⟩) 9 9) [49, 50, 51, 52, 53, 54, 55, 56, 57] _ (row_alloc w _ 5 (9, 10) 9 (by decide)) (by decide))
  have hn := Lib.hid (fun w => bytes_any (.slice none 0 0) [] w (row_nil w) (by decide))
  have hw := Lib.hid (fun w => words_any (.slice none 0 0) [] w (row_nil w) (by decide))
  rw [h1] at hb
  rw [h2] at hn
  rw [h3] at hw
  clear h1 h2 h3
  have hbel : Hid (Below w.heap.size w (w.alloc (.cells ([49, 50, 51, 52, 53, 54, 55, 56, 57].map (Value.int .u8)).toArray 5 (9, 10)))) := (Below.refl _ _).alloc (Nat.le_refl _) _
  go_enter Try.func8, Try.ntmps8
  go_wp2_with (first
    | (go_at_call_of 15 (Value.slice none 0 0); refine (hn.out _).mono ?_; rintro e w1 ⟨rfl, rfl⟩)
    | (go_at_call 17; refine (hw.out _).mono ?_; rintro e w1 ⟨rfl, rfl⟩)
    | (go_at_call 15; refine hb.out.mono ?_; rintro e w1 ⟨rfl, rfl⟩))
  go_ret
  exact ⟨rfl, hbel.out⟩
theorem Own.row {k : IntKind} {e : TypeId} {B : Nat} {w : World} {v : Value} {xs : List Int} (h : Own k e B w v xs) (hl : xs.length ≤ 140737488351232) : RowOf k w v xs := by
  rcases h.form with ⟨rfl, rfl⟩ | ⟨g, cap, rfl, _, hg, _, _, hc, _⟩
  · exact row_nil w
  · exact ⟨hl, _, cap, rfl, fun _ => ⟨g, 0, rfl, hg, fun i hi => by rw [Nat.zero_add]; exact hc i hi⟩⟩
theorem row_is {w : World} {a : Option Addr} {len cap : Nat} {zs : List Int} (h : (a = none ∧ len = 0 ∧ cap = 0 ∧ zs = []) ∨ ∃ x, a = some x ∧ len ≤ cap ∧ cap ≤ maxLen ∧ zs.length = cap ∧ (∀ i, i < zs.length → w.cell? (x.add i) = some (.int .u8 (zs.getD i 0))) ∧ ∀ n ∈ zs, (Lit.int .u8 n).wf = true) (hl : len ≤ 300) :
    ∃ xs : List Int, xs.length = len ∧ RowOf .u8 w (.slice a len cap) xs ∧ (∀ x ∈ xs, 0 ≤ x ∧ x < 256) ∧ len ≤ cap ∧ (a = none → len = 0) := by
  rcases h with ⟨rfl, rfl, rfl, rfl⟩ | ⟨x, rfl, hle, hm, hz, hc, hw⟩
  · exact ⟨[], rfl, ⟨by simp, none, 0, rfl, fun h => absurd rfl h⟩, by simp, Nat.le_refl _, fun _ => rfl⟩
  · have hlen : (zs.take len).length = len := by rw [List.length_take]; omega
    refine ⟨zs.take len, hlen, ⟨by omega, some x, cap, by rw [hlen], fun hne => ?_⟩, fun y hy => ?_, hle, fun h => by cases h⟩
    · have hpos : 0 < len := by rcases Nat.eq_zero_or_pos len with h0 | h0; (· rw [h0] at hne; simp at hne); (· exact h0)
      obtain ⟨b, off, rfl, hcell⟩ := ints_at hc (by omega)
      refine ⟨b, off, rfl, World.block_lt_of_cell? w _ (hcell 0 (by omega)), fun i hi => ?_⟩
      rw [hlen] at hi
      rw [hcell i (by omega)]
      simp [List.getD_eq_getElem?_getD, hi]
    · have := bounds_u8 (hw y (List.mem_of_mem_take hy))
      omega
end Go.Proofs.Ytmeablfcpejkiaa
