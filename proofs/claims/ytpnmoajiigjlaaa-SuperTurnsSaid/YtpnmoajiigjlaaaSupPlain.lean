/- What a config's line is, in plain numbers. -/
import Derived.Test.YtpnmoajiigjlaaaSupEq
namespace Go.Proofs.Ytpnmoajiigjlaaa
open Go.RowKit
set_option linter.unusedVariables false

/-- Is a line of eight words a config's? -/
def okB (x0 x1 x2 x3 x4 x5 x6 x7 : Int) : Bool := rightB x1 x2 x3 x4 && decide (x0 = 7739836655157129782) && decide (x5 = 1) && decide (x6 = 0) && decide (x7 = sum7 x1 x2 x3 x4)
theorem bcell {W w1 : World} (hb : Below W.heap.size W w1) : (∀ b o, b < W.heap.size → w1.cell? ⟨b, o, none⟩ = W.cell? ⟨b, o, none⟩) ∧ (∀ b o, b < W.heap.size → w1.frozen? ⟨b, o, none⟩ = W.frozen? ⟨b, o, none⟩) :=
  ⟨fun b o h => hb.cell (p := ⟨b, o, none⟩) h, fun b o h => hb.frozen (p := ⟨b, o, none⟩) h⟩

theorem num_right {x1 x2 x3 x4 : Int} (h1 : 0 ≤ x1) (h2 : 0 ≤ x2) (h3 : 0 ≤ x3) (h4 : 0 ≤ x4) (h : rightB (numP x1 64) (numP x2 65536) (numP x3 64) (numP x4 64) = true) : (numP x1 64 = x1 ∧ numP x2 65536 = x2) ∧ (numP x3 64 = x3 ∧ numP x4 64 = x4) := by
  obtain ⟨⟨a1, _⟩, ⟨a2, _⟩, ⟨a3, _⟩, a4, _⟩ := right_bd h
  unfold numP at *
  refine ⟨⟨?_, ?_⟩, ?_, ?_⟩
  · by_cases c : 64 < x1
    · rw [if_pos c] at a1; omega
    · rw [if_neg c]
  · by_cases c : 65536 < x2
    · rw [if_pos c] at a2; omega
    · rw [if_neg c]
  · by_cases c : 64 < x3
    · rw [if_pos c] at a3; omega
    · rw [if_neg c]
  · by_cases c : 64 < x4
    · rw [if_pos c] at a4; omega
    · rw [if_neg c]
theorem num_same {x1 x2 x3 x4 : Int} (h : rightB x1 x2 x3 x4 = true) : (numP x1 64 = x1 ∧ numP x2 65536 = x2) ∧ (numP x3 64 = x3 ∧ numP x4 64 = x4) := by
  obtain ⟨⟨_, a1⟩, ⟨_, a2⟩, ⟨_, a3⟩, _, a4⟩ := right_bd h
  unfold numP
  refine ⟨⟨?_, ?_⟩, ?_, ?_⟩ <;> rw [if_neg (by omega)]
end Go.Proofs.Ytpnmoajiigjlaaa
