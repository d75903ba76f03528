/- Slices of integers that the call itself made: one more element at a time, without any program. -/
import Derived.Laws.AppendOwn
import Derived.Laws.OwnMore
import Derived.Below
import Derived.ArgAppend
import Derived.Laws.NewBlocks
namespace Go.Proofs.Ytpnmoajiigjlaaa
open Go Go.RowKit

/-- The slice value v holds the integers xs in a row of the call's own, from block B on. -/
def Own (k : IntKind) (e : TypeId) (B : Nat) (w : World) (v : Value) (xs : List Int) : Prop := w.ownsRow B e 1 v xs.length (xs.map (Value.int k))
/-- From w to w': v's own row, and new ones, alone are written; v' is in v's row or in a new one. -/
structure Grew (w w' : World) (v v' : Value) : Prop where
  by' : w.grownBy w' v.ownBlock
  blk : v'.ownBlock = v.ownBlock ∨ ∃ g, v'.ownBlock = some g ∧ w.heap.size ≤ g
/-- Two slices that share no row. -/
def Apart (u v : Value) : Prop := ∀ g, u.ownBlock = some g → v.ownBlock ≠ some g

theorem Own.nil (k : IntKind) (e : TypeId) (B : Nat) (w : World) : Own k e B w (.slice none 0 0) [] := World.ownsRow_nil w B e 1
theorem Own.keep {k : IntKind} {e : TypeId} {B : Nat} {w w' : World} {u v v' : Value} {xs : List Int} (h : Own k e B w u xs) (hg : Grew w w' v v') (ha : Apart u v) : Own k e B w' u xs ∧ Apart u v' := by
  refine ⟨World.ownsRow.kept h hg.by' ?_, fun g hu hv => ?_⟩
  · cases hu : u.ownBlock with
    | none => exact .inl rfl
    | some g => exact .inr (fun e => ha g hu e.symm)
  · rcases hg.blk with e | ⟨g', e, hle⟩
    · exact ha g hu (e ▸ hv)
    · rw [e] at hv
      have := (World.ownsRow.lt h g hu).2
      simp at hv
      omega
theorem Own.below {k : IntKind} {e : TypeId} {B : Nat} {w0 w w' : World} {v v' : Value} {xs : List Int} (h : Own k e B w v xs) (hb : Below B w0 w) (hB : B ≤ w.heap.size) (hg : Grew w w' v v') : Below B w0 w' :=
  hb.grown hg.by' hB (fun g hv => (World.ownsRow.lt h g hv).1)
/-- What is there, and in no row of the call's own, stays as it is. -/
theorem Own.form {k : IntKind} {e : TypeId} {B : Nat} {w : World} {v : Value} {xs : List Int} (h : Own k e B w v xs) :
    (v = .slice none 0 0 ∧ xs = []) ∨ ∃ g cap, v = .slice (some ⟨g, 0, none⟩) xs.length cap ∧ B ≤ g ∧ g < w.heap.size ∧ xs.length ≤ cap ∧ cap ≤ maxLen ∧ (∀ j, j < xs.length → w.cell? ⟨g, j, none⟩ = some (.int k (xs.getD j 0))) ∧ ∀ j, w.frozen? ⟨g, j, none⟩ = false := by
  have h0 := h
  rcases h.2 with ⟨hv, hn⟩ | ⟨g, cap, cur, hv, hb, hg, hc, hm, _⟩
  · exact .inl ⟨hv, List.eq_nil_of_length_eq_zero hn⟩
  · subst hv
    refine .inr ⟨g, cap, rfl, hb, (Array.getElem?_eq_some_iff.1 hg).1, hc, hm, fun j hj => ?_, fun j => World.ownsRow.frozenAt h0 j⟩
    rw [World.ownsRow.cellAt h0 j (by omega)]
    simp [hj]
theorem Own.stored {k : IntKind} {e : TypeId} {B g n cap : Nat} {w : World} {xs : List Int} (h : Own k e B w (.slice (some ⟨g, 0, none⟩) n cap) xs) (hn : n = xs.length) (j : Nat) (q : Int) :
    Own k e B (w.setCell ⟨g, j, none⟩ (.int k q)) (.slice (some ⟨g, 0, none⟩) n cap) (xs.set j q) ∧ Grew w (w.setCell ⟨g, j, none⟩ (.int k q)) (.slice (some ⟨g, 0, none⟩) n cap) (.slice (some ⟨g, 0, none⟩) n cap) := by
  subst hn
  have hs := World.ownsRow.stored h j (.int k q)
  refine ⟨?_, hs.2, .inl rfl⟩
  unfold Own
  rw [List.length_set, List.map_set]
  exact hs.1

theorem World.ownsRow.mono' {w : World} {base base' : Nat} {e : TypeId} {size : Nat} {v : Value} {n : Nat} {xs : List Value} (h : w.ownsRow base e size v n xs) (hb : base' ≤ base) : w.ownsRow base' e size v n xs :=
  ⟨h.1, h.2.imp id fun ⟨g, cap, cur, h1, h2, h3⟩ => ⟨g, cap, cur, h1, Nat.le_trans hb h2, h3⟩⟩
section
variable {P : Program}
theorem run_append_one (w : World) (k : IntKind) (t ty e : TypeId) (i : TypeInfo) (bytes B : Nat) (ht : P.underlying t = some (.slice e)) (hi : P.info? e = some i) (hz : i.zero = some (.int k 0)) (hs : i.size = 1) (hby : i.bytes = bytes)
    (v : Value) (xs : List Int) (hown : Own k e B w v xs) (a : Addr) (c : Nat) (q : Int) (hc : w.cell? a = some (.int k q)) (hm : xs.length + 1 ≤ maxLen) (hb : (xs.length + 1) * bytes ≤ 140737488355328) (hB : B ≤ w.heap.size) :
    ∃ v' w', (Builtin.append_ #[t, t] ty #[v, .slice (some a) 1 c]).run P w = .ok v' w' ∧ Own k e B w' v' (xs ++ [q]) ∧ Grew w w' v v' := by
  have hcell : ∀ j u, [Value.int k q][j]? = some u → w.cell? (a.add j) = some u := by
    intro j u hj
    match j, hj with
    | 0, hj => simp at hj; subst hj; rw [show a.add 0 = a from by obtain ⟨b, o, s⟩ := a; cases s <;> simp [Addr.add]]; exact hc
  have hone : ∀ u ∈ [Value.int k q], u.oneCell' = true := by intro u hu; simp at hu; subst hu; rfl
  obtain ⟨v', w', hr, h1, h2, _⟩ := run_append_own (P := P) w B t ty e i (.int k 0) 1 bytes ht hi hz hs hby rfl (by decide) v xs.length (xs.map (Value.int k)) hown a 1 c [.int k q] rfl hcell hone hm hb hB
  refine ⟨v', w', hr, ?_, h2, ?_⟩
  · unfold Own
    simpa using h1
  · rcases World.ownsRow.lt hown with hlt
    rcases hown.2 with ⟨hv, hn⟩ | ⟨g, cap, cur, hv, hbg, hg, hnc, hcm, hcs, htake⟩
    · subst hv
      have hx : xs = [] := List.eq_nil_of_length_eq_zero hn
      subst hx
      obtain ⟨v2, w2, hr2, h12, _, _⟩ := run_append_own (P := P) w w.heap.size t ty e i (.int k 0) 1 bytes ht hi hz hs hby rfl (by decide) (.slice none 0 0) 0 [] (World.ownsRow_nil w _ e 1) a 1 c [.int k q] rfl hcell hone (by simpa using hm) (by simpa using hb) (Nat.le_refl _)
      rw [hr] at hr2
      simp only [Result.ok.injEq] at hr2
      obtain ⟨rfl, rfl⟩ := hr2
      rcases h12.2 with ⟨_, h0⟩ | ⟨g, cap, cur, hv2, hle, _⟩
      · omega
      · exact .inr ⟨g, by rw [hv2]; rfl, hle⟩
    · subst hv
      by_cases hroom : xs.length + 1 ≤ cap
      · have hr2 := run_append_room (P := P) w t ty e i ht hi g xs.length cap cur hg a 1 c [.int k q] (by rw [hs]; rfl) hcell hone hroom (by rw [hs]; simp; omega)
        rw [hr] at hr2
        simp only [Result.ok.injEq] at hr2
        exact .inl (by rw [hr2.1]; rfl)
      · have hr2 := run_append_grow (P := P) w t ty e i (.int k 0) ht hi hz ⟨g, 0, none⟩ xs.length cap (xs.map (Value.int k)) (by rw [hs]; simp) (fun j u hu => World.ownsRow.cells hown (g := g) rfl j u hu) a 1 c [.int k q] (by rw [hs]; rfl) hcell (by omega) (by simp only [maxLen] at hm; omega) (growslice_fits (by omega) (by rw [hby]; exact hb))
        rw [hr] at hr2
        simp only [Result.ok.injEq] at hr2
        exact .inr ⟨w.heap.size, by rw [hr2.1]; rfl, Nat.le_refl _⟩

theorem wp_append_one (w : World) {o : Oper} {a : Act} {K : Act → World → Prop} {Q : Exit → Act → World → Prop} (s x : Operand) (t : TypeId)
    (ho : o.op = .call { callee := .builtin .append, args := #[s, x], argTypes := #[t, t] }) (k : IntKind) (e : TypeId) (i : TypeInfo) (bytes B : Nat)
    (ht : P.underlying t = some (.slice e)) (hi : P.info? e = some i) (hz : i.zero = some (.int k 0)) (hs : i.size = 1) (hby : i.bytes = bytes)
    (v : Value) (xs : List Int) (ad : Addr) (c : Nat) (q : Int) (hsv : a.eval s = v) (hx : a.eval x = .slice (some ad) 1 c) (hown : Own k e B w v xs) (hc : w.cell? ad = some (.int k q)) (hm : (xs.length + 1) * bytes ≤ 140737488355328) (hb0 : 1 ≤ bytes) (hB : B ≤ w.heap.size)
    (h : ∀ v' w', Own k e B w' v' (xs ++ [q]) → Grew w w' v v' → K (a.put o.dst v') w') : o.wp P a w K Q := by
  have hl : xs.length + 1 ≤ (xs.length + 1) * bytes := Nat.le_mul_of_pos_right _ hb0
  obtain ⟨v', w', hr, h2, h3⟩ := run_append_one (P := P) w k t o.type e i bytes B ht hi hz hs hby v xs hown ad c q hc (by simp only [maxLen]; omega) hm hB
  unfold Oper.wp execOp
  simp only [ho, resolve, invoke, builtin, Sem.run_bind, Sem.run_pure, Result.andThen_ok, List.map_toArray, List.map_cons, List.map_nil, hsv, hx, hr]
  exact h v' w' h2 h3

/-- 'out = append(out, q)': q lies in a new block of its own. -/
theorem append_one (w : World) {ops : Array Oper} {rest : List Oper} {o : Oper} {a : Act} {Q : Exit → Act → World → Prop} (hgd : o.guard = none) (s x : Operand) (t : TypeId)
    (ho : o.op = .call { callee := .builtin .append, args := #[s, x], argTypes := #[t, t] }) (k : IntKind) (e : TypeId) (i : TypeInfo) (bytes B : Nat)
    (ht : P.underlying t = some (.slice e)) (hi : P.info? e = some i) (hz : i.zero = some (.int k 0)) (hs : i.size = 1) (hby : i.bytes = bytes)
    (v : Value) (xs : List Int) (q : Int) (hsv : a.eval s = v) (hx : a.eval x = .slice (some ⟨w.heap.size, 0, none⟩) 1 1) (hown : Own k e B w v xs) (hm : (xs.length + 1) * bytes ≤ 140737488355328) (hb0 : 1 ≤ bytes) (hB : B ≤ w.heap.size)
    (h : ∀ v' w', Own k e B w' v' (xs ++ [q]) → Grew w w' v v' → wpList P ops Q rest (a.put o.dst v') w') : wpList P ops Q (o :: rest) a (w.alloc (.cells #[.int k q] e)) := by
  refine wpList_plain hgd fun _ hK => wp_append_one (w.alloc (.cells #[.int k q] e)) s x t ho k e i bytes B ht hi hz hs hby v xs ⟨w.heap.size, 0, none⟩ 1 q hsv hx (World.ownsRow.alloc hown _) (by rw [World.cell?_alloc_at _ _ _ _ rfl]; rfl) hm hb0 (by simp; omega) fun v' w' h2 h3 => hK _ _ (h v' w' h2 ⟨?_, ?_⟩)
  · have hg := h3.by'
    exact ⟨hg.os, hg.tape, hg.output, by have := hg.size; simp at this; omega, fun j hj hne => (hg.block j (by simp; omega) hne).trans (Below.heap_alloc _ _ _ hj)⟩
  · rcases h3.blk with e' | ⟨g, e', hle⟩
    · exact .inl e'
    · exact .inr ⟨g, e', by simp at hle; omega⟩

/-- The same as one step of a region that draws its order. -/
theorem step_append_one (w : World) {ops : Array Oper} {o : Oper} {a : Act} {K : Act → World → Prop} {Q : Exit → Act → World → Prop} {E : Prop} (hgd : o.guard = none) (s x : Operand) (t : TypeId)
    (ho : o.op = .call { callee := .builtin .append, args := #[s, x], argTypes := #[t, t] }) (k : IntKind) (e : TypeId) (i : TypeInfo) (bytes B : Nat)
    (ht : P.underlying t = some (.slice e)) (hi : P.info? e = some i) (hz : i.zero = some (.int k 0)) (hs : i.size = 1) (hby : i.bytes = bytes)
    (v : Value) (xs : List Int) (q : Int) (hsv : a.eval s = v) (hx : a.eval x = .slice (some ⟨w.heap.size, 0, none⟩) 1 1) (hown : Own k e B w v xs) (hm : (xs.length + 1) * bytes ≤ 140737488355328) (hb0 : 1 ≤ bytes) (hB : B ≤ w.heap.size)
    (h : ∀ v' w', Own k e B w' v' (xs ++ [q]) → Grew w w' v v' → K (a.put o.dst v') w') :
    if Region.wanted o (yielded ops a.tmps) = true then Oper.wp P o a (w.alloc (.cells #[.int k q] e)) K Q else E := by
  have hw : Region.wanted o (yielded ops a.tmps) = true := by simp [Region.wanted, hgd]
  rw [if_pos hw]
  refine wp_append_one (w.alloc (.cells #[.int k q] e)) s x t ho k e i bytes B ht hi hz hs hby v xs ⟨w.heap.size, 0, none⟩ 1 q hsv hx (World.ownsRow.alloc hown _) (by rw [World.cell?_alloc_at _ _ _ _ rfl]; rfl) hm hb0 (by simp; omega) fun v' w' h2 h3 => h v' w' h2 ⟨?_, ?_⟩
  · have hg := h3.by'
    exact ⟨hg.os, hg.tape, hg.output, by have := hg.size; simp at this; omega, fun j hj hne => (hg.block j (by simp; omega) hne).trans (Below.heap_alloc _ _ _ hj)⟩
  · rcases h3.blk with e' | ⟨g, e', hle⟩
    · exact .inl e'
    · exact .inr ⟨g, e', by simp at hle; omega⟩

/-- 'out = append(out, q)' where out is what came in, without spare room: a new row of the call's own. -/
theorem append_first (w : World) {ops : Array Oper} {rest : List Oper} {o : Oper} {a : Act} {Q : Exit → Act → World → Prop} (hgd : o.guard = none) (s x : Operand) (t : TypeId)
    (ho : o.op = .call { callee := .builtin .append, args := #[s, x], argTypes := #[t, t] }) (k : IntKind) (e : TypeId) (i : TypeInfo) (bytes B : Nat)
    (ht : P.underlying t = some (.slice e)) (hi : P.info? e = some i) (hz : i.zero = some (.int k 0)) (hs : i.size = 1) (hby : i.bytes = bytes)
    (ao : Option Addr) (n : Nat) (xs : List Int) (q : Int) (hsv : a.eval s = .slice ao n n) (hx : a.eval x = .slice (some ⟨w.heap.size, 0, none⟩) 1 1) (hn : n = xs.length) (hnone : ao = none → n = 0)
    (hold : xs ≠ [] → ∃ g off, ao = some ⟨g, off, none⟩ ∧ g < w.heap.size ∧ ∀ j, j < n → w.cell? ⟨g, off + j, none⟩ = some (.int k (xs.getD j 0))) (hm : (xs.length + 1) * bytes ≤ 140737488355328) (hb0 : 1 ≤ bytes) (hB : B ≤ w.heap.size)
    (h : ∀ v' w', Own k e B w' v' (xs ++ [q]) → w.grownBy w' none → wpList P ops Q rest (a.put o.dst v') w') : wpList P ops Q (o :: rest) a (w.alloc (.cells #[.int k q] e)) := by
  subst hn
  have hl : xs.length + 1 ≤ (xs.length + 1) * bytes := Nat.le_mul_of_pos_right _ hb0
  refine wpList_append_grows _ hgd s x t ho e i (.int k 0) 1 bytes ht hi hz hs hby rfl (by decide) ao xs.length xs.length (xs.map (Value.int k)) hsv (fun hh => ⟨hnone hh, hnone hh⟩) (by simp) ?_ ⟨w.heap.size, 0, none⟩ 1 1 [.int k q] hx rfl ?_ ?_ (by omega) (by simp only [maxLen]; omega) hm ?_
  · intro b hb j u hu
    have hj : j < xs.length := by
      have := (List.getElem?_eq_some_iff.1 hu).1
      simpa using this
    obtain ⟨g, off, rfl, hg, hc⟩ := hold (by intro hh; rw [hh] at hj; simp at hj)
    simp only [Option.some.injEq] at hb
    subst hb
    rw [show (⟨g, off, none⟩ : Addr).add j = ⟨g, off + j, none⟩ from by unfold Addr.add; split <;> simp_all]
    rw [World.cell?_alloc_past _ _ _ hg, hc j hj]
    simp [hj] at hu
    rw [← hu]
    simp [hj]
  · intro j u hj
    match j, hj with
    | 0, hj =>
      simp at hj
      subst hj
      rw [show (⟨w.heap.size, 0, none⟩ : Addr).add 0 = ⟨w.heap.size, 0, none⟩ from by unfold Addr.add; split <;> simp_all]
      rw [World.cell?_alloc_at _ _ _ _ rfl]
      rfl
  · intro u hu
    simp at hu
    subst hu
    rfl
  · intro v' w' h1 h2
    refine h v' w' ?_ ?_
    · unfold Own
      have h3 := World.ownsRow.mono' h1 (by simp; omega : B ≤ _)
      simpa using h3
    · exact ⟨h2.os, h2.tape, h2.output, by have := h2.size; simp at this; omega, fun j hj hne => (h2.block j (by simp; omega) hne).trans (Below.heap_alloc _ _ _ hj)⟩
end
end Go.Proofs.Ytpnmoajiigjlaaa
