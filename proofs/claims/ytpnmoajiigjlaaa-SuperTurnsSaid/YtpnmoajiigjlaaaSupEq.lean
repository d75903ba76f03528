/- What == says of two lines, and of two configs. -/
import Derived.Test.YtpnmoajiigjlaaaSupLine
namespace Go.Proofs.Ytpnmoajiigjlaaa
open Go.RowKit
theorem part_u64 (cs : Array Value) (i : Nat) (v : Value) (w : World) (h : cs[i]? = some v) : (part 24 cs i).run Try.prog w = .ok v w := by
  simp [part, isAgg, run_underlying Try.underlying24, h]
theorem loop_eq (f : Nat → Int) (g : Nat → Int) (xs ys : Array Value) (w : World) (l : List Nat) (hx : ∀ i ∈ l, xs[i]? = some (.int .u64 (f i))) (hy : ∀ i ∈ l, ys[i]? = some (.int .u64 (g i))) :
    (Sem.run Try.prog
          (forIn l (none, ()) fun i (__s : Option Bool × Unit) => do
            let a ← part 24 xs i
            let b ← part 24 ys i
            let c ← Op.equalIn 9999 24 a b
            if c = false then pure (ForInStep.done (some false, ())) else pure (ForInStep.yield (none, ()))) w) =
      .ok (if l.all (fun i => f i == g i) then (none, ()) else (some false, ())) w := by
  induction l with
  | nil => simp
  | cons i l ih =>
    have h1 := part_u64 xs i _ w (hx i (by simp))
    have h2 := part_u64 ys i _ w (hy i (by simp))
    have h3 := run_equalIn_int (P := Try.prog) w 9998 24 .u64 .u64 (f i) (g i) Try.underlying24
    rw [List.forIn_cons]
    simp only [Sem.run_bind, h1, h2, h3, Result.andThen_ok]
    cases hb : (f i == g i)
    · simp [hb]
    · simp only [hb, List.all_cons, Bool.true_and]
      simpa using ih (fun j hj => hx j (by simp [hj])) (fun j hj => hy j (by simp [hj]))
@[go_sem] theorem eq_line (x0 x1 x2 x3 x4 x5 x6 x7 y0 y1 y2 y3 y4 y5 y6 y7 : Int) (w : World) :
    (Op.equalIn 10000 26 (.agg #[.int .u64 x0, .int .u64 x1, .int .u64 x2, .int .u64 x3, .int .u64 x4, .int .u64 x5, .int .u64 x6, .int .u64 x7]) (.agg #[.int .u64 y0, .int .u64 y1, .int .u64 y2, .int .u64 y3, .int .u64 y4, .int .u64 y5, .int .u64 y6, .int .u64 y7])).run Try.prog w =
      .ok (x0 == y0 && (x1 == y1 && (x2 == y2 && (x3 == y3 && (x4 == y4 && (x5 == y5 && (x6 == y6 && x7 == y7))))))) w := by
  unfold Op.equalIn
  simp [Sem.run_bind, run_underlying Try.underlying26]
  have h := loop_eq (fun i => [x0, x1, x2, x3, x4, x5, x6, x7].getD i 0) (fun i => [y0, y1, y2, y3, y4, y5, y6, y7].getD i 0) #[.int .u64 x0, .int .u64 x1, .int .u64 x2, .int .u64 x3, .int .u64 x4, .int .u64 x5, .int .u64 x6, .int .u64 x7] #[.int .u64 y0, .int .u64 y1, .int .u64 y2, .int .u64 y3, .int .u64 y4, .int .u64 y5, .int .u64 y6, .int .u64 y7] w (List.range' 0 8) (by intro i hi; simp [List.range'] at hi; rcases hi with rfl | rfl | rfl | rfl | rfl | rfl | rfl | rfl <;> rfl) (by intro i hi; simp [List.range'] at hi; rcases hi with rfl | rfl | rfl | rfl | rfl | rfl | rfl | rfl <;> rfl)
  have hall : (List.range' 0 8).all (fun i => [x0, x1, x2, x3, x4, x5, x6, x7].getD i 0 == [y0, y1, y2, y3, y4, y5, y6, y7].getD i 0) = (x0 == y0 && (x1 == y1 && (x2 == y2 && (x3 == y3 && (x4 == y4 && (x5 == y5 && (x6 == y6 && x7 == y7))))))) := by
    simp [List.range']
  rw [hall] at h
  clear hall
  generalize (x0 == y0 && (x1 == y1 && (x2 == y2 && (x3 == y3 && (x4 == y4 && (x5 == y5 && (x6 == y6 && x7 == y7))))))) = B at h ⊢
  rw [h]
  cases B <;> simp
@[go_sem] theorem eq_cfg (x0 x1 x2 x3 y0 y1 y2 y3 : Int) (w : World) :
    (Op.equalIn 10000 23 (.agg #[.int .i64 x0, .int .i64 x1, .int .i64 x2, .int .i64 x3]) (.agg #[.int .i64 y0, .int .i64 y1, .int .i64 y2, .int .i64 y3])).run Try.prog w =
      .ok (x0 == y0 && (x1 == y1 && (x2 == y2 && x3 == y3))) w := by
  have hS : Try.prog.underlying 23 = some (.struct (Try.prog.fieldsOf 23)) := by kernel_rfl
  rw [run_equalIn_struct w 9999 23 _ _ hS (by kernel_rfl)]
  simp only [Program.fieldsOf, Try.underlying23]
  simp [Op.eqFields, part, isAgg, run_underlying Try.underlying3, run_equalIn_int (P := Try.prog) _ 9998 3 .i64 .i64 _ _ Try.underlying3]
  by_cases h0 : x0 = y0 <;> by_cases h1 : x1 = y1 <;> by_cases h2 : x2 = y2 <;> by_cases h3 : x3 = y3 <;> simp [h0, h1, h2, h3]
end Go.Proofs.Ytpnmoajiigjlaaa
