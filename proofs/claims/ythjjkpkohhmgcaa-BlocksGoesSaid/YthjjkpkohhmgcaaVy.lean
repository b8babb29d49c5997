/- Blocks: two ways told apart. -/
import Derived.Test.YthjjkpkohhmgcaaVd
import Derived.Laws.StructEq
namespace Go.Proofs.Ythjjkpkohhmgcaa
open Go.RowKit Go.Proofs.YthjjkpkohhmgcaaW.PrintWords
theorem run_equalIn_array2 (w : World) (d : Nat) (x1 x2 y1 y2 : Int) : (Op.equalIn (d + 2) 36 (.agg #[.int .i64 x1, .int .i64 x2]) (.agg #[.int .i64 y1, .int .i64 y2])).run Try.prog w = .ok (x1 == y1 && x2 == y2) w := by
  have hi : ∀ a b : Int, (Op.equalIn (d + 1) 3 (.int .i64 a) (.int .i64 b)).run Try.prog w = .ok (a == b) w := by
    intro a b
    simp [Op.equalIn, run_underlying Try.underlying3]
  have p0 : ∀ a b : Int, (part 3 #[.int .i64 a, .int .i64 b] 0).run Try.prog w = .ok (.int .i64 a) w := by intro a b; kernel_rfl
  have p1 : ∀ a b : Int, (part 3 #[.int .i64 a, .int .i64 b] 1).run Try.prog w = .ok (.int .i64 b) w := by intro a b; kernel_rfl
  rw [Op.equalIn]
  simp only [Sem.run_bind, run_underlying Try.underlying36, Result.andThen_ok]
  simp [Try.sizeOf3]
  rw [show List.range' 0 2 = [0, 1] from rfl]
  cases h1 : x1 == y1 <;> cases h2 : x2 == y2 <;> simp [hi, p0, p1, h1, h2]
theorem run_eql_way (w : World) (x1 x2 y1 y2 : Int) : (binOp .eql 36 (.agg #[.int .i64 x1, .int .i64 x2]) (.agg #[.int .i64 y1, .int .i64 y2])).run Try.prog w = .ok (.bool (x1 == y1 && x2 == y2)) w := by
  simp only [binOp]
  simp [Op.equal, Op.maxDepth, run_equalIn_array2 w 9998]
theorem run_neq_way (w : World) (x1 x2 y1 y2 : Int) : (binOp .neq 36 (.agg #[.int .i64 x1, .int .i64 x2]) (.agg #[.int .i64 y1, .int .i64 y2])).run Try.prog w = .ok (.bool (!(x1 == y1 && x2 == y2))) w := by
  simp only [binOp]
  simp [Op.equal, Op.maxDepth, run_equalIn_array2 w 9998]
end Go.Proofs.Ythjjkpkohhmgcaa
