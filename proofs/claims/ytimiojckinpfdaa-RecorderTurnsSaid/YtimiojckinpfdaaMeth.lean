/- The methods of the three kinds, found by name. -/
import Derived.Test.YtimiojckinpfdaaNew2
namespace Go.Proofs.Ytimiojckinpfdaa
open Go.RowKit
theorem meth_first1 (v : Value) (w : World) : Sem.run Try.prog (method 322 99 v "gnomon/slab.first") w = .ok ((138 : Nat), v) w := by kernel_rfl
theorem meth_kind1 (v : Value) (w : World) : Sem.run Try.prog (method 322 99 v "gnomon/slab.kind") w = .ok ((139 : Nat), v) w := by kernel_rfl
theorem meth_part1 (v : Value) (w : World) : Sem.run Try.prog (method 322 99 v "gnomon/slab.part") w = .ok ((140 : Nat), v) w := by kernel_rfl
theorem meth_row1 (c : Value) (w : World) : Sem.run Try.prog (method 322 99 (.agg #[c]) "gnomon/slab.row") w = .ok ((136 : Nat), c) w := by kernel_rfl
theorem meth_stripes1 (c : Value) (w : World) : Sem.run Try.prog (method 322 99 (.agg #[c]) "gnomon/slab.stripes") w = .ok ((137 : Nat), c) w := by kernel_rfl
theorem meth_first2 (v : Value) (w : World) : Sem.run Try.prog (method 322 101 v "gnomon/slab.first") w = .ok ((142 : Nat), v) w := by kernel_rfl
theorem meth_kind2 (v : Value) (w : World) : Sem.run Try.prog (method 322 101 v "gnomon/slab.kind") w = .ok ((143 : Nat), v) w := by kernel_rfl
theorem meth_part2 (v : Value) (w : World) : Sem.run Try.prog (method 322 101 v "gnomon/slab.part") w = .ok ((144 : Nat), v) w := by kernel_rfl
theorem meth_row2 (c u : Value) (w : World) : Sem.run Try.prog (method 322 101 (.agg #[c, u]) "gnomon/slab.row") w = .ok ((136 : Nat), c) w := by kernel_rfl
theorem meth_stripes2 (c u : Value) (w : World) : Sem.run Try.prog (method 322 101 (.agg #[c, u]) "gnomon/slab.stripes") w = .ok ((137 : Nat), c) w := by kernel_rfl
theorem meth_first3 (v : Value) (w : World) : Sem.run Try.prog (method 322 102 v "gnomon/slab.first") w = .ok ((145 : Nat), v) w := by kernel_rfl
theorem meth_kind3 (v : Value) (w : World) : Sem.run Try.prog (method 322 102 v "gnomon/slab.kind") w = .ok ((146 : Nat), v) w := by kernel_rfl
theorem meth_part3 (v : Value) (w : World) : Sem.run Try.prog (method 322 102 v "gnomon/slab.part") w = .ok ((147 : Nat), v) w := by kernel_rfl
theorem meth_row3 (c : Value) (w : World) : Sem.run Try.prog (method 322 102 (.agg #[c]) "gnomon/slab.row") w = .ok ((136 : Nat), c) w := by kernel_rfl
theorem meth_stripes3 (c : Value) (w : World) : Sem.run Try.prog (method 322 102 (.agg #[c]) "gnomon/slab.stripes") w = .ok ((137 : Nat), c) w := by kernel_rfl
end Go.Proofs.Ytimiojckinpfdaa
