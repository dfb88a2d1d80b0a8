/- The methods of the three kinds, found by name. -/
import Derived.Test.YtlipngdfhpaodaaGreatNew2
namespace Go.Proofs.YtlipngdfhpaodaaGreat
open Go.RowKit
theorem meth_first1 (v : Value) (w : World) : Sem.run Tryz.prog (method 603 132 v "gnomon/slab.first") w = .ok ((339 : Nat), v) w := by kernel_rfl
theorem meth_kind1 (v : Value) (w : World) : Sem.run Tryz.prog (method 603 132 v "gnomon/slab.kind") w = .ok ((340 : Nat), v) w := by kernel_rfl
theorem meth_part1 (v : Value) (w : World) : Sem.run Tryz.prog (method 603 132 v "gnomon/slab.part") w = .ok ((341 : Nat), v) w := by kernel_rfl
theorem meth_row1 (c : Value) (w : World) : Sem.run Tryz.prog (method 603 132 (.agg #[c]) "gnomon/slab.row") w = .ok ((337 : Nat), c) w := by kernel_rfl
theorem meth_stripes1 (c : Value) (w : World) : Sem.run Tryz.prog (method 603 132 (.agg #[c]) "gnomon/slab.stripes") w = .ok ((338 : Nat), c) w := by kernel_rfl
theorem meth_first2 (v : Value) (w : World) : Sem.run Tryz.prog (method 603 134 v "gnomon/slab.first") w = .ok ((343 : Nat), v) w := by kernel_rfl
theorem meth_kind2 (v : Value) (w : World) : Sem.run Tryz.prog (method 603 134 v "gnomon/slab.kind") w = .ok ((344 : Nat), v) w := by kernel_rfl
theorem meth_part2 (v : Value) (w : World) : Sem.run Tryz.prog (method 603 134 v "gnomon/slab.part") w = .ok ((345 : Nat), v) w := by kernel_rfl
theorem meth_row2 (c u : Value) (w : World) : Sem.run Tryz.prog (method 603 134 (.agg #[c, u]) "gnomon/slab.row") w = .ok ((337 : Nat), c) w := by kernel_rfl
theorem meth_stripes2 (c u : Value) (w : World) : Sem.run Tryz.prog (method 603 134 (.agg #[c, u]) "gnomon/slab.stripes") w = .ok ((338 : Nat), c) w := by kernel_rfl
theorem meth_first3 (v : Value) (w : World) : Sem.run Tryz.prog (method 603 135 v "gnomon/slab.first") w = .ok ((346 : Nat), v) w := by kernel_rfl
theorem meth_kind3 (v : Value) (w : World) : Sem.run Tryz.prog (method 603 135 v "gnomon/slab.kind") w = .ok ((347 : Nat), v) w := by kernel_rfl
theorem meth_part3 (v : Value) (w : World) : Sem.run Tryz.prog (method 603 135 v "gnomon/slab.part") w = .ok ((348 : Nat), v) w := by kernel_rfl
theorem meth_row3 (c : Value) (w : World) : Sem.run Tryz.prog (method 603 135 (.agg #[c]) "gnomon/slab.row") w = .ok ((337 : Nat), c) w := by kernel_rfl
theorem meth_stripes3 (c : Value) (w : World) : Sem.run Tryz.prog (method 603 135 (.agg #[c]) "gnomon/slab.stripes") w = .ok ((338 : Nat), c) w := by kernel_rfl
end Go.Proofs.YtlipngdfhpaodaaGreat
