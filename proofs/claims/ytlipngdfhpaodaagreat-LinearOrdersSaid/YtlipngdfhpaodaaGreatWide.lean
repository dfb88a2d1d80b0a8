/- The walk of wide.Add: sums of 128 bits. -/
import Derived.Test.YtlipngdfhpaodaaGreatNil
namespace Go.Proofs.YtlipngdfhpaodaaGreat
open Go.RowKit

def lowOf (n : Nat) : Nat := n % 18446744073709551616
def carOf (n : Nat) : Nat := n / 18446744073709551616
theorem run_badd0 (x y : Int) (w : World) : Sem.run Tryz.prog (callFunc 194 #[.int .u64 x, .int .u64 y, .int .u64 0]) w = .ok (.value (.tuple #[.int .u64 (lowOf (x.toNat + y.toNat + 0) : Nat), .int .u64 (carOf (x.toNat + y.toNat + 0) : Nat)])) w := by kernel_rfl
theorem run_badd1 (x y : Int) (w : World) : Sem.run Tryz.prog (callFunc 194 #[.int .u64 x, .int .u64 y, .int .u64 1]) w = .ok (.value (.tuple #[.int .u64 (lowOf (x.toNat + y.toNat + 1) : Nat), .int .u64 (carOf (x.toNat + y.toNat + 1) : Nat)])) w := by kernel_rfl

theorem run_badd (x y : Int) (c : Nat) (hc : c ≤ 1) (w : World) : Sem.run Tryz.prog (callFunc 194 #[.int .u64 x, .int .u64 y, .int .u64 c]) w = .ok (.value (.tuple #[.int .u64 (lowOf (x.toNat + y.toNat + c) : Nat), .int .u64 (carOf (x.toNat + y.toNat + c) : Nat)])) w := by
  have h : c = 0 ∨ c = 1 := by omega
  rcases h with rfl | rfl
  · exact run_badd0 x y w
  · exact run_badd1 x y w
theorem car_le (x y : Int) (h2 : x ≤ 18446744073709551615) (h4 : y ≤ 18446744073709551615) : carOf (x.toNat + y.toNat) ≤ 1 := by unfold carOf; omega
/-- the low half, and the high half, of a sum -/
def loSum (al bl : Int) : Nat := lowOf (al.toNat + bl.toNat)
def hiSum (ah al bh bl : Int) : Int := wrap64 (lowOf ((IntKind.u64.wrap ah).toNat + (IntKind.u64.wrap bh).toNat + carOf (al.toNat + bl.toNat)) : Nat)
set_option maxRecDepth 100000 in
set_option maxHeartbeats 1000000 in
theorem wide_add (ah al bh bl : Int) (w : World) (h2 : al ≤ 18446744073709551615) (h4 : bl ≤ 18446744073709551615) :
    Calls Tryz.prog 138 #[.agg #[.int .i64 ah, .int .u64 al], .agg #[.int .i64 bh, .int .u64 bl]] w fun e w' => e = .returned (.agg #[.int .i64 (hiSum ah al bh bl), .int .u64 (loSum al bl : Nat)]) ∧ Only (fun _ => False) w w' := by
  have k0 := run_badd0
  have k1 := run_badd (IntKind.u64.wrap ah) (IntKind.u64.wrap bh) _ (car_le al bl h2 h4)
  clear h2 h4
  go_enter Tryz.func138, Tryz.ntmps138
  go_wp2_with fail
  refine bodyPost_ret (v := .agg #[.int .i64 (hiSum ah al bh bl), .int .u64 (loSum al bl : Nat)]) (by simp [results, Tryz.results138, go_sem]; exact ⟨rfl, rfl⟩) rfl ⟨rfl, ?_⟩
  exact (((Only.refl _ w).alloc _).alloc _).alloc _
end Go.Proofs.YtlipngdfhpaodaaGreat
