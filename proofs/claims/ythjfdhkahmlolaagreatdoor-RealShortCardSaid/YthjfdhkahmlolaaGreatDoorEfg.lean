/- The walk of fmtEFG at 'e' and one digit. -/
import Derived.Test.YthjfdhkahmlolaaGreatDoorAp
namespace Go.Proofs.YthjfdhkahmlolaaGreatDoor
open Go.RowKit
def by8 (x : Nat) : Value := .int .u8 (x : Int)
set_option maxRecDepth 100000 in
set_option maxHeartbeats 4000000 in
theorem efg_one (B b : Nat) (d0 : Value) (x : UInt8) (dp : Int) (w : World) (hB : B ≤ w.heap.size) (ho : w.ownsRow B 5 1 d0 0 []) (hx : w.cell? ⟨b, 0, none⟩ = some (.int .u8 (x.toNat : Int))) (he : -98 ≤ dp ∧ dp ≤ 100) :
    Calls Tryz.prog 95 #[d0, .bool false, .slice (some ⟨b, 0, none⟩) 32 32, .int .i64 dp, .int .i64 1, .int .i64 0, .int .u8 101, .bool true] w fun e w' =>
      ∃ v l, e = .returned v ∧ Ap w B d0 v l w' ∧ l = [.int .u8 (x.toNat : Int), .int .u8 101, .int .u8 (if dp - 1 < 0 then 45 else 43), .int .u8 (48 + (if dp - 1 < 0 then 1 - dp else dp - 1) / 10), .int .u8 (48 + (if dp - 1 < 0 then 1 - dp else dp - 1) % 10)] := by
  have HA0 := Lib.hid (Ap.start ho)
  have HB := Lib.hid hB
  have HX := hx
  clear hB ho hx
  go_enter Tryz.func95, Tryz.ntmps95
  go_wp2_with (at_builtin; go_loud (first | (exfalso; omega) | (refine wp_app HA3.out HB.out rfl _ _ rfl _ 2 (by simp [Act.eval]) (by simp [Act.eval]) rfl (by simp [Value.oneCell']) (by decide) (by simp) (by decide) ?_; intro v4 w4 hA'; have HA4 := Lib.hid hA'; clear hA') | (refine wp_app HA2.out HB.out rfl _ _ rfl _ 1 (by simp [Act.eval]) (by simp [Act.eval]) rfl (by simp [Value.oneCell']) (by decide) (by simp) (by decide) ?_; intro v3 w3 hA'; have HA3 := Lib.hid hA'; clear hA') | (refine wp_app HA1.out HB.out rfl _ _ rfl _ 1 (by simp [Act.eval]) (by simp [Act.eval]) rfl (by simp [Value.oneCell']) (by decide) (by simp) (by decide) ?_; intro v2 w2 hA'; have HA2 := Lib.hid hA'; clear hA') | (refine wp_app HA0.out HB.out rfl _ _ rfl _ 1 (by simp [Act.eval]) (by simp [Act.eval]) rfl (by simp [Value.oneCell']) (by decide) (by simp) (by decide) ?_; intro v1 w1 hA'; have HA1 := Lib.hid hA'; clear hA')))
  all_goals (
    have H4 := HA4.out
    clear HA0 HA1 HA2 HA3 HA4
    simp only [List.nil_append, List.cons_append, List.append_nil] at H4
    go_ret
    refine ⟨_, rfl, ?_⟩
    first
      | exact H4
      | (have e1 : -((dp - 1).tdiv 10) = (1 - dp) / 10 := by rw [← Int.neg_tdiv, Int.tdiv_eq_ediv_of_nonneg (by omega)]; congr 1; omega
         have e2 : -((dp - 1).tmod 10) = (1 - dp) % 10 := by rw [← Int.neg_tmod, Int.tmod_eq_emod_of_nonneg (by omega)]; congr 1; omega
         have e3 : wrap64 ((1 - dp) / 10) = (1 - dp) / 10 := by unfold wrap64; omega
         have e4 : ((1 - dp) / 10 + 48) % 256 = 48 + (1 - dp) / 10 := by omega
         have e5 : ((1 - dp) % 10 + 48) % 256 = 48 + (1 - dp) % 10 := by omega
         simp only [e1, e2, e3, e4, e5] at H4
         exact H4)
      | (have e1 : -(dp - 1) + 48 = 48 + (1 - dp) % 10 := by omega
         have e2 : 48 + (1 - dp) / 10 = 48 := by omega
         rw [e1] at H4; rw [e2]
         exact H4)
      | (have e1 : dp - 1 + 48 = 48 + (dp - 1) % 10 := by omega
         have e2 : 48 + (dp - 1) / 10 = 48 := by omega
         rw [e1] at H4; rw [e2]
         exact H4)
      | (rw [Int.add_comm ((dp - 1) / 10), Int.add_comm ((dp - 1) % 10)] at H4
         exact H4))
end Go.Proofs.YthjfdhkahmlolaaGreatDoor
