/- special at texts of digits. -/
import Derived.Test.YthjfdhkahmlolaaGreatDoorJF34
import Derived.Test.YthjfdhkahmlolaaGreatDoorJF07
namespace Go.Proofs.YthjfdhkahmlolaaGreatDoor
open Go.RowKit
set_option maxRecDepth 100000
theorem bl_drop1 (s : ByteArray) : bl (s.extract 1 s.size) = (bl s).drop 1 := by
  unfold bl
  rw [ByteArray.data_extract, Array.toList_extract, ← List.map_drop]
  congr 1
  simp [List.extract_eq_take_drop]
  have : s.size = s.data.toList.length := rfl
  rw [this]
  exact List.take_of_length_le (by simp)
set_option maxHeartbeats 4000000 in
theorem sp_digit (s : ByteArray) (c0 : Nat) (l0 : List Nat) (w : World) (hl : bl s = c0 :: l0) (h0 : 48 ≤ c0 ∧ c0 ≤ 57) : Calls Tryz.prog 116 #[.string s] w fun en w' => en = .returned (.tuple #[.float .f64 0, .int .i64 0, .bool false]) ∧ w' = w := by
  have hz := bl_size s
  have hsz : 0 < s.size := by rw [hz, hl]; simp
  have b0 := bl_at (pre := []) hl hsz
  have hne : s ≠ ByteArray.empty := fun h => by rw [h] at hsz; exact absurd hsz (by decide)
  simp only [List.length_nil] at b0
  have t1 : ((c0 : Int) == 43) = false := by rw [beq_eq_false_iff_ne]; omega
  have t2 : ((c0 : Int) == 45) = false := by rw [beq_eq_false_iff_ne]; omega
  have t3 : ((c0 : Int) == 105) = false := by rw [beq_eq_false_iff_ne]; omega
  have t4 : ((c0 : Int) == 73) = false := by rw [beq_eq_false_iff_ne]; omega
  have t5 : ((c0 : Int) == 110) = false := by rw [beq_eq_false_iff_ne]; omega
  have t6 : ((c0 : Int) == 78) = false := by rw [beq_eq_false_iff_ne]; omega
  clear hl hz
  go_enter Tryz.func116, Tryz.ntmps116
  go_wp2_with fail
  go_ret3
  exact ⟨rfl, rfl⟩
theorem cp_digit (s : ByteArray) (c0 : Nat) (l0 : List Nat) (w : World) (hl : bl s = c0 :: l0) (h0 : 48 ≤ c0 ∧ c0 ≤ 57) : Calls Tryz.prog 153 #[.string s, .string ⟨#[105, 110, 102, 105, 110, 105, 116, 121]⟩] w fun en w' => en = .returned (.int .i64 0) ∧ w' = w := by
  have hz := bl_size s
  have hsz : 0 < s.size := by rw [hz, hl]; simp
  have b0 := bl_at (pre := []) hl hsz
  simp only [List.length_nil] at b0
  clear hl hz
  have t1 : ((c0 : Int) != 105) = true := by rw [bne_iff_ne]; omega
  have e0 : ((⟨#[105, 110, 102, 105, 110, 105, 116, 121]⟩ : ByteArray)[0]'(by decide)).toNat = 105 := rfl
  go_enter Tryz.func153, Tryz.ntmps153
  go_wp2_with fail
  all_goals refine wp_loop_rounds 1 ?_
  all_goals (rw [rounds_succ]; go_wp2_with fail)
  all_goals go_ret
  all_goals exact ⟨rfl, rfl⟩
theorem sp_neg (s : ByteArray) (c0 : Nat) (l0 : List Nat) (w : World) (hl : bl s = 45 :: c0 :: l0) (h0 : 48 ≤ c0 ∧ c0 ≤ 57) : Calls Tryz.prog 116 #[.string s] w fun en w' => en = .returned (.tuple #[.float .f64 0, .int .i64 0, .bool false]) ∧ w' = w := by
  have hz := bl_size s
  have hsz : 0 < s.size := by rw [hz, hl]; simp
  have b0 := bl_at (pre := []) hl hsz
  have hne : s ≠ ByteArray.empty := fun h => by rw [h] at hsz; exact absurd hsz (by decide)
  simp only [List.length_nil] at b0
  have HL := Lib.hid hl
  clear hl hz
  go_enter Tryz.func116, Tryz.ntmps116
  go_wp2_with fail
  have hx : bl (s.extract 1 s.size) = c0 :: l0 := by rw [bl_drop1, HL.out]; rfl
  refine (cp_digit _ c0 l0 _ hx h0).mono ?_
  rintro en w1 ⟨rfl, hw⟩; rw [hw]; clear hw w1
  go_wp2_with fail
  go_ret3
  exact ⟨rfl, rfl⟩
theorem cp_nan (w : World) : Calls Tryz.prog 153 #[.string ⟨#[78, 97, 78]⟩, .string ⟨#[110, 97, 110]⟩] w fun en w' => en = .returned (.int .i64 3) ∧ w' = w := by
  have b0 : ((⟨#[78, 97, 78]⟩ : ByteArray)[0]'(by decide)).toNat = 78 := rfl
  have b1 : ((⟨#[78, 97, 78]⟩ : ByteArray)[1]'(by decide)).toNat = 97 := rfl
  have b2 : ((⟨#[78, 97, 78]⟩ : ByteArray)[2]'(by decide)).toNat = 78 := rfl
  have e0 : ((⟨#[110, 97, 110]⟩ : ByteArray)[0]'(by decide)).toNat = 110 := rfl
  have e1 : ((⟨#[110, 97, 110]⟩ : ByteArray)[1]'(by decide)).toNat = 97 := rfl
  have e2 : ((⟨#[110, 97, 110]⟩ : ByteArray)[2]'(by decide)).toNat = 110 := rfl
  go_enter Tryz.func153, Tryz.ntmps153
  go_wp2_with fail
  refine wp_loop_rounds 4 ?_
  rw [rounds_succ]; go_wp2_with fail
  rw [rounds_succ]; go_wp2_with fail
  rw [rounds_succ]; go_wp2_with fail
  rw [rounds_succ]; go_wp2_with fail
  go_ret
  exact ⟨rfl, rfl⟩
theorem cp_inf (w : World) : Calls Tryz.prog 153 #[.string ⟨#[73, 110, 102]⟩, .string ⟨#[105, 110, 102, 105, 110, 105, 116, 121]⟩] w fun en w' => en = .returned (.int .i64 3) ∧ w' = w := by
  have b0 : ((⟨#[73, 110, 102]⟩ : ByteArray)[0]'(by decide)).toNat = 73 := rfl
  have b1 : ((⟨#[73, 110, 102]⟩ : ByteArray)[1]'(by decide)).toNat = 110 := rfl
  have b2 : ((⟨#[73, 110, 102]⟩ : ByteArray)[2]'(by decide)).toNat = 102 := rfl
  have e0 : ((⟨#[105, 110, 102, 105, 110, 105, 116, 121]⟩ : ByteArray)[0]'(by decide)).toNat = 105 := rfl
  have e1 : ((⟨#[105, 110, 102, 105, 110, 105, 116, 121]⟩ : ByteArray)[1]'(by decide)).toNat = 110 := rfl
  have e2 : ((⟨#[105, 110, 102, 105, 110, 105, 116, 121]⟩ : ByteArray)[2]'(by decide)).toNat = 102 := rfl
  go_enter Tryz.func153, Tryz.ntmps153
  go_wp2_with fail
  refine wp_loop_rounds 4 ?_
  rw [rounds_succ]; go_wp2_with fail
  rw [rounds_succ]; go_wp2_with fail
  rw [rounds_succ]; go_wp2_with fail
  rw [rounds_succ]; go_wp2_with fail
  go_ret
  exact ⟨rfl, rfl⟩
theorem inf_calls (sg : Int) (b : Nat) (h : (sg = 1 ∧ b = 9218868437227405312) ∨ (sg = -1 ∧ b = 18442240474082181120)) (w : World) : Calls Tryz.prog 154 #[.int .i64 sg] w fun en w' => en = .returned (.float .f64 b) ∧ w' = w := by
  have k1 : ∀ w, Sem.run Tryz.prog (callFunc 126 #[.int .u64 9218868437227405312]) w = .ok (.value (.float .f64 9218868437227405312)) w := fun w => by kernel_rfl
  have k2 : ∀ w, Sem.run Tryz.prog (callFunc 126 #[.int .u64 18442240474082181120]) w = .ok (.value (.float .f64 18442240474082181120)) w := fun w => by kernel_rfl
  rcases h with ⟨rfl, rfl⟩ | ⟨rfl, rfl⟩
  · go_enter Tryz.func154, Tryz.ntmps154
    go_wp2_with fail
    go_ret
    exact ⟨rfl, rfl⟩
  · go_enter Tryz.func154, Tryz.ntmps154
    go_wp2_with fail
    go_ret
    exact ⟨rfl, rfl⟩
theorem nan_calls (w : World) : Calls Tryz.prog 155 #[] w fun en w' => en = .returned (.float .f64 9221120237041090561) ∧ w' = w := by
  have k1 : ∀ w, Sem.run Tryz.prog (callFunc 126 #[.int .u64 9221120237041090561]) w = .ok (.value (.float .f64 9221120237041090561)) w := fun w => by kernel_rfl
  go_enter Tryz.func155, Tryz.ntmps155
  go_wp2_with fail
  go_ret
  exact ⟨rfl, rfl⟩
theorem sp_nan (w : World) : Calls Tryz.prog 116 #[.string ⟨#[78, 97, 78]⟩] w fun en w' => en = .returned (.tuple #[.float .f64 9221120237041090561, .int .i64 3, .bool true]) ∧ w' = w := by
  have b0 : ((⟨#[78, 97, 78]⟩ : ByteArray)[0]'(by decide)).toNat = 78 := rfl
  go_enter Tryz.func116, Tryz.ntmps116
  go_wp2_with fail
  refine (cp_nan _).mono ?_
  rintro en w1 ⟨rfl, hw⟩; rw [hw]; clear hw w1
  go_wp2_with fail
  refine (nan_calls _).mono ?_
  rintro en w1 ⟨rfl, hw⟩; rw [hw]; clear hw w1
  go_wp2_with fail
  go_ret3
  exact ⟨rfl, rfl⟩
theorem sp_pinf (w : World) : Calls Tryz.prog 116 #[.string ⟨#[43, 73, 110, 102]⟩] w fun en w' => en = .returned (.tuple #[.float .f64 9218868437227405312, .int .i64 4, .bool true]) ∧ w' = w := by
  have b0 : ((⟨#[43, 73, 110, 102]⟩ : ByteArray)[0]'(by decide)).toNat = 43 := rfl
  have e1 : (⟨#[43, 73, 110, 102]⟩ : ByteArray).extract 1 4 = ⟨#[73, 110, 102]⟩ := by decide +kernel
  go_enter Tryz.func116, Tryz.ntmps116
  go_wp2_with fail
  try rw [e1]
  refine (cp_inf _).mono ?_
  rintro en w1 ⟨rfl, hw⟩; rw [hw]; clear hw w1
  go_wp2_with fail
  refine (inf_calls 1 _ (.inl ⟨rfl, rfl⟩) _).mono ?_
  rintro en w1 ⟨rfl, hw⟩; rw [hw]; clear hw w1
  go_wp2_with fail
  go_ret3
  exact ⟨rfl, rfl⟩
theorem sp_ninf (w : World) : Calls Tryz.prog 116 #[.string ⟨#[45, 73, 110, 102]⟩] w fun en w' => en = .returned (.tuple #[.float .f64 18442240474082181120, .int .i64 4, .bool true]) ∧ w' = w := by
  have b0 : ((⟨#[45, 73, 110, 102]⟩ : ByteArray)[0]'(by decide)).toNat = 45 := rfl
  have e1 : (⟨#[45, 73, 110, 102]⟩ : ByteArray).extract 1 4 = ⟨#[73, 110, 102]⟩ := by decide +kernel
  go_enter Tryz.func116, Tryz.ntmps116
  go_wp2_with fail
  try rw [e1]
  refine (cp_inf _).mono ?_
  rintro en w1 ⟨rfl, hw⟩; rw [hw]; clear hw w1
  go_wp2_with fail
  refine (inf_calls (-1) _ (.inr ⟨rfl, rfl⟩) _).mono ?_
  rintro en w1 ⟨rfl, hw⟩; rw [hw]; clear hw w1
  go_wp2_with fail
  go_ret3
  exact ⟨rfl, rfl⟩
end Go.Proofs.YthjfdhkahmlolaaGreatDoor
