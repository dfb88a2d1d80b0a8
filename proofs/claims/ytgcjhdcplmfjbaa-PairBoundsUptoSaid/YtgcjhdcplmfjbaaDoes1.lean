/- The walks of made, floats, fixed. -/
import Derived.Test.YtgcjhdcplmfjbaaLaww
import Derived.Deep.RegionHeld3
namespace Go.Proofs.Ytgcjhdcplmfjbaa
open Go.RowKit Flt

set_option maxHeartbeats 1000000 in
theorem made_any (s c : Nat) (w : World) :
    Calls Try.prog 7 #[.agg #[.int .u64 (s : Nat), .int .u64 (c : Nat)]] w fun e w' => e = .returned (.complex .f64 s c) ∧ Only (fun _ => False) w w' := by
  have k1 := run_frombits
  go_enter Try.func7, Try.ntmps7
  go_wp2_with fail
  go_quiet (fail)
  go_wp2
  go_ret
  exact ⟨rfl, ((Only.refl _ _).alloc _).drewN _⟩

theorem info33 : (Try.prog.info? 33).map (fun i => (i.zero, i.size, i.bytes)) = some (some (.float .f64 0), 1, 8) := by kernel_rfl
def fvals (us : Nat → Nat) (k : Nat) : List Value := (List.range k).map fun j => Value.float .f64 (us j)
theorem fvals_succ (us : Nat → Nat) (k : Nat) : fvals us k ++ [Value.float .f64 (us k)] = fvals us (k + 1) := by
  simp [fvals, List.range_succ]
def FlRes (w : World) (us : Nat → Nat) (len : Nat) (e : Ending) (w' : World) : Prop :=
  ∃ v, e = .returned v ∧ Only (fun _ => False) w w' ∧ w'.ownsRow w.heap.size 33 1 v len (fvals us len)
def FL (w : World) (us : Nat → Nat) (len : Nat) (v i : Value) (wr : World) : Prop := ∃ k : Nat, k ≤ len ∧ i = .int .i64 k ∧ Only (fun _ => False) w wr ∧ wr.ownsRow w.heap.size 33 1 v k (fvals us k)

set_option maxHeartbeats 1000000 in
theorem floats_any (a : Option Addr) (len cap : Nat) (us : Nat → Nat) (w : World) (hlen : len * 8 ≤ 140737488355328) (hw : Words w a len us) :
    Calls Try.prog 15 #[.slice a len cap] w (FlRes w us len) := by
  obtain ⟨i3, hi3, hz3, hs3, hb3⟩ := info_parts info33
  have hw' := Lib.hid hw; clear hw
  have k1 := run_frombits
  go_enter Try.func15, Try.ntmps15
  go_wp2
  go_loopw [3, 4] (fun v i wr => FL w us len v i wr) (fun _ i _ => len - (intOf i).toNat)
  case atStart => exact ⟨0, Nat.zero_le _, rfl, (Only.refl _ _).alloc _, World.ownsRow_lit _ #[] 0 (Nat.le_refl _) (Nat.zero_le _) rfl⟩
  case round =>
    obtain ⟨k, hk, rfl, hon, hown⟩ := hrel
    by_cases hlt : k < len
    · obtain ⟨p, o, rfl, hp, hc0, hu⟩ := hw'.out.at_ k hlt
      have hc := (hon.cellAt hp (by simp) (o + k)).trans hc0
      clear hu hc0
      go_wp2_with (at_builtin; refine wpList_append_kept _ rfl _ _ 36 rfl 33 i3 (.float .f64 0) 1 8 Try.underlying36 hi3 hz3 hs3 hb3 rfl (by decide) w.heap.size _ _ _ rfl (hown.alloc _) ?c1 ⟨wr.heap.size, 0, none⟩ 1 1 [.float .f64 (us k)] rfl rfl ?c2 ?c3 ?c4 ?c5 ?c6 ?_)
      case c1 => have := hon.size; simp; omega
      case c2 => exact cell_one_new _ _ _
      case c3 => simp [Value.oneCell']
      case c4 => omega
      case c5 => unfold maxLen; omega
      case c6 => omega
      intro v' w1 hgrew hown1
      rw [fvals_succ] at hown1
      have hnx := Lib.hid hown1
      have hon1 := (hon.alloc (.cells #[.float .f64 (us k)] 33)).grown hgrew.grown (fun g hg => .inl (hown.lt g hg).1)
      clear hown hown1 hgrew
      go_wp2
      go_roundw
      case rel => exact ⟨k + 1, by omega, by go_num, hon1, hnx.out⟩
      case measure => simp [intOf]; omega
    · obtain rfl : k = len := by omega
      go_wp2
      go_ret
      exact ⟨_, rfl, hon, hown⟩

theorem Sim.eq_of {x y : Nat} (h : Sim x y) (hy : Flt.nan y = false) : x = y := h.num (by rw [h.nan]; exact hy)
theorem Sim2.eq_of {p q : Nat × Nat} (h : Sim2 p q) (h1 : Flt.nan q.1 = false) (h2 : Flt.nan q.2 = false) : p = q := Prod.ext (h.1.eq_of h1) (h.2.eq_of h2)
def us1 (j : Nat) : Nat := if j = 0 then 4607182418800017408 else if j = 1 then 4336966441157787648 else 13830554455654793216
theorem rof1 : rof us1 3 = (0, 4336966441157787648) := by decide +kernel
theorem rof2 : rof (fun _ => 4607182418800017408) 1 = (4607182418800017408, 0) := by decide +kernel
theorem rof3 : rof (fun _ => 4611686018427387904) 1 = (4611686018427387904, 0) := by decide +kernel
theorem merge23 : rmerge (4607182418800017408, 0) (4611686018427387904, 0) = (4613937818241073152, 0) := by decide +kernel
theorem tot1 : radd 0 4336966441157787648 = 4336966441157787648 := by decide +kernel
theorem tot2 : radd 4613937818241073152 0 = 4613937818241073152 := by decide +kernel
theorem nan1 : Flt.nan 4336966441157787648 = false := by decide +kernel
theorem nan2 : Flt.nan 4607182418800017408 = false := by decide +kernel
theorem nan3 : Flt.nan 4611686018427387904 = false := by decide +kernel
theorem nan4 : Flt.nan 4613937818241073152 = false := by decide +kernel
theorem nan0 : Flt.nan 0 = false := by decide +kernel
theorem eq1 : (FloatKind.f64.format.order 0 0 == some Ordering.eq) = true := by decide +kernel
theorem eq2 : (FloatKind.f64.format.order 4336966441157787648 4336966441157787648 == some Ordering.eq) = true := by decide +kernel
theorem eq3 : (FloatKind.f64.format.order 4613937818241073152 4613937818241073152 == some Ordering.eq) = true := by decide +kernel
theorem floats_one (w : World) (x : Nat) (hx : x < 18446744073709551616) : Floats (w.alloc (.cells #[.float .f64 x] 33)) (some ⟨w.heap.size, 0, none⟩) 1 (fun _ => x) :=
  ⟨fun j hj => by
    obtain rfl : j = 0 := by omega
    exact ⟨w.heap.size, 0, rfl, by simp, blk_cell (blk_new w _) 0, hx⟩⟩
theorem floats_three (w : World) : Floats (w.alloc (.cells #[.float .f64 4607182418800017408, .float .f64 4336966441157787648, .float .f64 13830554455654793216] 33)) (some ⟨w.heap.size, 0, none⟩) 3 us1 :=
  ⟨fun j hj => by
    rcases (show j = 0 ∨ j = 1 ∨ j = 2 by omega) with rfl | rfl | rfl
    · exact ⟨w.heap.size, 0, rfl, by simp, blk_cell (blk_new w _) 0, by decide⟩
    · exact ⟨w.heap.size, 0, rfl, by simp, blk_cell (blk_new w _) 1, by decide⟩
    · exact ⟨w.heap.size, 0, rfl, by simp, blk_cell (blk_new w _) 2, by decide⟩⟩

set_option maxRecDepth 100000 in
set_option maxHeartbeats 1000000 in
theorem fixed_any (w : World) : Calls Try.prog 21 #[] w fun e w' => e = .returned (.bool true) ∧ Only (fun _ => False) w w' := by
  have q1 := eq1
  have q2 := eq2
  have q3 := eq3
  go_enter Try.func21, Try.ntmps21
  go_wp2_with fail
  refine (pof_any _ 3 3 us1 _ (by omega) (floats_three w)).mono ?_
  rintro e w1 ⟨p, rfl, r1, _, S1⟩
  rw [rof1] at r1
  obtain rfl := r1.eq_of nan0 nan1
  clear r1
  go_wp2_with fail
  refine (ptotal_any (0, 4336966441157787648) _).mono ?_
  rintro e w2 ⟨r, rfl, r1, _, S2⟩
  rw [tot1] at r1
  obtain rfl := r1.eq_of nan1
  clear r1
  go_wp2_with fail
  refine (pof_any _ 1 1 _ _ (by omega) (floats_one _ 4607182418800017408 (by decide))).mono ?_
  rintro e w3 ⟨p, rfl, r1, o1, S3⟩
  rw [rof2] at r1
  obtain rfl := r1.eq_of nan2 nan0
  clear r1
  go_wp2_with fail
  refine (pof_any _ 1 1 _ _ (by omega) (floats_one _ 4611686018427387904 (by decide))).mono ?_
  rintro e w4 ⟨p, rfl, r1, o2, S4⟩
  rw [rof3] at r1
  obtain rfl := r1.eq_of nan3 nan0
  clear r1
  have o1' := Lib.hid o1
  have o2' := Lib.hid o2
  clear o1 o2
  go_wp2_with fail
  refine (pmerge_any (4607182418800017408, 0) (4611686018427387904, 0) _ o1'.out o2'.out).mono ?_
  rintro e w5 ⟨p, rfl, r1, _, S5⟩
  rw [merge23] at r1
  obtain rfl := r1.eq_of nan4 nan0
  clear r1
  go_wp2_with fail
  refine (ptotal_any (4613937818241073152, 0) _).mono ?_
  rintro e w6 ⟨r, rfl, r1, _, S6⟩
  rw [tot2] at r1
  obtain rfl := r1.eq_of nan4
  clear r1
  go_wp2_with fail
  go_ret
  exact ⟨rfl, (((((((((Only.refl _ _).alloc _).trans (S1.only _)).trans (S2.only _)).alloc _).trans (S3.only _)).alloc _).trans (S4.only _)).trans (S5.only _)).trans (S6.only _)⟩
end Go.Proofs.Ytgcjhdcplmfjbaa
