/- The walks of the program's pairs. -/
import Derived.Test.YtgcjhdcplmfjbaaRefb
namespace Go.Proofs.Ytgcjhdcplmfjbaa
open Go.RowKit Flt

theorem run_tobits (x : Nat) (w : World) : Sem.run Try.prog (callFunc 12 #[.float .f64 x]) w = .ok (.value (.int .u64 (x : Nat))) w := by kernel_rfl
theorem run_frombits (x : Nat) (w : World) : Sem.run Try.prog (callFunc 28 #[.int .u64 (x : Nat)]) w = .ok (.value (.float .f64 x)) w := by kernel_rfl

/-- the sum as the program has it: of a NaN, whichever the tape tells -/
def faddV (x y : Nat) (w : World) : Nat :=
  match D.add x y with
  | some r => r
  | none => (Question.nanBits .f64 x y).cut (w.tape w.drawn (Question.nanBits .f64 x y))
def faddW (x y : Nat) (w : World) : World := match D.add x y with | some _ => w | none => w.drew
def fsubV (x y : Nat) (w : World) : Nat :=
  match D.sub x y with
  | some r => r
  | none => (Question.nanBits .f64 x y).cut (w.tape w.drawn (Question.nanBits .f64 x y))
def fsubW (x y : Nat) (w : World) : World := match D.sub x y with | some _ => w | none => w.drew
theorem run_fadd (x y : Nat) (w : World) : Sem.run Try.prog (binOp .add 33 (.float .f64 x) (.float .f64 y)) w = .ok (.float .f64 (faddV x y w)) (faddW x y w) := by
  unfold faddV faddW
  cases h : D.add x y with
  | some r => simp [binOp, Op.floatArith, FloatKind.format, h]
  | none => simp [binOp, Op.floatArith, FloatKind.format, h, choose]; rfl
theorem run_fsub (x y : Nat) (w : World) : Sem.run Try.prog (binOp .sub 33 (.float .f64 x) (.float .f64 y)) w = .ok (.float .f64 (fsubV x y w)) (fsubW x y w) := by
  unfold fsubV fsubW
  cases h : D.sub x y with
  | some r => simp [binOp, Op.floatArith, FloatKind.format, h]
  | none => simp [binOp, Op.floatArith, FloatKind.format, h, choose]; rfl

set_option maxHeartbeats 400000 in
theorem abs_any (x : Nat) (w : World) (hx : x < 18446744073709551616) :
    Calls Try.prog 41 #[.float .f64 x] w fun e w' => e = .returned (.float .f64 (mag x)) ∧ w = w' := by
  have hm := mag_bits x hx
  have hx' := Lib.hid hx
  have k1 := run_tobits
  have k2 := run_frombits
  clear hx
  go_enter Try.func41, Try.ntmps41
  go_wp2
  go_ret
  exact ⟨rfl, rfl⟩

def fgeq (x y : Nat) : Bool := D.order x y == some .gt || D.order x y == some .eq
theorem run_fgeq (x y : Nat) (w : World) : Sem.run Try.prog (binOp .geq 33 (.float .f64 x) (.float .f64 y)) w = .ok (.bool (fgeq x y)) w := by
  simp [binOp, Op.floatCmp, FloatKind.format, fgeq]

/-- the same floats, all NaNs alike -/
def Sim (x y : Nat) : Prop := one x = one y
theorem Sim.refl (x : Nat) : Sim x x := rfl
theorem one_nan {x : Nat} (h : nan x = true) : one x = 9221120237041090560 := by unfold one; rw [h]; rfl
theorem one_num {x : Nat} (h : nan x = false) : one x = x := by unfold one; rw [h]; rfl
theorem nan_one (x : Nat) : nan (one x) = nan x := by
  cases h : nan x
  · rw [one_num h, h]
  · rw [one_nan h]; decide
theorem Sim.nan {x y : Nat} (h : Sim x y) : nan x = nan y := by rw [← nan_one x, h, nan_one]
theorem radd_one (x y : Nat) : radd (one x) (one y) = radd x y := by
  cases hx : Flt.nan x
  · cases hy : Flt.nan y
    · rw [one_num hx, one_num hy]
    · rw [radd_nan x y (.inr hy), radd_nan _ _ (.inr (by rw [nan_one]; exact hy))]
  · rw [radd_nan x y (.inl hx), radd_nan _ _ (.inl (by rw [nan_one]; exact hx))]
theorem Sim.radd {x y x' y' : Nat} (h : Sim x x') (k : Sim y y') : radd x y = radd x' y' := by rw [← radd_one x y, h, k, radd_one]
theorem flip_nan {x : Nat} (hx : x < 18446744073709551616) : Flt.nan (Flt.flip x) = Flt.nan x := by unfold Flt.nan; rw [mag_flip x hx]
theorem Sim.flip {x x' : Nat} (h : Sim x x') (hx : x < 18446744073709551616) (hx' : x' < 18446744073709551616) : Sim (Flt.flip x) (Flt.flip x') := by
  have hn := h.nan
  cases hv : Flt.nan x
  · have : x = x' := by have e := h; unfold Sim at e; rw [one_num hv, one_num (by rw [← hn]; exact hv)] at e; exact e
    rw [this]; exact Sim.refl _
  · unfold Sim
    rw [one_nan (by rw [flip_nan hx]; exact hv), one_nan (by rw [flip_nan hx', ← hn]; exact hv)]

theorem cut_nan (x y t : Nat) : Flt.nan ((Question.nanBits .f64 x y).cut t) = true ∧ (Question.nanBits .f64 x y).cut t < 18446744073709551616 := by
  have e : (Question.nanBits .f64 x y).cut t = (t % 2) * 9223372036854775808 + 9218868437227405312 + 1 + (t / 2) % 4503599627370495 := rfl
  rw [e]
  unfold Flt.nan mag
  rw [decide_eq_true_iff]
  have hr : t / 2 % 4503599627370495 < 4503599627370495 := Nat.mod_lt _ (by omega)
  generalize t / 2 % 4503599627370495 = r at *
  rcases (show t % 2 = 0 ∨ t % 2 = 1 by omega) with q | q <;> rw [q] <;> omega
theorem faddV_sim (x y : Nat) (w : World) : Sim (faddV x y w) (radd x y) ∧ faddV x y w < 18446744073709551616 := by
  unfold faddV radd
  cases h : D.add x y with
  | some r => exact ⟨Sim.refl _, Ieee.Format.add_lt D h⟩
  | none =>
    obtain ⟨h1, h2⟩ := cut_nan x y (w.tape w.drawn (.nanBits .f64 x y))
    exact ⟨by unfold Sim; rw [one_nan h1]; decide, h2⟩
theorem read_flip (y : Nat) (hy : y < 18446744073709551616) : (D.read y).opposite = D.read (Flt.flip y) ∨ Flt.nan y = true := by
  cases hn : Flt.nan y
  · left
    have hm : mag y ≤ 9218868437227405312 := by unfold Flt.nan at hn; simpa using hn
    by_cases h : mag y < 9218868437227405312
    · rw [read_fin y h, read_fin (Flt.flip y) (by rw [mag_flip y hy]; exact h), mag_flip y hy, neg_flip y hy]; rfl
    · rw [read_inf y (by omega), read_inf (Flt.flip y) (by rw [mag_flip y hy]; omega), neg_flip y hy]; rfl
  · exact .inr rfl
theorem sub_eq (x y : Nat) (hy : y < 18446744073709551616) : D.sub x y = D.add x (Flt.flip y) := by
  rcases read_flip y hy with h | h
  · unfold Ieee.Format.sub Ieee.Format.add; rw [h]
  · rw [add_nan x (Flt.flip y) (.inr (by rw [flip_nan hy]; exact h))]
    obtain ⟨s, t, e⟩ := read_nan y h
    unfold Ieee.Format.sub
    rw [e, sum_comm]; rfl
theorem fsubV_sim (x y : Nat) (w : World) (hy : y < 18446744073709551616) : Sim (fsubV x y w) (rsub x y) ∧ fsubV x y w < 18446744073709551616 := by
  unfold fsubV rsub radd
  rw [sub_eq x y hy]
  cases h : D.add x (Flt.flip y) with
  | some r => exact ⟨Sim.refl _, Ieee.Format.add_lt D h⟩
  | none =>
    obtain ⟨h1, h2⟩ := cut_nan x y (w.tape w.drawn (.nanBits .f64 x y))
    exact ⟨by unfold Sim; rw [one_nan h1]; decide, h2⟩
theorem faddW_still (x y : Nat) (w : World) : Still w (faddW x y w) := by
  unfold faddW; cases D.add x y with
  | some r => exact Still.refl _
  | none => exact (Still.refl _).drew
theorem fsubW_still (x y : Nat) (w : World) : Still w (fsubW x y w) := by
  unfold fsubW; cases D.sub x y with
  | some r => exact Still.refl _
  | none => exact (Still.refl _).drew

theorem mag_mag (x : Nat) : mag (mag x) = mag x := by unfold mag; omega
theorem nan_mag (x : Nat) : Flt.nan (mag x) = Flt.nan x := by unfold Flt.nan; rw [mag_mag]
theorem key_mag (x : Nat) : key (mag x) = (mag x : Int) := by
  have : neg (mag x) = false := by unfold neg mag; rw [beq_eq_false_iff_ne]; omega
  unfold key; rw [this, mag_mag]; rfl
theorem fgeq_mag (a b : Nat) : fgeq (mag a) (mag b) = (!nan a && !nan b && decide (mag b ≤ mag a)) := by
  unfold fgeq
  cases ha : nan a
  · cases hb : nan b
    · rw [order_eq _ _ (by rw [nan_mag]; exact ha) (by rw [nan_mag]; exact hb), key_mag, key_mag]
      have e : compare (mag a : Int) (mag b : Int) = if mag a < mag b then Ordering.lt else if mag a = mag b then Ordering.eq else Ordering.gt := by
        simp only [compare, compareOfLessAndEq]
        by_cases h1 : mag a < mag b
        · rw [if_pos h1, if_pos (by omega)]
        · rw [if_neg h1, if_neg (by omega)]
          by_cases h2 : mag a = mag b
          · rw [if_pos h2, if_pos (by omega)]
          · rw [if_neg h2, if_neg (by omega)]
      rw [e]
      by_cases h1 : mag a < mag b
      · have : ¬ mag b ≤ mag a := by omega
        simp [h1, this]
      · have : mag b ≤ mag a := by omega
        by_cases h2 : mag a = mag b <;> simp [h1, h2, this]
    · rw [order_nan _ _ (.inr (by rw [nan_mag]; exact hb))]; simp
  · rw [order_nan _ _ (.inl (by rw [nan_mag]; exact ha))]; simp
def ploss (a b t : Nat) : Nat := if fgeq (mag a) (mag b) then radd (rsub a t) b else radd (rsub b t) a
theorem rloss_eq (a b : Nat) : rloss a b = ploss a b (radd a b) := by
  unfold rloss ploss
  rw [fgeq_mag]
  cases nan a <;> cases nan b <;> simp

theorem ploss_sim {a b t t' : Nat} (h : Sim t t') (ht : t < 18446744073709551616) (ht' : t' < 18446744073709551616) : ploss a b t = ploss a b t' := by
  unfold ploss rsub
  rw [(Sim.refl a).radd (h.flip ht ht'), (Sim.refl b).radd (h.flip ht ht')]
def FRes (w : World) (v : Nat) (e : Ending) (w' : World) : Prop := ∃ r, e = .returned (.float .f64 r) ∧ Sim r v ∧ r < 18446744073709551616 ∧ Still w w'

set_option maxHeartbeats 400000 in
theorem ploss_any (a b t : Nat) (w : World) (ha : a < 18446744073709551616) (hb : b < 18446744073709551616) (ht : t < 18446744073709551616) :
    Calls Try.prog 29 #[.float .f64 a, .float .f64 b, .float .f64 t] w (FRes w (ploss a b t)) := by
  have ha' := Lib.hid ha
  have hb' := Lib.hid hb
  have ht' := Lib.hid ht
  have k1 := run_fadd
  have k2 := run_fsub
  clear ha hb ht
  cases h1 : (FloatKind.f64.format.order (mag a) (mag b) == some Ordering.gt) <;> cases h2 : (FloatKind.f64.format.order (mag a) (mag b) == some Ordering.eq)
  · have hr : Hid (ploss a b t = radd (rsub b t) a) := by
      show _ = _; unfold ploss fgeq
      rw [show (D.order (mag a) (mag b) == some Ordering.gt) = false from h1, show (D.order (mag a) (mag b) == some Ordering.eq) = false from h2]; rfl
    go_enter Try.func29, Try.ntmps29
    go_wp2_with fail
    refine (abs_any a _ ha'.out).mono ?_
    rintro e w1 ⟨rfl, rfl⟩
    go_wp2_with fail
    refine (abs_any b _ hb'.out).mono ?_
    rintro e w1 ⟨rfl, rfl⟩
    go_wp2_with fail
    go_ret
    obtain ⟨s1, l1⟩ := fsubV_sim b t w ht'.out
    obtain ⟨s2, l2⟩ := faddV_sim (fsubV b t w) a (fsubW b t w)
    exact ⟨_, rfl, by unfold Sim; rw [s2, hr.out, s1.radd (Sim.refl a)], l2, (fsubW_still _ _ _).trans (faddW_still _ _ _)⟩
  all_goals
    have hr : Hid (ploss a b t = radd (rsub a t) b) := by
      show _ = _; unfold ploss fgeq
      rw [show (D.order (mag a) (mag b) == some Ordering.gt) = _ from h1, show (D.order (mag a) (mag b) == some Ordering.eq) = _ from h2]; rfl
    go_enter Try.func29, Try.ntmps29
    go_wp2_with fail
    refine (abs_any a _ ha'.out).mono ?_
    rintro e w1 ⟨rfl, rfl⟩
    go_wp2_with fail
    refine (abs_any b _ hb'.out).mono ?_
    rintro e w1 ⟨rfl, rfl⟩
    go_wp2_with fail
    go_ret
    obtain ⟨s1, l1⟩ := fsubV_sim a t w ht'.out
    obtain ⟨s2, l2⟩ := faddV_sim (fsubV a t w) b (fsubW a t w)
    exact ⟨_, rfl, by unfold Sim; rw [s2, hr.out, s1.radd (Sim.refl b)], l2, (fsubW_still _ _ _).trans (faddW_still _ _ _)⟩

/-- complex numbers as pairs of words -/
abbrev CW (p : Nat × Nat) : Value := .complex .f64 p.1 p.2
def Sim2 (p q : Nat × Nat) : Prop := Sim p.1 q.1 ∧ Sim p.2 q.2
def CRes (w : World) (q : Nat × Nat) (e : Ending) (w' : World) : Prop := ∃ p, e = .returned (CW p) ∧ Sim2 p q ∧ Ok2 p ∧ Still w w'

set_option maxHeartbeats 400000 in
theorem padd_any (p : Nat × Nat) (x : Nat) (w : World) (hp : Ok2 p) (hx : x < 18446744073709551616) :
    Calls Try.prog 19 #[.complex .f64 p.1 p.2, .float .f64 x] w (CRes w (rput p x)) := by
  obtain ⟨s, c⟩ := p
  obtain ⟨hs, hc⟩ := hp
  have hs' := Lib.hid hs
  have hc' := Lib.hid hc
  have hx' := Lib.hid hx
  have k1 := run_fadd
  clear hs hc hx
  dsimp only at hs' hc' ⊢
  obtain ⟨t1, t2⟩ := faddV_sim s x w
  have t1' := Lib.hid t1
  have t2' := Lib.hid t2
  clear t1 t2
  have st := Lib.hid (faddW_still s x w)
  go_enter Try.func19, Try.ntmps19
  go_wp2_with fail
  refine (ploss_any s x _ _ hs'.out hx'.out t2'.out).mono ?_
  rintro e w1 ⟨r, rfl, r1, r2, r3⟩
  have r1' := Lib.hid r1
  have r2' := Lib.hid r2
  clear r1 r2
  go_wp2_with fail
  go_ret
  obtain ⟨u1, u2⟩ := faddV_sim c r w1
  refine ⟨(faddV s x w, faddV c r w1), rfl, ⟨t1'.out, ?_⟩, ⟨t2'.out, u2⟩, (st.out.trans r3).trans (faddW_still _ _ _)⟩
  unfold Sim
  rw [u1]
  show one (radd c r) = one (radd c (rloss s x))
  rw [(Sim.refl c).radd r1'.out, rloss_eq]
  have : ploss s x (faddV s x w) = ploss s x (radd s x) := ploss_sim t1'.out t2'.out (radd_lt _ _)
  rw [this]
end Go.Proofs.Ytgcjhdcplmfjbaa
