/- The walks of Merge, Total, Of, and of the law's small functions. -/
import Derived.Test.YtgcjhdcplmfjbaaPairw
import Derived.Test.YtgcjhdcplmfjbaaGrow
namespace Go.Proofs.Ytgcjhdcplmfjbaa
open Go.RowKit Flt

theorem Sim.num {x y : Nat} (h : Sim x y) (hx : Flt.nan x = false) : x = y := by
  have e := h
  unfold Sim at e
  rwa [one_num hx, one_num (by rw [← h.nan]; exact hx)] at e
theorem rloss_nan {a b : Nat} (h : Flt.nan a = true ∨ Flt.nan b = true) : rloss a b = 9221120237041090560 := by
  have : ¬ (Flt.nan a = false ∧ Flt.nan b = false ∧ mag b ≤ mag a) := by
    rintro ⟨h1, h2, _⟩
    rcases h with h | h
    · rw [h1] at h; cases h
    · rw [h2] at h; cases h
  unfold rloss
  rw [if_neg this]
  rcases h with h | h
  · exact radd_nan _ _ (.inr h)
  · have h2 : rsub b (radd a b) = 9221120237041090560 := radd_nan _ _ (.inl h)
    rw [h2]; exact radd_nan _ _ (.inl (by decide))
theorem rloss_sim {a a' b b' : Nat} (h : Sim a a') (k : Sim b b') : rloss a b = rloss a' b' := by
  cases hna : Flt.nan a
  · cases hnb : Flt.nan b
    · rw [h.num hna, k.num hnb]
    · rw [rloss_nan (.inr hnb), rloss_nan (.inr (by rw [← k.nan]; exact hnb))]
  · rw [rloss_nan (.inl hna), rloss_nan (.inl (by rw [← h.nan]; exact hna))]
theorem rput_sim {p q : Nat × Nat} {x y : Nat} (h : Sim2 p q) (k : Sim x y) : rput p x = rput q y := by
  unfold rput
  rw [h.1.radd k, rloss_sim h.1 k, h.2.radd (Sim.refl _)]
theorem rmerge_sim {p q p' q' : Nat × Nat} (h : Sim2 p p') (k : Sim2 q q') : rmerge p q = rmerge p' q' := by
  unfold rmerge
  rw [h.1.radd k.1, rloss_sim h.1 k.1, h.2.radd k.2]

set_option maxHeartbeats 400000 in
theorem pmerge_any (p q : Nat × Nat) (w : World) (hp : Ok2 p) (hq : Ok2 q) :
    Calls Try.prog 9 #[.complex .f64 p.1 p.2, .complex .f64 q.1 q.2] w (CRes w (rmerge p q)) := by
  obtain ⟨s, c⟩ := p
  obtain ⟨hs, hc⟩ := hp
  obtain ⟨x, d⟩ := q
  obtain ⟨hx, hd⟩ := hq
  have hs' := Lib.hid hs
  have hc' := Lib.hid hc
  have hx' := Lib.hid hx
  have hd' := Lib.hid hd
  have k1 := run_fadd
  clear hs hc hx hd
  dsimp only at hs' hc' hx' hd' ⊢
  obtain ⟨t1, t2⟩ := faddV_sim s x w
  have t1' := Lib.hid t1
  have t2' := Lib.hid t2
  obtain ⟨v1, v2⟩ := faddV_sim c d (faddW s x w)
  have v1' := Lib.hid v1
  clear t1 t2 v1 v2
  have st := Lib.hid ((faddW_still s x w).trans (faddW_still c d _))
  go_enter Try.func9, Try.ntmps9
  go_wp2_with fail
  refine (ploss_any s x _ _ hs'.out hx'.out t2'.out).mono ?_
  rintro e w1 ⟨r, rfl, r1, r2, r3⟩
  have r1' := Lib.hid r1
  have r2' := Lib.hid r2
  clear r1 r2
  go_wp2_with fail
  go_ret
  obtain ⟨u1, u2⟩ := faddV_sim (faddV c d (faddW s x w)) r w1
  refine ⟨(faddV s x w, faddV (faddV c d (faddW s x w)) r w1), rfl, ⟨t1'.out, ?_⟩, ⟨t2'.out, u2⟩, (st.out.trans r3).trans (faddW_still _ _ _)⟩
  unfold Sim
  rw [u1]
  show one (radd (faddV c d (faddW s x w)) r) = one (radd (radd c d) (rloss s x))
  have : ploss s x (faddV s x w) = rloss s x := by rw [rloss_eq]; exact ploss_sim t1'.out t2'.out (radd_lt _ _)
  rw [v1'.out.radd r1'.out, this]

set_option maxHeartbeats 400000 in
theorem ptotal_any (p : Nat × Nat) (w : World) :
    Calls Try.prog 13 #[.complex .f64 p.1 p.2] w (FRes w (radd p.1 p.2)) := by
  have k1 := run_fadd
  go_enter Try.func13, Try.ntmps13
  go_wp2_with fail
  go_ret
  obtain ⟨u1, u2⟩ := faddV_sim p.1 p.2 w
  exact ⟨_, rfl, by unfold Sim; rw [u1], u2, faddW_still _ _ _⟩

/-- floats in memory -/
structure Floats (w : World) (a : Option Addr) (len : Nat) (us : Nat → Nat) : Prop where
  at_ : ∀ j, j < len → ∃ p o, a = some ⟨p, o, none⟩ ∧ p < w.heap.size ∧ w.cell? ⟨p, o + j, none⟩ = some (.float .f64 (us j)) ∧ us j < 18446744073709551616
def PO (w : World) (us : Nat → Nat) (len : Nat) (v i : Value) (wr : World) : Prop := ∃ (k : Nat) (p : Nat × Nat), k ≤ len ∧ i = .int .i64 k ∧ v = .complex .f64 p.1 p.2 ∧ Sim2 p (rof us k) ∧ Ok2 p ∧ Still w wr

set_option maxHeartbeats 1000000 in
theorem pof_any (a : Option Addr) (len cap : Nat) (us : Nat → Nat) (w : World) (hlen : len ≤ 9223372036854775807) (hw : Floats w a len us) :
    Calls Try.prog 16 #[.slice a len cap] w (CRes w (rof us len)) := by
  have hw' := Lib.hid hw; clear hw
  go_enter Try.func16, Try.ntmps16
  go_wp2
  go_loopw [3, 8] (fun v i wr => PO w us len v i wr) (fun _ i _ => len - (intOf i).toNat)
  case atStart => exact ⟨0, (0, 0), Nat.zero_le _, rfl, rfl, ⟨Sim.refl _, Sim.refl _⟩, rof_ok us 0, Still.refl _⟩
  case round =>
    obtain ⟨k, ⟨s, c⟩, hk, rfl, rfl, hsim, hok, hst⟩ := hrel
    have hok' := Lib.hid hok
    have hsim' := Lib.hid hsim
    clear hok hsim
    by_cases hlt : k < len
    · obtain ⟨p, o, rfl, hp, hc, hu⟩ := hw'.out.at_ k hlt
      rw [← hst.cell] at hc
      have hu' := Lib.hid hu
      clear hu
      go_wp2_with fail
      refine (padd_any (s, c) (us k) _ hok'.out hu'.out).mono ?_
      rintro e w1 ⟨⟨s1, c1⟩, rfl, r1, r2, r3⟩
      have r1' := Lib.hid r1
      have r2' := Lib.hid r2
      have hr : Hid (Sim2 (s1, c1) (rof us (k + 1))) := by
        have := rput_sim hsim'.out (Sim.refl (us k))
        show Sim2 _ (rput (rof us k) (us k))
        rw [← this]; exact r1
      have hst1 := hst.trans r3
      clear r1 r2
      go_wp2_with fail
      go_roundw
      case rel => exact ⟨k + 1, (s1, c1), by omega, by go_num, rfl, hr.out, r2'.out, hst1⟩
      case measure => simp [intOf]; omega
    · obtain rfl : k = len := by omega
      go_wp2_with fail
      go_ret
      exact ⟨(s, c), rfl, hsim'.out, hok'.out, hst⟩

theorem sameW_of {x y : Nat} (h : Sim x y) : sameW x y = true := by unfold sameW; rw [beq_iff_eq]; exact h

set_option maxHeartbeats 1000000 in
theorem lawsame_any (p q : Nat × Nat) (w : World) (hp : Ok2 p) (hq : Ok2 q) (h : Sim2 p q) :
    Calls Try.prog 8 #[.complex .f64 p.1 p.2, .agg #[.int .u64 (q.1 : Nat), .int .u64 (q.2 : Nat)]] w fun e w' => e = .returned (.bool true) ∧ Only (fun _ => False) w w' := by
  obtain ⟨s, c⟩ := p
  obtain ⟨hs, hc⟩ := hp
  obtain ⟨x, d⟩ := q
  obtain ⟨hx, hd⟩ := hq
  have hs' := Lib.hid hs
  have hc' := Lib.hid hc
  have hx' := Lib.hid hx
  have hd' := Lib.hid hd
  have e1 : sameW s x = true := sameW_of h.1
  have e2 : sameW c d = true := sameW_of h.2
  have k1 := run_tobits
  clear hs hc hx hd h
  dsimp only at hs' hc' hx' hd' ⊢
  go_enter Try.func8, Try.ntmps8
  go_wp2_with fail
  go_quiet ((go_at_call 11; exact Calls.quiet_of_same (still_of (sameW_any _ _ _ (by first | exact hs'.out | exact hc'.out) (by first | exact hx'.out | exact hd'.out)))))
  go_wp2
  go_ret
  exact ⟨rfl, ((Only.refl _ _).alloc _).drewN _⟩
end Go.Proofs.Ytgcjhdcplmfjbaa
