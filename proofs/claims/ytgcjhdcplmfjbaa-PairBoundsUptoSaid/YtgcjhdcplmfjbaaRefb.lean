/- The walks of the reference's pairs. -/
import Derived.Test.YtgcjhdcplmfjbaaRefa
import Derived.StillTailTactics
import Derived.Deep.RegionWith
namespace Go.Proofs.Ytgcjhdcplmfjbaa
open Go.RowKit Flt

theorem radd_lt (a b : Nat) : radd a b < 18446744073709551616 := by
  unfold radd
  cases h : D.add a b with
  | none => simp
  | some r => exact Ieee.Format.add_lt D h
def rsub (a b : Nat) : Nat := radd a (Flt.flip b)
def rloss (a b : Nat) : Nat := if nan a = false ∧ nan b = false ∧ mag b ≤ mag a then radd (rsub a (radd a b)) b else radd (rsub b (radd a b)) a
theorem rloss_lt (a b : Nat) : rloss a b < 18446744073709551616 := by unfold rloss; split <;> exact radd_lt _ _

set_option maxHeartbeats 400000 in
theorem sub_any (a b : Nat) (w : World) (ha : a < 18446744073709551616) (hb : b < 18446744073709551616) :
    Calls Try.prog 42 #[.int .u64 a, .int .u64 b] w fun e w' => e = .returned (.int .u64 (rsub a b : Nat)) ∧ w = w' := by
  have hf := Lib.hid (flip_lt b hb)
  have ha' := Lib.hid ha
  have hb' := Lib.hid hb
  clear ha hb
  go_enter Try.func42, Try.ntmps42
  go_wp2_with fail
  refine (negative_any b _ hb'.out).mono ?_
  rintro e w1 ⟨rfl, rfl⟩
  go_wp2_with fail
  refine (add_any a (Flt.flip b) _ ha'.out hf.out).mono ?_
  rintro e w1 ⟨rfl, rfl⟩
  go_wp2_with fail
  go_ret
  exact ⟨rfl, rfl⟩

set_option maxHeartbeats 1000000 in
theorem loss_any (a b : Nat) (w : World) (ha : a < 18446744073709551616) (hb : b < 18446744073709551616) :
    Calls Try.prog 30 #[.int .u64 a, .int .u64 b] w fun e w' => e = .returned (.int .u64 (rloss a b : Nat)) ∧ w = w' := by
  have m1 := mag_bits a ha
  have m2 := mag_bits b hb
  have ha' := Lib.hid ha
  have hb' := Lib.hid hb
  have ht := Lib.hid (radd_lt a b)
  have hs1 : Hid (rsub a (radd a b) < 18446744073709551616) := radd_lt _ _
  have hs2 : Hid (rsub b (radd a b) < 18446744073709551616) := radd_lt _ _
  clear ha hb
  cases hna : nan a
  · cases hnb : nan b
    · by_cases hge : mag b ≤ mag a
      · have g1 : decide (mag b ≤ mag a) = true := by rw [decide_eq_true_iff]; exact hge
        have hr : Hid (rloss a b = radd (rsub a (radd a b)) b) := by show _ = _; unfold rloss; rw [if_pos ⟨hna, hnb, hge⟩]
        clear hge
        go_enter Try.func30, Try.ntmps30
        go_wp2_with fail
        refine (add_any a b _ ha'.out hb'.out).mono ?_
        rintro e w1 ⟨rfl, rfl⟩
        go_wp2_with fail
        refine (isnan_any a _ ha'.out).mono ?_
        rintro e w1 ⟨rfl, rfl⟩
        go_wp2_with fail
        refine (isnan_any b _ hb'.out).mono ?_
        rintro e w1 ⟨rfl, rfl⟩
        go_wp2_with fail
        refine (sub_any a (radd a b) _ ha'.out ht.out).mono ?_
        rintro e w1 ⟨rfl, rfl⟩
        go_wp2_with fail
        refine (add_any _ b _ hs1.out hb'.out).mono ?_
        rintro e w1 ⟨rfl, rfl⟩
        go_wp2_with fail
        go_ret
        exact ⟨by rw [hr.out]; rfl, rfl⟩
      · have g1 : decide (mag b ≤ mag a) = false := by rw [decide_eq_false_iff_not]; exact hge
        have hr : Hid (rloss a b = radd (rsub b (radd a b)) a) := by show _ = _; unfold rloss; rw [if_neg (fun h => hge h.2.2)]
        clear hge
        go_enter Try.func30, Try.ntmps30
        go_wp2_with fail
        refine (add_any a b _ ha'.out hb'.out).mono ?_
        rintro e w1 ⟨rfl, rfl⟩
        go_wp2_with fail
        refine (isnan_any a _ ha'.out).mono ?_
        rintro e w1 ⟨rfl, rfl⟩
        go_wp2_with fail
        refine (isnan_any b _ hb'.out).mono ?_
        rintro e w1 ⟨rfl, rfl⟩
        go_wp2_with fail
        refine (sub_any b (radd a b) _ hb'.out ht.out).mono ?_
        rintro e w1 ⟨rfl, rfl⟩
        go_wp2_with fail
        refine (add_any _ a _ hs2.out ha'.out).mono ?_
        rintro e w1 ⟨rfl, rfl⟩
        go_wp2_with fail
        go_ret
        exact ⟨by rw [hr.out]; rfl, rfl⟩
    · have hr : Hid (rloss a b = radd (rsub b (radd a b)) a) := by show _ = _; unfold rloss; rw [if_neg (fun h => by rw [hnb] at h; exact absurd h.2.1 (by simp))]
      go_enter Try.func30, Try.ntmps30
      go_wp2_with fail
      refine (add_any a b _ ha'.out hb'.out).mono ?_
      rintro e w1 ⟨rfl, rfl⟩
      go_wp2_with fail
      refine (isnan_any a _ ha'.out).mono ?_
      rintro e w1 ⟨rfl, rfl⟩
      go_wp2_with fail
      refine (isnan_any b _ hb'.out).mono ?_
      rintro e w1 ⟨rfl, rfl⟩
      go_wp2_with fail
      refine (sub_any b (radd a b) _ hb'.out ht.out).mono ?_
      rintro e w1 ⟨rfl, rfl⟩
      go_wp2_with fail
      refine (add_any _ a _ hs2.out ha'.out).mono ?_
      rintro e w1 ⟨rfl, rfl⟩
      go_wp2_with fail
      go_ret
      exact ⟨by rw [hr.out]; rfl, rfl⟩
  · have hr : Hid (rloss a b = radd (rsub b (radd a b)) a) := by show _ = _; unfold rloss; rw [if_neg (fun h => by rw [hna] at h; exact absurd h.1 (by simp))]
    go_enter Try.func30, Try.ntmps30
    go_wp2_with fail
    refine (add_any a b _ ha'.out hb'.out).mono ?_
    rintro e w1 ⟨rfl, rfl⟩
    go_wp2_with fail
    refine (isnan_any a _ ha'.out).mono ?_
    rintro e w1 ⟨rfl, rfl⟩
    go_wp2_with fail
    refine (isnan_any b _ hb'.out).mono ?_
    rintro e w1 ⟨rfl, rfl⟩
    go_wp2_with fail
    refine (sub_any b (radd a b) _ hb'.out ht.out).mono ?_
    rintro e w1 ⟨rfl, rfl⟩
    go_wp2_with fail
    refine (add_any _ a _ hs2.out ha'.out).mono ?_
    rintro e w1 ⟨rfl, rfl⟩
    go_wp2_with fail
    go_ret
    exact ⟨by rw [hr.out]; rfl, rfl⟩

theorem still_of {f : FuncId} {args : Array Value} {w : World} {v : Value} (h : Calls Try.prog f args w fun e w' => e = .returned v ∧ w = w') : Calls Try.prog f args w fun e w' => e = .returned v ∧ w' = w :=
  h.mono fun _ _ ⟨h1, h2⟩ => ⟨h1, h2.symm⟩
/-- a pair of words -/
abbrev PW (p : Nat × Nat) : Value := .agg #[.int .u64 (p.1 : Nat), .int .u64 (p.2 : Nat)]
def Ok2 (p : Nat × Nat) : Prop := p.1 < 18446744073709551616 ∧ p.2 < 18446744073709551616
def rput (p : Nat × Nat) (x : Nat) : Nat × Nat := (radd p.1 x, radd p.2 (rloss p.1 x))
def rmerge (p q : Nat × Nat) : Nat × Nat := (radd p.1 q.1, radd (radd p.2 q.2) (rloss p.1 q.1))
theorem rput_ok (p : Nat × Nat) (x : Nat) : Ok2 (rput p x) := ⟨radd_lt _ _, radd_lt _ _⟩
theorem rmerge_ok (p q : Nat × Nat) : Ok2 (rmerge p q) := ⟨radd_lt _ _, radd_lt _ _⟩

set_option maxHeartbeats 1000000 in
theorem put_any (p : Nat × Nat) (x : Nat) (w : World) (hp : Ok2 p) (hx : x < 18446744073709551616) :
    Calls Try.prog 20 #[.agg #[.int .u64 (p.1 : Nat), .int .u64 (p.2 : Nat)], .int .u64 x] w fun e w' => e = .returned (PW (rput p x)) ∧ Only (fun _ => False) w w' := by
  obtain ⟨s, c⟩ := p
  obtain ⟨hs, hc⟩ := hp
  have hs' := Lib.hid hs
  have hc' := Lib.hid hc
  have hx' := Lib.hid hx
  have hl := Lib.hid (rloss_lt s x)
  clear hs hc hx
  dsimp only at hs' hc' ⊢
  go_enter Try.func20, Try.ntmps20
  go_wp2_with fail
  refine (loss_any s x _ hs'.out hx'.out).mono ?_
  rintro e w1 ⟨rfl, rfl⟩
  go_wp2_with fail
  go_still_tail 9, (by kernel_rfl)
  change wpStill _ _ (World.drew ((w.alloc (.cells #[.int .u64 s, .int .u64 c] 24)).alloc (.cells #[.int .u64 0, .int .u64 0] 24))) _ _ _
  repeat still_step
  still_call (still_of (add_any s x _ hs'.out hx'.out))
  repeat still_step
  still_call (still_of (add_any c (rloss s x) _ hc'.out hl.out))
  repeat still_step
  refine wpStill_nil ?_
  change wpList _ _ _ _ _ (World.drew ((w.alloc (.cells #[.int .u64 s, .int .u64 c] 24)).alloc (.cells #[.int .u64 0, .int .u64 0] 24)))
  go_wp2
  refine bodyPost_ret (v := PW (rput (s, c) x)) (by simp [results, Try.results20, go_sem, rput]) rfl ⟨rfl, ?_⟩
  exact (((Only.refl _ _).alloc _).alloc _).drew

def one (a : Nat) : Nat := if nan a then 9221120237041090560 else a
def sameW (a b : Nat) : Bool := one a == one b

set_option maxHeartbeats 400000 in
theorem one_any (a : Nat) (w : World) (ha : a < 18446744073709551616) :
    Calls Try.prog 32 #[.int .u64 a] w fun e w' => e = .returned (.int .u64 (one a : Nat)) ∧ w = w' := by
  have ha' := Lib.hid ha
  clear ha
  cases hn : nan a
  · have hr : Hid (one a = a) := by show _ = _; unfold one; rw [hn]; rfl
    go_enter Try.func32, Try.ntmps32
    go_wp2_with fail
    refine (isnan_any a _ ha'.out).mono ?_
    rintro e w1 ⟨rfl, rfl⟩
    go_wp2_with fail
    go_ret
    exact ⟨by rw [hr.out]; rfl, rfl⟩
  · have hr : Hid (one a = 9221120237041090560) := by show _ = _; unfold one; rw [hn]; rfl
    go_enter Try.func32, Try.ntmps32
    go_wp2_with fail
    refine (isnan_any a _ ha'.out).mono ?_
    rintro e w1 ⟨rfl, rfl⟩
    go_wp2_with fail
    go_ret
    exact ⟨by rw [hr.out]; rfl, rfl⟩

set_option maxHeartbeats 400000 in
theorem sameW_any (a b : Nat) (w : World) (ha : a < 18446744073709551616) (hb : b < 18446744073709551616) :
    Calls Try.prog 11 #[.int .u64 a, .int .u64 b] w fun e w' => e = .returned (.bool (sameW a b)) ∧ w = w' := by
  have ha' := Lib.hid ha
  have hb' := Lib.hid hb
  clear ha hb
  have hr : Hid (sameW a b = ((one a : Int) == (one b : Int))) := by show _ = _; unfold sameW; rw [Bool.eq_iff_iff]; simp; omega
  go_enter Try.func11, Try.ntmps11
  go_wp2_with fail
  refine (one_any a _ ha'.out).mono ?_
  rintro e w1 ⟨rfl, rfl⟩
  go_wp2_with fail
  refine (one_any b _ hb'.out).mono ?_
  rintro e w1 ⟨rfl, rfl⟩
  go_wp2_with fail
  go_ret
  exact ⟨ret_eq (by rw [hr.out]; rfl), rfl⟩

theorem rtotal_any (p : Nat × Nat) (w : World) (hp : Ok2 p) :
    Calls Try.prog 14 #[.agg #[.int .u64 (p.1 : Nat), .int .u64 (p.2 : Nat)]] w fun e w' => e = .returned (.int .u64 (radd p.1 p.2 : Nat)) ∧ Only (fun _ => False) w w' := by
  obtain ⟨s, c⟩ := p
  obtain ⟨hs, hc⟩ := hp
  have hs' := Lib.hid hs
  have hc' := Lib.hid hc
  clear hs hc
  dsimp only at hs' hc' ⊢
  go_enter Try.func14, Try.ntmps14
  go_wp2_with fail
  refine (add_any s c _ hs'.out hc'.out).mono ?_
  rintro e w1 ⟨rfl, rfl⟩
  go_wp2_with fail
  go_ret
  exact ⟨rfl, (Only.refl _ _).alloc _⟩

set_option maxHeartbeats 1000000 in
theorem rmerge_any (p q : Nat × Nat) (w : World) (hp : Ok2 p) (hq : Ok2 q) :
    Calls Try.prog 10 #[.agg #[.int .u64 (p.1 : Nat), .int .u64 (p.2 : Nat)], .agg #[.int .u64 (q.1 : Nat), .int .u64 (q.2 : Nat)]] w fun e w' => e = .returned (PW (rmerge p q)) ∧ Only (fun _ => False) w w' := by
  obtain ⟨s, c⟩ := p
  obtain ⟨hs, hc⟩ := hp
  obtain ⟨t, d⟩ := q
  obtain ⟨ht, hd⟩ := hq
  have hs' := Lib.hid hs
  have hc' := Lib.hid hc
  have ht' := Lib.hid ht
  have hd' := Lib.hid hd
  have hl := Lib.hid (rloss_lt s t)
  have hcd := Lib.hid (radd_lt c d)
  clear hs hc ht hd
  dsimp only at hs' hc' ht' hd' ⊢
  go_enter Try.func10, Try.ntmps10
  go_wp2_with fail
  refine (loss_any s t _ hs'.out ht'.out).mono ?_
  rintro e w1 ⟨rfl, rfl⟩
  go_wp2_with fail
  refine (add_any c d _ hc'.out hd'.out).mono ?_
  rintro e w1 ⟨rfl, rfl⟩
  go_wp2_with fail
  refine (add_any s t _ hs'.out ht'.out).mono ?_
  rintro e w1 ⟨rfl, rfl⟩
  go_wp2_with fail
  refine (add_any (radd c d) (rloss s t) _ hcd.out hl.out).mono ?_
  rintro e w1 ⟨rfl, rfl⟩
  go_wp2_with fail
  refine bodyPost_ret (v := PW (rmerge (s, c) (t, d))) (by simp [results, Try.results10, go_sem, rmerge]) rfl ⟨rfl, ?_⟩
  exact (((Only.refl _ _).alloc _).alloc _).alloc _

/-- words that came in -/
structure Words (w : World) (a : Option Addr) (len : Nat) (us : Nat → Nat) : Prop where
  at_ : ∀ j, j < len → ∃ p o, a = some ⟨p, o, none⟩ ∧ p < w.heap.size ∧ w.cell? ⟨p, o + j, none⟩ = some (.int .u64 (us j : Nat)) ∧ us j < 18446744073709551616
theorem Words.kept {S : Nat → Prop} {w w' : World} {a : Option Addr} {len : Nat} {us : Nat → Nat} (h : Words w a len us) (ho : Only S w w') (hs : ∀ k, k < w.heap.size → ¬ S k) : Words w' a len us :=
  ⟨fun j hj => by
    obtain ⟨p, o, h1, h2, h3, h4⟩ := h.at_ j hj
    exact ⟨p, o, h1, Nat.lt_of_lt_of_le h2 ho.size, (ho.cellAt h2 (hs p h2) _).trans h3, h4⟩⟩
def rof (us : Nat → Nat) : Nat → Nat × Nat
  | 0 => (0, 0)
  | n + 1 => rput (rof us n) (us n)
theorem rof_ok (us : Nat → Nat) (n : Nat) : Ok2 (rof us n) := by
  cases n with
  | zero => exact ⟨(by omega : (0:Nat) < 18446744073709551616), (by omega : (0:Nat) < 18446744073709551616)⟩
  | succ n => exact rput_ok _ _

theorem blk_upd2 {w : World} {b : Nat} {x y : Value} {t : TypeId} (h : w.heap[b]? = some (.cells #[x, y] t (0, 0))) (u v : Value) : ((w.setCell ⟨b, 0, none⟩ u).setCell ⟨b, 1, none⟩ v).heap[b]? = some (.cells #[u, v] t (0, 0)) :=
  blk_set (blk_set h 0 u) 1 v
def RO (w : World) (us : Nat → Nat) (len b : Nat) (i : Value) (wr : World) : Prop := ∃ k : Nat, k ≤ len ∧ i = .int .i64 k ∧ Only (fun _ => False) w wr ∧ wr.heap[w.heap.size]? = some (.cells #[.int .u64 0, .int .u64 0] 24 (0, 0)) ∧ wr.heap[b]? = some (.cells #[.int .u64 ((rof us k).1 : Nat), .int .u64 ((rof us k).2 : Nat)] 24 (0, 0)) ∧ b < wr.heap.size

set_option maxHeartbeats 1000000 in
theorem rof_any (a : Option Addr) (len cap : Nat) (us : Nat → Nat) (w : World) (hlen : len ≤ 9223372036854775807) (hw : Words w a len us) :
    Calls Try.prog 17 #[.slice a len cap] w fun e w' => e = .returned (PW (rof us len)) ∧ Only (fun _ => False) w w' := by
  have hw' := Lib.hid hw; clear hw
  have h0 : Hid (Only (fun _ => False) w ((w.alloc (.cells #[.int .u64 0, .int .u64 0] 24)).alloc (.cells #[.int .u64 0, .int .u64 0] 24))) := ((Only.refl _ _).alloc _).alloc _
  have h1 : Hid (((w.alloc (.cells #[.int .u64 0, .int .u64 0] 24)).alloc (.cells #[.int .u64 0, .int .u64 0] 24)).heap[w.heap.size + 1]? = some (.cells #[.int .u64 0, .int .u64 0] 24 (0, 0))) := by
    have := blk_new (w.alloc (.cells #[.int .u64 0, .int .u64 0] 24)) (.cells #[.int .u64 0, .int .u64 0] 24)
    show _ = _
    simpa using this
  have h2 : Hid (((w.alloc (.cells #[.int .u64 0, .int .u64 0] 24)).alloc (.cells #[.int .u64 0, .int .u64 0] 24)).heap[w.heap.size]? = some (.cells #[.int .u64 0, .int .u64 0] 24 (0, 0))) := blk_alloc (blk_new w _) _
  go_enter Try.func17, Try.ntmps17
  go_wp2
  go_loopw [4] (fun i wr => RO w us len (w.heap.size + 1) i wr) (fun i _ => len - (intOf i).toNat)
  case atStart => exact ⟨0, Nat.zero_le _, rfl, h0.out, h2.out, h1.out, by simp⟩
  case round =>
    obtain ⟨k, hk, rfl, hon, hr0, hb, hbl⟩ := hrel
    have hc0 := blk_cell hb 0
    have hc1 := blk_cell hb 1
    have hok := Lib.hid (rof_ok us k)
    by_cases hlt : k < len
    · obtain ⟨p, o, rfl, hp, hcc, hu⟩ := hw'.out.at_ k hlt
      have hc := (hon.cellAt hp (by simp) (o + k)).trans hcc
      have hz0 := blk_free hb 0
      have hz1 := blk_free hb 1
      have hu' := Lib.hid hu
      clear hcc hu
      go_wp2_with fail
      go_still_tail 5, (by kernel_rfl)
      change wpList _ _ _ _ _ (World.drew wr)
      go_wp2_with fail
      refine (put_any (rof us k) (us k) _ hok.out hu'.out).mono ?_
      rintro e w1 ⟨rfl, O1⟩
      have hb1 : w1.heap[w.heap.size + 1]? = _ := O1.blk (blk_drew hb) (by simp)
      have hr1 := Lib.hid (blk_set_ne (blk_set_ne (O1.blk (blk_drew hr0) (by simp)) ⟨w.heap.size + 1, 0, none⟩ (.int .u64 (radd (rof us k).1 (us k) : Nat)) (by simp)) ⟨w.heap.size + 1, 1, none⟩ (.int .u64 (radd (rof us k).2 (rloss (rof us k).1 (us k)) : Nat)) (by simp))
      have hnx := Lib.hid (blk_upd2 hb1 (.int .u64 (radd (rof us k).1 (us k) : Nat)) (.int .u64 (radd (rof us k).2 (rloss (rof us k).1 (us k)) : Nat)))
      have hd0 := blk_cell hb1 0
      have hd1 := blk_cell hb1 1
      have hy0 := blk_free hb1 0
      have hy1 := blk_free hb1 1
      have hon1 := (hon.drew).seq2 O1 (fun i h => h.elim)
      have hsz : w.heap.size + 1 < w1.heap.size := by have := O1.size; simp at this; omega
      go_wp2_with fail
      go_roundw
      case rel => exact ⟨k + 1, by omega, by go_num, (hon1.setCell (.inl (by simp)) _).setCell (.inl (by simp)) _, hr1.out, hnx.out, by simp [World.setCell]; omega⟩
      case measure => simp [intOf]; omega
    · obtain rfl : k = len := by omega
      have hO : Hid (Only (fun _ => False) w wr) := hon
      have hd0 := blk_cell hr0 0
      have hd1 := blk_cell hr0 1
      have hy0 := blk_free hr0 0
      have hy1 := blk_free hr0 1
      have hf0 : ((wr.setCell ⟨w.heap.size, 0, none⟩ (.int .u64 ((rof us k).1 : Nat))).setCell ⟨w.heap.size, 1, none⟩ (.int .u64 ((rof us k).2 : Nat))).cell? ⟨w.heap.size, 0, none⟩ = some (.int .u64 ((rof us k).1 : Nat)) := blk_cell (blk_upd2 hr0 _ _) 0
      have hf1 : ((wr.setCell ⟨w.heap.size, 0, none⟩ (.int .u64 ((rof us k).1 : Nat))).setCell ⟨w.heap.size, 1, none⟩ (.int .u64 ((rof us k).2 : Nat))).cell? ⟨w.heap.size, 1, none⟩ = some (.int .u64 ((rof us k).2 : Nat)) := blk_cell (blk_upd2 hr0 _ _) 1
      clear hr0 hb hon
      go_wp2_with fail
      refine bodyPost_ret (v := PW (rof us k)) (by simp [results, Try.results17, go_sem, hf0, hf1]) rfl ⟨rfl, ?_⟩
      exact (hO.out.setCell (.inl (Nat.le_refl _)) _).setCell (.inl (Nat.le_refl _)) _
end Go.Proofs.Ytgcjhdcplmfjbaa
