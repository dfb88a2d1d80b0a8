/- The walks of the small functions of unrounded numbers. -/
import Derived.Test.YthjfdhkahmlolaaGreatDoorJQ00
import Derived.Test.YthjfdhkahmlolaaGreatDoorJQ01
import Derived.Laws.BitsAllLaws
import Derived.Deep.QuietTactic
import Derived.BigQuiet
namespace Go.Proofs.YthjfdhkahmlolaaGreatDoor
open Go.RowKit

theorem l10_calls (x : Int) (w : World) (h0 : -100000 ≤ x) (h1 : x ≤ 100000) : Calls Tryz.prog 100 #[.int .i64 x] w fun e w' => e = .returned (.int .i64 (x * 78913 / 262144)) ∧ w' = w := by
  go_enter Tryz.func100, Tryz.ntmps100
  go_wp2_with fail
  go_ret
  exact ⟨rfl, rfl⟩
theorem l2_calls (x : Int) (w : World) (h0 : -100000 ≤ x) (h1 : x ≤ 100000) : Calls Tryz.prog 134 #[.int .i64 x] w fun e w' => e = .returned (.int .i64 (x * 108853 / 32768)) ∧ w' = w := by
  go_enter Tryz.func134, Tryz.ntmps134
  go_wp2_with fail
  go_ret
  exact ⟨rfl, rfl⟩
theorem sk_calls (x : Int) (w : World) (h0 : -100000 ≤ x) (h1 : x ≤ 100000) : Calls Tryz.prog 132 #[.int .i64 x] w fun e w' => e = .returned (.int .i64 ((x * 631305 - 261663) / 2097152)) ∧ w' = w := by
  go_enter Tryz.func132, Tryz.ntmps132
  go_wp2_with fail
  go_ret
  exact ⟨rfl, rfl⟩
theorem u64_mod (x : Int) : IntKind.u64.wrap x = x % 18446744073709551616 := rfl
theorem wrap_u64 {x : Int} (h0 : 0 ≤ x) (h1 : x ≤ 18446744073709551615) : IntKind.u64.wrap x = x := IntWalk.u64_in _ ⟨h0, h1⟩
theorem nudge_calls (u : Nat) (d : Int) (w : World) (hd : d = -1 ∨ d = 0 ∨ d = 1) (h0 : 1 ≤ u) (h1 : u ≤ 18446744073709551614) : Calls Tryz.prog 136 #[.int .u64 u, .int .i64 d] w fun e w' => e = .returned (.int .u64 ((u + d).toNat : Nat)) ∧ w' = w := by
  have k1 : IntKind.u64.wrap ((u : Int) + IntKind.u64.wrap d) = (((u : Int) + d).toNat : Nat) := by
    rcases hd with rfl | rfl | rfl
    · rw [show IntKind.u64.wrap (-1) = 18446744073709551615 by decide]
      rw [u64_mod]; omega
    · rw [show IntKind.u64.wrap 0 = 0 by decide, wrap_u64 (by omega) (by omega)]; omega
    · rw [show IntKind.u64.wrap 1 = 1 by decide, wrap_u64 (by omega) (by omega)]; omega
  have K := Lib.hid k1; clear k1 hd
  go_enter Tryz.func136, Tryz.ntmps136
  go_wp2_with fail
  go_ret
  exact ⟨ret_eq (congrArg (Value.int IntKind.u64) K.out), rfl⟩
theorem ceil_calls (u : Nat) (w : World) (h1 : u ≤ 18446744073709551612) : Calls Tryz.prog 137 #[.int .u64 u] w fun e w' => e = .returned (.int .u64 ((u + 3) / 4 : Nat)) ∧ w' = w := by
  have K := Lib.hid (wrap_u64 (x := (u : Int) + 3) (by omega) (by omega))
  go_enter Tryz.func137, Tryz.ntmps137
  go_wp2_with fail
  go_ret
  exact ⟨ret_eq (congrArg (Value.int IntKind.u64) (by first | omega | (rw [K.out]; omega))), rfl⟩
theorem floor_calls (u : Nat) (w : World) (h1 : u ≤ 18446744073709551615) : Calls Tryz.prog 138 #[.int .u64 u] w fun e w' => e = .returned (.int .u64 (u / 4 : Nat)) ∧ w' = w := by
  have K := Lib.hid (wrap_u64 (x := (u : Int)) (by omega) (by omega))
  go_enter Tryz.func138, Tryz.ntmps138
  go_wp2_with fail
  go_ret
  exact ⟨ret_eq (congrArg (Value.int IntKind.u64) (by first | omega | (rw [K.out]; omega))), rfl⟩
theorem and_1 (m : Nat) (h : m < 18446744073709551616) : bits BinOp.and IntKind.u64 (m : Int) 1 = ((m % 2 : Nat) : Int) := by
  have := u64_and_nat m 1 h (by omega)
  rw [nat_mask1] at this; exact this
theorem round_calls (u : Nat) (w : World) (h1 : u ≤ 18446744073709551610) : Calls Tryz.prog 139 #[.int .u64 u] w fun e w' => e = .returned (.int .u64 ((u + 1 + u / 4 % 2) / 4 : Nat)) ∧ w' = w := by
  have k1 := and_1 (u / 4) (by omega)
  rw [show (((u / 4 : Nat) : Int)) = (u : Int) / 4 by omega] at k1
  have k2 := wrap_u64 (x := (u : Int) + 1) (by omega) (by omega)
  have k3 := wrap_u64 (x := (u : Int) + 1 + (u / 4 % 2 : Nat)) (by omega) (by omega)
  have K1 := Lib.hid k1; have K2 := Lib.hid k2; have K3 := Lib.hid k3
  clear k1 k2 k3
  go_enter Tryz.func139, Tryz.ntmps139
  go_wp2_with fail
  go_ret
  exact ⟨ret_eq (congrArg (Value.int IntKind.u64) (by first | omega | (rw [K1.out, K3.out]; omega) | (rw [K2.out, K1.out, K3.out]; omega))), rfl⟩
theorem b2_calls (b : Bool) (w : World) : Calls Tryz.prog 125 #[.bool b] w fun e w' => e = .returned (.int .u64 (b.toNat : Nat)) ∧ w' = w := by
  cases b <;>
  · go_enter Tryz.func125, Tryz.ntmps125
    go_wp2_with fail
    go_ret
    exact ⟨rfl, rfl⟩
theorem mul_calls (x y h l : Nat) (w : World) (hx : x < 18446744073709551616) (hy : y < 18446744073709551616) (eh : h = x * y / 18446744073709551616) (el : l = x * y % 18446744073709551616) :
    Calls Tryz.prog 78 #[.int .u64 x, .int .u64 y] w fun e w' => e = .returned (.tuple #[.int .u64 h, .int .u64 l]) ∧ w' = w := by
  subst eh el; exact Tryz.bits_Mul64 x y hx hy w
/-- h >> s, its last bit set if q -/
def stick (n s : Nat) (q : Bool) : Nat := (n / 2 ^ s) ||| q.toNat
def hiN (x hi : Nat) : Nat := x * hi / 18446744073709551616
def loN (x hi : Nat) : Nat := x * hi % 18446744073709551616
def subN (a b : Nat) : Nat := (a + (18446744073709551616 - b)) % 18446744073709551616
/-- uscale -/
def uscaleN (x hi lo s : Nat) : Nat :=
  if hiN x hi / 2 ^ s * 2 ^ s ≠ hiN x hi then stick (hiN x hi) s true
  else stick (subN (hiN x hi) (decide (loN x hi < hiN x lo)).toNat) s (decide (1 < subN (loN x hi) (hiN x lo)))
theorem hiN_lt {x y : Nat} (hx : x < 18446744073709551616) (hy : y < 18446744073709551616) : hiN x y < 18446744073709551616 := by
  unfold hiN
  have : x * y < 18446744073709551616 * 18446744073709551616 := Nat.mul_lt_mul'' hx hy
  omega
theorem sub_wrap (a b : Nat) (ha : a < 18446744073709551616) (hb : b < 18446744073709551616) : IntKind.u64.wrap ((a : Int) - b) = (subN a b : Nat) := by
  unfold subN
  by_cases h : b ≤ a
  · rw [wrap_u64 (by omega) (by omega)]; omega
  · rw [u64_mod]; omega
theorem or_stick (n s : Nat) (q : Bool) (h : n < 18446744073709551616) : bits BinOp.or IntKind.u64 ((n : Int) / 2 ^ s) ((q.toNat : Nat) : Int) = ((stick n s q : Nat) : Int) := by
  have h2 : n / 2 ^ s < 18446744073709551616 := Nat.lt_of_le_of_lt (Nat.div_le_self _ _) h
  have := u64_or_nat (n / 2 ^ s) q.toNat h2 (by cases q <;> decide)
  rw [show ((n : Int) / 2 ^ s) = ((n / 2 ^ s : Nat) : Int) by simp]
  exact this
set_option maxHeartbeats 2000000 in
theorem uscale_calls (x hi lo s : Nat) (a : Nat) (w : World) (hx : x < 18446744073709551616) (hh : hi < 18446744073709551616) (hl : lo < 18446744073709551616) (hs : s < 64) (ha : w.heap[a]? = some (.cells #[.int .u64 hi, .int .u64 lo, .int .i64 s] 169 (0, 0))) :
    Calls Tryz.prog 135 #[.int .u64 x, .pointer (some ⟨a, 0, none⟩)] w fun e w' => e = .returned (.int .u64 (uscaleN x hi lo s : Nat)) ∧ Still w w' := by
  have c0 := blk_cell ha 0
  have c1 := blk_cell ha 1
  have c2 := blk_cell ha 2
  simp at c0 c1 c2
  clear ha
  have k63 : bits BinOp.and IntKind.i64 (s : Int) 63 = s := by
    have : ∀ n : Fin 64, bits BinOp.and IntKind.i64 ((n.val : Nat) : Int) 63 = (n.val : Nat) := by decide +kernel
    exact this ⟨s, hs⟩
  have hH := hiN_lt hx hh
  have hL : loN x hi < 18446744073709551616 := Nat.mod_lt _ (by decide)
  have hM := hiN_lt hx hl
  have M1 := Lib.hid (fun w => mul_calls x hi (hiN x hi) (loN x hi) w hx hh rfl rfl)
  have M2 := Lib.hid (fun w => mul_calls x lo (hiN x lo) (loN x lo) w hx hl rfl rfl)
  have E := Lib.hid (show uscaleN x hi lo s = if hiN x hi / 2 ^ s * 2 ^ s ≠ hiN x hi then stick (hiN x hi) s true else stick (subN (hiN x hi) (decide (loN x hi < hiN x lo)).toNat) s (decide (1 < subN (loN x hi) (hiN x lo))) from rfl)
  generalize uscaleN x hi lo s = U at *
  generalize hiN x hi = h at *
  generalize loN x hi = l at *
  generalize hiN x lo = m at *
  generalize loN x lo = l2 at *
  have D := Lib.hid (Nat.div_mul_le_self h (2 ^ s))
  have hle : h / 2 ^ s * 2 ^ s ≤ h := Nat.div_mul_le_self h (2 ^ s)
  have W1 : IntKind.u64.wrap ((h : Int) / 2 ^ s * 2 ^ s) = ((h / 2 ^ s * 2 ^ s : Nat) : Int) := by
    rw [show ((h : Int) / 2 ^ s * 2 ^ s) = ((h / 2 ^ s * 2 ^ s : Nat) : Int) by simp]
    exact wrap_u64 (by omega) (by omega)
  clear hle
  by_cases ht : h / 2 ^ s * 2 ^ s ≠ h
  · have T1 : (IntKind.u64.wrap ((h : Int) / 2 ^ s * 2 ^ s) != (h : Int)) = true := by
      rw [W1, bne_iff_ne]; intro e; exact ht (by exact_mod_cast e)
    have O1 := or_stick h s true hH
    have HT := Lib.hid ht
    have HW := Lib.hid W1
    have HO := Lib.hid O1
    clear ht W1 O1
    go_enter Tryz.func135, Tryz.ntmps135
    go_wp2_with fail
    refine (M1.out _).mono ?_
    rintro e w1 ⟨rfl, hw⟩; rw [hw]; clear hw w1
    go_wp2_with fail
    go_ret
    exact ⟨ret_eq (congrArg (Value.int IntKind.u64) (by rw [E.out, if_pos HT.out]; exact HO.out)), Still.refl _⟩
  · have T1 : (IntKind.u64.wrap ((h : Int) / 2 ^ s * 2 ^ s) != (h : Int)) = false := by
      rw [W1, show ((h / 2 ^ s * 2 ^ s : Nat) : Int) = h by simpa using congrArg (fun n : Nat => (n : Int)) (Decidable.not_not.1 ht)]; simp
    have HT := Lib.hid ht
    have hb1 : (decide (l < m)).toNat ≤ 1 := by cases decide (l < m) <;> decide
    have S1 := Lib.hid (sub_wrap h (decide (l < m)).toNat hH (by omega))
    have S2 := Lib.hid (sub_wrap l m hL hM)
    have hS : subN h (decide (l < m)).toNat < 18446744073709551616 := Nat.mod_lt _ (by decide)
    have O1 := Lib.hid (or_stick (subN h (decide (l < m)).toNat) s (decide (1 < subN l m)) hS)
    clear ht W1
    go_enter Tryz.func135, Tryz.ntmps135
    go_wp2_with fail
    refine (M1.out _).mono ?_
    rintro e w1 ⟨rfl, hw⟩; rw [hw]; clear hw w1
    go_wp2_with fail
    refine (M2.out _).mono ?_
    rintro e w1 ⟨rfl, hw⟩; rw [hw]; clear hw w1
    go_wp2_with fail
    refine (b2_calls _ _).mono ?_
    rintro e w1 ⟨rfl, hw⟩; rw [hw]; clear hw w1
    generalize (decide (l < m)).toNat = q at *
    go_wp2_with fail
    rw [S1.out]
    have s2 := S2.out
    generalize subN h q = g at *
    generalize subN l m = r at *
    go_quiet ((go_at_call 125; exact Calls.quiet_of_same (b2_calls _ _)))
    go_wp2_with fail
    go_ret
    exact ⟨ret_eq (congrArg (Value.int IntKind.u64) (by rw [E.out, if_neg HT.out, ← O1.out, show decide ((1 : Int) < (r : Int)) = decide (1 < r) from decide_eq_decide.2 (by omega)])), (Still.refl w).drewN _⟩
/-- the table of powers of ten, as it lies in memory -/
structure Tab (w : World) : Prop where
  row : ∀ i, i < 696 → ∃ x : Nat × Nat, Go.Pinned.pow10Rows[i]? = some x ∧ w.cell? ⟨13, i * 2, none⟩ = some (.int .u64 x.1) ∧ w.cell? ⟨13, i * 2 + 1, none⟩ = some (.int .u64 x.2)
theorem rows_len : Go.Pinned.pow10Rows.length = 696 := by decide +kernel
def th (p : Int) : Nat := ((Go.Pinned.pow10Rows[(p + 348).toNat]?).getD (0, 0)).1
def tl (p : Int) : Nat := ((Go.Pinned.pow10Rows[(p + 348).toNat]?).getD (0, 0)).2
set_option maxHeartbeats 1000000 in
theorem prescale_calls (a : Nat) (e p lp : Int) (x0 x1 x2 : Value) (w : World) (hT : Tab w) (hp : -348 ≤ p ∧ p ≤ 347) (he : -100000 ≤ e ∧ e ≤ 100000) (hl : -100000 ≤ lp ∧ lp ≤ 100000) (ha : w.heap[a]? = some (.cells #[x0, x1, x2] 169 (0, 0))) (_hne : a ≠ 13) :
    Calls Tryz.prog 133 #[.pointer (some ⟨a, 0, none⟩), .int .i64 e, .int .i64 p, .int .i64 lp] w fun en w' => en = .returned (.tuple #[]) ∧ w'.heap[a]? = some (.cells #[.int .u64 (th p), .int .u64 (tl p), .int .i64 (-(e + lp + 3))] 169 (0, 0)) ∧ Only (· = a) w w' := by
  obtain ⟨x, hx, t0, t1⟩ := hT.row (p + 348).toNat (by omega)
  have e0 : th p = x.1 := by unfold th; rw [hx]; rfl
  have e1 : tl p = x.2 := by unfold tl; rw [hx]; rfl
  rw [e0, e1]
  have c0 := blk_cell ha 0
  have c1 := blk_cell ha 1
  have c2 := blk_cell ha 2
  simp at c0 c1 c2
  have f0 := blk_free ha 0
  have f1 := blk_free ha 1
  have f2 := blk_free ha 2
  have HA := Lib.hid ha
  clear ha hT hx e0 e1
  obtain ⟨i, rfl⟩ : ∃ i : Nat, p = (i : Int) - 348 := ⟨(p + 348).toNat, by omega⟩
  rw [show ((i : Int) - 348 + 348).toNat = i by omega] at t0 t1
  have hi : i < 696 := by omega
  clear hp
  have q1 : IntKind.i64.wrap ((i : Int) - 348 - -348) = i := by rw [show ((i : Int) - 348 - -348) = i by omega]; exact IntWalk.i64_in _ ⟨by omega, by omega⟩
  go_enter Tryz.func133, Tryz.ntmps133
  go_wp2_with fail
  go_end0
  refine ⟨rfl, blk_set (blk_set (blk_set HA.out 0 _) 1 _) 2 _, ?_⟩
  exact (((Only.refl (· = a) w).setCell (p := ⟨a, 0, none⟩) (.inr rfl) _).setCell (p := ⟨a, 1, none⟩) (.inr rfl) _).setCell (p := ⟨a, 2, none⟩) (.inr rfl) _
end Go.Proofs.YthjfdhkahmlolaaGreatDoor

/- What shortFloat computes; its parts. -/
namespace Go.Proofs.YthjfdhkahmlolaaGreatDoor
open Go.RowKit

def sfz (e : Int) : Nat := if e ≥ -1085 then 11 else (11 + (-1085 - e)).toNat
def sfskew (m : Nat) (e : Int) : Bool := decide (m = 9223372036854775808) && decide (e > -1085)
def sfp (m : Nat) (e : Int) : Int := if sfskew m e then -(((e + 11) * 631305 - 261663) / 2097152) else -((e + sfz e) * 78913 / 262144)
def sfmin (m : Nat) (e : Int) : Nat := if sfskew m e then m - 512 else m - 2 ^ (sfz e - 1)
def sfmax (m : Nat) (e : Int) : Nat := m + 2 ^ (sfz e - 1)
def sfodd (m : Nat) (e : Int) : Nat := m / 2 ^ sfz e % 2
def sfs (m : Nat) (e : Int) : Int := -(e + sfp m e * 108853 / 32768 + 3)
def sfu (m : Nat) (e : Int) (x : Nat) : Nat := uscaleN x (th (sfp m e)) (tl (sfp m e)) (sfs m e).toNat
def sfdmin (m : Nat) (e : Int) : Nat := (sfu m e (sfmin m e) + sfodd m e + 3) / 4
def sfdmax (m : Nat) (e : Int) : Nat := (sfu m e (sfmax m e) - sfodd m e) / 4
def sfd (m : Nat) (e : Int) : Nat :=
  if sfdmax m e / 10 * 10 ≥ sfdmin m e then sfdmax m e / 10
  else if sfdmin m e < sfdmax m e then (sfu m e m + 1 + sfu m e m / 4 % 2) / 4 else sfdmin m e
def sfq (m : Nat) (e : Int) : Int := if sfdmax m e / 10 * 10 ≥ sfdmin m e then -(sfp m e - 1) else -(sfp m e)
/-- what shortFloat needs of a float's parts -/
structure SfOk (m : Nat) (e : Int) : Prop where
  m0 : 9223372036854775808 ≤ m
  m1 : sfmax m e < 18446744073709551616
  e0 : -2000 ≤ e ∧ e ≤ 2000
  z1 : sfz e ≤ 63
  p0 : -348 ≤ sfp m e ∧ sfp m e ≤ 347
  s0 : 0 ≤ sfs m e ∧ sfs m e < 64
  u0 : 1 ≤ sfu m e (sfmin m e) ∧ sfu m e (sfmin m e) ≤ 18446744073709551600
  u1 : 1 ≤ sfu m e (sfmax m e) ∧ sfu m e (sfmax m e) ≤ 18446744073709551600
  u2 : sfu m e m ≤ 18446744073709551600
instance (m : Nat) (e : Int) : Decidable (SfOk m e) := decidable_of_iff (9223372036854775808 ≤ m ∧ sfmax m e < 18446744073709551616 ∧ (-2000 ≤ e ∧ e ≤ 2000) ∧ sfz e ≤ 63 ∧ (-348 ≤ sfp m e ∧ sfp m e ≤ 347) ∧ (0 ≤ sfs m e ∧ sfs m e < 64) ∧
  (1 ≤ sfu m e (sfmin m e) ∧ sfu m e (sfmin m e) ≤ 18446744073709551600) ∧ (1 ≤ sfu m e (sfmax m e) ∧ sfu m e (sfmax m e) ≤ 18446744073709551600) ∧ sfu m e m ≤ 18446744073709551600)
  ⟨fun ⟨a, b, c, d, f, g, h, i, j⟩ => ⟨a, b, c, d, f, g, h, i, j⟩, fun ⟨a, b, c, d, f, g, h, i, j⟩ => ⟨a, b, c, d, f, g, h, i, j⟩⟩
theorem ok_tenth : SfOk (7205759403792794 * 2048) (-67) ∧ sfd (7205759403792794 * 2048) (-67) = 1000000000000000 ∧ sfq (7205759403792794 * 2048) (-67) = -16 := by decide +kernel
theorem ok_one : SfOk 9223372036854775808 (-63) ∧ sfd 9223372036854775808 (-63) = 1000000000000000 ∧ sfq 9223372036854775808 (-63) = -15 := by decide +kernel
theorem ok_e21 : SfOk (7629394531250000 * 2048) 6 ∧ sfd (7629394531250000 * 2048) 6 = 1000000000000000 ∧ sfq (7629394531250000 * 2048) 6 = 6 := by decide +kernel
theorem tup2 {a b c d : Int} (h : a = c) (h' : b = d) : Ending.returned (.tuple #[.int .u64 a, .int .i64 b]) = Ending.returned (.tuple #[.int .u64 c, .int .i64 d]) := by rw [h, h']
theorem rows_lt : ∀ x ∈ Go.Pinned.pow10Rows, x.1 < 18446744073709551616 ∧ x.2 < 18446744073709551616 := by decide +kernel
theorem th_lt (p : Int) : th p < 18446744073709551616 ∧ tl p < 18446744073709551616 := by
  unfold th tl
  cases h : Go.Pinned.pow10Rows[(p + 348).toNat]? with
  | none => exact ⟨by decide, by decide⟩
  | some x => exact rows_lt x (List.mem_of_getElem? h)
theorem nudge_up (u d : Nat) (w : World) (hd : d ≤ 1) (h0 : 1 ≤ u) (h1 : u ≤ 18446744073709551614) : Calls Tryz.prog 136 #[.int .u64 u, .int .i64 d] w fun e w' => e = .returned (.int .u64 (u + d : Nat)) ∧ w' = w :=
  (nudge_calls u d w (by omega) h0 h1).mono fun e w' ⟨a, b⟩ => ⟨by rw [a]; rfl, b⟩
theorem nudge_dn (u d : Nat) (w : World) (hd : d ≤ 1) (h0 : 1 ≤ u) (h1 : u ≤ 18446744073709551614) : Calls Tryz.prog 136 #[.int .u64 u, .int .i64 (-(d : Int))] w fun e w' => e = .returned (.int .u64 (u - d : Nat)) ∧ w' = w :=
  (nudge_calls u (-(d : Int)) w (by omega) h0 h1).mono fun e w' ⟨a, b⟩ => ⟨by rw [a]; congr 2; try omega, b⟩
theorem and_1i (m : Nat) (h : m < 9223372036854775808) : bits BinOp.and IntKind.i64 (m : Int) 1 = ((m % 2 : Nat) : Int) := by
  show IntKind.i64.wrap ((BitVec.ofInt 64 (m : Int) &&& BitVec.ofInt 64 ((1 : Nat) : Int)).toNat : Int) = _
  rw [BitVec.toNat_and, ofInt_u64 m (by omega), ofInt_u64 1 (by omega), nat_mask1]
  exact IntWalk.i64_in _ ⟨by omega, by omega⟩
theorem Tab.still {S : Nat → Prop} {w w' : World} (h : Tab w) (O : Only S w w') (hs : ¬ S 13) : Tab w' := by
  refine ⟨fun i hi => ?_⟩
  obtain ⟨x, h1, h2, h3⟩ := h.row i hi
  have hb : 13 < w.heap.size := World.block_lt_of_cell? w ⟨13, i * 2, none⟩ h2
  exact ⟨x, h1, by rw [O.cellAt hb hs, h2], by rw [O.cellAt hb hs, h3]⟩
end Go.Proofs.YthjfdhkahmlolaaGreatDoor
