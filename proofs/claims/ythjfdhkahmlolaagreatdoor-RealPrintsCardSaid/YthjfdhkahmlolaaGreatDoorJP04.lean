/- What shortFloat computes; its parts. -/
import Derived.Test.YthjfdhkahmlolaaGreatDoorJP03
namespace Go.Proofs.YthjfdhkahmlolaaGreatDoor
open Go.RowKit

def sfz (e : Int) : Nat := if e ≥ -1085 then 11 else (11 + (-1085 - e)).toNat
def sfskew (m : Nat) (e : Int) : Bool := decide (m = 9223372036854775808) && decide (e > -1085)
def sfp (m : Nat) (e : Int) : Int := if sfskew m e then -(((e + 11) * 631305 - 261663) / 2097152) else -((e + sfz e) * 78913 / 262144)
def sfmin (m : Nat) (e : Int) : Nat := if sfskew m e then m - 512 else m - 2 ^ (sfz e - 1)
def sfmax (m : Nat) (e : Int) : Nat := m + 2 ^ (sfz e - 1)
def sfodd (m : Nat) (e : Int) : Nat := m / 2 ^ sfz e % 2
def sfs (m : Nat) (e : Int) : Int := -(e + sfp m e * 108853 / 32768 + 3)
def sfu (m : Nat) (e : Int) (x : Nat) : Nat := uscaleN x (th (sfp m e)) (tl (sfp m e)) (sfs m e).toNat
def sfdmin (m : Nat) (e : Int) : Nat := (sfu m e (sfmin m e) + sfodd m e + 3) / 4
def sfdmax (m : Nat) (e : Int) : Nat := (sfu m e (sfmax m e) - sfodd m e) / 4
def sfd (m : Nat) (e : Int) : Nat :=
  if sfdmax m e / 10 * 10 ≥ sfdmin m e then sfdmax m e / 10
  else if sfdmin m e < sfdmax m e then (sfu m e m + 1 + sfu m e m / 4 % 2) / 4 else sfdmin m e
def sfq (m : Nat) (e : Int) : Int := if sfdmax m e / 10 * 10 ≥ sfdmin m e then -(sfp m e - 1) else -(sfp m e)
/-- what shortFloat needs of a float's parts -/
structure SfOk (m : Nat) (e : Int) : Prop where
  m0 : 9223372036854775808 ≤ m
  m1 : sfmax m e < 18446744073709551616
  e0 : -2000 ≤ e ∧ e ≤ 2000
  z1 : sfz e ≤ 63
  p0 : -348 ≤ sfp m e ∧ sfp m e ≤ 347
  s0 : 0 ≤ sfs m e ∧ sfs m e < 64
  u0 : 1 ≤ sfu m e (sfmin m e) ∧ sfu m e (sfmin m e) ≤ 18446744073709551600
  u1 : 1 ≤ sfu m e (sfmax m e) ∧ sfu m e (sfmax m e) ≤ 18446744073709551600
  u2 : sfu m e m ≤ 18446744073709551600
instance (m : Nat) (e : Int) : Decidable (SfOk m e) := decidable_of_iff (9223372036854775808 ≤ m ∧ sfmax m e < 18446744073709551616 ∧ (-2000 ≤ e ∧ e ≤ 2000) ∧ sfz e ≤ 63 ∧ (-348 ≤ sfp m e ∧ sfp m e ≤ 347) ∧ (0 ≤ sfs m e ∧ sfs m e < 64) ∧
  (1 ≤ sfu m e (sfmin m e) ∧ sfu m e (sfmin m e) ≤ 18446744073709551600) ∧ (1 ≤ sfu m e (sfmax m e) ∧ sfu m e (sfmax m e) ≤ 18446744073709551600) ∧ sfu m e m ≤ 18446744073709551600)
  ⟨fun ⟨a, b, c, d, f, g, h, i, j⟩ => ⟨a, b, c, d, f, g, h, i, j⟩, fun ⟨a, b, c, d, f, g, h, i, j⟩ => ⟨a, b, c, d, f, g, h, i, j⟩⟩
theorem ok_tenth : SfOk (7205759403792794 * 2048) (-67) ∧ sfd (7205759403792794 * 2048) (-67) = 1000000000000000 ∧ sfq (7205759403792794 * 2048) (-67) = -16 := by decide +kernel
theorem ok_one : SfOk 9223372036854775808 (-63) ∧ sfd 9223372036854775808 (-63) = 1000000000000000 ∧ sfq 9223372036854775808 (-63) = -15 := by decide +kernel
theorem ok_e21 : SfOk (7629394531250000 * 2048) 6 ∧ sfd (7629394531250000 * 2048) 6 = 1000000000000000 ∧ sfq (7629394531250000 * 2048) 6 = 6 := by decide +kernel
theorem tup2 {a b c d : Int} (h : a = c) (h' : b = d) : Ending.returned (.tuple #[.int .u64 a, .int .i64 b]) = Ending.returned (.tuple #[.int .u64 c, .int .i64 d]) := by rw [h, h']
theorem rows_lt : ∀ x ∈ Go.Pinned.pow10Rows, x.1 < 18446744073709551616 ∧ x.2 < 18446744073709551616 := by decide +kernel
theorem th_lt (p : Int) : th p < 18446744073709551616 ∧ tl p < 18446744073709551616 := by
  unfold th tl
  cases h : Go.Pinned.pow10Rows[(p + 348).toNat]? with
  | none => exact ⟨by decide, by decide⟩
  | some x => exact rows_lt x (List.mem_of_getElem? h)
theorem nudge_up (u d : Nat) (w : World) (hd : d ≤ 1) (h0 : 1 ≤ u) (h1 : u ≤ 18446744073709551614) : Calls Tryz.prog 136 #[.int .u64 u, .int .i64 d] w fun e w' => e = .returned (.int .u64 (u + d : Nat)) ∧ w' = w :=
  (nudge_calls u d w (by omega) h0 h1).mono fun e w' ⟨a, b⟩ => ⟨by rw [a]; rfl, b⟩
theorem nudge_dn (u d : Nat) (w : World) (hd : d ≤ 1) (h0 : 1 ≤ u) (h1 : u ≤ 18446744073709551614) : Calls Tryz.prog 136 #[.int .u64 u, .int .i64 (-(d : Int))] w fun e w' => e = .returned (.int .u64 (u - d : Nat)) ∧ w' = w :=
  (nudge_calls u (-(d : Int)) w (by omega) h0 h1).mono fun e w' ⟨a, b⟩ => ⟨by rw [a]; congr 2; try omega, b⟩
theorem and_1i (m : Nat) (h : m < 9223372036854775808) : bits BinOp.and IntKind.i64 (m : Int) 1 = ((m % 2 : Nat) : Int) := by
  show IntKind.i64.wrap ((BitVec.ofInt 64 (m : Int) &&& BitVec.ofInt 64 ((1 : Nat) : Int)).toNat : Int) = _
  rw [BitVec.toNat_and, ofInt_u64 m (by omega), ofInt_u64 1 (by omega), nat_mask1]
  exact IntWalk.i64_in _ ⟨by omega, by omega⟩
theorem Tab.still {S : Nat → Prop} {w w' : World} (h : Tab w) (O : Only S w w') (hs : ¬ S 13) : Tab w' := by
  refine ⟨fun i hi => ?_⟩
  obtain ⟨x, h1, h2, h3⟩ := h.row i hi
  have hb : 13 < w.heap.size := World.block_lt_of_cell? w ⟨13, i * 2, none⟩ h2
  exact ⟨x, h1, by rw [O.cellAt hb hs, h2], by rw [O.cellAt hb hs, h3]⟩
end Go.Proofs.YthjfdhkahmlolaaGreatDoor
