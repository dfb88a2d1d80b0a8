/- The walk of setDigits. -/
import Derived.Test.YthjfdhkahmlolaaGreatDoorSfb
import Derived.Test.YthjfdhkahmlolaaGreatDoorShf
namespace Go.Proofs.YthjfdhkahmlolaaGreatDoor
open Go.RowKit

theorem heap_mapBlock (w : World) (b k : Nat) (f : Array Value → Array Value) (h : k ≠ b) : (Go.Sort.mapBlock w b f).heap[k]? = w.heap[k]? := by
  simp [Go.Sort.mapBlock, Array.getElem?_modify, Ne.symm h]
theorem only_putRow {α : Type} [Inhabited α] (enc : α → Value) (w : World) (b off n : Nat) (d : Array α) : Only (· = b) w ((Go.Sort.putRow enc w b off d).drewN n) := by
  have h : Only (· = b) w (Go.Sort.putRow enc w b off d) := ⟨rfl, rfl, rfl, by simp [Go.Sort.putRow, Go.Sort.mapBlock], fun k _ h => heap_mapBlock w b k (Go.Sort.putCells enc off d) h⟩
  exact h.drewN n

/-- the bytes at a row -/
def Bytes (w : World) (b : Nat) (n : Nat) (f : Nat → UInt8) : Prop := ∀ t, t < n → w.cell? ⟨b, t, none⟩ = some (.int .u8 ((f t).toNat : Int)) ∧ w.frozen? ⟨b, t, none⟩ = false
theorem Bytes.cells {w w' : World} {b n : Nat} {f : Nat → UInt8} (h : Bytes w b n f) (hk : w'.heap[b]? = w.heap[b]?) : Bytes w' b n f := fun t ht => by
  obtain ⟨h1, h2⟩ := h t ht
  refine ⟨(World.cell?_of_block hk).trans h1, ?_⟩
  rw [← h2]; simp only [World.frozen?, hk]
theorem dg_zero (u j : Nat) : Lib.dg u j = 48 ↔ u / 10 ^ j % 10 = 0 := by
  unfold Lib.dg
  have h : u / 10 ^ j % 10 < 10 := Nat.mod_lt _ (by omega)
  constructor
  · intro e
    have := congrArg UInt8.toNat e
    simp at this
    omega
  · intro e; rw [e]; rfl
theorem dvd_next (u k : Nat) (h : 10 ^ k ∣ u) (h0 : u / 10 ^ k % 10 = 0) : 10 ^ (k + 1) ∣ u := by
  obtain ⟨c, rfl⟩ := h
  have hp : 0 < 10 ^ k := Nat.pow_pos (by omega)
  rw [Nat.mul_div_cancel_left _ hp] at h0
  rw [Nat.pow_succ]
  exact Nat.mul_dvd_mul_left _ (Nat.dvd_of_mod_eq_zero h0)

set_option maxRecDepth 100000 in
set_option maxHeartbeats 4000000 in
theorem digits_calls (b nd u : Nat) (p : Int) (f : Nat → UInt8) (w : World) (hB : Bytes w b 32 f) (hu : 1 ≤ u) (hu10 : u < 10 ^ nd) (hu64 : u < 18446744073709551616) (hn : nd ≤ 32) (hp : -5000 ≤ p ∧ p ≤ 5000) :
    Calls Tryz.prog 98 #[.slice (some ⟨b, 0, none⟩) 32 32, .int .u64 u, .int .i64 p, .int .i64 nd] w fun e w' =>
      (∃ k, k < nd ∧ e = .returned (.tuple #[.int .i64 ((nd : Int) + p), .int .i64 (((nd - k : Nat)) : Int)]) ∧ 10 ^ k ∣ u ∧ u / 10 ^ k % 10 ≠ 0) ∧ Only (· = b) w w' ∧ Bytes w' b nd (fun t => Lib.dg u (nd - 1 - t)) := by
  obtain ⟨d, hd⟩ : ∃ d : Array UInt8, d = ((List.range nd).map f).toArray := ⟨_, rfl⟩
  have hds : d.size = nd := by rw [hd]; simp
  have hH : Go.Sort.Holds (fun (b : UInt8) => Value.int .u8 (b.toNat : Int)) w b 0 d := fun j hj => by
    have h1 := hB j (by omega)
    rw [Nat.zero_add]
    refine ⟨?_, h1.2⟩
    rw [h1.1, getElem!_pos d j hj]
    subst hd
    simp
  have hF := Lib.hid (fun w2 h2 => Tryz.internal_strconv_formatBase10 b 0 32 u d w2 h2 (by rw [hds]; exact hu10) hu64 (by omega))
  rw [hds] at hF
  have HH := Lib.hid hH
  have HU := Lib.hid (And.intro hu10 hu64)
  clear hB hd hH hu10 hu64
  have hn0 : nd ≠ 0 := by rintro rfl; have := HU.out.1; simp at this; omega
  go_enter Tryz.func98, Tryz.ntmps98
  go_wp2_with fail
  refine (hF.out _ HH.out).mono ?_
  rintro en w1 ⟨rfl, n, v', dk, hw1, hI⟩
  have O1 : Hid (Only (· = b) w w1) := Lib.hid (by rw [hw1]; exact only_putRow _ _ _ _ _ _)
  have B1 : Hid (Bytes w1 b nd (fun t => Lib.dg u (nd - 1 - t))) := Lib.hid (fun t ht => by
    have hs : dk.size = d.size := hI.size.trans hds.symm
    have h1 := Go.Sort.cell?_putRow (fun b : UInt8 => Value.int .u8 (b.toNat : Int)) w b 0 d dk HH.out hs t (by omega)
    have h2 := (Go.Sort.holds_putRow (fun b : UInt8 => Value.int .u8 (b.toNat : Int)) w b 0 d dk HH.out hs t (by rw [hI.size]; exact ht)).2
    rw [Nat.zero_add] at h1 h2
    rw [hI.done t (Nat.zero_le _) ht] at h1
    rw [hw1]
    exact ⟨h1, h2⟩)
  clear hF HH hI hw1 hds
  go_wp2_with fail

  go_loopw [3] (fun i wr => ∃ k : Nat, k < nd ∧ i = .int .i64 ((nd - k : Nat) : Int) ∧ 10 ^ k ∣ u ∧ Still w1 wr) (fun i _ => (intOf i).toNat)
  case atStart => exact ⟨0, by omega, rfl, by simp, Still.refl _⟩
  case round =>
    obtain ⟨k, hk, rfl, hdv, hst⟩ := hrel
    have hdg := dg_zero u k
    obtain ⟨hc, hfr⟩ := B1.out (nd - k - 1) (by omega)
    have hc' := (hst.cell ⟨b, nd - k - 1, none⟩).trans hc
    have hs : nd - 1 - (nd - k - 1) = k := by omega
    simp only [hs] at hc'
    clear hc hfr
    have HDV := Lib.hid hdv; clear hdv
    have HST := Lib.hid hst; clear hst
    have HDG := Lib.hid hdg; clear hdg
    have hm : ((nd - k : Nat) : Int) = (nd : Int) - k := by omega
    generalize Lib.dg u k = x at *
    go_wp2_with fail
    · have he : ((x.toNat : Int) == 48) = true := by assumption
      have hx : x = 48 := by
        have h1 : (x.toNat : Int) = 48 := by simpa using he
        apply UInt8.toNat_inj.mp; show x.toNat = 48; omega
      have hnx := dvd_next u k HDV.out (HDG.out.mp hx)
      have hlt : k + 1 < nd := by
        have h1 : 10 ^ (k + 1) ≤ u := Nat.le_of_dvd (by omega) hnx
        exact (Nat.pow_lt_pow_iff_right (by omega)).mp (Nat.lt_of_le_of_lt h1 HU.out.1)
      refine ⟨⟨k + 1, hlt, by congr 1; omega, hnx, HST.out⟩, ?_⟩
      simp only [intOf]
      omega
    · have he : ((x.toNat : Int) == 48) = false := by assumption
      have hx : x ≠ 48 := by
        rintro rfl
        simp at he
      go_ret2
      exact ⟨⟨k, hk, rfl, HDV.out, fun h => hx (HDG.out.mpr h)⟩, O1.out.trans (HST.out.only _), B1.out.cells (by rw [HST.out.heap])⟩
end Go.Proofs.YthjfdhkahmlolaaGreatDoor
