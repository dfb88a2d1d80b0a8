/- The walk of PoolOnce. -/
import Derived.Test.YtmfgagfkkhfliaaPool
namespace Go.Proofs.Ytmfgagfkkhfliaa
open Go.RowKit

theorem info4 : (Try.prog.info? 4).map (fun i => (i.zero, i.size, i.bytes)) = some (some (.bool false), 1, 1) := by kernel_rfl

def SeenAt (w : World) (b n : Nat) (s : Nat → Bool) : Prop := w.heap[b]? = some (.cells ((List.range n).map fun j => Value.bool (s j)).toArray 4 (0, 0))
theorem SeenAt.cell {w : World} {b n : Nat} {s : Nat → Bool} (h : SeenAt w b n s) (j : Nat) (hj : j < n) : w.cell? ⟨b, j, none⟩ = some (.bool (s j)) := by
  rw [blk_cell h]; simp [hj]
theorem SeenAt.free {w : World} {b n : Nat} {s : Nat → Bool} (h : SeenAt w b n s) (j : Nat) : w.frozen? ⟨b, j, none⟩ = false := blk_free h j
theorem SeenAt.stored {w : World} {b n : Nat} {s : Nat → Bool} (h : SeenAt w b n s) (j : Nat) (v : Bool) : SeenAt (w.setCell ⟨b, j, none⟩ (.bool v)) b n (fun k => if k = j then v else s k) := by
  unfold SeenAt; rw [blk_set h]
  congr 2
  apply Array.ext'
  simp only [Array.toList_setIfInBounds]
  apply List.ext_getElem?
  intro k
  by_cases hk : k = j
  · subst hk
    by_cases hn : k < n <;> simp [hn]
  · rw [List.getElem?_set_ne (by omega)]
    by_cases hn : k < n <;> simp [hn, hk]
theorem SeenAt.congr {w : World} {b n : Nat} {s t : Nat → Bool} (h : SeenAt w b n s) (e : ∀ j, j < n → s j = t j) : SeenAt w b n t := by
  unfold SeenAt at *; rw [h]; congr 3
  exact List.map_congr_left fun j hj => by rw [e j (by simpa using hj)]

structure L1 (W : World) (b bs n : Nat) (wr : World) (i F : Nat) : Prop where
  lt : F < 65536
  pool : PoolAt wr b n F
  bits : ∀ j, F.testBit j = (decide (i ≤ j) && decide (j < n))
  seen : SeenAt wr bs n (fun j => decide (j < i))
  only : Only (fun _ => False) W wr
structure L2 (W : World) (b bs n : Nat) (wr : World) (F : Nat) (s : Nat → Bool) (L : Nat) : Prop where
  lt : F < 65536
  pool : PoolAt wr b n F
  bits : ∀ j, F.testBit j = (decide (j < n) && !s j)
  seen : SeenAt wr bs n s
  only : Only (fun _ => False) W wr
  le : L ≤ n
  below : ∀ j, j < L → s j = true
  at_ : L < n → s L = false

theorem pow_bits (n j : Nat) : (2 ^ n - 1).testBit j = decide (j < n) := by rw [Nat.testBit_two_pow_sub_one]

theorem L1.start {W w : World} {b n : Nat} (h : PoolAt w b n (2 ^ n - 1)) (hn : n ≤ 16) (ho : Only (fun _ => False) W w) (z : Array Value) (hz : z.toList = List.replicate n (.bool false)) :
    L1 W b w.heap.size n (w.alloc (.cells z 4)) 0 (2 ^ n - 1) := by
  have hp : 2 ^ n ≤ 2 ^ 16 := Nat.pow_le_pow_right (by omega) hn
  refine ⟨by omega, blk_alloc h _, fun j => by rw [pow_bits]; simp, ?_, ho.alloc _⟩
  unfold SeenAt; rw [blk_new]; congr 2
  apply Array.ext'; rw [hz]
  apply List.ext_getElem?
  intro k
  by_cases hk : k < n <;> simp [hk]

theorem L1.onward {W wr w2 : World} {b bs n i F : Nat} (h : L1 W b bs n wr i F) (hi : i < n) (hn : n ≤ 16) (hb : W.heap.size ≤ b) (hs : W.heap.size ≤ bs) (hne : b ≠ bs) (ho : Only (· = b) wr w2) (hp : PoolAt w2 b n (clr F i)) :
    L1 W b bs n (w2.setCell ⟨bs, i, none⟩ (.bool true)) (i + 1) (clr F i) := by
  refine ⟨clr_lt _ _ h.lt, blk_set_ne hp _ _ hne, fun j => ?_, ?_, ?_⟩
  · rw [clr_bit _ _ _ h.lt (by omega), h.bits]
    by_cases e : j = i
    · subst e; have q : ¬ (j + 1 ≤ j) := by omega
      simp [q]
    · have : decide (i + 1 ≤ j) = decide (i ≤ j) := by simp; omega
      rw [this]; simp [bne, e]
  · have h1 : SeenAt w2 bs n (fun j => decide (j < i)) := ho.blk h.seen (Ne.symm hne)
    refine (h1.stored i true).congr fun j hj => ?_
    by_cases e : j = i
    · subst e; simp
    · have : decide (j < i) = decide (j < i + 1) := by simp; omega
      simp [e, this]
  · exact (h.only.seq2 ho (by rintro k rfl; exact .inl hb)).setCell (.inl hs) _

theorem L1.done {W wr : World} {b bs n F : Nat} (h : L1 W b bs n wr n F) : L2 W b bs n wr F (fun _ => true) n := by
  refine ⟨h.lt, h.pool, fun j => ?_, h.seen.congr fun j hj => by simp [hj], h.only, Nat.le_refl _, fun _ _ => rfl, by omega⟩
  rw [h.bits]; simp

theorem L2.free_again {W wr : World} {b bs n F L g : Nat} {s : Nat → Bool} (h : L2 W b bs n wr F s L) (hg : g < n) (hs : s g = false) (hb2 : W.heap.size ≤ bs) (hne : b ≠ bs) :
    L2 W b bs n (wr.setCell ⟨bs, g, none⟩ (.bool false)) F s L ∧ L ≤ g := by
  refine ⟨⟨h.lt, blk_set_ne h.pool _ _ hne, h.bits, ?_, h.only.setCell (.inl hb2) _, h.le, h.below, h.at_⟩, ?_⟩
  · refine (h.seen.stored g false).congr fun j _ => ?_
    by_cases e : j = g
    · subst e; simp [hs]
    · simp [e]
  · rcases Nat.lt_or_ge g L with q | q
    · have := h.below g q; simp [this] at hs
    · exact q

theorem L2.given {W wr w2 : World} {b bs n F L g : Nat} {s : Nat → Bool} (h : L2 W b bs n wr F s L) (hg : g < n) (hs : s g = true) (hn : n ≤ 16) (hb : W.heap.size ≤ b) (hb2 : W.heap.size ≤ bs) (hne : b ≠ bs) (ho : Only (· = b) wr w2) (hp : PoolAt w2 b n (put F g)) :
    L2 W b bs n (w2.setCell ⟨bs, g, none⟩ (.bool false)) (put F g) (fun k => if k = g then false else s k) (min L g) := by
  refine ⟨put_lt _ _ h.lt (by omega), blk_set_ne hp _ _ hne, fun j => ?_, ?_, (h.only.seq2 ho (by rintro k rfl; exact .inl hb)).setCell (.inl hb2) _, by have := h.le; omega, fun j hj => ?_, fun hl => ?_⟩
  · rw [put_bit, h.bits]
    by_cases e : j = g
    · subst e; simp [hg]
    · simp [e]
  · have h1 : SeenAt w2 bs n s := ho.blk h.seen (Ne.symm hne)
    exact h1.stored g false
  · have := h.below j (by omega)
    have e : j ≠ g := by omega
    simp [e, this]
  · rcases Nat.lt_or_ge L g with q | q
    · have e : min L g = L := by omega
      have : L ≠ g := by omega
      rw [e]; simp [this]; exact h.at_ (by omega)
    · have e : min L g = g := by omega
      rw [e]; simp


set_option maxRecDepth 100000 in
set_option maxHeartbeats 1000000 in
theorem once_bad (n : Int) (v : Value) (w : World) (h : n < 1 ∨ 16 < n) : Calls Try.prog 3 #[.int .i64 n, v] w fun e w' => e = .returned (.bool true) ∧ Only (fun _ => False) w w' := by
  by_cases h1 : n < 1
  · go_enter Try.func3, Try.ntmps3
    go_wp2_with fail
    refine (fixed_any _).mono ?_
    rintro e w1 ⟨rfl, O1⟩
    go_wp2_with fail
    refine (new_bad n _ h).mono ?_
    rintro e w2 ⟨rfl, rfl⟩
    go_wp2_with fail
    go_ret
    exact ⟨rfl, O1⟩
  · have h2 : 16 < n := by omega
    go_enter Try.func3, Try.ntmps3
    go_wp2_with fail
    refine (fixed_any _).mono ?_
    rintro e w1 ⟨rfl, O1⟩
    go_wp2_with fail
    refine (new_bad n _ h).mono ?_
    rintro e w2 ⟨rfl, rfl⟩
    go_wp2_with fail
    go_ret
    exact ⟨rfl, O1⟩

def R1 (W : World) (b bs n : Nat) (i : Value) (wr : World) : Prop := ∃ k F : Nat, k ≤ n ∧ i = .int .i64 k ∧ L1 W b bs n wr k F
def R2 (W : World) (b bs n len : Nat) (L i : Value) (wr : World) : Prop := ∃ (k F l : Nat) (s : Nat → Bool), k ≤ len ∧ i = .int .i64 k ∧ L = .int .i64 l ∧ L2 W b bs n wr F s l

set_option maxRecDepth 100000 in
set_option maxHeartbeats 2000000 in
theorem once_good (n : Nat) (a : Option Addr) (len cap : Nat) (gs : List Int) (w : World) (h1 : 1 ≤ n) (h2 : n ≤ 16) (hlen : len ≤ 9223372036854775807)
    (hg : ∀ k, k < len → ∃ p, a = some p ∧ p.spot = none ∧ p.block < w.heap.size ∧ w.cell? ⟨p.block, p.off + k, none⟩ = some (.int .i64 (gs.getD k 0)) ∧ -9223372036854775808 ≤ gs.getD k 0 ∧ gs.getD k 0 ≤ 9223372036854775807) :
    Calls Try.prog 3 #[.int .i64 n, .slice a len cap] w fun e w' => e = .returned (.bool true) ∧ Only (fun _ => False) w w' := by
  obtain ⟨i4, hi4, hz4, hs4, hb4⟩ := info_parts info4
  have hg' := Lib.hid hg; clear hg
  go_enter Try.func3, Try.ntmps3
  go_wp2_with fail
  refine (fixed_any _).mono ?_
  rintro e w1 ⟨rfl, O1⟩
  go_wp2_with fail
  refine (new_int n _ (by omega) (by omega)).mono ?_
  rintro e w2 ⟨rfl, O2, P2, S2⟩
  have hn0 : ((n : Int)).toNat = n := rfl
  rw [hn0] at P2
  have O12 := O1.trans O2
  have hmk := run_make (P := Try.prog) w2 28 4 i4 (.bool false) Try.underlying28 hi4 hz4 .i64 .i64 n n (by omega) (by omega) (by rw [hb4]; omega) (by omega)
  rw [hs4] at hmk
  have hmk' : Sem.run Try.prog (Instr.makeSlice 28 (Value.int IntKind.i64 n) (Value.int IntKind.i64 n)) w2 = .ok (.slice (some ⟨w2.heap.size, 0, none⟩) n n) (w2.alloc (.cells (madeCells #[.bool false] n) 4)) := by
    simp only [Int.toNat_natCast, Nat.mul_one] at hmk
    exact hmk
  clear hmk
  have hst := Lib.hid (L1.start P2 h2 O12 (madeCells #[.bool false] n) (toList_madeCells_one _ _))
  have hs2 := Lib.hid S2; clear S2
  have hw : w.heap.size ≤ w1.heap.size := O1.size
  have hw2 := Lib.hid O2.size
  go_wp2_with fail
  clear hmk'
  go_loopw [9] (fun i wr => R1 w w1.heap.size w2.heap.size n i wr) (fun i _ => n - (intOf i).toNat)
  case atStart => exact ⟨0, _, Nat.zero_le _, rfl, hst.out⟩
  case round =>
    obtain ⟨k, F, hk, rfl, hL⟩ := hrel
    by_cases hlt : k < n
    · go_wp2_with fail
      have hbt := hL.bits
      have hyes : F.testBit k = true := by rw [hbt]; simp [hlt]
      have hno : ∀ j, j < k → F.testBit j = false := fun j hj => by rw [hbt]; simp; omega
      refine (take_some _ n F k _ hL.pool hL.lt h2 hlt hyes hno).mono ?_
      rintro e w3 ⟨rfl, O3, P3⟩
      clear hbt hyes hno
      have hbs : w1.heap.size ≠ w2.heap.size := by have := hs2.out; omega
      have hse : SeenAt w3 w2.heap.size n (fun j => decide (j < k)) := O3.blk hL.seen (fun h => hbs h.symm)
      have hc := hse.cell k hlt
      simp only [Nat.lt_irrefl, decide_false] at hc
      have hz := hse.free k
      have hnx := Lib.hid (hL.onward hlt h2 hw (by have := hw2.out; omega) hbs O3 P3)
      clear hL hse O3 P3 hbs
      go_wp2_with fail
      go_roundw
      case rel => exact ⟨k + 1, _, by omega, by go_num, hnx.out⟩
      case measure => simp [intOf]; omega
    · obtain rfl : k = n := by omega
      have hL2 := Lib.hid hL.done
      have hpool := hL.pool
      have hlt1 := hL.lt
      have hno : Hid (∀ i, i < k → F.testBit i = false) := fun i hi => by rw [hL.bits]; simp [hi]
      clear hL
      go_wp2_with fail
      refine (take_none _ k F _ hpool hlt1 h2 hno.out).mono ?_
      rintro e w3 ⟨rfl, rfl⟩
      clear hpool hlt1 hno
      go_wp2_with fail
      go_loopw [14, 15] (fun L i wr' => R2 w w1.heap.size w2.heap.size k len L i wr') (fun _ i _ => len - (intOf i).toNat)
      case atStart => exact ⟨0, _, _, _, Nat.zero_le _, rfl, rfl, hL2.out⟩
      case round =>
        obtain ⟨j, F2, l, s, hj, rfl, rfl, hM⟩ := hrel
        have hbs : Hid (w1.heap.size ≠ w2.heap.size) := by show _ ≠ _; have := hs2.out; omega
        by_cases hjl : j < len
        · obtain ⟨⟨pb, po, psp⟩, rfl, rfl, hpb, hpc, hlo, hhi⟩ := hg'.out j hjl
          generalize gs.getD j 0 = g at hpc hlo hhi
          dsimp only at hpb hpc
          have hc1 := (hM.only.cellAt hpb (by simp) (po + j)).trans hpc
          have hpool := hM.pool
          have hlt2 := hM.lt
          have hll := hM.le
          by_cases hout : g < 0 ∨ (k : Int) ≤ g
          · have hnx := Lib.hid hM
            clear hM
            go_wp2_with fail
            refine (give_arg _ k F2 g _ hpool h2 hout hlo hhi).mono ?_
            rintro e w4 ⟨rfl, rfl⟩
            clear hpool
            by_cases hneg : g < 0
            · clear hout
              go_wp2_with fail
              go_roundw
              case rel => exact ⟨j + 1, _, _, _, by omega, by go_num, rfl, hnx.out⟩
              case measure => simp [intOf]; omega
            · have hge : (k : Int) ≤ g := by omega
              clear hout
              go_wp2_with fail
              go_roundw
              case rel => exact ⟨j + 1, _, _, _, by omega, by go_num, rfl, hnx.out⟩
              case measure => simp [intOf]; omega
          · have h0 : 0 ≤ g := by omega
            have hlk : g < k := by omega
            clear hout
            obtain ⟨q, rfl⟩ := Int.eq_ofNat_of_zero_le h0
            have hqk : q < k := by omega
            have hsc := hM.seen.cell q hqk
            by_cases hsq : s q = true
            · rw [hsq] at hsc
              have hno : Hid (F2.testBit q = false) := by show _ = false; rw [hM.bits, hsq]; simp
              go_wp2_with fail
              refine (give_ok_int _ k F2 q _ hpool hlt2 h2 h0 hlk hno.out).mono ?_
              rintro e w4 ⟨rfl, O4, P4⟩
              have hse : SeenAt w4 w2.heap.size k s := O4.blk hM.seen (fun h => hbs.out h.symm)
              have hsc4 := hse.cell q hqk
              have hz := hse.free q
              rw [hsq] at hsc4
              have hc4 := ((hM.only.seq2 O4 (T := (· = w1.heap.size)) (by rintro k rfl; exact .inl hw)).cellAt hpb (by simp) (po + j)).trans hpc
              have hc5 := cell_set_ne hc4 ⟨w2.heap.size, q, none⟩ (.bool false) (by show pb ≠ w2.heap.size; have := hw2.out; omega)
              have hnx := Lib.hid (hM.given hqk hsq h2 hw (by have := hw2.out; omega) hbs.out O4 P4)
              clear hM hpool hsq hno O4 P4 hse hsc hc1 hpc
              go_wp2_with fail
              go_roundw
              case rel => exact ⟨j + 1, _, _, _, by omega, by go_num, by show _ = Value.int .i64 ((min l q : Nat) : Int); congr 1; omega, hnx.out⟩
              case measure => simp [intOf]; omega
            · have hsq0 : s q = false := by simpa using hsq
              clear hsq
              rw [hsq0] at hsc
              have hyes : Hid (F2.testBit q = true) := by show _ = true; rw [hM.bits, hsq0]; simp [hqk]
              go_wp2_with fail
              refine (give_state_int _ k F2 q _ hpool hlt2 h2 h0 hlk hyes.out).mono ?_
              rintro e w4 ⟨rfl, rfl⟩
              have hz := hM.seen.free q
              have hc5 := cell_set_ne hc1 ⟨w2.heap.size, q, none⟩ (.bool false) (by show pb ≠ w2.heap.size; have := hw2.out; omega)
              obtain ⟨hnx1, hlq⟩ := hM.free_again hqk hsq0 (by have := hw2.out; omega) hbs.out
              have hnx := Lib.hid hnx1
              clear hM hpool hsq0 hyes hnx1
              go_wp2_with fail
              go_roundw
              case rel => exact ⟨j + 1, _, _, _, by omega, by go_num, rfl, hnx.out⟩
              case measure => simp [intOf]; omega
        · by_cases hl : l < k
          · have hlo := hM.le
            have hyes : Hid (F2.testBit l = true) := by show _ = true; rw [hM.bits, hM.at_ hl]; simp [hl]
            have hno : Hid (∀ i, i < l → F2.testBit i = false) := fun i hi => by rw [hM.bits, hM.below i hi]; simp
            have hlt2 := hM.lt
            have hpool := hM.pool
            have hon := hM.only
            clear hM
            go_wp2_with fail
            refine (take_some _ k F2 l _ hpool hlt2 h2 hl hyes.out hno.out).mono ?_
            rintro e w4 ⟨rfl, O4, P4⟩
            clear hpool hyes hno P4
            have hne : ((l : Int) == (k : Int)) = false := by simp; omega
            go_wp2_with fail
            go_ret
            exact ⟨rfl, hon.seq2 O4 (by rintro k rfl; exact .inl hw)⟩
          · obtain rfl : l = k := by have := hM.le; omega
            have hno : Hid (∀ i, i < l → F2.testBit i = false) := fun i hi => by rw [hM.bits, hM.below i hi]; simp
            have hlt2 := hM.lt
            have hpool := hM.pool
            have hon := hM.only
            clear hM
            go_wp2_with fail
            refine (take_none _ l F2 _ hpool hlt2 h2 hno.out).mono ?_
            rintro e w4 ⟨rfl, rfl⟩
            clear hpool hno
            go_wp2_with fail
            go_ret
            exact ⟨rfl, hon⟩
end Go.Proofs.Ytmfgagfkkhfliaa
