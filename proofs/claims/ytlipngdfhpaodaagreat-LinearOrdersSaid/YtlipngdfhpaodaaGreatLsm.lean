/- The walks of same and Beyond. -/
import Derived.Test.YtlipngdfhpaodaaGreatLho
import Derived.Test.YtlipngdfhpaodaaGreatJla
import Derived.BigQuiet
import Derived.Deep.QuietTactic
import Derived.IntWalk
import Derived.Laws.StructEq
import Derived.ChangeKeysEq
namespace Go.Proofs.YtlipngdfhpaodaaGreat.Lo
open Go.RowKit

/-- n pairs at p -/
def Prs (w : World) (p : Option Addr) (n : Nat) (f g : Nat → Int) : Prop :=
  ∀ i, i < n → ∃ b o, p = some ⟨b, o, none⟩ ∧ b < w.heap.size ∧ w.cell? ⟨b, o + i * 2, none⟩ = some (.int .i64 (f i)) ∧ w.cell? ⟨b, o + i * 2 + 1, none⟩ = some (.int .i64 (g i))
theorem Prs.only {S : Nat → Prop} {w w' : World} {p : Option Addr} {n : Nat} {f g : Nat → Int} (h : Prs w p n f g) (O : Only S w w') (hs : ∀ a, p = some a → ¬ S a.block) : Prs w' p n f g := by
  intro i hi
  obtain ⟨b, o, rfl, h1, h2, h3⟩ := h i hi
  have hb := hs _ rfl
  exact ⟨b, o, rfl, Nat.lt_of_lt_of_le h1 O.size, by rw [O.cellAt h1 hb, h2], by rw [O.cellAt h1 hb, h3]⟩
theorem run_eq72g (d : Nat) (a b : Int) (w : World) : Sem.run Tryz.prog (Op.equalIn (d + 1 + 1) 72 (.agg #[.int .i64 a, .int .i64 b]) (.agg #[.int .i64 a, .int .i64 b])) w = .ok true w := by
  have hi : ∃ i, Tryz.prog.info? 3 = some i := by
    have : (Tryz.prog.info? 3).isSome = true := by kernel_rfl
    exact Option.isSome_iff_exists.1 this
  obtain ⟨i, hi⟩ := hi
  have c3 : Tryz.prog.cellsOf 3 = 1 := by kernel_rfl
  have u3 := Tryz.underlying3
  rw [run_equalIn_array w (d + 1) _ _ Tryz.underlying72 hi, c3]
  rw [show List.range 2 = [0, 1] from rfl]
  simp [Op.eqItems, go_sem, u3]
theorem run_eq72 (a b : Int) (w : World) : Sem.run Tryz.prog (Op.equalIn 10000 72 (.agg #[.int .i64 a, .int .i64 b]) (.agg #[.int .i64 a, .int .i64 b])) w = .ok true w := run_eq72g 9998 a b w
theorem run_ne72 (a b : Int) (w : World) : Sem.run Tryz.prog (binOp .neq 72 (.agg #[.int .i64 a, .int .i64 b]) (.agg #[.int .i64 a, .int .i64 b])) w = .ok (.bool false) w := by
  have u3 := Tryz.underlying3
  have u72 := Tryz.underlying72
  rw [run_neq_struct, run_eq72]; rfl
set_option maxHeartbeats 1000000 in
theorem same_calls (p q : Option Addr) (n c1 c2 : Nat) (f g : Nat → Int) (w : World) (hn : n ≤ 9007199254740992) (hp : Prs w p n f g) (hq : Prs w q n f g) :
    Calls Tryz.prog 35 #[.slice p n c1, .slice q n c2] w fun e w' => e = .returned (.bool true) ∧ Still w w' := by
  have hp' := Lib.hid hp
  have hq' := Lib.hid hq
  clear hp hq
  have kn := run_ne72
  go_enter Tryz.func35, Tryz.ntmps35
  go_wp2_with fail
  go_loopw [5] (fun i wr => ∃ k : Nat, k ≤ n ∧ i = .int .i64 k ∧ Still w wr) (fun i _ => n - (intOf i).toNat)
  case atStart => exact ⟨0, Nat.zero_le _, rfl, Still.refl _⟩
  case round =>
    obtain ⟨k, hk, rfl, hst⟩ := hrel
    by_cases hlt : k < n
    · obtain ⟨b1, o1, rfl, g1, d1, e1⟩ := hp'.out k hlt
      obtain ⟨b2, o2, rfl, g2, d2, e2⟩ := hq'.out k hlt
      rw [← hst.cell] at d1 e1 d2 e2
      generalize f k = x at *
      generalize g k = y at *
      have hst' := Lib.hid hst; clear hst
      go_wp2_with fail
      go_quiet (fail)
      go_wp2
      go_roundw
      case rel => exact ⟨k + 1, by omega, by go_num, hst'.out.drewN _⟩
      case measure => simp [intOf]; omega
    · obtain rfl : k = n := by omega
      go_wp2_with fail
      go_ret
      exact ⟨rfl, hst⟩
/-- Beyond: where it answers no, there are few calls -/
def BeyR (m : Nat) (L : Nat → Nat) (w : World) (e : Ending) (w' : World) : Prop := Only (fun _ => False) w w' ∧ (e = .returned (.bool true) ∨ (e = .returned (.bool false) ∧ tots L m < 2147483648))
set_option maxHeartbeats 1000000 in
theorem beyond_calls (W : World) (a : Option Addr) (m cp : Nat) (x : Int) (L : Nat → Nat) (D : Nat → Nat → Dn) (hs : Hs W a m L D) :
    Calls Tryz.prog 32 #[.agg #[.slice a m cp, .int .i64 x]] W (BeyR m L W) := by
  have HS := Lib.hid hs
  have hml := hs.len
  clear hs
  go_enter Tryz.func32, Tryz.ntmps32
  go_wp2_with fail
  go_loopw [3, 4] (fun v i wr => ∃ t s : Nat, i = .int .i64 t ∧ t ≤ m ∧ v = .int .i64 s ∧ s < 2147483648 ∧ s = tots L t ∧ Only (fun _ => False) W wr ∧ wr.heap[W.heap.size]? = some (.cells #[.slice a m cp, .int .i64 x] 90 (0, 0))) (fun _ i _ => m - (intOf i).toNat)
  case atStart => exact ⟨0, 0, rfl, Nat.zero_le _, rfl, by decide, rfl, (Only.refl _ W).alloc _, blk_new _ _⟩
  case round =>
    obtain ⟨t, s, rfl, ht, rfl, hs1, hs2, O, hb⟩ := hrel
    have HO := Lib.hid O; have HB := Lib.hid hb; have HS2 := Lib.hid hs2
    have c0 : wr.cell? ⟨W.heap.size, 0, none⟩ = some (.slice a m cp) := by rw [blk_cell hb]; rfl
    clear hs2 hb
    by_cases hlt : t < m
    · obtain ⟨b, o, A, c1, rfl, q1, q2, q3, q4⟩ := HS.out.row t hlt
      rw [← O.cellAt q1 id] at q2
      clear q4 O
      by_cases hge : L t ≥ 2147483648 - s
      · have kg : decide ((L t : Int) ≥ 2147483648 - s) = true := by simp; omega
        go_wp2_with fail
        go_ret
        exact ⟨HO.out, .inl rfl⟩
      · have kg : decide ((L t : Int) ≥ 2147483648 - s) = false := by simp; omega
        go_wp2_with fail
        go_roundw
        case rel => exact ⟨t + 1, s + L t, by go_num, by omega, by go_num, by omega, by rw [HS2.out]; rfl, HO.out, HB.out⟩
        case measure => simp [intOf]; omega
    · obtain rfl : t = m := by omega
      go_wp2_with fail
      go_ret
      exact ⟨HO.out, .inr ⟨rfl, by rw [← HS2.out]; exact hs1⟩⟩
end Go.Proofs.YtlipngdfhpaodaaGreat.Lo
