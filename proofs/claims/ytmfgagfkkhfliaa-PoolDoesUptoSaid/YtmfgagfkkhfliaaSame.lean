/- The walks of 'same' and of the law's 'free'. -/
import Derived.Test.YtmfgagfkkhfliaaRef
import Derived.Deep.QuietTactic
import Derived.BigQuiet
namespace Go.Proofs.Ytmfgagfkkhfliaa
open Go.RowKit

theorem own_form {B : Nat} {w : World} {v : Value} {n : Nat} {xs : List Value} (h : w.ownsRow B 3 1 v n xs) : ∃ a cap, v = .slice a n cap ∧ n ≤ cap ∧ cap ≤ maxLen ∧ ∀ j, j < n → ∃ g, a = some ⟨g, 0, none⟩ ∧ B ≤ g := by
  rcases h.2 with ⟨rfl, rfl⟩ | ⟨g, cap, cur, rfl, hb, _, h1, h2, _⟩
  · exact ⟨none, 0, rfl, by omega, by unfold maxLen; omega, by omega⟩
  · exact ⟨_, cap, rfl, h1, h2, fun _ _ => ⟨g, rfl, hb⟩⟩
theorem own_cell {B : Nat} {w : World} {g n cap : Nat} {xs : List Value} (h : w.ownsRow B 3 1 (.slice (some ⟨g, 0, none⟩) n cap) n xs) (j : Nat) (hj : j < n) : w.cell? ⟨g, j, none⟩ = xs[j]? := h.cellAt j (by omega)
theorem vals_get (l : List Nat) (j : Nat) (hj : j < l.length) : (vals l)[j]? = some (.int .i64 (l.getD j 0 : Nat)) := by
  simp [vals, hj]

set_option maxHeartbeats 1000000 in
theorem same_any (B1 B2 : Nat) (w : World) (va vb : Value) (l : List Nat) (hl : l.length ≤ 1000) (ha : Own B1 w va l) (hb : Own B2 w vb l) :
    Calls Try.prog 17 #[va, vb] w fun e w' => e = .returned (.bool true) ∧ Still w w' := by
  obtain ⟨aa, ca, rfl, h1, h2, h3⟩ := own_form ha
  obtain ⟨ab, cb, rfl, k1, k2, k3⟩ := own_form hb
  have h3' := Lib.hid h3; clear h3
  have k3' := Lib.hid k3; clear k3
  unfold maxLen at h2 k2
  generalize hn : l.length = n at *
  have hn' := Lib.hid hn; clear hn
  go_enter Try.func17, Try.ntmps17
  go_wp2
  go_loopw [5] (fun i wr => ∃ k : Nat, k ≤ n ∧ i = .int .i64 k ∧ Still w wr) (fun i _ => n - (intOf i).toNat)
  case atStart => exact ⟨0, Nat.zero_le _, rfl, Still.refl _⟩
  case round =>
    obtain ⟨k, hk, rfl, hst⟩ := hrel
    by_cases hlt : k < n
    · obtain ⟨g, rfl, _⟩ := h3'.out k hlt
      obtain ⟨g2, rfl, _⟩ := k3'.out k hlt
      have hv := vals_get l k (by rw [hn'.out]; exact hlt)
      have hc : w.cell? ⟨g, k, none⟩ = some (.int .i64 (l.getD k 0 : Nat)) := by
        rw [← hv]; unfold Own at ha; rw [hn'.out] at ha; exact own_cell ha k hlt
      have hc2 : w.cell? ⟨g2, k, none⟩ = some (.int .i64 (l.getD k 0 : Nat)) := by
        rw [← hv]; unfold Own at hb; rw [hn'.out] at hb; exact own_cell hb k hlt
      generalize l.getD k 0 = x at hc hc2
      clear hv
      rw [← hst.cell] at hc hc2
      go_wp2
      go_quiet (fail)
      go_wp2
      go_roundw
      case rel => exact ⟨k + 1, by omega, by go_num, hst.drewN _⟩
      case measure => simp [intOf]; omega
    · go_wp2
      go_ret
      exact ⟨rfl, hst⟩
end Go.Proofs.Ytmfgagfkkhfliaa
