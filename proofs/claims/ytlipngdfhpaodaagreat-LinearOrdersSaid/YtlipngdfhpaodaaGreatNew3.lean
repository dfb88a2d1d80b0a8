/- The walk of New: the program's slab, the good way, kind 1 (printed by gen_new.py). -/
import Derived.Test.YtlipngdfhpaodaaGreatNewf
import Derived.Deep.RegionHeld3
namespace Go.Proofs.YtlipngdfhpaodaaGreat
open Go.RowKit

set_option maxRecDepth 200000 in
set_option maxHeartbeats 4000000 in
theorem new_1 (st p : Int) (w : World) (h : newE 1 st p = 0) (n : Nat) (hn : st = n) :
    Calls Tryz.prog 11 #[.int .i64 1, .int .i64 st, .int .i64 p] w (NewRes 1 p n w) := by
  have hm : mayB st p = true := by
    cases hq : mayB st p with
    | true => rfl
    | false => unfold newE at h; rw [hq] at h; simp [wide] at h
  have h3 : decide (cellsN 1 st p > 1048576) = false := by
    rw [decide_eq_false_iff_not]; intro q; unfold newE at h; rw [hm] at h; simp [wide, q] at h
  obtain ⟨a1, a2, _, _⟩ := mayB_of hm
  have wide_pos : 0 < wide 1 p := by rw [wide_1]; omega
  have hm' := Lib.hid hm; clear hm h
  subst hn
  go_enter Tryz.func11, Tryz.ntmps11
  go_wp2_with fail
  refine (width_calls _ _ _).mono ?_
  rintro e w1 ⟨rfl, rfl⟩
  go_wp2_with fail
  refine (may_calls _ _ _).mono ?_
  rw [hm'.out]
  rintro e w1 ⟨rfl, rfl⟩
  go_wp2_with fail
  refine (cells_calls _ _ _ _).mono ?_
  rintro e w1 ⟨rfl, rfl⟩
  go_wp2_with fail
  refine (width_calls _ _ _).mono ?_
  rintro e w1 ⟨rfl, rfl⟩
  go_wp2_with fail
  refine (made_calls n (wide 1 p) _ (by omega) (by have := wide_le 1 p; omega)).mono ?_
  rintro e w2 ⟨rfl, O2, u, L, R, V, hL, hH⟩
  have hS0 : NewAt w1 w2.heap.size w1.heap.size 1 p n (wide 1 p) 0 0 0 (w2.alloc (.cells #[inst 1 w1.heap.size p] 130)) := new_start O2 (hL 0 (by decide)) (hL 1 (by decide)) hH
  clear hH hL
  go_wp2_with fail
  go_loopw [59] (fun v wr => (v = .int .i64 0 ∧ NewAt w1 w2.heap.size w1.heap.size 1 p n (wide 1 p) 0 0 0 wr) ∨ (v = .int .i64 1 ∧ NewAt w1 w2.heap.size w1.heap.size 1 p n (wide 1 p) 1 0 0 wr) ∨ (v = .int .i64 2 ∧ NewAt w1 w2.heap.size w1.heap.size 1 p n (wide 1 p) 2 0 0 wr)) (fun v _ => 2 - (intOf v).toNat)
  case atStart => exact .inl ⟨rfl, hS0⟩
  case round =>
    rcases hrel with ⟨rfl, hM⟩ | ⟨rfl, hM⟩ | ⟨rfl, hM⟩
    · have hstart := 0; clear hstart
      go_wp2_with fail
      go_loopw [63] (fun v wr => ∃ m : Nat, m ≤ n ∧ v = .int .i64 m ∧ NewAt w1 w2.heap.size w1.heap.size 1 p n (wide 1 p) 0 m 0 wr) (fun v _ => n - (intOf v).toNat)
      case atStart => exact ⟨0, by omega, rfl, hM⟩
      case round =>
        obtain ⟨m, hm, rfl, hI⟩ := hrel
        clear hM
        by_cases hmn : m < n
        · have hw0 : 0 < (wide 1 p) := wide_pos
          obtain ⟨g, cap, r, hsee⟩ := hI.see (by decide) hmn hw0
          obtain ⟨_, cc, gc, _, _, _⟩ := hsee _ (Only.refl _ _)
          clear hsee
          go_wp2_with fail
          go_loopw [76] (fun v wr => ∃ l : Nat, l ≤ (wide 1 p) ∧ v = .int .i64 l ∧ NewAt w1 w2.heap.size w1.heap.size 1 p n (wide 1 p) 0 m l wr) (fun v _ => (wide 1 p) - (intOf v).toNat)
          case atStart => exact ⟨0, by omega, rfl, hI⟩
          case round =>
            obtain ⟨l, hl, rfl, hJ⟩ := hrel
            clear hI cc gc
            by_cases hlw : l < (wide 1 p)
            · have hstart := 0; clear hstart
              obtain ⟨u', L', R', hF⟩ := hJ.f
              obtain ⟨g2, cap2, _, hsee⟩ := hF.head (by decide) hmn
              clear hJ
              have Hs := Lib.hid hsee; clear hsee
              have k0 : wr.cell? ⟨w2.heap.size, 0, none⟩ = some (.iface 132 (.agg #[.pointer (some ⟨w1.heap.size, 0, none⟩)])) := (Hs.out _ hF).1
              have k1 := (Hs.out _ hF).2.1
              have k2 := (Hs.out _ hF).2.2.1
              have hs2 : Hid (∀ w', NewS w1 w2.heap.size w1.heap.size 1 p n (wide 1 p) u' L' R' 0 m l w' → NewS w1 w2.heap.size w1.heap.size 1 p n (wide 1 p) u' L' R' 0 m l w' ∧ w'.cell? ⟨w2.heap.size, 0, none⟩ = some (.iface 132 (.agg #[.pointer (some ⟨w1.heap.size, 0, none⟩)])) ∧ w'.cell? ⟨w1.heap.size, 0, none⟩ = some (.slice (some ⟨g2, 0, none⟩) n cap2) ∧ w'.cell? ⟨g2, m, none⟩ = some (.slice (some ⟨R' 0 m, 0, none⟩) (wide 1 p) (wide 1 p))) := fun w' h => ⟨h, (Hs.out _ h).1, (Hs.out _ h).2.1, (Hs.out _ h).2.2.1⟩
              have hF0 : NewS w1 w2.heap.size w1.heap.size 1 p n (wide 1 p) u' L' R' 0 m l wr.drew := hF.next (Only.refl _ _).drew
              clear hF
              have hmeth := meth_first1
              have hl2 : l < 819202 := by have := wide_le 1 p; omega
              go_wp2_with fail
              go_region_held3 (fun w' => NewS w1 w2.heap.size w1.heap.size 1 p n (wide 1 p) u' L' R' 0 m l w' ∧ w'.cell? ⟨w2.heap.size, 0, none⟩ = some (.iface 132 (.agg #[.pointer (some ⟨w1.heap.size, 0, none⟩)])) ∧ w'.cell? ⟨w1.heap.size, 0, none⟩ = some (.slice (some ⟨g2, 0, none⟩) n cap2) ∧ w'.cell? ⟨g2, m, none⟩ = some (.slice (some ⟨R' 0 m, 0, none⟩) (wide 1 p) (wide 1 p)))
                ((go_split_ands; first | exact hs2.out _ hF0 | exact hs2.out _ N3))
                (first | (go_at_call 339; go_split_ands; refine (first_counter _ _ _).mono ?_; rintro e w3 ⟨rfl, O3⟩; have N3 := NewF.next (show NewS w1 w2.heap.size w1.heap.size 1 p n (wide 1 p) u' L' R' 0 m l _ by assumption) O3) | (go_at_call 47; go_split_ands; have N0 := NewF.word (show NewS w1 w2.heap.size w1.heap.size 1 p n (wide 1 p) u' L' R' 0 m l _ by assumption) (by decide) hmn hlw; obtain ⟨⟨x, hx⟩, hz⟩ := N0; refine (wstore _ _ _ _ hx hz).mono ?_; rintro e w3 ⟨rfl, rfl⟩; have N4 := NewF.put (show NewS w1 w2.heap.size w1.heap.size 1 p n (wide 1 p) u' L' R' 0 m l _ by assumption) (by decide) hmn hlw; have N3 := N4.less))
              clear k0 k1 k2 hs2 hF0 Hs hmeth
              go_wp2_with fail
              go_roundw
              case rel => exact ⟨l + 1, by omega, by go_num, NewF.at (by assumption)⟩
              case measure => simp [intOf]; omega
            · obtain rfl : l = (wide 1 p) := by omega
              go_wp2_with fail
              go_roundw
              case rel => exact ⟨m + 1, by omega, by go_num, hJ.mono (by intro b i k _ _ _ q; omega)⟩
              case measure => simp [intOf]; omega
        · obtain rfl : m = n := by omega
          go_wp2_with fail
          go_roundw
          case rel => exact .inr (.inl ⟨rfl, hI.mono (by intro b i k _ _ _ q; omega)⟩)
          case measure => simp [intOf]
    · have hstart := 0; clear hstart
      go_wp2_with fail
      go_loopw [63] (fun v wr => ∃ m : Nat, m ≤ n ∧ v = .int .i64 m ∧ NewAt w1 w2.heap.size w1.heap.size 1 p n (wide 1 p) 1 m 0 wr) (fun v _ => n - (intOf v).toNat)
      case atStart => exact ⟨0, by omega, rfl, hM⟩
      case round =>
        obtain ⟨m, hm, rfl, hI⟩ := hrel
        clear hM
        by_cases hmn : m < n
        · have hw0 : 0 < (wide 1 p) := wide_pos
          obtain ⟨g, cap, r, hsee⟩ := hI.see (by decide) hmn hw0
          obtain ⟨_, cc, gc, _, _, _⟩ := hsee _ (Only.refl _ _)
          clear hsee
          go_wp2_with fail
          go_loopw [76] (fun v wr => ∃ l : Nat, l ≤ (wide 1 p) ∧ v = .int .i64 l ∧ NewAt w1 w2.heap.size w1.heap.size 1 p n (wide 1 p) 1 m l wr) (fun v _ => (wide 1 p) - (intOf v).toNat)
          case atStart => exact ⟨0, by omega, rfl, hI⟩
          case round =>
            obtain ⟨l, hl, rfl, hJ⟩ := hrel
            clear hI cc gc
            by_cases hlw : l < (wide 1 p)
            · have hstart := 0; clear hstart
              obtain ⟨u', L', R', hF⟩ := hJ.f
              obtain ⟨g2, cap2, _, hsee⟩ := hF.head (by decide) hmn
              clear hJ
              have Hs := Lib.hid hsee; clear hsee
              have k0 : wr.cell? ⟨w2.heap.size, 0, none⟩ = some (.iface 132 (.agg #[.pointer (some ⟨w1.heap.size, 0, none⟩)])) := (Hs.out _ hF).1
              have k1 := (Hs.out _ hF).2.1
              have k2 := (Hs.out _ hF).2.2.1
              have hs2 : Hid (∀ w', NewS w1 w2.heap.size w1.heap.size 1 p n (wide 1 p) u' L' R' 1 m l w' → NewS w1 w2.heap.size w1.heap.size 1 p n (wide 1 p) u' L' R' 1 m l w' ∧ w'.cell? ⟨w2.heap.size, 0, none⟩ = some (.iface 132 (.agg #[.pointer (some ⟨w1.heap.size, 0, none⟩)])) ∧ w'.cell? ⟨w1.heap.size, 1, none⟩ = some (.slice (some ⟨g2, 0, none⟩) n cap2) ∧ w'.cell? ⟨g2, m, none⟩ = some (.slice (some ⟨R' 1 m, 0, none⟩) (wide 1 p) (wide 1 p))) := fun w' h => ⟨h, (Hs.out _ h).1, (Hs.out _ h).2.1, (Hs.out _ h).2.2.1⟩
              have hF0 : NewS w1 w2.heap.size w1.heap.size 1 p n (wide 1 p) u' L' R' 1 m l wr.drew := hF.next (Only.refl _ _).drew
              clear hF
              have hmeth := meth_first1
              have hl2 : l < 819202 := by have := wide_le 1 p; omega
              go_wp2_with fail
              go_region_held3 (fun w' => NewS w1 w2.heap.size w1.heap.size 1 p n (wide 1 p) u' L' R' 1 m l w' ∧ w'.cell? ⟨w2.heap.size, 0, none⟩ = some (.iface 132 (.agg #[.pointer (some ⟨w1.heap.size, 0, none⟩)])) ∧ w'.cell? ⟨w1.heap.size, 1, none⟩ = some (.slice (some ⟨g2, 0, none⟩) n cap2) ∧ w'.cell? ⟨g2, m, none⟩ = some (.slice (some ⟨R' 1 m, 0, none⟩) (wide 1 p) (wide 1 p)))
                ((go_split_ands; first | exact hs2.out _ hF0 | exact hs2.out _ N3))
                (first | (go_at_call 339; go_split_ands; refine (first_counter _ _ _).mono ?_; rintro e w3 ⟨rfl, O3⟩; have N3 := NewF.next (show NewS w1 w2.heap.size w1.heap.size 1 p n (wide 1 p) u' L' R' 1 m l _ by assumption) O3) | (go_at_call 47; go_split_ands; have N0 := NewF.word (show NewS w1 w2.heap.size w1.heap.size 1 p n (wide 1 p) u' L' R' 1 m l _ by assumption) (by decide) hmn hlw; obtain ⟨⟨x, hx⟩, hz⟩ := N0; refine (wstore _ _ _ _ hx hz).mono ?_; rintro e w3 ⟨rfl, rfl⟩; have N4 := NewF.put (show NewS w1 w2.heap.size w1.heap.size 1 p n (wide 1 p) u' L' R' 1 m l _ by assumption) (by decide) hmn hlw; have N3 := N4.less))
              clear k0 k1 k2 hs2 hF0 Hs hmeth
              go_wp2_with fail
              go_roundw
              case rel => exact ⟨l + 1, by omega, by go_num, NewF.at (by assumption)⟩
              case measure => simp [intOf]; omega
            · obtain rfl : l = (wide 1 p) := by omega
              go_wp2_with fail
              go_roundw
              case rel => exact ⟨m + 1, by omega, by go_num, hJ.mono (by intro b i k _ _ _ q; omega)⟩
              case measure => simp [intOf]; omega
        · obtain rfl : m = n := by omega
          go_wp2_with fail
          go_roundw
          case rel => exact .inr (.inr ⟨rfl, hI.mono (by intro b i k _ _ _ q; omega)⟩)
          case measure => simp [intOf]
    · go_wp2_with fail
      go_ret2
      exact ⟨_, _, rfl, hM⟩
end Go.Proofs.YtlipngdfhpaodaaGreat
