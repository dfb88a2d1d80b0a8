/- The walks of awake and of the law ExpoNames. -/
import Derived.Test.YtiijgghholhcnaaGreatDoorWrt
namespace Go.Proofs.YtiijgghholhcnaaGreatDoor
open Go.RowKit
set_option maxRecDepth 1000000
theorem own_conv {w : World} {B n : Nat} {v : Value} {l : List UInt8} (h : w.ownsRow B 5 1 v n (Go.Lib.strCells ⟨l.toArray⟩)) (h0 : 0 < n) : Sem.run Tryz.prog (convert 27 9 v) w = .ok (.string ⟨l.toArray⟩) w := by
  have hn : l.length = n * 1 := by rw [← h.1]; simp [Go.Lib.strCells]
  rw [Nat.mul_one] at hn
  subst hn
  rcases h.2 with ⟨rfl, h1⟩ | ⟨g, cap, cur, rfl, h1, h2, h3⟩
  · omega
  · refine run_convert_bytes_back (P := Tryz.prog) w 27 9 5 ⟨g, 0, none⟩ cap l Tryz.underlying27 Tryz.underlying5 Tryz.underlying9 (fun j hj => ?_)
    refine h.cells (g := g) rfl j _ ?_
    simp [Go.Lib.strCells, hj]
set_option maxHeartbeats 4000000 in
theorem awake_calls (w : World) : Calls Tryz.prog 8 #[] w fun e w' => e = .returned (.bool true) ∧ Only (fun _ => False) w w' := by
  have K1 := Lib.hid (fun b w h => write_a b w h)
  have K2 := Lib.hid (fun w => write_e w)
  have ks1 := run_stf
  unfold snapA at K1
  go_enter Tryz.func8, Tryz.ntmps8
  go_wp2_with fail
  have hb := blk_new w (.cells cellsA 42)
  have hO := (Only.refl (fun _ => False) w).alloc (.cells cellsA 42)
  unfold cellsA at hb hO
  generalize w.alloc (.cells #[.int .i64 1, .string ⟨#[97]⟩, .string ⟨#[]⟩, .slice none 0 0, .int .i64 0, .int .u64 7, .slice none 0 0, .int .u64 0, .float .f64 0, .float .f64 0, .float .f64 0] 42) = w1 at *
  have HO := Lib.hid hO; clear hO
  refine (K1.out _ _ hb).mono ?_
  rintro e w2 ⟨v, rfl, h1, h2⟩
  have HO2 := Lib.hid (HO.out.trans h2)
  clear h2 HO hb
  have H1 := Lib.hid h1; clear h1
  go_upto_region 2 with fail
  go_wp2_with fail
  refine (K2.out _).mono ?_
  rintro e w3 ⟨rfl, h2⟩
  have H3 := Lib.hid (own_keepS H1.out h2 (fun _ _ e => e))
  have HO3 := Lib.hid (HO2.out.trans h2)
  clear h2 HO2 H1
  go_upto_region 3 with fail
  have hcv := own_conv H3.out (by omega)
  go_wp2_with fail
  go_ret
  exact ⟨rfl, HO3.out⟩
theorem names_calls (w : World) : Calls Tryz.prog 3 #[] w fun e w' => e = .returned (.bool true) ∧ Only (fun _ => False) w w' := by
  have K := Lib.hid (fun w => awake_calls w)
  go_enter Tryz.func3, Tryz.ntmps3
  go_wp2_with fail
  refine (K.out _).mono ?_
  rintro e w1 ⟨rfl, hO⟩
  have HO := Lib.hid hO; clear hO
  go_wp2_with fail
  go_ret
  exact ⟨rfl, HO.out⟩
end Go.Proofs.YtiijgghholhcnaaGreatDoor
