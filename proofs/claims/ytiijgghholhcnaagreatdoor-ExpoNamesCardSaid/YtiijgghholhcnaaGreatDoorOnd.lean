/- The walks of sync.Once's first call: doSlow, Do. -/
import Derived.Test.YtiijgghholhcnaaGreatDoorOnc
namespace Go.Proofs.YtiijgghholhcnaaGreatDoor
open Go.RowKit
set_option maxRecDepth 1000000
theorem load_0 (b : Nat) (w : World) (hc : w.cell? ⟨b, 0, none⟩ = some (.int .u32 0)) : Calls Tryz.prog 120 #[.pointer (some ⟨b, 0, none⟩)] w fun e w' => e = .returned (.bool false) ∧ w' = w := by
  have hl := run_call_load (P := Tryz.prog) Tryz.func161 (by kernel_rfl) (by kernel_rfl) (by kernel_rfl) .u32 (by kernel_rfl) hc
  go_enter Tryz.func120, Tryz.ntmps120
  go_wp2_with fail
  go_ret
  exact ⟨rfl, rfl⟩
/-- the function that is done once: it leaves the lock held, done not yet told -/
def Dn (b : Nat) (R : World → Prop) (e : Ending) (w : World) : Prop :=
  e = .returned (.tuple #[]) ∧ w.cell? ⟨b, 0, none⟩ = some (.int .u32 0) ∧ w.cell? ⟨b, 1, none⟩ = some (.int .i32 1) ∧ w.frozen? ⟨b, 0, none⟩ = false ∧ w.frozen? ⟨b, 1, none⟩ = false ∧ R w
def Ov (b : Nat) (R : World → Prop) (e : Ending) (w : World) : Prop :=
  e = .returned (.tuple #[]) ∧ ∃ w1, R w1 ∧ w = (w1.drew.setCell ⟨b, 0, none⟩ (.int .u32 1)).setCell ⟨b, 1, none⟩ (.int .i32 0)
set_option maxHeartbeats 1600000 in
theorem slow_calls (b : Nat) (R : World → Prop) (w : World) (h0 : w.cell? ⟨b, 0, none⟩ = some (.int .u32 0)) (h1 : w.cell? ⟨b, 1, none⟩ = some (.int .i32 0))
    (_f0 : w.frozen? ⟨b, 0, none⟩ = false) (f1 : w.frozen? ⟨b, 1, none⟩ = false)
    (K : Calls Tryz.prog 69 #[.pointer (some ⟨b, 0, none⟩)] (w.setCell ⟨b, 1, none⟩ (.int .i32 1)) (Dn b R)) :
    Calls Tryz.prog 121 #[.pointer (some ⟨b, 0, none⟩), .func (Fn.func 69) #[.pointer (some ⟨b, 0, none⟩)] #[]] w (Ov b R) := by
  have h01 : (w.setCell ⟨b, 1, none⟩ (.int .i32 1)).cell? ⟨b, 0, none⟩ = some (.int .u32 0) := (World.cell?_setCell_other _ ⟨b, 1, none⟩ ⟨b, 0, none⟩ _ (by simp)).trans h0
  have HK := Lib.hid K; clear K
  go_enter_defers Tryz.func121, Tryz.ntmps121
  go_wp2_with (go_at_call 162; refine (lock_free ⟨b, 1, none⟩ _ (by go_simp) (by go_simp)).mono ?_; rintro e w' ⟨rfl, rfl⟩)
  refine (load_0 b _ h01).mono ?_
  rintro e w1 ⟨rfl, hw⟩; rw [hw]; clear hw w1
  go_wp2_with fail
  refine HK.out.mono ?_
  rintro e w1 ⟨rfl, q0, q1, z0, z1, hR⟩
  have HRR := Lib.hid hR
  have Q0 := Lib.hid q0; have Q1 := Lib.hid q1; have Z0 := Lib.hid z0; have Z1 := Lib.hid z1
  clear hR HK q0 q1 z0 z1
  go_wp2_with fail
  refine leaves_cons (f := 164) (args := #[.pointer (some ⟨b, 0, none⟩), .bool true]) (by simp) (by simp [go_sem]) ?_
  refine (store_deferred ⟨b, 0, none⟩ (.int .u32 0) .returning _ Q0.out Z0.out).mono ?_
  rintro e u' w'' ⟨rfl, rfl, rfl⟩
  refine leaves_cons (f := 163) (args := #[.pointer (some ⟨b, 1, none⟩)]) (by simp [settle]) (by simp [go_sem]) ?_
  refine (unlock_deferred ⟨b, 1, none⟩ _ _ ((World.cell?_setCell_other _ ⟨b, 0, none⟩ ⟨b, 1, none⟩ _ (by simp)).trans (by rw [World.cell?_drew]; exact Q1.out)) (by simp [Z1.out])).mono ?_
  rintro e u' w'' ⟨rfl, rfl, rfl⟩
  have HO : Ov b R (.returned (.tuple #[])) ((w1.drew.setCell ⟨b, 0, none⟩ (.int .u32 1)).setCell ⟨b, 1, none⟩ (.int .i32 0)) := ⟨rfl, w1, HRR.out, rfl⟩
  simp [Leaves, settle, results, Tryz.results121]
  exact HO
set_option maxHeartbeats 1600000 in
theorem do_calls (b : Nat) (R : World → Prop) (w : World) (h0 : w.cell? ⟨b, 0, none⟩ = some (.int .u32 0)) (h1 : w.cell? ⟨b, 1, none⟩ = some (.int .i32 0))
    (_f0 : w.frozen? ⟨b, 0, none⟩ = false) (f1 : w.frozen? ⟨b, 1, none⟩ = false)
    (K : Calls Tryz.prog 69 #[.pointer (some ⟨b, 0, none⟩)] (w.setCell ⟨b, 1, none⟩ (.int .i32 1)) (Dn b R)) :
    Calls Tryz.prog 68 #[.pointer (some ⟨b, 0, none⟩), .func (Fn.func 69) #[.pointer (some ⟨b, 0, none⟩)] #[]] w (Ov b R) := by
  have S := Lib.hid (slow_calls b R w h0 h1 _f0 f1 K)
  have H0 := Lib.hid h0
  clear K h1 _f0 f1
  go_enter Tryz.func68, Tryz.ntmps68
  go_wp2_with fail
  refine (load_0 b _ H0.out).mono ?_
  rintro e w1 ⟨rfl, hw⟩; rw [hw]; clear hw w1
  go_wp2_with fail
  refine S.out.mono ?_
  rintro e w1 ⟨rfl, hR⟩
  have HR := Lib.hid hR; clear hR S
  go_wp2_with fail
  go_end0
  exact ⟨rfl, HR.out⟩
end Go.Proofs.YtiijgghholhcnaaGreatDoor
