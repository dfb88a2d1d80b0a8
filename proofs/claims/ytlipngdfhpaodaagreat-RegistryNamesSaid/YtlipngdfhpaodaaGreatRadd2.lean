/- The walks of record and of a recorder's Add. -/
import Derived.Test.YtlipngdfhpaodaaGreatRadd
namespace Go.Proofs.YtlipngdfhpaodaaGreat
open Go.RowKit

theorem Only.keep1 {w w' : World} {x : Nat} (O : Only (fun k => k = x) w w') {cs : Array Value} {t' : TypeId} {f : Nat × Nat} (hx : w.heap[x]? = some (.cells cs t' f)) (t : TypeId) (ht : t' ≠ t) : Keep t w w' := fun k cs' f' q => O.blk q (by
  intro e; subst e; rw [hx] at q; injection q with q; injection q with _ q _; exact ht q)
section
variable {base s c : Nat} {kind p : Int} {st wd : Nat} {u : Nat → Value} {L : Nat → Nat} {R : Nat → Nat → Nat} {V : Nat → Nat → Nat → Int} {w w' : World} {B rb sh ph : Nat} {i : Nat} {n : Int} {act : Int} {rf : Nat → Int} {now start : Int} {en : Nat → Int}
theorem SlabAt.keep1 (h : SlabAt base s c kind p st wd u L R V w) {x : Nat} (O : Only (fun k => k = x) w w') {cs : Array Value} {t' : TypeId} {f : Nat × Nat} (hx : w.heap[x]? = some (.cells cs t' f)) (ht : t' ≠ 130 ∧ t' ≠ 136 ∧ t' ≠ 140 ∧ t' ≠ 120) : SlabAt base s c kind p st wd u L R V w' :=
  h.keepT (O.keep1 hx 130 ht.1) (O.keep1 hx 136 ht.2.1) (O.keep1 hx 140 ht.2.2.1) (O.keep1 hx 120 ht.2.2.2)
theorem ClosAt.keep1 (h : ClosAt B rb s sh i n w) {x : Nat} (O : Only (fun k => k = x) w w') {cs : Array Value} {t' : TypeId} {f : Nat × Nat} (hx : w.heap[x]? = some (.cells cs t' f)) (ht : t' ≠ 55 ∧ t' ≠ 165 ∧ t' ≠ 34 ∧ t' ≠ 2 ∧ t' ≠ 250) : ClosAt B rb s sh i n w' :=
  ⟨O.keep1 hx 55 ht.1 _ _ _ h.q0, O.keep1 hx 165 ht.2.1 _ _ _ h.q1, O.keep1 hx 34 ht.2.2.1 _ _ _ h.q2, O.keep1 hx 2 ht.2.2.2.1 _ _ _ h.q3, O.keep1 hx 250 ht.2.2.2.2 _ _ _ h.rcb⟩
theorem ClosAt.only (h : ClosAt B rb s sh i n w) (O : Only (fun _ => False) w w') : ClosAt B rb s sh i n w' :=
  ⟨O.blk h.q0 (by simp), O.blk h.q1 (by simp), O.blk h.q2 (by simp), O.blk h.q3 (by simp), O.blk h.rcb (by simp)⟩
theorem RecAt.row (h : RecAt base sh ph act rf now start en w) (hS : SlabAt base s c kind p st wd u L R V w) {b j : Nat} (hb : b < 2) (hj : j < st) (O : Only (fun k => k = R b j) w w') : RecAt base sh ph act rf now start en w' := by
  obtain ⟨cs, q1, _⟩ := hS.held.wrd b hb j (by rw [hS.len hb]; exact hj)
  exact h.only O (fun e => put_ne h.sobj q1 (by decide) e) (fun e => put_ne h.pobj q1 (by decide) e)
end
/-- what a recorder's Add does -/
def RaddRes (base sh ph s c : Nat) (p : Int) (st : Nat) (u : Nat → Value) (L : Nat → Nat) (R : Nat → Nat → Nat) (V : Nat → Nat → Nat → Int) (b q i : Nat) (n : Int) (rf : Nat → Int) (now start : Int) (en : Nat → Int) (w : World) (e : Ending) (w' : World) : Prop :=
  if n ≥ 0 then e = .returned (.int .i64 0) ∧ RecAt base sh ph b rf now (add64 start 1) (upd en q (add64 (en q) 1)) w' ∧ SlabAt base s c 1 p st 2 u L R (addV V b i n) w' ∧ Only (fun k => k = ph ∨ k = R b i) w w'
  else e = .returned (.int .i64 2) ∧ RecAt base sh ph b (upd rf b (add64 (rf b) 1)) now (add64 start 1) (upd en q (add64 (en q) 1)) w' ∧ SlabAt base s c 1 p st 2 u L R V w' ∧ Only (fun k => k = ph ∨ k = sh) w w'
section
variable {base s c : Nat} {p : Int} {st : Nat} {u : Nat → Value} {L : Nat → Nat} {R : Nat → Nat → Nat} {V : Nat → Nat → Nat → Int} {w : World} {B rb sh ph : Nat} {i : Nat} {n : Int} {rf : Nat → Int} {now start : Int} {en : Nat → Int}
set_option maxRecDepth 100000 in
set_option maxHeartbeats 1000000 in
theorem record_calls (hC : ClosAt B rb s sh i n w) (hS : SlabAt base s c 1 p st 2 u L R V w) (b : Nat) (hR : RecAt base sh ph b rf now start en w) (h0 : 0 < st) (hm : st ≤ 16) (hb : b < 2) (hi : i < st) (q : Nat) (hq : q < 2) (hp : phaseOf start = q)
    (hx : -9223372036854775808 ≤ V b i 0 ∧ V b i 0 ≤ 9223372036854775807) (hs : -9223372036854775808 ≤ start ∧ start ≤ 9223372036854775807) :
    Calls Tryz.prog 94 #[.pointer (some ⟨rb, 0, none⟩), .pointer none, .pointer (some ⟨s, 0, none⟩), .int .i64 1, .bool (decide (n ≥ 0)), .func (.func 95) #[] #[.pointer (some ⟨B + 1 + 1, 0, none⟩), .pointer (some ⟨B + 1, 0, none⟩), .pointer (some ⟨B, 0, none⟩), .pointer (some ⟨B + 1 + 1 + 1, 0, none⟩)]] w
      (RaddRes base sh ph s c p st u L R V b q i n rf now start en w) := by
  have Hx := Lib.hid hx; have Hs := Lib.hid hs; have Hp := Lib.hid hp
  have HC := Lib.hid hC; have HS := Lib.hid hS; have HR := Lib.hid hR
  have c0 : w.cell? ⟨rb, 0, none⟩ = some (.pointer (some ⟨sh, 0, none⟩)) := by rw [blk_cell hC.rcb]; rfl
  have c1 : w.cell? ⟨sh, 0, none⟩ = some (.pointer (some ⟨ph, 0, none⟩)) := by rw [blk_cell hR.sobj]; rfl
  clear hC hS hR hx hs hp
  by_cases hn : n ≥ 0
  · have hd : decide (n ≥ 0) = true := decide_eq_true hn
    have HN := Lib.hid hn; clear hn
    go_enter_defers Tryz.func94, Tryz.ntmps94
    go_wp2_with fail
    refine (enter_calls HR.out Hs.out).mono ?_
    rintro e w1 ⟨rfl, hw⟩
    have O1 : Only (fun k => k = ph) w w1 := by rw [hw]; exact (Only.refl (fun k => k = ph) w).setCell (p := ⟨ph, 0, none⟩) (.inr rfl) _
    have R1 : RecAt base sh ph b rf now (add64 start 1) en w1 := by rw [hw]; exact HR.out.setStart _
    have S1 := Lib.hid (HS.out.keep1 O1 HR.out.pobj (by decide))
    have C1 := Lib.hid (HC.out.keep1 O1 HR.out.pobj (by decide))
    have HO1 := Lib.hid O1; have HR1 := Lib.hid R1
    clear hw c0 c1 O1 R1
    have d0 : w1.cell? ⟨sh, 0, none⟩ = some (.pointer (some ⟨ph, 0, none⟩)) := by rw [blk_cell HR1.out.sobj]; rfl
    have d1 : w1.cell? ⟨sh, 1, none⟩ = some (.int .i64 b) := by rw [blk_cell HR1.out.sobj]; rfl
    have d2 : w1.cell? ⟨rb, 2, none⟩ = some (.bool false) := by rw [blk_cell C1.out.rcb]; rfl
    go_wp2_with fail
    refine (wload _ _ _ d1).mono ?_
    rintro e w2 ⟨rfl, hw⟩; rw [hw]; clear hw w2
    go_wp2_with fail
    refine (point_nil _).mono ?_
    rintro e w2 ⟨rfl, hw⟩; rw [hw]; clear hw w2
    go_wp2_with fail
    refine (kind_calls s 1 c p w1 (.inl rfl) S1.out.obj).mono ?_
    rintro e w2 ⟨rfl, O2⟩
    have S2 := Lib.hid (S1.out.only O2)
    have C2 := Lib.hid (C1.out.only O2)
    have R2 := Lib.hid (HR1.out.only O2 (by simp) (by simp))
    have HO2 := Lib.hid O2
    clear O2 d0 d1 d2
    go_wp2_with fail
    refine (clos_calls C2.out S2.out h0 hm b hb hi Hx.out).mono ?_
    intro e w3 hq3
    unfold AddcRes at hq3
    rw [if_pos HN.out] at hq3
    obtain ⟨rfl, O3, S3⟩ := hq3
    have R2D := R2.out.only (Only.refl (fun _ => False) w2).drew (by simp) (by simp)
    have S2D := S2.out.only (Only.refl (fun _ => False) w2).drew
    have R3 := Lib.hid (R2D.row S2D hb hi O3)
    have S3' := Lib.hid S3
    have O : Only (fun k => k = ph ∨ k = R b i) w w3 := (((HO1.out.mono fun _ _ q => .inl q).trans (HO2.out.mono fun _ _ q => q.elim)).drew).trans (O3.mono fun _ _ q => .inr q)
    have HO := Lib.hid O
    clear R2D S2D S3 O O3 HO1 HO2
    go_wp2_with fail
    refine leaves_cons (f := 155) (args := #[.pointer (some ⟨ph, 0, none⟩), .pointer none, .int .i64 start]) (by simp) (by simp [go_sem]) ?_
    refine (leave_deferred .returning R3.out start q hq Hp.out).mono ?_
    rintro e u' w4 ⟨rfl, rfl, hw⟩
    have R3D := R3.out.only (Only.refl (fun _ => False) w3).drew (by simp) (by simp)
    have R4 : RecAt base sh ph b rf now (add64 start 1) (upd en q (add64 (en q) 1)) w4 := by rw [hw]; exact R3D.setEnd q hq _
    have O4 : Only (fun k => k = ph) w3 w4 := by rw [hw]; exact (Only.refl (fun k => k = ph) w3).drew.setCell (p := ⟨ph, 1 + q, none⟩) (.inr rfl) _
    have hfin : RaddRes base sh ph s c p st u L R V b q i n rf now start en w (.returned (.int .i64 0)) w4 := (by unfold RaddRes; rw [if_pos (by have := HN.out; omega)]; exact ⟨rfl, R4, S3'.out.keep1 O4 R3.out.pobj (by decide), HO.out.trans (O4.mono fun _ _ q => .inl q)⟩)
    exact ⟨_, results_tmp (t := 12) rfl _ _ _, hfin⟩
  · have hd : decide (n ≥ 0) = false := decide_eq_false hn
    have HN : Hid (¬ n ≥ 0) := Lib.hid hn
    clear hn
    have hcs : b = 0 ∨ b = 1 := by omega
    rcases hcs with rfl | rfl
    · go_enter_defers Tryz.func94, Tryz.ntmps94
      go_wp2_with fail
      refine (enter_calls HR.out Hs.out).mono ?_
      rintro e w1 ⟨rfl, hw⟩
      have O1 : Only (fun k => k = ph) w w1 := by rw [hw]; exact (Only.refl (fun k => k = ph) w).setCell (p := ⟨ph, 0, none⟩) (.inr rfl) _
      have R1 : RecAt base sh ph 0 rf now (add64 start 1) en w1 := by rw [hw]; exact HR.out.setStart _
      have S1 := Lib.hid (HS.out.keep1 O1 HR.out.pobj (by decide))
      have C1 := Lib.hid (HC.out.keep1 O1 HR.out.pobj (by decide))
      have HO1 := Lib.hid O1; have HR1 := Lib.hid R1
      clear hw c0 c1 O1 R1
      have d0 : w1.cell? ⟨sh, 0, none⟩ = some (.pointer (some ⟨ph, 0, none⟩)) := by rw [blk_cell HR1.out.sobj]; rfl
      have d1 : w1.cell? ⟨sh, 1, none⟩ = some (.int .i64 0) := by rw [blk_cell HR1.out.sobj]; rfl
      have d2 : w1.cell? ⟨rb, 2, none⟩ = some (.bool false) := by rw [blk_cell C1.out.rcb]; rfl
      go_wp2_with fail
      refine (wload _ _ _ d1).mono ?_
      rintro e w2 ⟨rfl, hw⟩; rw [hw]; clear hw w2
      go_wp2_with fail
      refine (point_nil _).mono ?_
      rintro e w2 ⟨rfl, hw⟩; rw [hw]; clear hw w2
      go_wp2_with fail
      refine (kind_calls s 1 c p w1 (.inl rfl) S1.out.obj).mono ?_
      rintro e w2 ⟨rfl, O2⟩
      have S2 := Lib.hid (S1.out.only O2)
      have R2 := Lib.hid (HR1.out.only O2 (by simp) (by simp))
      have HO2 := Lib.hid O2
      clear O2 d0 d1 d2
      have d3 : w2.cell? ⟨sh, 2, none⟩ = some (.int .i64 (rf 0)) := by rw [blk_cell R2.out.sobj]; rfl
      have d4 : w2.frozen? ⟨sh, 2, none⟩ = false := blk_free R2.out.sobj _
      go_wp2_with fail
      refine (wadd _ _ _ _ d3 d4).mono ?_
      rintro e w3 ⟨rfl, hw⟩
      have R3 : Hid (RecAt base sh ph 0 (upd rf 0 (add64 (rf 0) 1)) now (add64 start 1) en w3) := Lib.hid (by rw [hw]; exact R2.out.setRef 0 (by decide) _)
      have O3 : Only (fun k => k = sh) w2 w3 := by rw [hw]; exact (Only.refl (fun k => k = sh) w2).setCell (p := ⟨sh, 2, none⟩) (.inr rfl) _
      have S3 := Lib.hid (S2.out.keep1 O3 R2.out.sobj (by decide))
      have O : Only (fun k => k = ph ∨ k = sh) w w3 := ((HO1.out.mono fun _ _ q => .inl q).trans (HO2.out.mono fun _ _ q => q.elim)).trans (O3.mono fun _ _ q => .inr q)
      have HO := Lib.hid O
      clear O O3 HO1 HO2 hw d3 d4
      go_wp2_with fail
      refine leaves_cons (f := 155) (args := #[.pointer (some ⟨ph, 0, none⟩), .pointer none, .int .i64 start]) (by simp) (by simp [go_sem]) ?_
      refine (leave_deferred .returning R3.out start q hq Hp.out).mono ?_
      rintro e u' w4 ⟨rfl, rfl, hw⟩
      have R3D := R3.out.only (Only.refl (fun _ => False) w3).drew (by simp) (by simp)
      have R4 : RecAt base sh ph 0 (upd rf 0 (add64 (rf 0) 1)) now (add64 start 1) (upd en q (add64 (en q) 1)) w4 := by rw [hw]; exact R3D.setEnd q hq _
      have O4 : Only (fun k => k = ph) w3 w4 := by rw [hw]; exact (Only.refl (fun k => k = ph) w3).drew.setCell (p := ⟨ph, 1 + q, none⟩) (.inr rfl) _
      have hfin : RaddRes base sh ph s c p st u L R V 0 q i n rf now start en w (.returned (.int .i64 2)) w4 := (by unfold RaddRes; rw [if_neg (by have := HN.out; omega)]; exact ⟨rfl, R4, S3.out.keep1 O4 R3.out.pobj (by decide), HO.out.trans (O4.mono fun _ _ q => .inl q)⟩)
      exact ⟨_, results_tmp (t := 12) rfl _ _ _, hfin⟩
    · go_enter_defers Tryz.func94, Tryz.ntmps94
      go_wp2_with fail
      refine (enter_calls HR.out Hs.out).mono ?_
      rintro e w1 ⟨rfl, hw⟩
      have O1 : Only (fun k => k = ph) w w1 := by rw [hw]; exact (Only.refl (fun k => k = ph) w).setCell (p := ⟨ph, 0, none⟩) (.inr rfl) _
      have R1 : RecAt base sh ph 1 rf now (add64 start 1) en w1 := by rw [hw]; exact HR.out.setStart _
      have S1 := Lib.hid (HS.out.keep1 O1 HR.out.pobj (by decide))
      have C1 := Lib.hid (HC.out.keep1 O1 HR.out.pobj (by decide))
      have HO1 := Lib.hid O1; have HR1 := Lib.hid R1
      clear hw c0 c1 O1 R1
      have d0 : w1.cell? ⟨sh, 0, none⟩ = some (.pointer (some ⟨ph, 0, none⟩)) := by rw [blk_cell HR1.out.sobj]; rfl
      have d1 : w1.cell? ⟨sh, 1, none⟩ = some (.int .i64 1) := by rw [blk_cell HR1.out.sobj]; rfl
      have d2 : w1.cell? ⟨rb, 2, none⟩ = some (.bool false) := by rw [blk_cell C1.out.rcb]; rfl
      go_wp2_with fail
      refine (wload _ _ _ d1).mono ?_
      rintro e w2 ⟨rfl, hw⟩; rw [hw]; clear hw w2
      go_wp2_with fail
      refine (point_nil _).mono ?_
      rintro e w2 ⟨rfl, hw⟩; rw [hw]; clear hw w2
      go_wp2_with fail
      refine (kind_calls s 1 c p w1 (.inl rfl) S1.out.obj).mono ?_
      rintro e w2 ⟨rfl, O2⟩
      have S2 := Lib.hid (S1.out.only O2)
      have R2 := Lib.hid (HR1.out.only O2 (by simp) (by simp))
      have HO2 := Lib.hid O2
      clear O2 d0 d1 d2
      have d3 : w2.cell? ⟨sh, 3, none⟩ = some (.int .i64 (rf 1)) := by rw [blk_cell R2.out.sobj]; rfl
      have d4 : w2.frozen? ⟨sh, 3, none⟩ = false := blk_free R2.out.sobj _
      go_wp2_with fail
      refine (wadd _ _ _ _ d3 d4).mono ?_
      rintro e w3 ⟨rfl, hw⟩
      have R3 : Hid (RecAt base sh ph 1 (upd rf 1 (add64 (rf 1) 1)) now (add64 start 1) en w3) := Lib.hid (by rw [hw]; exact R2.out.setRef 1 (by decide) _)
      have O3 : Only (fun k => k = sh) w2 w3 := by rw [hw]; exact (Only.refl (fun k => k = sh) w2).setCell (p := ⟨sh, 3, none⟩) (.inr rfl) _
      have S3 := Lib.hid (S2.out.keep1 O3 R2.out.sobj (by decide))
      have O : Only (fun k => k = ph ∨ k = sh) w w3 := ((HO1.out.mono fun _ _ q => .inl q).trans (HO2.out.mono fun _ _ q => q.elim)).trans (O3.mono fun _ _ q => .inr q)
      have HO := Lib.hid O
      clear O O3 HO1 HO2 hw d3 d4
      go_wp2_with fail
      refine leaves_cons (f := 155) (args := #[.pointer (some ⟨ph, 0, none⟩), .pointer none, .int .i64 start]) (by simp) (by simp [go_sem]) ?_
      refine (leave_deferred .returning R3.out start q hq Hp.out).mono ?_
      rintro e u' w4 ⟨rfl, rfl, hw⟩
      have R3D := R3.out.only (Only.refl (fun _ => False) w3).drew (by simp) (by simp)
      have R4 : RecAt base sh ph 1 (upd rf 1 (add64 (rf 1) 1)) now (add64 start 1) (upd en q (add64 (en q) 1)) w4 := by rw [hw]; exact R3D.setEnd q hq _
      have O4 : Only (fun k => k = ph) w3 w4 := by rw [hw]; exact (Only.refl (fun k => k = ph) w3).drew.setCell (p := ⟨ph, 1 + q, none⟩) (.inr rfl) _
      have hfin : RaddRes base sh ph s c p st u L R V 1 q i n rf now start en w (.returned (.int .i64 2)) w4 := (by unfold RaddRes; rw [if_neg (by have := HN.out; omega)]; exact ⟨rfl, R4, S3.out.keep1 O4 R3.out.pobj (by decide), HO.out.trans (O4.mono fun _ _ q => .inl q)⟩)
      exact ⟨_, results_tmp (t := 12) rfl _ _ _, hfin⟩
end
end Go.Proofs.YtlipngdfhpaodaaGreat
