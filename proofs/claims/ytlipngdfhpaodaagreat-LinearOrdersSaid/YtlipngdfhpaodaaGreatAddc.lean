/- The walk of Add, at a counter. -/
import Derived.Test.YtlipngdfhpaodaaGreatDrainc
namespace Go.Proofs.YtlipngdfhpaodaaGreat
open Go.RowKit

/-- does adding n carry? -/
def carry (x n : Int) : Bool := decide (IntKind.u64.wrap (IntKind.u64.wrap x + IntKind.u64.wrap n) < IntKind.u64.wrap x)
theorem sum_calls (r : Nat) (x y n : Int) (w : World) (h0 : w.cell? ⟨r, 0, none⟩ = some (.int .i64 x)) (h1 : w.cell? ⟨r, 1, none⟩ = some (.int .i64 y)) (f0 : w.frozen? ⟨r, 0, none⟩ = false) (f1 : w.frozen? ⟨r, 1, none⟩ = false)
    (hx : -9223372036854775808 ≤ x ∧ x ≤ 9223372036854775807) :
    Calls Tryz.prog 158 #[.pointer none, .slice (some ⟨r, 0, none⟩) 2 2, .int .i64 n] w fun e w' => e = .returned (.tuple #[]) ∧ w' = if carry x n then (w.setCell ⟨r, 0, none⟩ (.int .i64 (add64 x n))).setCell ⟨r, 1, none⟩ (.int .i64 (add64 y 1)) else w.setCell ⟨r, 0, none⟩ (.int .i64 (add64 x n)) := by
  have hb := Lib.hid (add64_back x n hx.1 hx.2)
  clear hx
  cases hc : carry x n with
  | false =>
    rw [if_neg (by decide)]
    have hc' : decide (IntKind.u64.wrap (IntKind.u64.wrap x + IntKind.u64.wrap n) < IntKind.u64.wrap x) = false := hc
    clear hc
    go_enter Tryz.func158, Tryz.ntmps158
    go_wp2_with fail
    refine (wadd _ _ _ _ h0 f0).mono ?_
    rw [hb.out]
    rintro e w1 ⟨rfl, rfl⟩
    go_wp2_with fail
    go_end0
    exact ⟨rfl, rfl⟩
  | true =>
    rw [if_pos rfl]
    have hc' : decide (IntKind.u64.wrap (IntKind.u64.wrap x + IntKind.u64.wrap n) < IntKind.u64.wrap x) = true := hc
    clear hc
    have h2 : (w.setCell ⟨r, 0, none⟩ (.int .i64 (add64 x n))).cell? ⟨r, 1, none⟩ = some (.int .i64 y) := (World.cell?_setCell_other w ⟨r, 0, none⟩ ⟨r, 1, none⟩ _ (by intro e; cases e)).trans h1
    have h3 : (w.setCell ⟨r, 0, none⟩ (.int .i64 (add64 x n))).frozen? ⟨r, 1, none⟩ = false := by rw [World.frozen?_setCell]; exact f1
    have K := Lib.hid (wadd ⟨r, 1, none⟩ y 1 _ h2 h3)
    clear h2 h3
    go_enter Tryz.func158, Tryz.ntmps158
    go_wp2_with fail
    refine (wadd _ _ _ _ h0 f0).mono ?_
    rw [hb.out]
    rintro e w1 ⟨rfl, rfl⟩
    go_wp2_with fail
    refine K.out.mono ?_
    rintro e w2 ⟨rfl, rfl⟩
    go_wp2_with fail
    go_end0
    exact ⟨rfl, rfl⟩
/-- the words behind a record -/
def addV (V : Nat → Nat → Nat → Int) (b i : Nat) (n : Int) : Nat → Nat → Nat → Int :=
  upd2 V b i (upd (upd (V b i) 0 (add64 (V b i 0) n)) 1 (if carry (V b i 0) n then add64 (V b i 1) 1 else V b i 1))
theorem upd_id {α : Type} (f : Nat → α) (k : Nat) : upd f k (f k) = f := by
  funext j; by_cases h : j = k
  · subst h; rw [upd_same]
  · rw [upd_ne _ _ h]
theorem upd2_twice {α : Type} (f : Nat → Nat → α) (b i : Nat) (x y : α) : upd2 (upd2 f b i x) b i y = upd2 f b i y := by
  funext j l; by_cases h : j = b ∧ l = i
  · obtain ⟨rfl, rfl⟩ := h; rw [upd2_same, upd2_same]
  · rw [upd2_ne _ _ h, upd2_ne _ _ h, upd2_ne _ _ h]
section
variable {base s c : Nat} {p : Int} {st : Nat} {u : Nat → Value} {L : Nat → Nat} {R : Nat → Nat → Nat} {V : Nat → Nat → Nat → Int}
theorem SlabAt.add {w : World} (h : SlabAt base s c 1 p st 2 u L R V w) {b i : Nat} (hb : b < 2) (hi : i < st) (n : Int) :
    SlabAt base s c 1 p st 2 u L R (addV V b i n) (if carry (V b i 0) n then (w.setCell ⟨R b i, 0, none⟩ (.int .i64 (add64 (V b i 0) n))).setCell ⟨R b i, 1, none⟩ (.int .i64 (add64 (V b i 1) 1)) else w.setCell ⟨R b i, 0, none⟩ (.int .i64 (add64 (V b i 0) n))) := by
  have h1 := h.store hb hi 0 (add64 (V b i 0) n)
  unfold addV
  cases carry (V b i 0) n with
  | false =>
    simp only [Bool.false_eq_true, if_false]
    have e : upd (upd (V b i) 0 (add64 (V b i 0) n)) 1 (V b i 1) = upd (V b i) 0 (add64 (V b i 0) n) := by
      have := upd_id (upd (V b i) 0 (add64 (V b i 0) n)) 1
      rwa [show upd (V b i) 0 (add64 (V b i 0) n) 1 = V b i 1 from upd_ne _ _ (by decide)] at this
    rw [e]; exact h1
  | true =>
    simp only [if_true]
    have h2 := h1.store hb hi 1 (add64 (V b i 1) 1)
    rw [upd2_twice, upd2_same] at h2
    exact h2
theorem Only.add {w : World} (r : Nat) (x y : Value) (q : Bool) : Only (· = r) w (if q then (w.setCell ⟨r, 0, none⟩ x).setCell ⟨r, 1, none⟩ y else w.setCell ⟨r, 0, none⟩ x) := by
  cases q with
  | false => exact (Only.refl (· = r) w).setCell (p := ⟨r, 0, none⟩) (.inr rfl) _
  | true => exact ((Only.refl (· = r) w).setCell (p := ⟨r, 0, none⟩) (.inr rfl) _).setCell (p := ⟨r, 1, none⟩) (.inr rfl) _

set_option maxRecDepth 200000 in
theorem at1_calls (w : World) (h : SlabAt base s c 1 p st 2 u L R V w) (h0 : 0 < st) (hm : st ≤ 16) (b i : Nat) (hb : b < 2) (hi : i < st) (right : Bool) :
    Calls Tryz.prog 157 #[.pointer (some ⟨s, 0, none⟩), .int .i64 1, .int .i64 b, .int .i64 i, .bool right] w fun e w' => e = .returned (if right then .tuple #[.slice (some ⟨R b i, 0, none⟩) 2 2, .int .i64 0] else .tuple #[.slice none 0 0, .int .i64 2]) ∧ Only (fun _ => False) w w' := by
  have H := Lib.hid h
  have hnn := run_nonnil
  have hm1 := meth_row1
  cases right <;>
  · clear h
    go_enter Tryz.func157, Tryz.ntmps157
    go_wp2_with fail
    refine (kind_calls s 1 c p w (.inl rfl) H.out.obj).mono ?_
    rintro e w1 ⟨rfl, O1⟩
    have H1 := Lib.hid (H.out.only O1)
    have c0 : w1.cell? ⟨s, 0, none⟩ = some (.iface 132 (.agg #[.pointer (some ⟨c, 0, none⟩)])) := by rw [blk_cell H1.out.obj]; rfl
    go_wp2_with fail
    refine (row_at H1.out h0 hm b hb (i : Nat) (by omega) (by omega)).mono ?_
    rintro e w2 ⟨rfl, hw⟩; rw [hw]; clear hw w2
    rw [Int.toNat_natCast]
    go_wp2_with fail
    go_ret2
    exact ⟨rfl, O1⟩
/-- what Add does at a counter -/
def AddcRes (base s c : Nat) (p : Int) (st : Nat) (u : Nat → Value) (L : Nat → Nat) (R : Nat → Nat → Nat) (V : Nat → Nat → Nat → Int) (b i : Nat) (n : Int) (w : World) (e : Ending) (w' : World) : Prop :=
  if n ≥ 0 then e = .returned (.int .i64 0) ∧ Only (· = R b i) w w' ∧ SlabAt base s c 1 p st 2 u L R (addV V b i n) w'
  else e = .returned (.int .i64 2) ∧ Only (fun _ => False) w w' ∧ SlabAt base s c 1 p st 2 u L R V w'
theorem addc_calls (w : World) (h : SlabAt base s c 1 p st 2 u L R V w) (h0 : 0 < st) (hm : st ≤ 16) (b i : Nat) (hb : b < 2) (hi : i < st) (n : Int) (hx : -9223372036854775808 ≤ V b i 0 ∧ V b i 0 ≤ 9223372036854775807) :
    Calls Tryz.prog 96 #[.pointer (some ⟨s, 0, none⟩), .pointer none, .int .i64 b, .int .i64 i, .int .i64 n] w (AddcRes base s c p st u L R V b i n w) := by
  have H := Lib.hid h
  have Hx := Lib.hid hx
  clear h hx
  by_cases hn : n ≥ 0
  · have hd : decide (n ≥ 0) = true := decide_eq_true hn
    have e0 : ∀ e w', (e = .returned (.int .i64 0) ∧ Only (· = R b i) w w' ∧ SlabAt base s c 1 p st 2 u L R (addV V b i n) w') → AddcRes base s c p st u L R V b i n w e w' := fun e w' q => by unfold AddcRes; rw [if_pos hn]; exact q
    have E0 := Lib.hid e0
    clear hn e0
    go_enter Tryz.func96, Tryz.ntmps96
    go_wp2_with fail
    refine (at1_calls w H.out h0 hm b i hb hi true).mono ?_
    rintro e w1 ⟨rfl, O1⟩
    simp only [if_true]
    have H1 := Lib.hid (H.out.only O1)
    have hw := H1.out.held.wrd b hb i (by rw [H1.out.len hb]; exact hi)
    have c0 := hw.cell (k := 0) (by decide)
    have c1 := hw.cell (k := 1) (by decide)
    have g0 := hw.free 0
    have g1 := hw.free 1
    clear hw
    go_wp2_with fail
    refine (sum_calls (R b i) (V b i 0) (V b i 1) n w1 c0 c1 g0 g1 Hx.out).mono ?_
    rintro e w2 ⟨rfl, hw2⟩
    have O2 := Only.add (w := w1) (R b i) (.int .i64 (add64 (V b i 0) n)) (.int .i64 (add64 (V b i 1) 1)) (carry (V b i 0) n)
    have S2 := H1.out.add hb hi n
    rw [← hw2] at O2 S2
    clear hw2 c0 c1 g0 g1
    go_wp2_with fail
    go_ret
    exact E0.out _ _ ⟨rfl, (O1.mono fun _ _ q => q.elim).trans O2, S2⟩
  · have hd : decide (n ≥ 0) = false := decide_eq_false hn
    have e0 : ∀ e w', (e = .returned (.int .i64 2) ∧ Only (fun _ => False) w w' ∧ SlabAt base s c 1 p st 2 u L R V w') → AddcRes base s c p st u L R V b i n w e w' := fun e w' q => by unfold AddcRes; rw [if_neg hn]; exact q
    have E0 := Lib.hid e0
    clear hn e0
    go_enter Tryz.func96, Tryz.ntmps96
    go_wp2_with fail
    refine (at1_calls w H.out h0 hm b i hb hi false).mono ?_
    rintro e w1 ⟨rfl, O1⟩
    simp only [Bool.false_eq_true, if_false]
    go_wp2_with fail
    go_ret
    exact E0.out _ _ ⟨rfl, O1, H.out.only O1⟩
end
end Go.Proofs.YtlipngdfhpaodaaGreat
