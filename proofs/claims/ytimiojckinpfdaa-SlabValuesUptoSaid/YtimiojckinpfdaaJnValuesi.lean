/- The walk of Add, at a counter. -/
import Derived.Test.YtimiojckinpfdaaRows
import Derived.Deep.RegionHeld3
import Derived.Deep.DeepCutAuto
import Derived.Test.YtimiojckinpfdaaJnValuesh
namespace Go.Proofs.Ytimiojckinpfdaa
open Go.RowKit

/-- does adding n carry? -/
def carry (x n : Int) : Bool := decide (IntKind.u64.wrap (IntKind.u64.wrap x + IntKind.u64.wrap n) < IntKind.u64.wrap x)
theorem sum_calls (r : Nat) (x y n : Int) (w : World) (h0 : w.cell? ⟨r, 0, none⟩ = some (.int .i64 x)) (h1 : w.cell? ⟨r, 1, none⟩ = some (.int .i64 y)) (f0 : w.frozen? ⟨r, 0, none⟩ = false) (f1 : w.frozen? ⟨r, 1, none⟩ = false)
    (hx : -9223372036854775808 ≤ x ∧ x ≤ 9223372036854775807) :
    Calls Try.prog 64 #[.pointer none, .slice (some ⟨r, 0, none⟩) 2 2, .int .i64 n] w fun e w' => e = .returned (.tuple #[]) ∧ w' = if carry x n then (w.setCell ⟨r, 0, none⟩ (.int .i64 (add64 x n))).setCell ⟨r, 1, none⟩ (.int .i64 (add64 y 1)) else w.setCell ⟨r, 0, none⟩ (.int .i64 (add64 x n)) := by
  have hb := Lib.hid (add64_back x n hx.1 hx.2)
  clear hx
  cases hc : carry x n with
  | false =>
    rw [if_neg (by decide)]
    have hc' : decide (IntKind.u64.wrap (IntKind.u64.wrap x + IntKind.u64.wrap n) < IntKind.u64.wrap x) = false := hc
    clear hc
    go_enter Try.func64, Try.ntmps64
    go_wp2_with fail
    refine (wadd _ _ _ _ h0 f0).mono ?_
    rw [hb.out]
    rintro e w1 ⟨rfl, rfl⟩
    go_wp2_with fail
    go_end0
    exact ⟨rfl, rfl⟩
  | true =>
    rw [if_pos rfl]
    have hc' : decide (IntKind.u64.wrap (IntKind.u64.wrap x + IntKind.u64.wrap n) < IntKind.u64.wrap x) = true := hc
    clear hc
    have h2 : (w.setCell ⟨r, 0, none⟩ (.int .i64 (add64 x n))).cell? ⟨r, 1, none⟩ = some (.int .i64 y) := (World.cell?_setCell_other w ⟨r, 0, none⟩ ⟨r, 1, none⟩ _ (by intro e; cases e)).trans h1
    have h3 : (w.setCell ⟨r, 0, none⟩ (.int .i64 (add64 x n))).frozen? ⟨r, 1, none⟩ = false := by rw [World.frozen?_setCell]; exact f1
    have K := Lib.hid (wadd ⟨r, 1, none⟩ y 1 _ h2 h3)
    clear h2 h3
    go_enter Try.func64, Try.ntmps64
    go_wp2_with fail
    refine (wadd _ _ _ _ h0 f0).mono ?_
    rw [hb.out]
    rintro e w1 ⟨rfl, rfl⟩
    go_wp2_with fail
    refine K.out.mono ?_
    rintro e w2 ⟨rfl, rfl⟩
    go_wp2_with fail
    go_end0
    exact ⟨rfl, rfl⟩
/-- the words behind a record -/
def addV (V : Nat → Nat → Nat → Int) (b i : Nat) (n : Int) : Nat → Nat → Nat → Int :=
  upd2 V b i (upd (upd (V b i) 0 (add64 (V b i 0) n)) 1 (if carry (V b i 0) n then add64 (V b i 1) 1 else V b i 1))
theorem upd_id {α : Type} (f : Nat → α) (k : Nat) : upd f k (f k) = f := by
  funext j; by_cases h : j = k
  · subst h; rw [upd_same]
  · rw [upd_ne _ _ h]
theorem upd2_twice {α : Type} (f : Nat → Nat → α) (b i : Nat) (x y : α) : upd2 (upd2 f b i x) b i y = upd2 f b i y := by
  funext j l; by_cases h : j = b ∧ l = i
  · obtain ⟨rfl, rfl⟩ := h; rw [upd2_same, upd2_same]
  · rw [upd2_ne _ _ h, upd2_ne _ _ h, upd2_ne _ _ h]
section
variable {base s c : Nat} {p : Int} {st : Nat} {u : Nat → Value} {L : Nat → Nat} {R : Nat → Nat → Nat} {V : Nat → Nat → Nat → Int}
theorem SlabAt.add {w : World} (h : SlabAt base s c 1 p st 2 u L R V w) {b i : Nat} (hb : b < 2) (hi : i < st) (n : Int) :
    SlabAt base s c 1 p st 2 u L R (addV V b i n) (if carry (V b i 0) n then (w.setCell ⟨R b i, 0, none⟩ (.int .i64 (add64 (V b i 0) n))).setCell ⟨R b i, 1, none⟩ (.int .i64 (add64 (V b i 1) 1)) else w.setCell ⟨R b i, 0, none⟩ (.int .i64 (add64 (V b i 0) n))) := by
  have h1 := h.store hb hi 0 (add64 (V b i 0) n)
  unfold addV
  cases carry (V b i 0) n with
  | false =>
    simp only [Bool.false_eq_true, if_false]
    have e : upd (upd (V b i) 0 (add64 (V b i 0) n)) 1 (V b i 1) = upd (V b i) 0 (add64 (V b i 0) n) := by
      have := upd_id (upd (V b i) 0 (add64 (V b i 0) n)) 1
      rwa [show upd (V b i) 0 (add64 (V b i 0) n) 1 = V b i 1 from upd_ne _ _ (by decide)] at this
    rw [e]; exact h1
  | true =>
    simp only [if_true]
    have h2 := h1.store hb hi 1 (add64 (V b i 1) 1)
    rw [upd2_twice, upd2_same] at h2
    exact h2
theorem Only.add {w : World} (r : Nat) (x y : Value) (q : Bool) : Only (· = r) w (if q then (w.setCell ⟨r, 0, none⟩ x).setCell ⟨r, 1, none⟩ y else w.setCell ⟨r, 0, none⟩ x) := by
  cases q with
  | false => exact (Only.refl (· = r) w).setCell (p := ⟨r, 0, none⟩) (.inr rfl) _
  | true => exact ((Only.refl (· = r) w).setCell (p := ⟨r, 0, none⟩) (.inr rfl) _).setCell (p := ⟨r, 1, none⟩) (.inr rfl) _

set_option maxRecDepth 200000 in
theorem at1_calls (w : World) (h : SlabAt base s c 1 p st 2 u L R V w) (h0 : 0 < st) (hm : st ≤ 16) (b i : Nat) (hb : b < 2) (hi : i < st) (right : Bool) :
    Calls Try.prog 63 #[.pointer (some ⟨s, 0, none⟩), .int .i64 1, .int .i64 b, .int .i64 i, .bool right] w fun e w' => e = .returned (if right then .tuple #[.slice (some ⟨R b i, 0, none⟩) 2 2, .int .i64 0] else .tuple #[.slice none 0 0, .int .i64 2]) ∧ Only (fun _ => False) w w' := by
  have H := Lib.hid h
  have hnn := run_nonnil
  have hm1 := meth_row1
  cases right <;>
  · clear h
    go_enter Try.func63, Try.ntmps63
    go_wp2_with fail
    refine (kind_calls s 1 c p w (.inl rfl) H.out.obj).mono ?_
    rintro e w1 ⟨rfl, O1⟩
    have H1 := Lib.hid (H.out.only O1)
    have c0 : w1.cell? ⟨s, 0, none⟩ = some (.iface 99 (.agg #[.pointer (some ⟨c, 0, none⟩)])) := by rw [blk_cell H1.out.obj]; rfl
    go_wp2_with fail
    refine (row_at H1.out h0 hm b hb (i : Nat) (by omega) (by omega)).mono ?_
    rintro e w2 ⟨rfl, hw⟩; rw [hw]; clear hw w2
    rw [Int.toNat_natCast]
    go_wp2_with fail
    go_ret2
    exact ⟨rfl, O1⟩
/-- what Add does at a counter -/
def AddcRes (base s c : Nat) (p : Int) (st : Nat) (u : Nat → Value) (L : Nat → Nat) (R : Nat → Nat → Nat) (V : Nat → Nat → Nat → Int) (b i : Nat) (n : Int) (w : World) (e : Ending) (w' : World) : Prop :=
  if n ≥ 0 then e = .returned (.int .i64 0) ∧ Only (· = R b i) w w' ∧ SlabAt base s c 1 p st 2 u L R (addV V b i n) w'
  else e = .returned (.int .i64 2) ∧ Only (fun _ => False) w w' ∧ SlabAt base s c 1 p st 2 u L R V w'
theorem addc_calls (w : World) (h : SlabAt base s c 1 p st 2 u L R V w) (h0 : 0 < st) (hm : st ≤ 16) (b i : Nat) (hb : b < 2) (hi : i < st) (n : Int) (hx : -9223372036854775808 ≤ V b i 0 ∧ V b i 0 ≤ 9223372036854775807) :
    Calls Try.prog 34 #[.pointer (some ⟨s, 0, none⟩), .pointer none, .int .i64 b, .int .i64 i, .int .i64 n] w (AddcRes base s c p st u L R V b i n w) := by
  have H := Lib.hid h
  have Hx := Lib.hid hx
  clear h hx
  by_cases hn : n ≥ 0
  · have hd : decide (n ≥ 0) = true := decide_eq_true hn
    have e0 : ∀ e w', (e = .returned (.int .i64 0) ∧ Only (· = R b i) w w' ∧ SlabAt base s c 1 p st 2 u L R (addV V b i n) w') → AddcRes base s c p st u L R V b i n w e w' := fun e w' q => by unfold AddcRes; rw [if_pos hn]; exact q
    have E0 := Lib.hid e0
    clear hn e0
    go_enter Try.func34, Try.ntmps34
    go_wp2_with fail
    refine (at1_calls w H.out h0 hm b i hb hi true).mono ?_
    rintro e w1 ⟨rfl, O1⟩
    simp only [if_true]
    have H1 := Lib.hid (H.out.only O1)
    have hw := H1.out.held.wrd b hb i (by rw [H1.out.len hb]; exact hi)
    have c0 := hw.cell (k := 0) (by decide)
    have c1 := hw.cell (k := 1) (by decide)
    have g0 := hw.free 0
    have g1 := hw.free 1
    clear hw
    go_wp2_with fail
    refine (sum_calls (R b i) (V b i 0) (V b i 1) n w1 c0 c1 g0 g1 Hx.out).mono ?_
    rintro e w2 ⟨rfl, hw2⟩
    have O2 := Only.add (w := w1) (R b i) (.int .i64 (add64 (V b i 0) n)) (.int .i64 (add64 (V b i 1) 1)) (carry (V b i 0) n)
    have S2 := H1.out.add hb hi n
    rw [← hw2] at O2 S2
    clear hw2 c0 c1 g0 g1
    go_wp2_with fail
    go_ret
    exact E0.out _ _ ⟨rfl, (O1.mono fun _ _ q => q.elim).trans O2, S2⟩
  · have hd : decide (n ≥ 0) = false := decide_eq_false hn
    have e0 : ∀ e w', (e = .returned (.int .i64 2) ∧ Only (fun _ => False) w w' ∧ SlabAt base s c 1 p st 2 u L R V w') → AddcRes base s c p st u L R V b i n w e w' := fun e w' q => by unfold AddcRes; rw [if_neg hn]; exact q
    have E0 := Lib.hid e0
    clear hn e0
    go_enter Try.func34, Try.ntmps34
    go_wp2_with fail
    refine (at1_calls w H.out h0 hm b i hb hi false).mono ?_
    rintro e w1 ⟨rfl, O1⟩
    simp only [Bool.false_eq_true, if_false]
    go_wp2_with fail
    go_ret
    exact E0.out _ _ ⟨rfl, O1, H.out.only O1⟩
end
end Go.Proofs.Ytimiojckinpfdaa

/- The walk of New: the program's slab, the good way, kind 1 (printed by gen_new.py). -/
namespace Go.Proofs.Ytimiojckinpfdaa
open Go.RowKit

set_option maxRecDepth 200000 in
set_option maxHeartbeats 4000000 in
theorem new_1 (st p : Int) (w : World) (h : newE 1 st p = 0) (n : Nat) (hn : st = n) :
    Calls Try.prog 10 #[.int .i64 1, .int .i64 st, .int .i64 p] w (NewRes 1 p n w) := by
  have hm : mayB st p = true := by
    cases hq : mayB st p with
    | true => rfl
    | false => unfold newE at h; rw [hq] at h; simp [wide] at h
  have h3 : decide (cellsN 1 st p > 1048576) = false := by
    rw [decide_eq_false_iff_not]; intro q; unfold newE at h; rw [hm] at h; simp [wide, q] at h
  obtain ⟨a1, a2, _, _⟩ := mayB_of hm
  have wide_pos : 0 < wide 1 p := by rw [wide_1]; omega
  have hm' := Lib.hid hm; clear hm h
  subst hn
  go_enter Try.func10, Try.ntmps10
  go_wp2_with fail
  refine (width_calls _ _ _).mono ?_
  rintro e w1 ⟨rfl, rfl⟩
  go_wp2_with fail
  refine (may_calls _ _ _).mono ?_
  rw [hm'.out]
  rintro e w1 ⟨rfl, rfl⟩
  go_wp2_with fail
  refine (cells_calls _ _ _ _).mono ?_
  rintro e w1 ⟨rfl, rfl⟩
  go_wp2_with fail
  refine (width_calls _ _ _).mono ?_
  rintro e w1 ⟨rfl, rfl⟩
  go_wp2_with fail
  refine (made_calls n (wide 1 p) _ (by omega) (by have := wide_le 1 p; omega)).mono ?_
  rintro e w2 ⟨rfl, O2, u, L, R, V, hL, hH⟩
  have hS0 : NewAt w1 w2.heap.size w1.heap.size 1 p n (wide 1 p) 0 0 0 (w2.alloc (.cells #[inst 1 w1.heap.size p] 97)) := new_start O2 (hL 0 (by decide)) (hL 1 (by decide)) hH
  clear hH hL
  go_wp2_with fail
  go_loopw [59] (fun v wr => (v = .int .i64 0 ∧ NewAt w1 w2.heap.size w1.heap.size 1 p n (wide 1 p) 0 0 0 wr) ∨ (v = .int .i64 1 ∧ NewAt w1 w2.heap.size w1.heap.size 1 p n (wide 1 p) 1 0 0 wr) ∨ (v = .int .i64 2 ∧ NewAt w1 w2.heap.size w1.heap.size 1 p n (wide 1 p) 2 0 0 wr)) (fun v _ => 2 - (intOf v).toNat)
  case atStart => exact .inl ⟨rfl, hS0⟩
  case round =>
    rcases hrel with ⟨rfl, hM⟩ | ⟨rfl, hM⟩ | ⟨rfl, hM⟩
    · have hstart := 0; clear hstart
      go_wp2_with fail
      go_loopw [63] (fun v wr => ∃ m : Nat, m ≤ n ∧ v = .int .i64 m ∧ NewAt w1 w2.heap.size w1.heap.size 1 p n (wide 1 p) 0 m 0 wr) (fun v _ => n - (intOf v).toNat)
      case atStart => exact ⟨0, by omega, rfl, hM⟩
      case round =>
        obtain ⟨m, hm, rfl, hI⟩ := hrel
        clear hM
        by_cases hmn : m < n
        · have hw0 : 0 < (wide 1 p) := wide_pos
          obtain ⟨g, cap, r, hsee⟩ := hI.see (by decide) hmn hw0
          obtain ⟨_, cc, gc, _, _, _⟩ := hsee _ (Only.refl _ _)
          clear hsee
          go_wp2_with fail
          go_loopw [76] (fun v wr => ∃ l : Nat, l ≤ (wide 1 p) ∧ v = .int .i64 l ∧ NewAt w1 w2.heap.size w1.heap.size 1 p n (wide 1 p) 0 m l wr) (fun v _ => (wide 1 p) - (intOf v).toNat)
          case atStart => exact ⟨0, by omega, rfl, hI⟩
          case round =>
            obtain ⟨l, hl, rfl, hJ⟩ := hrel
            clear hI cc gc
            by_cases hlw : l < (wide 1 p)
            · have hstart := 0; clear hstart
              obtain ⟨u', L', R', hF⟩ := hJ.f
              obtain ⟨g2, cap2, _, hsee⟩ := hF.head (by decide) hmn
              clear hJ
              have Hs := Lib.hid hsee; clear hsee
              have k0 : wr.cell? ⟨w2.heap.size, 0, none⟩ = some (.iface 99 (.agg #[.pointer (some ⟨w1.heap.size, 0, none⟩)])) := (Hs.out _ hF).1
              have k1 := (Hs.out _ hF).2.1
              have k2 := (Hs.out _ hF).2.2.1
              have hs2 : Hid (∀ w', NewS w1 w2.heap.size w1.heap.size 1 p n (wide 1 p) u' L' R' 0 m l w' → NewS w1 w2.heap.size w1.heap.size 1 p n (wide 1 p) u' L' R' 0 m l w' ∧ w'.cell? ⟨w2.heap.size, 0, none⟩ = some (.iface 99 (.agg #[.pointer (some ⟨w1.heap.size, 0, none⟩)])) ∧ w'.cell? ⟨w1.heap.size, 0, none⟩ = some (.slice (some ⟨g2, 0, none⟩) n cap2) ∧ w'.cell? ⟨g2, m, none⟩ = some (.slice (some ⟨R' 0 m, 0, none⟩) (wide 1 p) (wide 1 p))) := fun w' h => ⟨h, (Hs.out _ h).1, (Hs.out _ h).2.1, (Hs.out _ h).2.2.1⟩
              have hF0 : NewS w1 w2.heap.size w1.heap.size 1 p n (wide 1 p) u' L' R' 0 m l wr.drew := hF.next (Only.refl _ _).drew
              clear hF
              have hmeth := meth_first1
              have hl2 : l < 819202 := by have := wide_le 1 p; omega
              go_wp2_with fail
              go_region_held3 (fun w' => NewS w1 w2.heap.size w1.heap.size 1 p n (wide 1 p) u' L' R' 0 m l w' ∧ w'.cell? ⟨w2.heap.size, 0, none⟩ = some (.iface 99 (.agg #[.pointer (some ⟨w1.heap.size, 0, none⟩)])) ∧ w'.cell? ⟨w1.heap.size, 0, none⟩ = some (.slice (some ⟨g2, 0, none⟩) n cap2) ∧ w'.cell? ⟨g2, m, none⟩ = some (.slice (some ⟨R' 0 m, 0, none⟩) (wide 1 p) (wide 1 p)))
                ((go_split_ands; first | exact hs2.out _ hF0 | exact hs2.out _ N3))
                (first | (go_at_call 138; go_split_ands; refine (first_counter _ _ _).mono ?_; rintro e w3 ⟨rfl, O3⟩; have N3 := NewF.next (show NewS w1 w2.heap.size w1.heap.size 1 p n (wide 1 p) u' L' R' 0 m l _ by assumption) O3) | (go_at_call 39; go_split_ands; have N0 := NewF.word (show NewS w1 w2.heap.size w1.heap.size 1 p n (wide 1 p) u' L' R' 0 m l _ by assumption) (by decide) hmn hlw; obtain ⟨⟨x, hx⟩, hz⟩ := N0; refine (wstore _ _ _ _ hx hz).mono ?_; rintro e w3 ⟨rfl, rfl⟩; have N4 := NewF.put (show NewS w1 w2.heap.size w1.heap.size 1 p n (wide 1 p) u' L' R' 0 m l _ by assumption) (by decide) hmn hlw; have N3 := N4.less))
              clear k0 k1 k2 hs2 hF0 Hs hmeth
              go_wp2_with fail
              go_roundw
              case rel => exact ⟨l + 1, by omega, by go_num, NewF.at (by assumption)⟩
              case measure => simp [intOf]; omega
            · obtain rfl : l = (wide 1 p) := by omega
              go_wp2_with fail
              go_roundw
              case rel => exact ⟨m + 1, by omega, by go_num, hJ.mono (by intro b i k _ _ _ q; omega)⟩
              case measure => simp [intOf]; omega
        · obtain rfl : m = n := by omega
          go_wp2_with fail
          go_roundw
          case rel => exact .inr (.inl ⟨rfl, hI.mono (by intro b i k _ _ _ q; omega)⟩)
          case measure => simp [intOf]
    · have hstart := 0; clear hstart
      go_wp2_with fail
      go_loopw [63] (fun v wr => ∃ m : Nat, m ≤ n ∧ v = .int .i64 m ∧ NewAt w1 w2.heap.size w1.heap.size 1 p n (wide 1 p) 1 m 0 wr) (fun v _ => n - (intOf v).toNat)
      case atStart => exact ⟨0, by omega, rfl, hM⟩
      case round =>
        obtain ⟨m, hm, rfl, hI⟩ := hrel
        clear hM
        by_cases hmn : m < n
        · have hw0 : 0 < (wide 1 p) := wide_pos
          obtain ⟨g, cap, r, hsee⟩ := hI.see (by decide) hmn hw0
          obtain ⟨_, cc, gc, _, _, _⟩ := hsee _ (Only.refl _ _)
          clear hsee
          go_wp2_with fail
          go_loopw [76] (fun v wr => ∃ l : Nat, l ≤ (wide 1 p) ∧ v = .int .i64 l ∧ NewAt w1 w2.heap.size w1.heap.size 1 p n (wide 1 p) 1 m l wr) (fun v _ => (wide 1 p) - (intOf v).toNat)
          case atStart => exact ⟨0, by omega, rfl, hI⟩
          case round =>
            obtain ⟨l, hl, rfl, hJ⟩ := hrel
            clear hI cc gc
            by_cases hlw : l < (wide 1 p)
            · have hstart := 0; clear hstart
              obtain ⟨u', L', R', hF⟩ := hJ.f
              obtain ⟨g2, cap2, _, hsee⟩ := hF.head (by decide) hmn
              clear hJ
              have Hs := Lib.hid hsee; clear hsee
              have k0 : wr.cell? ⟨w2.heap.size, 0, none⟩ = some (.iface 99 (.agg #[.pointer (some ⟨w1.heap.size, 0, none⟩)])) := (Hs.out _ hF).1
              have k1 := (Hs.out _ hF).2.1
              have k2 := (Hs.out _ hF).2.2.1
              have hs2 : Hid (∀ w', NewS w1 w2.heap.size w1.heap.size 1 p n (wide 1 p) u' L' R' 1 m l w' → NewS w1 w2.heap.size w1.heap.size 1 p n (wide 1 p) u' L' R' 1 m l w' ∧ w'.cell? ⟨w2.heap.size, 0, none⟩ = some (.iface 99 (.agg #[.pointer (some ⟨w1.heap.size, 0, none⟩)])) ∧ w'.cell? ⟨w1.heap.size, 1, none⟩ = some (.slice (some ⟨g2, 0, none⟩) n cap2) ∧ w'.cell? ⟨g2, m, none⟩ = some (.slice (some ⟨R' 1 m, 0, none⟩) (wide 1 p) (wide 1 p))) := fun w' h => ⟨h, (Hs.out _ h).1, (Hs.out _ h).2.1, (Hs.out _ h).2.2.1⟩
              have hF0 : NewS w1 w2.heap.size w1.heap.size 1 p n (wide 1 p) u' L' R' 1 m l wr.drew := hF.next (Only.refl _ _).drew
              clear hF
              have hmeth := meth_first1
              have hl2 : l < 819202 := by have := wide_le 1 p; omega
              go_wp2_with fail
              go_region_held3 (fun w' => NewS w1 w2.heap.size w1.heap.size 1 p n (wide 1 p) u' L' R' 1 m l w' ∧ w'.cell? ⟨w2.heap.size, 0, none⟩ = some (.iface 99 (.agg #[.pointer (some ⟨w1.heap.size, 0, none⟩)])) ∧ w'.cell? ⟨w1.heap.size, 1, none⟩ = some (.slice (some ⟨g2, 0, none⟩) n cap2) ∧ w'.cell? ⟨g2, m, none⟩ = some (.slice (some ⟨R' 1 m, 0, none⟩) (wide 1 p) (wide 1 p)))
                ((go_split_ands; first | exact hs2.out _ hF0 | exact hs2.out _ N3))
                (first | (go_at_call 138; go_split_ands; refine (first_counter _ _ _).mono ?_; rintro e w3 ⟨rfl, O3⟩; have N3 := NewF.next (show NewS w1 w2.heap.size w1.heap.size 1 p n (wide 1 p) u' L' R' 1 m l _ by assumption) O3) | (go_at_call 39; go_split_ands; have N0 := NewF.word (show NewS w1 w2.heap.size w1.heap.size 1 p n (wide 1 p) u' L' R' 1 m l _ by assumption) (by decide) hmn hlw; obtain ⟨⟨x, hx⟩, hz⟩ := N0; refine (wstore _ _ _ _ hx hz).mono ?_; rintro e w3 ⟨rfl, rfl⟩; have N4 := NewF.put (show NewS w1 w2.heap.size w1.heap.size 1 p n (wide 1 p) u' L' R' 1 m l _ by assumption) (by decide) hmn hlw; have N3 := N4.less))
              clear k0 k1 k2 hs2 hF0 Hs hmeth
              go_wp2_with fail
              go_roundw
              case rel => exact ⟨l + 1, by omega, by go_num, NewF.at (by assumption)⟩
              case measure => simp [intOf]; omega
            · obtain rfl : l = (wide 1 p) := by omega
              go_wp2_with fail
              go_roundw
              case rel => exact ⟨m + 1, by omega, by go_num, hJ.mono (by intro b i k _ _ _ q; omega)⟩
              case measure => simp [intOf]; omega
        · obtain rfl : m = n := by omega
          go_wp2_with fail
          go_roundw
          case rel => exact .inr (.inr ⟨rfl, hI.mono (by intro b i k _ _ _ q; omega)⟩)
          case measure => simp [intOf]
    · go_wp2_with fail
      go_ret2
      exact ⟨_, _, rfl, hM⟩
end Go.Proofs.Ytimiojckinpfdaa

/- The walk of fixed: New, Add and Drain of a counter. -/
namespace Go.Proofs.Ytimiojckinpfdaa
open Go.RowKit

theorem sum_fixed (f : Nat → Nat → Int) (h00 : f 0 0 = 0) (h01 : f 0 1 = 0) (h10 : f 1 0 = 5) (h11 : f 1 1 = 0) : sumTo f 2 = (0, 5) := by
  simp only [sumTo, h00, h01, h10, h11]; kernel_rfl
theorem run_eq35 (w : World) : Sem.run Try.prog (binOp .eql 35 (.agg #[.int .i64 0, .int .u64 5]) (.agg #[.int .i64 0, .int .u64 5])) w = .ok (.bool true) w := by kernel_rfl
theorem run_pn24 (a : Addr) (w : World) : Sem.run Try.prog (binOp .eql 24 (.pointer (some a)) (.pointer none)) w = .ok (.bool false) w := by kernel_rfl
theorem rge_at {base s c : Nat} {kind p : Int} {st wd : Nat} {u : Nat → Value} {L : Nat → Nat} {R : Nat → Nat → Nat} {V : Nat → Nat → Nat → Int} {w : World} (h : SlabAt base s c kind p st wd u L R V w) {b i : Nat} (hb : b < 2) (hi : i < st) : base ≤ R b i := h.held.rge b hb i (by rw [h.len hb]; exact hi)
theorem addV_at (V : Nat → Nat → Nat → Int) (h : ∀ b i k, b < 2 → i < 2 → k < 2 → V b i k = 0) : addV V 0 1 5 0 0 0 = 0 ∧ addV V 0 1 5 0 0 1 = 0 ∧ addV V 0 1 5 0 1 0 = 5 ∧ addV V 0 1 5 0 1 1 = 0 := by
  have e0 := h 0 1 0 (by decide) (by decide) (by decide)
  have e1 := h 0 1 1 (by decide) (by decide) (by decide)
  refine ⟨?_, ?_, ?_, ?_⟩
  · unfold addV; rw [upd2_ne _ _ (by omega)]; exact h _ _ _ (by decide) (by decide) (by decide)
  · unfold addV; rw [upd2_ne _ _ (by omega)]; exact h _ _ _ (by decide) (by decide) (by decide)
  · unfold addV; rw [upd2_same, upd_ne _ _ (by decide), upd_same, e0]; kernel_rfl
  · unfold addV; rw [upd2_same, upd_same, e0, e1]; decide

set_option maxHeartbeats 1000000 in
theorem fixed_calls (w : World) : Calls Try.prog 7 #[] w fun e w' => e = .returned (.bool true) ∧ Only (fun _ => False) w w' := by
  have hr := run_eq35
  have hp := run_pn24
  have hN := new_1 2 1 w (by decide) 2 rfl
  have HN := Lib.hid hN; clear hN
  go_enter Try.func7, Try.ntmps7
  go_wp2_with fail
  refine HN.out.mono ?_
  rintro e w1 ⟨s, c, rfl, O1, u, L, R, V, hS, hV⟩
  have hV' : ∀ b i k, b < 2 → i < 2 → k < 2 → V b i k = 0 := fun b i k h1 h2 h3 => by
    rw [hV b i k h1 h2 h3 (.inl h1), first_1]
  have HS : Hid (SlabAt w.heap.size s c 1 1 2 2 u L R V w1) := Lib.hid hS
  have HV := Lib.hid hV'
  clear hS hV hV' HN
  go_wp2_with fail
  refine (cells_calls _ _ _ _).mono ?_
  rintro e w2 ⟨rfl, hw⟩; rw [hw]; clear hw w2
  rw [show cellsN 1 2 1 = 8 from by decide]
  go_wp2_with fail
  have K : Calls Try.prog 34 #[.pointer (some ⟨s, 0, none⟩), .pointer none, .int .i64 0, .int .i64 1, .int .i64 5] w1 (AddcRes w.heap.size s c 1 2 u L R V 0 1 5 w1) :=
    addc_calls w1 HS.out (by decide) (by decide) 0 1 (by decide) (by decide) 5 (by rw [HV.out 0 1 0 (by decide) (by decide) (by decide)]; decide)
  refine K.mono ?_
  clear K
  intro e w2 q
  unfold AddcRes at q
  rw [if_pos (by decide)] at q
  obtain ⟨rfl, O2, S2⟩ := q
  have HS2 := Lib.hid S2
  clear S2
  go_wp2_with fail
  have K : Calls Try.prog 32 #[.pointer (some ⟨s, 0, none⟩), .pointer none, .int .i64 0] w2 (DraincRes w.heap.size s c 1 2 u L R (addV V 0 1 5) 0 w2) :=
    drainc_calls w.heap.size s c 1 2 u L R _ w2 HS2.out (by decide) (by decide) 0 (by decide)
  refine K.mono ?_
  clear K
  rintro e w3 ⟨rfl, O3, _⟩
  obtain ⟨a1, a2, a3, a4⟩ := addV_at V HV.out
  rw [sum_fixed _ a1 a2 a3 a4]
  have O : Only (fun _ => False) w w3 := by
    refine (O1.seq2 O2 ?_).seq2 O3 ?_
    · rintro i rfl; exact .inl (rge_at HS.out (by decide) (by decide))
    · rintro i ⟨j, hj, rfl⟩; exact .inl (rge_at HS.out (by decide) hj)
  clear O1 O2 O3 a1 a2 a3 a4
  have ks1 := run_stf
  have ks2 := run_stc
  unfold partc
  go_wp2_with fail
  go_ret
  exact ⟨rfl, O.alloc _⟩
end Go.Proofs.Ytimiojckinpfdaa

/- The walk of SlabMerges. -/
namespace Go.Proofs.Ytimiojckinpfdaa
open Go.RowKit Srt

theorem blk_new2 (w : World) (o o' : Obj) : ((w.alloc o).alloc o').heap[w.heap.size + 1]? = some o' := by
  have := blk_new (w.alloc o) o'
  rwa [show (w.alloc o).heap.size = w.heap.size + 1 by simp] at this
/-- a raw part in memory -/
def B38 (w : World) (b : Nat) (h l : Int) (p : Option Addr) (n k : Nat) (N : Int) (s c m g : Nat) : Prop := w.heap[b]? = some (.cells #[.int .i64 h, .int .u64 l, .slice p n k, .int .u64 N, .int .u64 (s : Nat), .int .u64 (c : Nat), .int .u64 (m : Nat), .int .u64 (g : Nat)] 38 (0, 0))
/-- a part of the document's in memory -/
def B47 (w : World) (b : Nat) (h l : Int) (p : Option Addr) (n k : Nat) (N : Int) (s c m g : Nat) : Prop := w.heap[b]? = some (.cells #[.int .i64 h, .int .u64 l, .slice p n k, .int .u64 N, .int .u64 (s : Nat), .int .u64 (c : Nat), .int .u64 (m : Nat), .int .u64 (g : Nat)] 47 (0, 0))
/-- a part of the program's in memory -/
def B42 (w : World) (b : Nat) (h l : Int) (p : Option Addr) (n k : Nat) (N : Int) (s c m g : Nat) : Prop := w.heap[b]? = some (.cells #[.int .i64 h, .int .u64 l, .slice p n k, .int .u64 N, .complex .f64 s c, .float .f64 m, .float .f64 g] 42 (0, 0))
theorem own_sub {w w' : World} {base e size n : Nat} {v : Value} {xs : List Value} {S : Nat → Prop} (h : w.ownsRow base e size v n xs) (O : Only S w w') (hs : ∀ g, v.ownBlock = some g → ¬ S g) : w'.ownsRow base e size v n xs :=
  own_block h fun g hg => by obtain ⟨_, cur, q⟩ := own_tag h hg; rw [O.blk q (hs g hg), q]
def plus3 (c : Nat → Cn) (n k i : Nat) : Cn := if i < k then ((c i).1, ((c i).2 + 3) % 18446744073709551616) else ofc c n i
theorem cnts_old {w w1 w2 : World} {S : Nat → Prop} {p : Option Addr} {n : Nat} {c : Nat → Cn} (h : Cnts w p n c) (O1 : Only (fun _ => False) w w1) (O2 : Only S w1 w2) (hs : ∀ k, k < w.heap.size → ¬ S k) : Cnts w2 p n c := by
  intro i hi
  obtain ⟨b, o, rfl, h1, h2, h3⟩ := h i hi
  exact ⟨b, o, rfl, Nat.lt_of_lt_of_le h1 (Nat.le_trans O1.size O2.size), O2.cel (O1.cel h2 id) (hs b h1), O2.cel (O1.cel h3 id) (hs b h1)⟩
/-- behind the statement that lays the document's merged part down -/
def WantCut (L : List Cn) (Q : Nat × Nat) (hi lo n : Int) (m g : Nat) (W0 : World) (v : Value) (wx : World) : Prop :=
  ∃ b p l x s c, v = .pointer (some ⟨b, 0, none⟩) ∧ W0.heap.size ≤ b ∧ B47 wx b hi lo p l x n s c m g ∧ Only (fun _ => False) W0 wx ∧ PRow W0.heap.size L p l x wx ∧ PPair Q s c
set_option maxRecDepth 100000 in
set_option maxHeartbeats 16000000 in
theorem mergesl (xh xl xN : Int) (px : Option Addr) (nx kx xs xc xm xg : Nat) (fx : Nat → Cn) (yh yl yN : Int) (py : Option Addr) (ny ky ys yc ym yg : Nat) (fy : Nat → Cn) (w : World)
    (bl : 0 ≤ xl ∧ xl ≤ 18446744073709551615) (bl' : 0 ≤ yl ∧ yl ≤ 18446744073709551615) (bx : Pq.Ok2 (xs, xc)) (by' : Pq.Ok2 (ys, yc)) (bm : xm < 18446744073709551616 ∧ ym < 18446744073709551616 ∧ xg < 18446744073709551616 ∧ yg < 18446744073709551616)
    (hx : Cnts w px nx fx) (hy : Cnts w py ny fy) (ex : px = none → nx = 0 ∧ kx = 0) (ey : py = none → ny = 0 ∧ ky = 0) (hnx : nx ≤ 1048576) (hny : ny ≤ 1048576)
    (cx : ∀ i, i < nx → (fx i).2 < 18446744073709551616) (cy : ∀ i, i < ny → (fy i).2 < 18446744073709551616) :
    Calls Try.prog 4 #[partr xh xl px nx kx xN xs xc xm xg, partr yh yl py ny ky yN ys yc ym yg] w fun e w' => e = .returned (.bool true) ∧ Only (fun _ => False) w w' := by
  have BL := Lib.hid bl; have BL' := Lib.hid bl'; have BX := Lib.hid bx; have BY := Lib.hid by'; have BM := Lib.hid bm
  have HX := Lib.hid hx; have HY := Lib.hid hy; have EX := Lib.hid ex; have EY := Lib.hid ey; have CX := Lib.hid cx; have CY := Lib.hid cy
  clear bl bl' bx by' bm hx hy ex ey cx cy
  unfold partr
  go_enter Try.func4, Try.ntmps4
  go_wp2_with fail
  have hA : B38 ((w.alloc (.cells #[.int .i64 xh, .int .u64 xl, .slice px nx kx, .int .u64 xN, .int .u64 (xs : Nat), .int .u64 (xc : Nat), .int .u64 (xm : Nat), .int .u64 (xg : Nat)] 38)).alloc (.cells #[.int .i64 yh, .int .u64 yl, .slice py ny ky, .int .u64 yN, .int .u64 (ys : Nat), .int .u64 (yc : Nat), .int .u64 (ym : Nat), .int .u64 (yg : Nat)] 38)) w.heap.size xh xl px nx kx xN xs xc xm xg := blk_alloc (blk_new _ _) _
  have hB : B38 ((w.alloc (.cells #[.int .i64 xh, .int .u64 xl, .slice px nx kx, .int .u64 xN, .int .u64 (xs : Nat), .int .u64 (xc : Nat), .int .u64 (xm : Nat), .int .u64 (xg : Nat)] 38)).alloc (.cells #[.int .i64 yh, .int .u64 yl, .slice py ny ky, .int .u64 yN, .int .u64 (ys : Nat), .int .u64 (yc : Nat), .int .u64 (ym : Nat), .int .u64 (yg : Nat)] 38)) (w.heap.size + 1) yh yl py ny ky yN ys yc ym yg := blk_new2 _ _ _
  have O0 := ((Only.refl (fun _ => False) w).alloc (.cells #[.int .i64 xh, .int .u64 xl, .slice px nx kx, .int .u64 xN, .int .u64 (xs : Nat), .int .u64 (xc : Nat), .int .u64 (xm : Nat), .int .u64 (xg : Nat)] 38)).alloc (.cells #[.int .i64 yh, .int .u64 yl, .slice py ny ky, .int .u64 yN, .int .u64 (ys : Nat), .int .u64 (yc : Nat), .int .u64 (ym : Nat), .int .u64 (yg : Nat)] 38)
  have A0 := Lib.hid hA; have B0 := Lib.hid hB; have P0 := Lib.hid O0
  clear hA hB O0
  refine (fixed_calls _).mono ?_
  rintro e w1 ⟨rfl, O1⟩
  have P1 := Lib.hid (P0.out.trans O1)
  have A1 := Lib.hid (O1.blk A0.out id)
  have B1 := Lib.hid (O1.blk B0.out id)
  clear O1 P0 A0 B0
  generalize w.heap.size = ba at *
  generalize ba + 1 = bb at *
  obtain ⟨a0, a1, a2, a3, a4, a5, a6, a7, _, _, _, _, _, _, _, _⟩ := eight A1.out
  obtain ⟨b0, b1, b2, b3, b4, b5, b6, b7, _, _, _, _, _, _, _, _⟩ := eight B1.out
  go_wp2_with fail
  refine (of_calls xh xl xN px nx kx xs xc xm xg fx w1 (by omega) (HX.out.only P1.out (fun _ _ => id)) EX.out).mono ?_
  rintro e w2 ⟨ga, he, hga, O2, RA⟩
  unfold partv at he; subst he
  have ks1 := run_stf
  have ks2 := run_stc
  have HR := Lib.hid RA; have HG := Lib.hid (Nat.le_trans P1.out.size hga)
  have P2 := Lib.hid (P1.out.trans O2)
  have A2 := Lib.hid (O2.blk A1.out id); have B2 := Lib.hid (O2.blk B1.out id)
  have lb := blk_lt B2.out
  obtain ⟨b0, b1, b2, b3, b4, b5, b6, b7, _, _, _, _, _, _, _, _⟩ := eight B2.out
  have C2 := Lib.hid (show B42 _ _ xh xl (some ⟨ga, 0, none⟩) nx (nx + 2) xN xs xc xm xg from blk_new w2 (.cells #[.int .i64 xh, .int .u64 xl, .slice (some ⟨ga, 0, none⟩) nx (nx + 2), .int .u64 xN, .complex .f64 xs xc, .float .f64 xm, .float .f64 xg] 42))
  have Q2 := Lib.hid ((Only.refl (fun _ => False) w2).alloc (.cells #[.int .i64 xh, .int .u64 xl, .slice (some ⟨ga, 0, none⟩) nx (nx + 2), .int .u64 xN, .complex .f64 xs xc, .float .f64 xm, .float .f64 xg] 42))
  clear RA hga O2 a0 a1 a2 a3 a4 a5 a6 a7 A1 B1 P1
  go_wp2_with fail
  generalize w2.heap.size = b6 at *
  generalize w2.alloc (.cells #[.int .i64 xh, .int .u64 xl, .slice (some ⟨ga, 0, none⟩) nx (nx + 2), .int .u64 xN, .complex .f64 xs xc, .float .f64 xm, .float .f64 xg] 42) = w3 at *
  have R3 := Lib.hid (HR.out.only Q2.out id)
  have P3 := Lib.hid (P2.out.trans Q2.out)
  have A3 := Lib.hid (Q2.out.blk A2.out id); have B3 := Lib.hid (Q2.out.blk B2.out id)
  clear HR P2 A2 B2 Q2
  refine (of_calls yh yl yN py ny ky ys yc ym yg fy w3 (by omega) (HY.out.only P3.out (fun _ _ => id)) EY.out).mono ?_
  rintro e w4 ⟨gb, he, hgb, O4, RB⟩
  unfold partv at he; subst he
  have R4 := Lib.hid (R3.out.only O4 id)
  have S4 := Lib.hid RB
  have P4 := Lib.hid (P3.out.trans O4)
  have A4 := Lib.hid (O4.blk A3.out id); have B4 := Lib.hid (O4.blk B3.out id); have C4 := Lib.hid (O4.blk C2.out id)
  have HGB := Lib.hid (show ga < gb by obtain ⟨X, q, _⟩ := R3.out; have := blk_lt q; omega)
  clear RB O4 hgb R3 P3 A3 B3 C2
  have D5 := Lib.hid (show B42 _ _ yh yl (some ⟨gb, 0, none⟩) ny (ny + 2) yN ys yc ym yg from blk_new w4 (.cells #[.int .i64 yh, .int .u64 yl, .slice (some ⟨gb, 0, none⟩) ny (ny + 2), .int .u64 yN, .complex .f64 ys yc, .float .f64 ym, .float .f64 yg] 42))
  have Q5 := Lib.hid ((Only.refl (fun _ => False) w4).alloc (.cells #[.int .i64 yh, .int .u64 yl, .slice (some ⟨gb, 0, none⟩) ny (ny + 2), .int .u64 yN, .complex .f64 ys yc, .float .f64 ym, .float .f64 yg] 42))
  go_wp2_with fail
  generalize w4.heap.size = b7 at *
  generalize w4.alloc (.cells #[.int .i64 yh, .int .u64 yl, .slice (some ⟨gb, 0, none⟩) ny (ny + 2), .int .u64 yN, .complex .f64 ys yc, .float .f64 ym, .float .f64 yg] 42) = w5 at *
  have R5 := Lib.hid (R4.out.only Q5.out id)
  have S5 := Lib.hid (S4.out.only Q5.out id)
  have P5 := Lib.hid (P4.out.trans Q5.out)
  have A5 := Lib.hid (Q5.out.blk A4.out id); have B5 := Lib.hid (Q5.out.blk B4.out id); have C5 := Lib.hid (Q5.out.blk C4.out id)
  clear R4 S4 P4 A4 B4 C4 Q5
  have hMN : minOf xN yN xm ym < 18446744073709551616 := by unfold minOf; obtain ⟨q1, q2, q3, q4⟩ := BM.out; split; exact q2; split; exact q1; split; exact q2; exact q1
  have hMX : maxOf xN yN xg yg < 18446744073709551616 := by unfold maxOf; obtain ⟨q1, q2, q3, q4⟩ := BM.out; split; exact q4; split; exact q3; split; exact q4; exact q3
  have hK14 : ∀ (w1 : World) (p : Option Addr) (k : Nat) (f : Nat → Cn), Cnts w1 p nx f → (p = none → nx = 0) → Cnts w1 py ny fy → Calls Try.prog 14 #[partr xh xl p nx k xN xs xc xm xg, partr yh yl py ny ky yN ys yc ym yg] w1 (M14 w1 (win f 0 nx ++ win fy 0 ny) (Pq.rmerge (xs, xc) (ys, yc)) (hiSum xh xl yh yl) (loSum xl yl : Nat) (IntKind.u64.wrap (xN + yN)) (minOf xN yN xm ym) (maxOf xN yN xg yg)) :=
    fun w1 p k f h1 h2 h3 => m14_calls xh xl xN yh yl yN xs xc xm xg ys yc ym yg p py nx k ny ky f fy w1 BL.out BL'.out BM.out h1 h3 h2 (fun e => (EY.out e).1) (by omega) BX.out BY.out
  have hK16 : ∀ (w1 : World) (f : Nat → Cn), Cnts w1 (some ⟨ga, 0, none⟩) nx f → (∀ i, i < nx → (f i).2 < 18446744073709551616) → Cnts w1 (some ⟨gb, 0, none⟩) ny fy → Calls Try.prog 16 #[partv xh xl (some ⟨ga, 0, none⟩) nx (nx + 2) xN xs xc xm xg, partv yh yl (some ⟨gb, 0, none⟩) ny (ny + 2) yN ys yc ym yg] w1 (M16 w1 (win f 0 nx ++ win fy 0 ny) (Pq.rmerge (xs, xc) (ys, yc)) (hiSum xh xl yh yl) (loSum xl yl : Nat) (IntKind.u64.wrap (xN + yN)) (minOf xN yN xm ym) (maxOf xN yN xg yg)) :=
    fun w1 f h1 h2 h3 => m16_calls xh xl xN yh yl yN xs xc xm xg ys yc ym yg (some ⟨ga, 0, none⟩) (some ⟨gb, 0, none⟩) nx (nx + 2) ny (ny + 2) f fy w1 BL.out.2 BL'.out.2 h1 h3 (fun e => by cases e) (fun e => by cases e) (by omega) h2 CY.out BX.out BY.out
  generalize hiSum xh xl yh yl = HI at hK14 hK16
  generalize ((loSum xl yl : Nat) : Int) = LO at hK14 hK16
  generalize IntKind.u64.wrap (xN + yN) = NN at hK14 hK16
  generalize minOf xN yN xm ym = MN at hK14 hK16 hMN
  generalize maxOf xN yN xg yg = MX at hK14 hK16 hMX
  generalize Pq.rmerge (xs, xc) (ys, yc) = QQ at hK14 hK16
  have K14 := Lib.hid hK14
  have K16 := Lib.hid hK16
  have BN := Lib.hid (And.intro hMN hMX)
  have cfy : ∀ w1, Only (fun _ => False) w5 w1 → Cnts w1 (some ⟨gb, 0, none⟩) ny fy := fun w1 O => ((S5.out.only O id).cnts (m := ny) (by omega)).congr (fun i hi => by unfold ci ofc; rw [if_pos hi]) (fun i hi => by unfold cn ofc; rw [if_pos hi])
  have cfx : ∀ w1, Only (fun _ => False) w5 w1 → Cnts w1 (some ⟨ga, 0, none⟩) nx fx := fun w1 O => ((R5.out.only O id).cnts (m := nx) (by omega)).congr (fun i hi => by unfold ci ofc; rw [if_pos hi]) (fun i hi => by unfold cn ofc; rw [if_pos hi])
  have Z14 := Lib.hid (fun w1 (O : Only (fun _ => False) w5 w1) => hK14 w1 px kx fx (HX.out.only (P5.out.trans O) (fun _ _ => id)) (fun e => (EX.out e).1) (HY.out.only (P5.out.trans O) (fun _ _ => id)))
  have Z16 := Lib.hid (fun w1 (O : Only (fun _ => False) w5 w1) => hK16 w1 fx (cfx w1 O) CX.out (cfy w1 O))
  clear hMN hMX hK14 hK16 cfy cfx
  go_cut [8] (fun v wx => WantCut (win fx 0 nx ++ win fy 0 ny) QQ HI LO NN MN MX w5 v wx)
  case first =>
    have hs2 : Hid (∀ w', Only (fun _ => False) w5 w' → Only (fun _ => False) w5 w' ∧ w'.cell? ⟨ba, 0, none⟩ = some (.int .i64 xh) ∧ w'.cell? ⟨ba, 1, none⟩ = some (.int .u64 xl) ∧ w'.cell? ⟨ba, 2, none⟩ = some (.slice px nx kx) ∧ w'.cell? ⟨ba, 3, none⟩ = some (.int .u64 xN) ∧ w'.cell? ⟨ba, 4, none⟩ = some (.int .u64 (xs : Nat)) ∧ w'.cell? ⟨ba, 5, none⟩ = some (.int .u64 (xc : Nat)) ∧ w'.cell? ⟨ba, 6, none⟩ = some (.int .u64 (xm : Nat)) ∧ w'.cell? ⟨ba, 7, none⟩ = some (.int .u64 (xg : Nat)) ∧ w'.cell? ⟨bb, 0, none⟩ = some (.int .i64 yh) ∧ w'.cell? ⟨bb, 1, none⟩ = some (.int .u64 yl) ∧ w'.cell? ⟨bb, 2, none⟩ = some (.slice py ny ky) ∧ w'.cell? ⟨bb, 3, none⟩ = some (.int .u64 yN) ∧ w'.cell? ⟨bb, 4, none⟩ = some (.int .u64 (ys : Nat)) ∧ w'.cell? ⟨bb, 5, none⟩ = some (.int .u64 (yc : Nat)) ∧ w'.cell? ⟨bb, 6, none⟩ = some (.int .u64 (ym : Nat)) ∧ w'.cell? ⟨bb, 7, none⟩ = some (.int .u64 (yg : Nat))) := fun w' O => by
      have qa := eight (O.blk A5.out id)
      have qb := eight (O.blk B5.out id)
      exact ⟨O, qa.d0, qa.d1, qa.d2, qa.d3, qa.d4, qa.d5, qa.d6, qa.d7, qb.d0, qb.d1, qb.d2, qb.d3, qb.d4, qb.d5, qb.d6, qb.d7⟩
    have N0 : Only (fun _ => False) w5 w5.drew := (Only.refl _ _).drew
    go_region_held3 (fun w' => Only (fun _ => False) w5 w' ∧ w'.cell? ⟨ba, 0, none⟩ = some (.int .i64 xh) ∧ w'.cell? ⟨ba, 1, none⟩ = some (.int .u64 xl) ∧ w'.cell? ⟨ba, 2, none⟩ = some (.slice px nx kx) ∧ w'.cell? ⟨ba, 3, none⟩ = some (.int .u64 xN) ∧ w'.cell? ⟨ba, 4, none⟩ = some (.int .u64 (xs : Nat)) ∧ w'.cell? ⟨ba, 5, none⟩ = some (.int .u64 (xc : Nat)) ∧ w'.cell? ⟨ba, 6, none⟩ = some (.int .u64 (xm : Nat)) ∧ w'.cell? ⟨ba, 7, none⟩ = some (.int .u64 (xg : Nat)) ∧ w'.cell? ⟨bb, 0, none⟩ = some (.int .i64 yh) ∧ w'.cell? ⟨bb, 1, none⟩ = some (.int .u64 yl) ∧ w'.cell? ⟨bb, 2, none⟩ = some (.slice py ny ky) ∧ w'.cell? ⟨bb, 3, none⟩ = some (.int .u64 yN) ∧ w'.cell? ⟨bb, 4, none⟩ = some (.int .u64 (ys : Nat)) ∧ w'.cell? ⟨bb, 5, none⟩ = some (.int .u64 (yc : Nat)) ∧ w'.cell? ⟨bb, 6, none⟩ = some (.int .u64 (ym : Nat)) ∧ w'.cell? ⟨bb, 7, none⟩ = some (.int .u64 (yg : Nat)))
      ((go_split_ands; first | (with_reducible exact hs2.out _ N0) | (with_reducible exact hs2.out _ N3) | (with_reducible exact hs2.out _ (Only.chain8 N3 F3.hg _ _ _ _ _ _ _ _)) | (with_reducible exact hs2.out _ (Only.alloc (by assumption) _))))
      (first
        | (go_at_call 15; go_split_ands; refine (ref_calls _ _ _ _ _ _ _ _ _ _ _).mono ?_; rintro e w3 ⟨he, O3⟩; unfold partr at he; subst he; have N3 := Only.trans (show Only (fun _ => False) w5 _ by assumption) O3; first | (obtain ⟨d0, d1, d2, d3, d4, d5, d6, d7, f0, f1, f2, f3, f4, f5, f6, f7⟩ := eight (Fresh8.only (W0 := w5) (by assumption) O3).hb; have F3 := Fresh8.only (W0 := w5) (by assumption) O3) | (have F3 := fresh8_new0 (W0 := w5) O3; obtain ⟨d0, d1, d2, d3, d4, d5, d6, d7, f0, f1, f2, f3, f4, f5, f6, f7⟩ := eight F3.hb) | (have F3 := fresh8_new (W0 := w5) (by assumption) O3; obtain ⟨d0, d1, d2, d3, d4, d5, d6, d7, f0, f1, f2, f3, f4, f5, f6, f7⟩ := eight F3.hb) | skip)
        | (go_at_call 14; go_split_ands; refine (Z14.out _ (show Only (fun _ => False) w5 _ by assumption)).mono ?_; rintro e w3 ⟨pv, lv, xv, ss, cc, he, hq, hp, O3⟩; unfold partr at he; subst he; have hq3 := PRow.base hq (show w5.heap.size ≤ _ from Only.size (show Only (fun _ => False) w5 _ by assumption)); have N3 := Only.trans (show Only (fun _ => False) w5 _ by assumption) O3; first | (obtain ⟨d0, d1, d2, d3, d4, d5, d6, d7, f0, f1, f2, f3, f4, f5, f6, f7⟩ := eight (Fresh8.only (W0 := w5) (by assumption) O3).hb; have F3 := Fresh8.only (W0 := w5) (by assumption) O3) | (have F3 := fresh8_new0 (W0 := w5) O3; obtain ⟨d0, d1, d2, d3, d4, d5, d6, d7, f0, f1, f2, f3, f4, f5, f6, f7⟩ := eight F3.hb) | (have F3 := fresh8_new (W0 := w5) (by assumption) O3; obtain ⟨d0, d1, d2, d3, d4, d5, d6, d7, f0, f1, f2, f3, f4, f5, f6, f7⟩ := eight F3.hb) | skip))
    all_goals (go_wp2_with fail; go_meet)
    all_goals first
      | (have hfin : WantCut (win fx 0 nx ++ win fy 0 ny) QQ HI LO NN MN MX w5 (.pointer (some ⟨w3.heap.size, 0, none⟩)) _ := ⟨_, _, _, _, _, _, rfl, N3.size, blk_new _ _, N3.alloc _, PRow.keep hq3 (((Only.refl _ _).alloc _).keep 55), hp⟩; exact hfin)
      | exact ⟨_, _, _, _, _, _, rfl, F3.hg, put8_blk F3.hb _ _ _ _ _ _ _ _, Only.chain8 N3 F3.hg _ _ _ _ _ _ _ _, PRow.keep hq3 (Keep.chain8 ((Only.refl (fun _ => False) _).keep 55) F3.hb (by decide) _ _ _ _ _ _ _ _), hp⟩
  case rest =>
    obtain ⟨bw, pw, lw, xw, sw, cw, rfl, hbw, WW6, N6, RW6, PW⟩ := hcut
    generalize wc = w6 at *
    have A6 := Lib.hid (N6.blk A5.out id); have B6 := Lib.hid (N6.blk B5.out id); have C6 := Lib.hid (N6.blk C5.out id); have D6 := Lib.hid (N6.blk D5.out id)
    have M6 := Lib.hid N6; have V6 := Lib.hid WW6; have U6 := Lib.hid RW6; have PWH := Lib.hid PW
    obtain ⟨q0, q1, q2, q3, q4, q5, q6, _, _, _, _, _, _, _⟩ := seven C6.out
    obtain ⟨r0, r1, r2, r3, r4, r5, r6, _, _, _, _, _, _, _⟩ := seven D6.out
    clear N6 WW6 RW6 PW hbw
    have ks1 := run_stf
    have ks2 := run_stc
    go_wp2_with fail
    refine (Z16.out w6 M6.out).mono ?_
    rintro e w7 ⟨pp, lp, xp, sp, cp, he, RP, PP, O7⟩
    unfold partv at he; subst he
    have RPH := Lib.hid (RP.base M6.out.size); have PPH := Lib.hid PP; have N7 := Lib.hid (M6.out.trans O7)
    have C7 := Lib.hid (O7.blk C6.out id); have D7 := Lib.hid (O7.blk D6.out id)
    have lc := blk_lt C7.out; have ld := blk_lt D7.out
    clear q0 q1 q2 q3 q4 q5 q6 r0 r1 r2 r3 r4 r5 r6
    obtain ⟨q0, q1, q2, q3, q4, q5, q6, _, _, _, _, _, _, _⟩ := seven C7.out
    obtain ⟨r0, r1, r2, r3, r4, r5, r6, _, _, _, _, _, _, _⟩ := seven D7.out
    have P9 := Lib.hid (show B42 _ _ HI LO pp lp xp NN sp cp MN MX from blk_new w7 (.cells #[.int .i64 HI, .int .u64 LO, .slice pp lp xp, .int .u64 NN, .complex .f64 sp cp, .float .f64 MN, .float .f64 MX] 42))
    have Q7 := Lib.hid ((Only.refl (fun _ => False) w7).alloc (.cells #[.int .i64 HI, .int .u64 LO, .slice pp lp xp, .int .u64 NN, .complex .f64 sp cp, .float .f64 MN, .float .f64 MX] 42))
    have W7 := Lib.hid (O7.blk V6.out id); have UP7 := Lib.hid (U6.out.only O7 (fun _ _ _ => id))
    have SZ := Lib.hid (show ∀ g, (Value.slice pp lp xp).ownBlock = some g → g < w7.heap.size by obtain ⟨c, h, _⟩ := RP; exact fun g hg => (h.lt g hg).2)
    clear RP PP O7
    go_wp2_with fail
    generalize hb9 : w7.heap.size = b9 at *
    generalize w7.alloc (.cells #[.int .i64 HI, .int .u64 LO, .slice pp lp xp, .int .u64 NN, .complex .f64 sp cp, .float .f64 MN, .float .f64 MX] 42) = w8 at *
    have HB9 := Lib.hid hb9
    have S78 := Lib.hid (show b9 ≤ w8.heap.size by rw [← hb9]; exact Q7.out.size)
    have N8 := Lib.hid (N7.out.trans Q7.out)
    have C8 := Lib.hid (Q7.out.blk C7.out id); have D8 := Lib.hid (Q7.out.blk D7.out id); have W8 := Lib.hid (Q7.out.blk W7.out id); have UP8 := Lib.hid (UP7.out.only Q7.out (fun _ _ _ => id)); have RP8 := Lib.hid (RPH.out.only Q7.out (fun _ _ _ => id))
    clear hb9 Q7 C7 D7 W7 UP7 lc ld N7 M6 V6 U6 C6 D6 RPH
    refine (Z16.out w8 N8.out).mono ?_
    rintro e w9 ⟨pq, lq, xq, sq, cq, he, RQ, PQ, O9⟩
    unfold partv at he; subst he
    have SQ := Lib.hid (show ∀ g, (Value.slice pq lq xq).ownBlock = some g → w8.heap.size ≤ g ∧ g < w9.heap.size by obtain ⟨c, h, _⟩ := RQ; exact fun g hg => h.lt g hg)
    have RQH := Lib.hid (RQ.base N8.out.size); have PQH := Lib.hid PQ; have N9 := Lib.hid (N8.out.trans O9)
    have C9 := Lib.hid (O9.blk C8.out id); have D9 := Lib.hid (O9.blk D8.out id); have P9' := Lib.hid (O9.blk P9.out id)
    have Q10 := Lib.hid (show B42 _ _ HI LO pq lq xq NN sq cq MN MX from blk_new w9 (.cells #[.int .i64 HI, .int .u64 LO, .slice pq lq xq, .int .u64 NN, .complex .f64 sq cq, .float .f64 MN, .float .f64 MX] 42))
    have Q9 := Lib.hid ((Only.refl (fun _ => False) w9).alloc (.cells #[.int .i64 HI, .int .u64 LO, .slice pq lq xq, .int .u64 NN, .complex .f64 sq cq, .float .f64 MN, .float .f64 MX] 42))
    have S89 := Lib.hid O9.size
    have W9 := Lib.hid (O9.blk W8.out id); have UP9 := Lib.hid (UP8.out.only O9 (fun _ _ _ => id)); have RP9 := Lib.hid (RP8.out.only O9 (fun _ _ _ => id))
    clear RQ PQ O9 r0 r1 r2 r3 r4 r5 r6
    go_wp2_with fail
    generalize hb10 : w9.heap.size = b10 at *
    generalize w9.alloc (.cells #[.int .i64 HI, .int .u64 LO, .slice pq lq xq, .int .u64 NN, .complex .f64 sq cq, .float .f64 MN, .float .f64 MX] 42) = w10 at *
    have HB10 := Lib.hid hb10
    have S910 := Lib.hid (show b10 ≤ w10.heap.size by rw [← hb10]; exact Q9.out.size)
    have N10 := Lib.hid (N9.out.trans Q9.out)
    have C10 := Lib.hid (Q9.out.blk C9.out id); have D10 := Lib.hid (Q9.out.blk D9.out id); have W10 := Lib.hid (Q9.out.blk W9.out id); have P10 := Lib.hid (Q9.out.blk P9'.out id)
    have UP10 := Lib.hid (UP9.out.only Q9.out (fun _ _ _ => id)); have RP10 := Lib.hid (RP9.out.only Q9.out (fun _ _ _ => id)); have RQ10 := Lib.hid (RQH.out.only Q9.out (fun _ _ _ => id))
    clear hb10 Q9 C9 D9 W9 UP9 RP9 RQH P9' N9 C8 D8 W8 UP8 RP8 N8 P9
    have hL : (win fx 0 nx ++ win fy 0 ny).length ≤ 9223372036854775807 := by rw [List.length_append, win_len, win_len]; omega
    have HL := Lib.hid hL
    clear hL
    have K7 := Lib.hid (fun w1 (O : Only (fun _ => False) w10 w1) => like_parts HI LO NN pp pw lp lw xp xw _ _ _ QQ sp cp sw cw MN MX w1 HL.out (RP10.out.only O (fun _ _ _ => id)) (UP10.out.only O (fun _ _ _ => id)) PPH.out PWH.out BN.out)
    have K8 := Lib.hid (fun w1 (O : Only (fun _ => False) w10 w1) => like_parts HI LO NN pq pw lq lw xq xw _ _ _ QQ sq cq sw cw MN MX w1 HL.out (RQ10.out.only O (fun _ _ _ => id)) (UP10.out.only O (fun _ _ _ => id)) PQH.out PWH.out BN.out)
    go_cut [11] (fun v wx => v = .bool true ∧ Only (fun _ => False) w10 wx)
    case first =>
      have hs2 : Hid (∀ w', Only (fun _ => False) w10 w' → Only (fun _ => False) w10 w' ∧ w'.cell? ⟨b9, 0, none⟩ = some (.int .i64 HI) ∧ w'.cell? ⟨b9, 1, none⟩ = some (.int .u64 LO) ∧ w'.cell? ⟨b9, 2, none⟩ = some (.slice pp lp xp) ∧ w'.cell? ⟨b9, 3, none⟩ = some (.int .u64 NN) ∧ w'.cell? ⟨b9, 4, none⟩ = some (.complex .f64 sp cp) ∧ w'.cell? ⟨b9, 5, none⟩ = some (.float .f64 MN) ∧ w'.cell? ⟨b9, 6, none⟩ = some (.float .f64 MX) ∧ w'.cell? ⟨bw, 0, none⟩ = some (.int .i64 HI) ∧ w'.cell? ⟨bw, 1, none⟩ = some (.int .u64 LO) ∧ w'.cell? ⟨bw, 2, none⟩ = some (.slice pw lw xw) ∧ w'.cell? ⟨bw, 3, none⟩ = some (.int .u64 NN) ∧ w'.cell? ⟨bw, 4, none⟩ = some (.int .u64 (sw : Nat)) ∧ w'.cell? ⟨bw, 5, none⟩ = some (.int .u64 (cw : Nat)) ∧ w'.cell? ⟨bw, 6, none⟩ = some (.int .u64 (MN : Nat)) ∧ w'.cell? ⟨bw, 7, none⟩ = some (.int .u64 (MX : Nat))) := fun w' O => by
          have qa := seven (O.blk P10.out id)
          have qb := eight (O.blk W10.out id)
          exact ⟨O, qa.d0, qa.d1, qa.d2, qa.d3, qa.d4, qa.d5, qa.d6, qb.d0, qb.d1, qb.d2, qb.d3, qb.d4, qb.d5, qb.d6, qb.d7⟩
      have N0 : Only (fun _ => False) w10 w10.drew := (Only.refl _ _).drew
      go_region_held3 (fun w' => Only (fun _ => False) w10 w' ∧ w'.cell? ⟨b9, 0, none⟩ = some (.int .i64 HI) ∧ w'.cell? ⟨b9, 1, none⟩ = some (.int .u64 LO) ∧ w'.cell? ⟨b9, 2, none⟩ = some (.slice pp lp xp) ∧ w'.cell? ⟨b9, 3, none⟩ = some (.int .u64 NN) ∧ w'.cell? ⟨b9, 4, none⟩ = some (.complex .f64 sp cp) ∧ w'.cell? ⟨b9, 5, none⟩ = some (.float .f64 MN) ∧ w'.cell? ⟨b9, 6, none⟩ = some (.float .f64 MX) ∧ w'.cell? ⟨bw, 0, none⟩ = some (.int .i64 HI) ∧ w'.cell? ⟨bw, 1, none⟩ = some (.int .u64 LO) ∧ w'.cell? ⟨bw, 2, none⟩ = some (.slice pw lw xw) ∧ w'.cell? ⟨bw, 3, none⟩ = some (.int .u64 NN) ∧ w'.cell? ⟨bw, 4, none⟩ = some (.int .u64 (sw : Nat)) ∧ w'.cell? ⟨bw, 5, none⟩ = some (.int .u64 (cw : Nat)) ∧ w'.cell? ⟨bw, 6, none⟩ = some (.int .u64 (MN : Nat)) ∧ w'.cell? ⟨bw, 7, none⟩ = some (.int .u64 (MX : Nat)))
        ((go_split_ands; first | (with_reducible exact hs2.out _ N0) | (with_reducible exact hs2.out _ N3)))
        (first
          | (go_at_call 18; go_split_ands; refine (part_calls _ _ _ _ _ _ _ _ _ _ _).mono ?_; rintro e w3 ⟨he, O3⟩; unfold partr at he; subst he; have N3 := Only.trans (show Only (fun _ => False) w10 _ by assumption) O3)
          | (go_at_call 17; go_split_ands; refine (K7.out _ (show Only (fun _ => False) w10 _ by assumption)).mono ?_; rintro e w3 ⟨rfl, O3⟩; have N3 := Only.trans (show Only (fun _ => False) w10 _ by assumption) O3))
      all_goals (go_wp2_with fail; go_meet)
      all_goals exact ⟨rfl, N3⟩
    case rest =>
      obtain ⟨rfl, N11⟩ := hcut
      generalize wc = w11 at *
      have T11 := Lib.hid N11; clear N11
      have K8' := Lib.hid (fun w1 (O : Only (fun _ => False) w11 w1) => K8.out w1 (T11.out.trans O))
      have Q11 := Lib.hid (T11.out.blk Q10.out id); have W11 := Lib.hid (T11.out.blk W10.out id)
      clear K7 K8
      go_wp2_with fail
      go_cut [12] (fun v wx => v = .bool true ∧ Only (fun _ => False) w11 wx)
      case first =>
        have hs2 : Hid (∀ w', Only (fun _ => False) w11 w' → Only (fun _ => False) w11 w' ∧ w'.cell? ⟨b10, 0, none⟩ = some (.int .i64 HI) ∧ w'.cell? ⟨b10, 1, none⟩ = some (.int .u64 LO) ∧ w'.cell? ⟨b10, 2, none⟩ = some (.slice pq lq xq) ∧ w'.cell? ⟨b10, 3, none⟩ = some (.int .u64 NN) ∧ w'.cell? ⟨b10, 4, none⟩ = some (.complex .f64 sq cq) ∧ w'.cell? ⟨b10, 5, none⟩ = some (.float .f64 MN) ∧ w'.cell? ⟨b10, 6, none⟩ = some (.float .f64 MX) ∧ w'.cell? ⟨bw, 0, none⟩ = some (.int .i64 HI) ∧ w'.cell? ⟨bw, 1, none⟩ = some (.int .u64 LO) ∧ w'.cell? ⟨bw, 2, none⟩ = some (.slice pw lw xw) ∧ w'.cell? ⟨bw, 3, none⟩ = some (.int .u64 NN) ∧ w'.cell? ⟨bw, 4, none⟩ = some (.int .u64 (sw : Nat)) ∧ w'.cell? ⟨bw, 5, none⟩ = some (.int .u64 (cw : Nat)) ∧ w'.cell? ⟨bw, 6, none⟩ = some (.int .u64 (MN : Nat)) ∧ w'.cell? ⟨bw, 7, none⟩ = some (.int .u64 (MX : Nat))) := fun w' O => by
              have qa := seven (O.blk Q11.out id)
              have qb := eight (O.blk W11.out id)
              exact ⟨O, qa.d0, qa.d1, qa.d2, qa.d3, qa.d4, qa.d5, qa.d6, qb.d0, qb.d1, qb.d2, qb.d3, qb.d4, qb.d5, qb.d6, qb.d7⟩
        have N0 : Only (fun _ => False) w11 w11.drew := (Only.refl _ _).drew
        go_region_held3 (fun w' => Only (fun _ => False) w11 w' ∧ w'.cell? ⟨b10, 0, none⟩ = some (.int .i64 HI) ∧ w'.cell? ⟨b10, 1, none⟩ = some (.int .u64 LO) ∧ w'.cell? ⟨b10, 2, none⟩ = some (.slice pq lq xq) ∧ w'.cell? ⟨b10, 3, none⟩ = some (.int .u64 NN) ∧ w'.cell? ⟨b10, 4, none⟩ = some (.complex .f64 sq cq) ∧ w'.cell? ⟨b10, 5, none⟩ = some (.float .f64 MN) ∧ w'.cell? ⟨b10, 6, none⟩ = some (.float .f64 MX) ∧ w'.cell? ⟨bw, 0, none⟩ = some (.int .i64 HI) ∧ w'.cell? ⟨bw, 1, none⟩ = some (.int .u64 LO) ∧ w'.cell? ⟨bw, 2, none⟩ = some (.slice pw lw xw) ∧ w'.cell? ⟨bw, 3, none⟩ = some (.int .u64 NN) ∧ w'.cell? ⟨bw, 4, none⟩ = some (.int .u64 (sw : Nat)) ∧ w'.cell? ⟨bw, 5, none⟩ = some (.int .u64 (cw : Nat)) ∧ w'.cell? ⟨bw, 6, none⟩ = some (.int .u64 (MN : Nat)) ∧ w'.cell? ⟨bw, 7, none⟩ = some (.int .u64 (MX : Nat)))
          ((go_split_ands; first | (with_reducible exact hs2.out _ N0) | (with_reducible exact hs2.out _ N3)))
          (first
            | (go_at_call 18; go_split_ands; refine (part_calls _ _ _ _ _ _ _ _ _ _ _).mono ?_; rintro e w3 ⟨he, O3⟩; unfold partr at he; subst he; have N3 := Only.trans (show Only (fun _ => False) w11 _ by assumption) O3)
            | (go_at_call 17; go_split_ands; refine (K8'.out _ (show Only (fun _ => False) w11 _ by assumption)).mono ?_; rintro e w3 ⟨rfl, O3⟩; have N3 := Only.trans (show Only (fun _ => False) w11 _ by assumption) O3))
        all_goals (go_wp2_with fail; go_meet)
        all_goals exact ⟨rfl, N3⟩
      case rest =>
        obtain ⟨rfl, N12⟩ := hcut
        generalize wc = w12 at *
        have T12 := Lib.hid (T11.out.trans N12); clear N12
        have A12 := T12.out.blk (N10.out.blk A5.out id) id
        have B12 := T12.out.blk (N10.out.blk B5.out id) id
        have C12 := T12.out.blk C10.out id
        have D12 := T12.out.blk D10.out id
        obtain ⟨a0, a1, a2, a3, a4, a5, a6, a7, _, _, _, _, _, _, _, _⟩ := eight A12
        obtain ⟨b0, b1, b2, b3, b4, b5, b6', b7', _, _, _, _, _, _, _, _⟩ := eight B12
        obtain ⟨q0, q1, q2, q3, q4, q5, q6, _, _, _, _, _, _, _⟩ := seven C12
        obtain ⟨r0, r1, r2, r3, r4, r5, r6, _, _, _, _, _, _, _⟩ := seven D12
        have A12' := Lib.hid A12; have B12' := Lib.hid B12; have C12' := Lib.hid C12; have D12' := Lib.hid D12
        have R12 := Lib.hid ((R5.out.only N10.out id).only T12.out id); have S12 := Lib.hid ((S5.out.only N10.out id).only T12.out id)
        have G12 := Lib.hid (P5.out.trans (N10.out.trans T12.out))
        clear A12 B12 C12 D12 K8' T11
        go_wp2_with fail
        refine (kept_calls xh xl xN xh xl xN px ga nx kx xs xc xm xg xs xc xm xg fx w12 (by omega) (HX.out.only G12.out (fun _ _ => id)) R12.out).mono ?_
        rintro e w13 ⟨rfl, O13⟩
        have A13 := O13.blk A12'.out id
        have B13 := O13.blk B12'.out id
        have C13 := O13.blk C12'.out id
        have D13 := O13.blk D12'.out id
        clear a0 a1 a2 a3 a4 a5 a6 a7 b0 b1 b2 b3 b4 b5 b6' b7' q0 q1 q2 q3 q4 q5 q6 r0 r1 r2 r3 r4 r5 r6
        obtain ⟨b0, b1, b2, b3, b4, b5, b6', b7', _, _, _, _, _, _, _, _⟩ := eight B13
        obtain ⟨r0, r1, r2, r3, r4, r5, r6, _, _, _, _, _, _, _⟩ := seven D13
        have A13' := Lib.hid A13; have B13' := Lib.hid B13; have C13' := Lib.hid C13; have D13' := Lib.hid D13
        have T13 := Lib.hid (T12.out.trans O13)
        have R13 := Lib.hid (R12.out.only O13 id); have S13 := Lib.hid (S12.out.only O13 id)
        have G13 := Lib.hid (G12.out.trans O13)
        clear A13 B13 C13 D13 A12' B12' C12' D12' O13 T12 R12 S12 G12
        go_wp2_with fail
        refine (kept_calls yh yl yN yh yl yN py gb ny ky ys yc ym yg ys yc ym yg fy w13 (by omega) (HY.out.only G13.out (fun _ _ => id)) S13.out).mono ?_
        rintro e w14 ⟨rfl, O14⟩
        have A14 := O14.blk A13'.out id
        have B14 := O14.blk B13'.out id
        have C14 := O14.blk C13'.out id
        have D14 := O14.blk D13'.out id
        have A14' := Lib.hid A14; have B14' := Lib.hid B14; have C14' := Lib.hid C14; have D14' := Lib.hid D14
        have T14 := Lib.hid (T13.out.trans O14)
        have R14 := Lib.hid (R13.out.only O14 id); have S14 := Lib.hid (S13.out.only O14 id)
        have G14 := Lib.hid (G13.out.trans O14)
        clear b0 b1 b2 b3 b4 b5 b6' b7' r0 r1 r2 r3 r4 r5 r6 A14 B14 C14 D14 A13' B13' C13' D13' O14 T13 R13 S13 G13
        go_wp2_with fail
        have L6 : ∀ wr, Only (· = ga) w14 wr → wr.cell? ⟨b6, 2, none⟩ = some (.slice (some ⟨ga, 0, none⟩) nx (nx + 2)) := fun wr O => blk_cell (O.blk C14'.out (by
          rintro rfl
          obtain ⟨X, h1, _⟩ := R14.out
          exact tag_ne h1 C14'.out (by decide))) 2
        have L6' := Lib.hid L6
        clear L6
        go_loopw [15] (fun i wr => ∃ k : Nat, k ≤ nx ∧ i = .int .i64 k ∧ Only (· = ga) w14 wr ∧ RowC wr ga (nx + 2) (nx + 2) (plus3 fx nx k)) (fun i _ => nx - (intOf i).toNat)
        case atStart => exact ⟨0, Nat.zero_le _, rfl, Only.refl _ _, R14.out.congr (fun i _ => by unfold plus3; rw [if_neg (by omega)])⟩
        case round =>
          obtain ⟨k, hk, rfl, O, R⟩ := hrel
          have l2 := L6'.out _ O
          by_cases hlt : k < nx
          · obtain ⟨_, x1, _, x3⟩ := R.arr.get (i := k) (by omega)
            have N := R.put2 k (((fx k).2 + 3) % 18446744073709551616)
            have e1 : (plus3 fx nx k k).2 = (fx k).2 := by unfold plus3 ofc; rw [if_neg (by omega), if_pos hlt]
            rw [e1] at x1
            have N' := Lib.hid (N.congr (f' := plus3 fx nx (k + 1)) (fun i hi => by
              unfold plus3 ofc
              by_cases e : i = k
              · subst e; rw [if_pos rfl, if_neg (Nat.lt_irrefl i), if_pos hlt, if_pos (Nat.lt_succ_self i)]
              · rw [if_neg e]
                by_cases e' : i < k
                · rw [if_pos e', if_pos (show i < k + 1 by omega)]
                · rw [if_neg e', if_neg (show ¬ i < k + 1 by omega)]))
            have O' := Lib.hid (O.setCell (p := ⟨ga, k * 2 + 1, none⟩) (.inr rfl) (.int .u64 ((((fx k).2 + 3) % 18446744073709551616 : Nat) : Int)))
            have ew : IntKind.u64.wrap (((fx k).2 : Int) + 3) = ((((fx k).2 + 3) % 18446744073709551616 : Nat) : Int) := by rw [u64_mod']; omega
            clear N e1 R O
            generalize ((((fx k).2 + 3) % 18446744073709551616 : Nat) : Int) = y' at *
            generalize (fx k).2 = y at *
            go_wp2_with fail
            exact ⟨⟨k + 1, by omega, by go_num, O'.out, N'.out⟩, by simp [intOf]; omega⟩
          · obtain rfl : nx = k := by omega
            generalize wr = w15 at *
            have gne : ∀ {b : Nat} {cs : Array Value} {t : TypeId} {f : Nat × Nat}, w14.heap[b]? = some (.cells cs t f) → t ≠ 55 → ¬ b = ga := fun hb ht e => by
              subst e
              obtain ⟨X, h1, _⟩ := R14.out
              exact tag_ne hb h1 ht
            have gw : ¬ (∃ q, w5.heap.size ≤ q ∧ q = ga) := by
              rintro ⟨q, h1, rfl⟩
              obtain ⟨X, h2, _⟩ := R5.out
              have := blk_lt h2; omega
            have A15 := Lib.hid (O.blk A14'.out (gne A14'.out (by decide))); have B15 := Lib.hid (O.blk B14'.out (gne B14'.out (by decide))); have C15 := Lib.hid (O.blk C14'.out (gne C14'.out (by decide))); have D15 := Lib.hid (O.blk D14'.out (gne D14'.out (by decide)))
            have hp14 := T14.out.blk P10.out id
            have hw14 := T14.out.blk W10.out id
            have hq14 := T14.out.blk Q10.out id
            have E15 := Lib.hid (O.blk hp14 (gne hp14 (by decide))); have F15 := Lib.hid (O.blk hw14 (gne hw14 (by decide))); have Q15 := Lib.hid (O.blk hq14 (gne hq14 (by decide)))
            have RP15 := Lib.hid ((RP10.out.only T14.out (fun _ _ _ => id)).only O (fun q h1 _ e => gw ⟨q, h1, e⟩))
            have RQ15 := Lib.hid ((RQ10.out.only T14.out (fun _ _ _ => id)).only O (fun q h1 _ e => gw ⟨q, h1, e⟩))
            have UP15 := Lib.hid ((UP10.out.only T14.out (fun _ _ _ => id)).only O (fun q h1 _ e => gw ⟨q, h1, e⟩))
            have fin15 : ∀ w', Only (fun _ => False) w15 w' → Only (fun _ => False) w w' := fun w' O' => ((G14.out.seq2 O (S := (fun _ => False)) (by rintro q rfl; exact .inl HG.out))).trans O'
            have FIN := Lib.hid fin15
            have cy15 : Cnts w15 py ny fy := cnts_old HY.out G14.out O (fun q h1 e => by have := HG.out; omega)
            have sb : Cnts w15 (some ⟨gb, 0, none⟩) ny fy := (((S14.out.only O (by rintro rfl; exact Nat.lt_irrefl _ HGB.out)).cnts (m := ny) (by omega)).congr (fun i hi => by unfold ci ofc; rw [if_pos hi]) (fun i hi => by unfold cn ofc; rw [if_pos hi]))
            have sa : Cnts w15 (some ⟨ga, 0, none⟩) nx (fun i => ((fx i).1, ((fx i).2 + 3) % 18446744073709551616)) := ((R.cnts (m := nx) (by omega)).congr (fun i hi => by unfold ci plus3; rw [if_pos hi]) (fun i hi => by unfold cn plus3; rw [if_pos hi]))
            have Y14 := Lib.hid (fun w1 (O' : Only (fun _ => False) w15 w1) => K14.out w1 (some ⟨ga, 0, none⟩) (nx + 2) _ (sa.only O' (fun _ _ => id)) (fun e => by cases e) (cy15.only O' (fun _ _ => id)))
            have Y16 := Lib.hid (fun w1 (O' : Only (fun _ => False) w15 w1) => K16.out w1 _ (sa.only O' (fun _ _ => id)) (fun i _ => Nat.mod_lt _ (by omega)) (sb.only O' (fun _ _ => id)))
            have sz15 : w10.heap.size ≤ w15.heap.size := Nat.le_trans T14.out.size O.size
            have SZ15 := Lib.hid sz15
            have LOW := Lib.hid P5.out.size
            have SZB := Lib.hid (show w.heap.size ≤ w10.heap.size from Nat.le_trans P5.out.size N10.out.size)
            clear gne gw hp14 hw14 hq14 fin15 cy15 sb sa sz15 O R A14' B14' C14' D14' P10 Q10 W10 RP10 RQ10 UP10 T14 G14 S14 R14 L6' K14 K16 Z14 Z16 R5 S5 P5 A5 B5 C5 D5 C10 D10 N10
            generalize hfz : (fun i => ((fx i).1, ((fx i).2 + 3) % 18446744073709551616)) = fz at *
            clear hfz
            go_wp2_with fail
            clear l2
            go_cut [16] (fun v wx => WantCut (win fz 0 nx ++ win fy 0 ny) QQ HI LO NN MN MX w15 v wx)
            case first =>
              have hs2 : Hid (∀ w', Only (fun _ => False) w15 w' → Only (fun _ => False) w15 w' ∧ w'.cell? ⟨ba, 0, none⟩ = some (.int .i64 xh) ∧ w'.cell? ⟨ba, 1, none⟩ = some (.int .u64 xl) ∧ w'.cell? ⟨ba, 2, none⟩ = some (.slice px nx kx) ∧ w'.cell? ⟨ba, 3, none⟩ = some (.int .u64 xN) ∧ w'.cell? ⟨ba, 4, none⟩ = some (.int .u64 (xs : Nat)) ∧ w'.cell? ⟨ba, 5, none⟩ = some (.int .u64 (xc : Nat)) ∧ w'.cell? ⟨ba, 6, none⟩ = some (.int .u64 (xm : Nat)) ∧ w'.cell? ⟨ba, 7, none⟩ = some (.int .u64 (xg : Nat)) ∧ w'.cell? ⟨b6, 2, none⟩ = some (.slice (some ⟨ga, 0, none⟩) nx (nx + 2)) ∧ w'.cell? ⟨bb, 0, none⟩ = some (.int .i64 yh) ∧ w'.cell? ⟨bb, 1, none⟩ = some (.int .u64 yl) ∧ w'.cell? ⟨bb, 2, none⟩ = some (.slice py ny ky) ∧ w'.cell? ⟨bb, 3, none⟩ = some (.int .u64 yN) ∧ w'.cell? ⟨bb, 4, none⟩ = some (.int .u64 (ys : Nat)) ∧ w'.cell? ⟨bb, 5, none⟩ = some (.int .u64 (yc : Nat)) ∧ w'.cell? ⟨bb, 6, none⟩ = some (.int .u64 (ym : Nat)) ∧ w'.cell? ⟨bb, 7, none⟩ = some (.int .u64 (yg : Nat))) := fun w' O => by
                            have qa := eight (O.blk A15.out id)
                            have qc := seven (O.blk C15.out id)
                            have qb := eight (O.blk B15.out id)
                            exact ⟨O, qa.d0, qa.d1, qa.d2, qa.d3, qa.d4, qa.d5, qa.d6, qa.d7, qc.d2, qb.d0, qb.d1, qb.d2, qb.d3, qb.d4, qb.d5, qb.d6, qb.d7⟩
              have N0 : Only (fun _ => False) w15 w15.drew := (Only.refl _ _).drew
              go_region_held3 (fun w' => Only (fun _ => False) w15 w' ∧ w'.cell? ⟨ba, 0, none⟩ = some (.int .i64 xh) ∧ w'.cell? ⟨ba, 1, none⟩ = some (.int .u64 xl) ∧ w'.cell? ⟨ba, 2, none⟩ = some (.slice px nx kx) ∧ w'.cell? ⟨ba, 3, none⟩ = some (.int .u64 xN) ∧ w'.cell? ⟨ba, 4, none⟩ = some (.int .u64 (xs : Nat)) ∧ w'.cell? ⟨ba, 5, none⟩ = some (.int .u64 (xc : Nat)) ∧ w'.cell? ⟨ba, 6, none⟩ = some (.int .u64 (xm : Nat)) ∧ w'.cell? ⟨ba, 7, none⟩ = some (.int .u64 (xg : Nat)) ∧ w'.cell? ⟨b6, 2, none⟩ = some (.slice (some ⟨ga, 0, none⟩) nx (nx + 2)) ∧ w'.cell? ⟨bb, 0, none⟩ = some (.int .i64 yh) ∧ w'.cell? ⟨bb, 1, none⟩ = some (.int .u64 yl) ∧ w'.cell? ⟨bb, 2, none⟩ = some (.slice py ny ky) ∧ w'.cell? ⟨bb, 3, none⟩ = some (.int .u64 yN) ∧ w'.cell? ⟨bb, 4, none⟩ = some (.int .u64 (ys : Nat)) ∧ w'.cell? ⟨bb, 5, none⟩ = some (.int .u64 (yc : Nat)) ∧ w'.cell? ⟨bb, 6, none⟩ = some (.int .u64 (ym : Nat)) ∧ w'.cell? ⟨bb, 7, none⟩ = some (.int .u64 (yg : Nat)))
                ((go_split_ands; first | (with_reducible exact hs2.out _ N0) | (with_reducible exact hs2.out _ N3) | (with_reducible exact hs2.out _ (Only.chain8 N3 F3.hg _ _ _ _ _ _ _ _)) | (with_reducible exact hs2.out _ (Only.alloc (by assumption) _))))
                (first
                  | (go_at_call 15; go_split_ands; refine (ref_calls _ _ _ _ _ _ _ _ _ _ _).mono ?_; rintro e w3 ⟨he, O3⟩; unfold partr at he; subst he; have N3 := Only.trans (show Only (fun _ => False) w15 _ by assumption) O3; first | (obtain ⟨d0, d1, d2, d3, d4, d5, d6, d7, f0, f1, f2, f3, f4, f5, f6, f7⟩ := eight (Fresh8.only (W0 := w15) (by assumption) O3).hb; have F3 := Fresh8.only (W0 := w15) (by assumption) O3) | (have F3 := fresh8_new0 (W0 := w15) O3; obtain ⟨d0, d1, d2, d3, d4, d5, d6, d7, f0, f1, f2, f3, f4, f5, f6, f7⟩ := eight F3.hb) | (have F3 := fresh8_new (W0 := w15) (by assumption) O3; obtain ⟨d0, d1, d2, d3, d4, d5, d6, d7, f0, f1, f2, f3, f4, f5, f6, f7⟩ := eight F3.hb) | skip)
                  | (go_at_call 14; go_split_ands; refine (Y14.out _ (show Only (fun _ => False) w15 _ by assumption)).mono ?_; rintro e w3 ⟨pv, lv, xv, ss, cc, he, hq, hp, O3⟩; unfold partr at he; subst he; have hq3 := PRow.base hq (show w15.heap.size ≤ _ from Only.size (show Only (fun _ => False) w15 _ by assumption)); have N3 := Only.trans (show Only (fun _ => False) w15 _ by assumption) O3; first | (obtain ⟨d0, d1, d2, d3, d4, d5, d6, d7, f0, f1, f2, f3, f4, f5, f6, f7⟩ := eight (Fresh8.only (W0 := w15) (by assumption) O3).hb; have F3 := Fresh8.only (W0 := w15) (by assumption) O3) | (have F3 := fresh8_new0 (W0 := w15) O3; obtain ⟨d0, d1, d2, d3, d4, d5, d6, d7, f0, f1, f2, f3, f4, f5, f6, f7⟩ := eight F3.hb) | (have F3 := fresh8_new (W0 := w15) (by assumption) O3; obtain ⟨d0, d1, d2, d3, d4, d5, d6, d7, f0, f1, f2, f3, f4, f5, f6, f7⟩ := eight F3.hb) | skip))
              all_goals (go_wp2_with fail; go_meet)
              all_goals first
                | (have hfin : WantCut (win fz 0 nx ++ win fy 0 ny) QQ HI LO NN MN MX w15 (.pointer (some ⟨w3.heap.size, 0, none⟩)) _ := ⟨_, _, _, _, _, _, rfl, N3.size, blk_new _ _, N3.alloc _, PRow.keep hq3 (((Only.refl _ _).alloc _).keep 55), hp⟩; exact hfin)
                | exact ⟨_, _, _, _, _, _, rfl, F3.hg, put8_blk F3.hb _ _ _ _ _ _ _ _, Only.chain8 N3 F3.hg _ _ _ _ _ _ _ _, PRow.keep hq3 (Keep.chain8 ((Only.refl (fun _ => False) _).keep 55) F3.hb (by decide) _ _ _ _ _ _ _ _), hp⟩
            case rest =>
              obtain ⟨bn, pn, ln, xn, sn, cn', rfl, hbn, WW16, N16, RN16, PN⟩ := hcut
              generalize wc = w16 at *
              have C16 := N16.blk C15.out id; have D16 := N16.blk D15.out id
              obtain ⟨q0, q1, q2, q3, q4, q5, q6, _, _, _, _, _, _, _⟩ := seven C16
              obtain ⟨r0, r1, r2, r3, r4, r5, r6, _, _, _, _, _, _, _⟩ := seven D16
              have E16 := Lib.hid (N16.blk E15.out id); have F16 := Lib.hid (N16.blk F15.out id); have Q16 := Lib.hid (N16.blk Q15.out id)
              have RP16 := Lib.hid (RP15.out.only N16 (fun _ _ _ => id)); have RQ16 := Lib.hid (RQ15.out.only N16 (fun _ _ _ => id)); have UP16 := Lib.hid (UP15.out.only N16 (fun _ _ _ => id))
              have S16 := Lib.hid (Nat.le_trans SZ15.out N16.size)
              have M16' := Lib.hid N16; have V16 := Lib.hid WW16; have U16 := Lib.hid RN16; have PNH := Lib.hid PN
              clear C16 D16 N16 WW16 RN16 PN hbn A15 B15 C15 D15 E15 F15 Q15 RP15 RQ15 UP15 SZ15
              have ks1 := run_stf
              have ks2 := run_stc
              go_wp2_with fail
              refine (Y16.out w16 M16'.out).mono ?_
              rintro e w17 ⟨pz, lz, xz, sz, cz, he, RZ, PZ, O17⟩
              unfold partv at he; subst he
              have SZZ := Lib.hid (show ∀ g, (Value.slice pz lz xz).ownBlock = some g → w16.heap.size ≤ g ∧ g < w17.heap.size by obtain ⟨c, h, _⟩ := RZ; exact fun g hg => h.lt g hg)
              have Q17 := (Only.refl (fun _ => False) w17).alloc (.cells #[.int .i64 HI, .int .u64 LO, .slice pz lz xz, .int .u64 NN, .complex .f64 sz cz, .float .f64 MN, .float .f64 MX] 42)
              have Z18 := Lib.hid (show B42 _ _ HI LO pz lz xz NN sz cz MN MX from blk_new w17 (.cells #[.int .i64 HI, .int .u64 LO, .slice pz lz xz, .int .u64 NN, .complex .f64 sz cz, .float .f64 MN, .float .f64 MX] 42))
              have O18 := O17.trans Q17
              have N18 := Lib.hid (M16'.out.trans O18)
              have E18 := Lib.hid (O18.blk E16.out id); have F18 := Lib.hid (O18.blk F16.out id); have Q18 := Lib.hid (O18.blk Q16.out id); have V18 := Lib.hid (O18.blk V16.out id)
              have RP18 := Lib.hid (RP16.out.only O18 (fun _ _ _ => id)); have RQ18 := Lib.hid (RQ16.out.only O18 (fun _ _ _ => id)); have UP18 := Lib.hid (UP16.out.only O18 (fun _ _ _ => id)); have U18 := Lib.hid (U16.out.only O18 (fun _ _ _ => id)); have RZ18 := Lib.hid (RZ.only Q17 (fun _ _ _ => id))
              have PZH := Lib.hid PZ
              have S17 := Lib.hid O17.size
              have S18 := Lib.hid Q17.size
              clear q0 q1 q2 q3 q4 q5 q6 r0 r1 r2 r3 r4 r5 r6 RZ PZ O17 Q17 O18 Y14 Y16 E16 F16 Q16 V16 RP16 RQ16 UP16 U16 M16' ks1 ks2
              have hLz : (win fz 0 nx ++ win fy 0 ny).length ≤ 9223372036854775807 := by rw [List.length_append, win_len, win_len]; omega
              have HLz := Lib.hid hLz
              clear hLz
              go_wp2_with fail
              generalize hb17 : w17.heap.size = b17 at *
              generalize w17.alloc (.cells #[.int .i64 HI, .int .u64 LO, .slice pz lz xz, .int .u64 NN, .complex .f64 sz cz, .float .f64 MN, .float .f64 MX] 42) = w18 at *
              have HB17 := Lib.hid hb17
              clear hb17
              have K19 := Lib.hid (fun w1 (O : Only (fun _ => False) w18 w1) => like_parts HI LO NN pz pn lz ln xz xn _ _ _ QQ sz cz sn cn' MN MX w1 HLz.out (RZ18.out.only O (fun _ _ _ => id)) (U18.out.only O (fun _ _ _ => id)) PZH.out PNH.out BN.out)
              have K20 := Lib.hid (fun w1 (O : Only (fun _ => False) w18 w1) => like_parts HI LO NN pp pw lp lw xp xw _ _ _ QQ sp cp sw cw MN MX w1 HL.out (RP18.out.only O (fun _ _ _ => id)) (UP18.out.only O (fun _ _ _ => id)) PPH.out PWH.out BN.out)
              go_cut [18] (fun v wx => v = .bool true ∧ Only (fun _ => False) w18 wx)
              case first =>
                have hs2 : Hid (∀ w', Only (fun _ => False) w18 w' → Only (fun _ => False) w18 w' ∧ w'.cell? ⟨b17, 0, none⟩ = some (.int .i64 HI) ∧ w'.cell? ⟨b17, 1, none⟩ = some (.int .u64 LO) ∧ w'.cell? ⟨b17, 2, none⟩ = some (.slice pz lz xz) ∧ w'.cell? ⟨b17, 3, none⟩ = some (.int .u64 NN) ∧ w'.cell? ⟨b17, 4, none⟩ = some (.complex .f64 sz cz) ∧ w'.cell? ⟨b17, 5, none⟩ = some (.float .f64 MN) ∧ w'.cell? ⟨b17, 6, none⟩ = some (.float .f64 MX) ∧ w'.cell? ⟨bn, 0, none⟩ = some (.int .i64 HI) ∧ w'.cell? ⟨bn, 1, none⟩ = some (.int .u64 LO) ∧ w'.cell? ⟨bn, 2, none⟩ = some (.slice pn ln xn) ∧ w'.cell? ⟨bn, 3, none⟩ = some (.int .u64 NN) ∧ w'.cell? ⟨bn, 4, none⟩ = some (.int .u64 (sn : Nat)) ∧ w'.cell? ⟨bn, 5, none⟩ = some (.int .u64 (cn' : Nat)) ∧ w'.cell? ⟨bn, 6, none⟩ = some (.int .u64 (MN : Nat)) ∧ w'.cell? ⟨bn, 7, none⟩ = some (.int .u64 (MX : Nat))) := fun w' O => by
                              have qa := seven (O.blk Z18.out id)
                              have qb := eight (O.blk V18.out id)
                              exact ⟨O, qa.d0, qa.d1, qa.d2, qa.d3, qa.d4, qa.d5, qa.d6, qb.d0, qb.d1, qb.d2, qb.d3, qb.d4, qb.d5, qb.d6, qb.d7⟩
                have N0 : Only (fun _ => False) w18 w18.drew := (Only.refl _ _).drew
                go_region_held3 (fun w' => Only (fun _ => False) w18 w' ∧ w'.cell? ⟨b17, 0, none⟩ = some (.int .i64 HI) ∧ w'.cell? ⟨b17, 1, none⟩ = some (.int .u64 LO) ∧ w'.cell? ⟨b17, 2, none⟩ = some (.slice pz lz xz) ∧ w'.cell? ⟨b17, 3, none⟩ = some (.int .u64 NN) ∧ w'.cell? ⟨b17, 4, none⟩ = some (.complex .f64 sz cz) ∧ w'.cell? ⟨b17, 5, none⟩ = some (.float .f64 MN) ∧ w'.cell? ⟨b17, 6, none⟩ = some (.float .f64 MX) ∧ w'.cell? ⟨bn, 0, none⟩ = some (.int .i64 HI) ∧ w'.cell? ⟨bn, 1, none⟩ = some (.int .u64 LO) ∧ w'.cell? ⟨bn, 2, none⟩ = some (.slice pn ln xn) ∧ w'.cell? ⟨bn, 3, none⟩ = some (.int .u64 NN) ∧ w'.cell? ⟨bn, 4, none⟩ = some (.int .u64 (sn : Nat)) ∧ w'.cell? ⟨bn, 5, none⟩ = some (.int .u64 (cn' : Nat)) ∧ w'.cell? ⟨bn, 6, none⟩ = some (.int .u64 (MN : Nat)) ∧ w'.cell? ⟨bn, 7, none⟩ = some (.int .u64 (MX : Nat)))
                  ((go_split_ands; first | (with_reducible exact hs2.out _ N0) | (with_reducible exact hs2.out _ N3)))
                  (first
                    | (go_at_call 18; go_split_ands; refine (part_calls _ _ _ _ _ _ _ _ _ _ _).mono ?_; rintro e w3 ⟨he, O3⟩; unfold partr at he; subst he; have N3 := Only.trans (show Only (fun _ => False) w18 _ by assumption) O3)
                    | (go_at_call 17; go_split_ands; refine (K19.out _ (show Only (fun _ => False) w18 _ by assumption)).mono ?_; rintro e w3 ⟨rfl, O3⟩; have N3 := Only.trans (show Only (fun _ => False) w18 _ by assumption) O3))
                all_goals (go_wp2_with fail; go_meet)
                all_goals exact ⟨rfl, N3⟩
              case rest =>
                obtain ⟨rfl, N19⟩ := hcut
                generalize wc = w19 at *
                have T19 := Lib.hid N19; clear N19
                have K20' := Lib.hid (fun w1 (O : Only (fun _ => False) w19 w1) => K20.out w1 (T19.out.trans O))
                have E19 := Lib.hid (T19.out.blk E18.out id); have F19 := Lib.hid (T19.out.blk F18.out id)
                clear K19 K20
                go_wp2_with fail
                go_cut [19] (fun v wx => v = .bool true ∧ Only (fun _ => False) w19 wx)
                case first =>
                  have hs2 : Hid (∀ w', Only (fun _ => False) w19 w' → Only (fun _ => False) w19 w' ∧ w'.cell? ⟨b9, 0, none⟩ = some (.int .i64 HI) ∧ w'.cell? ⟨b9, 1, none⟩ = some (.int .u64 LO) ∧ w'.cell? ⟨b9, 2, none⟩ = some (.slice pp lp xp) ∧ w'.cell? ⟨b9, 3, none⟩ = some (.int .u64 NN) ∧ w'.cell? ⟨b9, 4, none⟩ = some (.complex .f64 sp cp) ∧ w'.cell? ⟨b9, 5, none⟩ = some (.float .f64 MN) ∧ w'.cell? ⟨b9, 6, none⟩ = some (.float .f64 MX) ∧ w'.cell? ⟨bw, 0, none⟩ = some (.int .i64 HI) ∧ w'.cell? ⟨bw, 1, none⟩ = some (.int .u64 LO) ∧ w'.cell? ⟨bw, 2, none⟩ = some (.slice pw lw xw) ∧ w'.cell? ⟨bw, 3, none⟩ = some (.int .u64 NN) ∧ w'.cell? ⟨bw, 4, none⟩ = some (.int .u64 (sw : Nat)) ∧ w'.cell? ⟨bw, 5, none⟩ = some (.int .u64 (cw : Nat)) ∧ w'.cell? ⟨bw, 6, none⟩ = some (.int .u64 (MN : Nat)) ∧ w'.cell? ⟨bw, 7, none⟩ = some (.int .u64 (MX : Nat))) := fun w' O => by
                                  have qa := seven (O.blk E19.out id)
                                  have qb := eight (O.blk F19.out id)
                                  exact ⟨O, qa.d0, qa.d1, qa.d2, qa.d3, qa.d4, qa.d5, qa.d6, qb.d0, qb.d1, qb.d2, qb.d3, qb.d4, qb.d5, qb.d6, qb.d7⟩
                  have N0 : Only (fun _ => False) w19 w19.drew := (Only.refl _ _).drew
                  go_region_held3 (fun w' => Only (fun _ => False) w19 w' ∧ w'.cell? ⟨b9, 0, none⟩ = some (.int .i64 HI) ∧ w'.cell? ⟨b9, 1, none⟩ = some (.int .u64 LO) ∧ w'.cell? ⟨b9, 2, none⟩ = some (.slice pp lp xp) ∧ w'.cell? ⟨b9, 3, none⟩ = some (.int .u64 NN) ∧ w'.cell? ⟨b9, 4, none⟩ = some (.complex .f64 sp cp) ∧ w'.cell? ⟨b9, 5, none⟩ = some (.float .f64 MN) ∧ w'.cell? ⟨b9, 6, none⟩ = some (.float .f64 MX) ∧ w'.cell? ⟨bw, 0, none⟩ = some (.int .i64 HI) ∧ w'.cell? ⟨bw, 1, none⟩ = some (.int .u64 LO) ∧ w'.cell? ⟨bw, 2, none⟩ = some (.slice pw lw xw) ∧ w'.cell? ⟨bw, 3, none⟩ = some (.int .u64 NN) ∧ w'.cell? ⟨bw, 4, none⟩ = some (.int .u64 (sw : Nat)) ∧ w'.cell? ⟨bw, 5, none⟩ = some (.int .u64 (cw : Nat)) ∧ w'.cell? ⟨bw, 6, none⟩ = some (.int .u64 (MN : Nat)) ∧ w'.cell? ⟨bw, 7, none⟩ = some (.int .u64 (MX : Nat)))
                    ((go_split_ands; first | (with_reducible exact hs2.out _ N0) | (with_reducible exact hs2.out _ N3)))
                    (first
                      | (go_at_call 18; go_split_ands; refine (part_calls _ _ _ _ _ _ _ _ _ _ _).mono ?_; rintro e w3 ⟨he, O3⟩; unfold partr at he; subst he; have N3 := Only.trans (show Only (fun _ => False) w19 _ by assumption) O3)
                      | (go_at_call 17; go_split_ands; refine (K20'.out _ (show Only (fun _ => False) w19 _ by assumption)).mono ?_; rintro e w3 ⟨rfl, O3⟩; have N3 := Only.trans (show Only (fun _ => False) w19 _ by assumption) O3))
                  all_goals (go_wp2_with fail; go_meet)
                  all_goals exact ⟨rfl, N3⟩
                case rest =>
                  obtain ⟨rfl, N20⟩ := hcut
                  generalize wc = w20 at *
                  have T20 := Lib.hid (T19.out.trans N20)
                  have P20 := Lib.hid (FIN.out _ (N18.out.trans T20.out))
                  clear K20' T19 N20
                  have E20 := Lib.hid (T20.out.blk E18.out id); have Q20 := Lib.hid (T20.out.blk Q18.out id); have Z20 := Lib.hid (T20.out.blk Z18.out id)
                  obtain ⟨hp, op, _, lpl⟩ := RP18.out.only T20.out (fun _ _ _ => id)
                  obtain ⟨hq, oq, _, lql⟩ := RQ18.out.only T20.out (fun _ _ _ => id)
                  obtain ⟨hz, oz, _, lzl⟩ := RZ18.out.only T20.out (fun _ _ _ => id)
                  rw [List.length_append, win_len, win_len] at lpl lql lzl
                  have OP := Lib.hid op; have OQ := Lib.hid oq; have OZ := Lib.hid oz
                  have bp : ∀ g, (Value.slice pp lp xp).ownBlock = some g → w.heap.size ≤ g ∧ g < b9 ∧ g < w20.heap.size := fun g hg => ⟨Nat.le_trans LOW.out (own_tag op hg).1, SZ.out g hg, (op.lt g hg).2⟩
                  have bq : ∀ g, (Value.slice pq lq xq).ownBlock = some g → b9 ≤ g ∧ g < b10 ∧ g < w20.heap.size ∧ w.heap.size ≤ g := fun g hg => ⟨Nat.le_trans S78.out (SQ.out g hg).1, (SQ.out g hg).2, (oq.lt g hg).2, Nat.le_trans LOW.out (own_tag oq hg).1⟩
                  have bz : ∀ g, (Value.slice pz lz xz).ownBlock = some g → b9 ≤ g ∧ b10 ≤ g ∧ g < w20.heap.size ∧ w.heap.size ≤ g := fun g hg => by
                    have h1 := (SZZ.out g hg).1
                    have h2 := S16.out; have h3 := S910.out; have h4 := S89.out; have h5 := S78.out; have h6 := LOW.out
                    have h8 := (oz.lt g hg).2
                    have h9 := SZB.out
                    exact ⟨by omega, by omega, h8, by omega⟩
                  have BP := Lib.hid bp; have BQ := Lib.hid bq; have BZ := Lib.hid bz
                  have B0 := Lib.hid (book_new w20)
                  have O20 := Lib.hid ((Only.refl (fun _ => False) w20).alloc (.cells #[.slice none 0 0, .slice none 0 0, .int .i64 0, .bool false] 59))
                  have ec := seven (O20.out.blk E20.out id)
                  have c0 := ec.d2
                  clear op oq oz bp bq bz ec
                  go_wp2_with fail
                  generalize hbk : w20.heap.size = bk at *
                  generalize w20.alloc (.cells #[.slice none 0 0, .slice none 0 0, .int .i64 0, .bool false] 59) = w21 at *
                  have HBK := Lib.hid hbk
                  clear hbk c0
                  have op1 := own_keep (own_base OP.out (Nat.zero_le _)) O20.out
                  have oq1 := own_keep (own_base OQ.out (Nat.zero_le _)) O20.out
                  have oz1 := own_keep (own_base OZ.out (Nat.zero_le _)) O20.out
                  have kw : bk ≤ w21.heap.size := by rw [← HBK.out]; exact O20.out.size
                  refine (badd_calls w21 bk _ B0.out pp lp xp hp (by omega) op1 (fun g hg e => by have := (BP.out g hg).2.2; omega)).mono ?_
                  rintro e w22 ⟨rfl, B22, O22⟩
                  have nq : ∀ g, (Value.slice pq lq xq).ownBlock = some g → ¬ (g = bk ∨ (Value.slice pp lp xp).ownBlock = some g) := fun g hg e => by
                    have h1 := BQ.out g hg
                    rcases e with e | e
                    · omega
                    · have := BP.out g e; omega
                  have nz : ∀ g, (Value.slice pz lz xz).ownBlock = some g → ¬ (g = bk ∨ (Value.slice pp lp xp).ownBlock = some g) := fun g hg e => by
                    have h1 := BZ.out g hg
                    rcases e with e | e
                    · omega
                    · have := BP.out g e; omega
                  have nb : ∀ (b : Nat) (cs : Array Value) (f : Nat × Nat), w20.heap[b]? = some (.cells cs 42 f) → w22.heap[b]? = some (.cells cs 42 f) := fun b cs f hb => O22.blk (O20.out.blk hb id) (by
                    rintro (e | e)
                    · have := blk_lt hb; have := HBK.out; omega
                    · obtain ⟨_, cur, q⟩ := own_tag op1 e
                      exact tag_ne q (O20.out.blk hb id) (by decide))
                  have Q22 := seven (nb _ _ _ Q20.out)
                  have c0 := Q22.d2
                  have Z22 := Lib.hid (nb _ _ _ Z20.out)
                  have oq2 := own_sub oq1 O22 nq
                  have oz2 := own_sub oz1 O22 nz
                  have OQ2 := Lib.hid oq2; have OZ2 := Lib.hid oz2; have H22 := Lib.hid B22; have HO22 := Lib.hid O22; have KW := Lib.hid kw
                  clear nq nz nb Q22 oq1 oz1 oq2 oz2 B22 O22 op1 kw
                  go_wp2_with fail
                  refine (badd_calls w22 bk _ H22.out pq lq xq hq (by omega) OQ2.out (fun g hg e => by
                    have h1 := BQ.out g hg
                    have h2 := KW.out
                    rcases e with e | e | e
                    · omega
                    · have := BP.out g e; omega
                    · omega)).mono ?_
                  rintro e w23 ⟨rfl, B23, O23⟩
                  have nz : ∀ g, (Value.slice pz lz xz).ownBlock = some g → ¬ ((g = bk ∨ (Value.slice pp lp xp).ownBlock = some g ∨ w21.heap.size ≤ g) ∨ (Value.slice pq lq xq).ownBlock = some g) := fun g hg e => by
                    have h1 := BZ.out g hg
                    have h2 := KW.out
                    rcases e with (e | e | e) | e
                    · omega
                    · have := BP.out g e; omega
                    · omega
                    · have := BQ.out g e; omega
                  have Z23 := seven (O23.blk Z22.out (by
                    have h0 := blk_lt Z20.out
                    have h2 := KW.out
                    rintro ((e | e | e) | e)
                    · have := HBK.out; omega
                    · obtain ⟨_, cur, q⟩ := own_tag OP.out e
                      exact tag_ne q Z20.out (by decide)
                    · have := HBK.out; omega
                    · obtain ⟨_, cur, q⟩ := own_tag OQ.out e
                      exact tag_ne q Z20.out (by decide)))
                  have c1 := Z23.d2
                  have OZ3 := Lib.hid (own_sub OZ2.out O23 nz); have H23 := Lib.hid B23; have HO23 := Lib.hid O23
                  clear c0 Z23 nz B23 O23
                  go_wp2_with fail
                  refine (badd_calls w23 bk _ H23.out pz lz xz hz (by omega) OZ3.out (fun g hg e => by
                    have h1 := BZ.out g hg
                    have h2 := KW.out
                    have h3 := HO22.out.size
                    rcases e with (e | e | e) | e | e
                    · omega
                    · have := BP.out g e; omega
                    · omega
                    · have := BQ.out g e; omega
                    · omega)).mono ?_
                  rintro e w24 ⟨rfl, B24, O24⟩
                  have H24 := Lib.hid B24; have HO24 := Lib.hid O24
                  clear B24 O24 c1
                  go_wp2_with fail
                  refine (stays_calls w24 bk _ H24.out).mono ?_
                  rintro e w25 ⟨rfl, O25⟩
                  have HO25 := Lib.hid O25
                  clear O25
                  go_wp2_with fail
                  go_ret
                  refine ⟨rfl, ?_⟩
                  have lk : w.heap.size ≤ bk := by rw [← HBK.out]; exact P20.out.size
                  have h2 := KW.out
                  have h3 := HO22.out.size
                  have OB := (P20.out.trans O20.out).seq2 HO22.out (S := (fun _ => False)) (by rintro i (e | e); exact .inl (by omega); exact .inl (BP.out i e).1)
                  have OC := OB.seq2 HO23.out (S := (fun _ => False)) (by rintro i ((e | e | e) | e); exact .inl (by omega); exact .inl (BP.out i e).1; exact .inl (by omega); exact .inl (BQ.out i e).2.2.2)
                  have OD := OC.seq2 HO24.out (S := (fun _ => False)) (by rintro i (((e | e | e) | e | e) | e); exact .inl (by omega); exact .inl (BP.out i e).1; exact .inl (by omega); exact .inl (BQ.out i e).2.2.2; exact .inl (by omega); exact .inl (BZ.out i e).2.2.2)
                  exact OD.trans HO25.out
end Go.Proofs.Ytimiojckinpfdaa

/-
  FOR A PROOF OF AN '..UptoSaid': WHAT THE BOUND GIVES. Copy it as <Name>Bulk.lean (put your seat's Name for Ytimiojckinpfdaa, the bound of 'uptoSmall' for 1048576), name it in GOCLAIM.json's 'order' behind <Name>Rows. By an AI agent, Sun Nov 15 2026. No person has read it. No macro, syntax, notation, axiom, sorry.
-/
namespace Go.Proofs.Ytimiojckinpfdaa.bulks

theorem one_le {H : Type} (d : DataW H) : 1 ≤ Rows.uptoBulk d := by
  cases d with
  | lit l => cases l <;> simp [Rows.uptoBulk]
  | nil => simp [Rows.uptoBulk]
  | ptr d => simp [Rows.uptoBulk]
  | slice elems spare => simp [Rows.uptoBulk]
  | agg parts => simp [Rows.uptoBulk]
  | iface t d => simp [Rows.uptoBulk]
  | map entries => simp [Rows.uptoBulk]
  | held h => simp [Rows.uptoBulk]

/-- a part's bulk is at most the whole's -/
theorem part_le {H : Type} {d : DataW H} {l : List (DataW H)} (h : d ∈ l) : Rows.uptoBulk d ≤ Rows.uptoBulkAll l := by
  induction l with
  | nil => cases h
  | cons x r ih =>
    simp only [Rows.uptoBulkAll]
    cases List.mem_cons.1 h with
    | inl e => subst e; omega
    | inr e => have := ih e; omega

theorem append {H : Type} (l r : List (DataW H)) : Rows.uptoBulkAll (l ++ r) = Rows.uptoBulkAll l + Rows.uptoBulkAll r := by
  induction l with
  | nil => simp [Rows.uptoBulkAll]
  | cons x l ih => simp only [List.cons_append, Rows.uptoBulkAll, ih]; omega

/-- so many values at the most -/
theorem length_le {H : Type} (l : List (DataW H)) : l.length ≤ Rows.uptoBulkAll l := by
  induction l with
  | nil => simp [Rows.uptoBulkAll]
  | cons x r ih => have := one_le x; simp only [Rows.uptoBulkAll, List.length_cons]; omega

/-- a slice's places, and what they hold -/
theorem slice_le {H : Type} (elems spare : List (DataW H)) : elems.length + spare.length + 1 ≤ Rows.uptoBulk (.slice elems spare) := by
  have h1 := length_le elems
  have h2 := length_le spare
  simp only [Rows.uptoBulk]
  omega
theorem slice_elems {H : Type} (elems spare : List (DataW H)) : Rows.uptoBulkAll elems + 1 ≤ Rows.uptoBulk (.slice elems spare) := by
  simp only [Rows.uptoBulk]
  omega

/-- a string's letters -/
theorem string_eq {H : Type} (bytes : List UInt8) : Rows.uptoBulk (DataW.lit (H := H) (.string bytes)) = bytes.length + 1 := by
  simp [Rows.uptoBulk]

/-- THE BOUND, as the builder hands it over ('hk') -/
theorem bound {H : Type} {l : List (DataW H)} (hk : Rows.uptoSmall H l = true) : Rows.uptoBulkAll l ≤ 1048576 := by
  simpa [Rows.uptoSmall] using hk

/-- ROOM: a slice of n elements of b bytes, grown by append: below the 2^48 bytes that append, make and a Builder bear. Here n up to 2^21, b up to 4,096: put your own numbers. -/
theorem room {n b : Nat} (hn : n ≤ 2097152) (hb : b ≤ 4096) : (n + n / 4 + 192) * b ≤ 281474976710656 := by
  have h : (n + n / 4 + 192) * b ≤ 2621632 * 4096 := Nat.mul_le_mul (by omega) hb
  omega

end Go.Proofs.Ytimiojckinpfdaa.bulks
