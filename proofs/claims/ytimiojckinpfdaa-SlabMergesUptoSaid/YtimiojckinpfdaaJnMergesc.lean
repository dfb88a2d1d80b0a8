/- The walk of symMerge where the first run is one element. -/
import Derived.Test.YtimiojckinpfdaaRows
import Derived.Test.YtimiojckinpfdaaJnMergesb
namespace Go.Proofs.Ytimiojckinpfdaa
open Go.RowKit Srt

def SymRes (w : World) (g n a b : Nat) (f : Nat → Cn) (e : Ending) (w' : World) : Prop := e = .returned (.tuple #[]) ∧ Only (· = g) w w' ∧ ∃ h, Arr w' g n h ∧ Anew f h a b ∧ Sorted (win h a b)
def SL (w : World) (a m b : Nat) (f : Nat → Cn) (p q : Value) (wr : World) : Prop := ∃ i j : Nat, p = .int .i64 i ∧ q = .int .i64 j ∧ m ≤ i ∧ i ≤ j ∧ j ≤ b ∧ (∀ k, m ≤ k → k < i → (f k).1 < (f a).1) ∧ (∀ k, j ≤ k → k < b → (f a).1 ≤ (f k).1) ∧ Only (fun _ => False) w wr
theorem left_done {f : Nat → Cn} {a m b i : Nat} (hm : m = a + 1) (h1 : m ≤ i) (h2 : i ≤ b) (hb : Sorted (win f m b)) (l1 : ∀ k, m ≤ k → k < i → (f k).1 < (f a).1) (l2 : ∀ k, i ≤ k → k < b → (f a).1 ≤ (f k).1) :
    Anew f (rot f a m i) a b ∧ Sorted (win (rot f a m i) a b) := by
  have ha : Sorted (win f a m) := by subst hm; rw [win_one]; exact sorted_one _
  obtain ⟨e1, e2⟩ := rot_win f (a := a) (m := m) (b := i) (by omega) h1
  refine merged (s := a) (e := i) ha hb ⟨Nat.le_refl _, by omega, h1, h2, fun x y q1 q2 => by omega, fun x y q1 q2 q3 q4 => ?_⟩ rfl (Anew.refl _ _ _) ?_ (Anew.refl _ _ _) ?_
  · obtain rfl : y = a := by omega
    have := l1 x q1 q2; omega
  · rw [e1]; exact sorted_part hb (Nat.le_refl _) h2
  · rw [win_app _ (m := i) (by omega) h2, e2, (rot_anew f (a := a) (m := m) (b := i) (by omega) h1).same (.inr (Nat.le_refl _))]
    refine sorted_app.2 ⟨ha, sorted_part hb h1 (Nat.le_refl _), below_win.2 fun x y q1 q2 q3 q4 => ?_⟩
    obtain rfl : x = a := by omega
    exact l2 y q3 q4
def SLu (w : World) (g n a i : Nat) (f : Nat → Cn) (v : Value) (wr : World) : Prop := ∃ k : Nat, v = .int .i64 k ∧ a ≤ k ∧ k + 1 ≤ i ∧ Only (· = g) w wr ∧ Arr wr g n (upTo f a k)
theorem slu_next {w wr : World} {g n a i k : Nat} {f : Nat → Cn} {x1 y1 : Int} {x2 y2 : Nat} (h1 : a ≤ k) (h2 : k + 1 + 1 ≤ i) (O : Only (· = g) w wr) (hR : Arr wr g n (upTo f a k)) (hx : upTo f a k k = (x1, x2)) (hy : upTo f a k (k + 1) = (y1, y2)) :
    SLu w g n a i f (.int .i64 ((k : Int) + 1)) (swpW wr g k (k + 1) (x1, x2) (y1, y2)).drew := by
  have A := hR.swap k (k + 1)
  rw [hx, hy, upTo_step f h1] at A
  exact ⟨k + 1, by go_num, by omega, h2, (O.trans (only_swpW _ _ _ _ _ _)).drew, A⟩
theorem slu_end {w wr : World} {g n a m b i k : Nat} {f : Nat → Cn} (hm : m = a + 1) (h1 : m ≤ i) (h2 : i ≤ b) (hb : Sorted (win f m b)) (l1 : ∀ k, m ≤ k → k < i → (f k).1 < (f a).1) (l2 : ∀ k, i ≤ k → k < b → (f a).1 ≤ (f k).1) (hk : k + 1 = i) (O : Only (· = g) w wr) (hR : Arr wr g n (upTo f a k)) :
    SymRes w g n a b f (.returned (.tuple #[])) wr := by
  obtain ⟨r1, r2⟩ := left_done hm h1 h2 hb l1 l2
  refine ⟨rfl, O, _, hR, ?_⟩
  unfold upTo
  rw [hk, ← hm]
  exact ⟨r1, r2⟩
set_option maxHeartbeats 4000000 in
set_option maxRecDepth 200000 in
theorem symm_left (g n cap a m b : Nat) (f : Nat → Cn) (w : World) (hn : n ≤ 9007199254740992) (hm : m = a + 1) (h2 : m < b) (h3 : b ≤ n) (hA : Arr w g n f) (hb : Sorted (win f m b)) :
    Calls Try.prog 112 #[hv g n cap, .int .i64 a, .int .i64 m, .int .i64 b, cmpf] w (SymRes w g n a b f) := by
  have hA' := Lib.hid hA; clear hA
  have hb' := Lib.hid hb; clear hb
  have k1 : ((m : Int) - a == 1) = true := by simp; omega
  have am : a < m := by omega
  have hm' := Lib.hid hm; clear hm
  unfold cmpf
  go_enter Try.func112, Try.ntmps112
  go_wp2_with fail
  go_loopw [10, 11] (fun p q wr => SL w a m b f p q wr) (fun p q _ => (intOf q).toNat - (intOf p).toNat)
  case atStart => exact ⟨m, b, rfl, rfl, Nat.le_refl _, by omega, Nat.le_refl _, fun k q1 q2 => by omega, fun k q1 q2 => by omega, Only.refl _ _⟩
  case round =>
    obtain ⟨i, j, rfl, rfl, i1, i2, i3, l1, l2, O⟩ := hrel
    have L1 := Lib.hid l1
    have L2 := Lib.hid l2
    clear l1 l2
    by_cases hlt : i < j
    · have hh : (((i : Int) + j) / 2) = (((i + j) / 2 : Nat) : Int) := by omega
      obtain ⟨c, hc⟩ : ∃ c, c = (i + j) / 2 := ⟨_, rfl⟩
      have c1 : i ≤ c := by omega
      have c2 : c < j := by omega
      have hc' := Lib.hid hc
      rw [← hc] at hh
      clear hc
      have hcn : c < n := by omega
      have han : a < n := by omega
      have hR := hA'.out.only O id
      have hC := Cm.start hR (i := c) (j := a) (hcn) (han)
      rcases hx : f c with ⟨x1, x2⟩
      rcases hy : f a with ⟨y1, y2⟩
      rw [hx, hy] at hC
      have Hx := Lib.hid hx
      have Hy := Lib.hid hy
      clear hx hy
      obtain ⟨d0, d1, d2, d3⟩ := hC.cells
      have O' := Lib.hid O
      clear O hR
      by_cases hxy : x1 < y1
      · have kc := cmpN_lt (x := (x1, x2)) (y := (y1, y2)) hxy
        have hxy' := Lib.hid hxy
        clear hxy
        go_wp2_with fail
        go_region_held3 (fun w' => Cm wr g c a (x1, x2) (y1, y2) w' ∧ w'.cell? ⟨g, c * 2, none⟩ = some (.int .i64 x1) ∧ w'.cell? ⟨g, c * 2 + 1, none⟩ = some (.int .u64 (x2 : Nat)) ∧ w'.cell? ⟨g, a * 2, none⟩ = some (.int .i64 y1) ∧ w'.cell? ⟨g, a * 2 + 1, none⟩ = some (.int .u64 (y2 : Nat)))
          ((go_split_ands; first | exact ⟨by assumption, Cm.cells (by assumption)⟩ | exact ⟨Cm.drew (by assumption), Cm.cells (Cm.drew (by assumption))⟩))
          (first | (go_at_call 76; go_split_ands; refine (cm_cmp (by assumption)).mono ?_; rintro e w8 ⟨rfl, hC8⟩))
        have O8 := Lib.hid (O'.out.trans hC8.only)
        clear hC8
        go_wp2_with fail
        go_roundw
        case rel => exact ⟨c + 1, j, by go_num, rfl, by omega, by omega, i3, fun k q1 q2 => by have := sorted_le hb'.out q1 (show k ≤ c by omega) (by omega); have f1 : (f c).1 = x1 := (by rw [Hx.out]); have f2 : (f a).1 = y1 := (by rw [Hy.out]); have := hxy'.out; omega, L2.out, O8.out⟩
        case measure => simp [intOf]; omega
      · have kc := cmpN_ge (x := (x1, x2)) (y := (y1, y2)) hxy
        have hxy' := Lib.hid hxy
        clear hxy
        go_wp2_with fail
        go_region_held3 (fun w' => Cm wr g c a (x1, x2) (y1, y2) w' ∧ w'.cell? ⟨g, c * 2, none⟩ = some (.int .i64 x1) ∧ w'.cell? ⟨g, c * 2 + 1, none⟩ = some (.int .u64 (x2 : Nat)) ∧ w'.cell? ⟨g, a * 2, none⟩ = some (.int .i64 y1) ∧ w'.cell? ⟨g, a * 2 + 1, none⟩ = some (.int .u64 (y2 : Nat)))
          ((go_split_ands; first | exact ⟨by assumption, Cm.cells (by assumption)⟩ | exact ⟨Cm.drew (by assumption), Cm.cells (Cm.drew (by assumption))⟩))
          (first | (go_at_call 76; go_split_ands; refine (cm_cmp (by assumption)).mono ?_; rintro e w8 ⟨rfl, hC8⟩))
        have O8 := Lib.hid (O'.out.trans hC8.only)
        clear hC8
        go_wp2_with fail
        go_roundw
        case rel => exact ⟨i, c, rfl, rfl, i1, c1, by omega, L1.out, fun k q1 q2 => by have := sorted_le hb'.out (show m ≤ c by omega) q1 q2; have f1 : (f c).1 = x1 := (by rw [Hx.out]); have f2 : (f a).1 = y1 := (by rw [Hy.out]); have := hxy'.out; omega, O8.out⟩
        case measure => simp [intOf]; omega
    · obtain rfl : i = j := by omega
      have O' := Lib.hid O
      have hR := Lib.hid (hA'.out.only O id)
      clear O
      go_wp2_with fail
      go_loopw [13] (fun v wr' => SLu w g n a i f v wr') (fun v _ => i - (intOf v).toNat)
      case atStart => exact ⟨a, rfl, Nat.le_refl _, by omega, O'.out.mono (fun _ _ h => h.elim), by rw [upTo_start]; exact hR.out⟩
      case round =>
        obtain ⟨k, rfl, q1, q2, O2, hR2⟩ := hrel
        by_cases hlt2 : k + 1 < i
        · obtain ⟨x0, x1, x2, x3⟩ := hR2.get (i := k) (by omega)
          obtain ⟨y0, y1, y2, y3⟩ := hR2.get (i := k + 1) (by omega)
          rcases hu : upTo f a k k with ⟨u1, u2⟩
          rcases hv : upTo f a k (k + 1) with ⟨v1, v2⟩
          have N := Lib.hid (slu_next (i := i) q1 (by omega) O2 hR2 hu hv)
          rw [hu] at x0 x1
          rw [hv] at y0 y1
          dsimp only at x0 x1 y0 y1
          have wk : IntKind.i64.wrap ((k : Int) + 1) = ((k + 1 : Nat) : Int) := i64_of (k + 1) (by omega) (by omega)
          have kt : decide ((k : Int) < i - 1) = true := by simp; omega
          have hkn : k < n := by omega
          have hkn1 : k + 1 < n := by omega
          have hne : k ≠ k + 1 := by omega
          have tn : ((k : Int) + 1).toNat = k + 1 := by omega
          clear hu hv O2 hR2
          go_wp2_with fail
          go_region
          all_goals
            go_wp2_with fail
            exact ⟨N.out, by simp [intOf]; omega⟩
        · have kt : decide ((k : Int) < i - 1) = false := by simp; omega
          have N := Lib.hid (slu_end (k := k) hm'.out i1 i3 hb'.out L1.out L2.out (by omega) O2 hR2)
          go_wp2_with fail
          go_end0
          exact N.out
end Go.Proofs.Ytimiojckinpfdaa

/- The walk of symMerge where the second run is one element. -/
namespace Go.Proofs.Ytimiojckinpfdaa
open Go.RowKit Srt

theorem right_done {f : Nat → Cn} {a m b i : Nat} (hm : b = m + 1) (h1 : a ≤ i) (h2 : i ≤ m) (ha : Sorted (win f a m)) (l1 : ∀ k, a ≤ k → k < i → (f k).1 ≤ (f m).1) (l2 : ∀ k, i ≤ k → k < m → (f m).1 < (f k).1) :
    Anew f (rot f i m b) a b ∧ Sorted (win (rot f i m b) a b) := by
  have hb : Sorted (win f m b) := by subst hm; rw [win_one]; exact sorted_one _
  obtain ⟨e1, e2⟩ := rot_win f (a := i) (m := m) (b := b) h2 (by omega)
  refine merged (s := i) (e := b) ha hb ⟨h1, h2, by omega, Nat.le_refl _, fun x y q1 q2 => by omega, fun x y q1 q2 q3 q4 => ?_⟩ rfl (Anew.refl _ _ _) ?_ (Anew.refl _ _ _) ?_
  · obtain rfl : x = m := by omega
    have := l2 y q3 q4; omega
  · rw [win_app _ (m := i) h1 (by omega), e1, (rot_anew f (a := i) (m := m) (b := b) h2 (by omega)).same (.inl (Nat.le_refl _))]
    refine sorted_app.2 ⟨sorted_part ha (Nat.le_refl _) h2, hb, below_win.2 fun x y q1 q2 q3 q4 => ?_⟩
    obtain rfl : y = m := by omega
    exact l1 x q1 q2
  · rw [e2]; exact sorted_part ha h1 (Nat.le_refl _)
def SR (w : World) (a m : Nat) (f : Nat → Cn) (p q : Value) (wr : World) : Prop := ∃ i j : Nat, p = .int .i64 i ∧ q = .int .i64 j ∧ a ≤ i ∧ i ≤ j ∧ j ≤ m ∧ (∀ k, a ≤ k → k < i → (f k).1 ≤ (f m).1) ∧ (∀ k, j ≤ k → k < m → (f m).1 < (f k).1) ∧ Only (fun _ => False) w wr
def SRd (w : World) (g n m i : Nat) (f : Nat → Cn) (v : Value) (wr : World) : Prop := ∃ k : Nat, v = .int .i64 k ∧ i ≤ k ∧ k ≤ m ∧ Only (· = g) w wr ∧ Arr wr g n (downTo f m k)
theorem srd_next {w wr : World} {g n m i k q : Nat} {f : Nat → Cn} {x1 y1 : Int} {x2 y2 : Nat} (hq : k = q + 1) (h1 : i ≤ q) (h2 : k ≤ m) (O : Only (· = g) w wr) (hR : Arr wr g n (downTo f m k)) (hx : downTo f m k k = (x1, x2)) (hy : downTo f m k q = (y1, y2)) :
    SRd w g n m i f (.int .i64 (q : Nat)) (swpW wr g k q (x1, x2) (y1, y2)).drew := by
  have A := hR.swap k q
  rw [hx, hy] at A
  subst hq
  rw [downTo_step f (by omega)] at A
  exact ⟨q, rfl, h1, by omega, (O.trans (only_swpW _ _ _ _ _ _)).drew, A⟩
theorem srd_end {w wr : World} {g n a m b i k : Nat} {f : Nat → Cn} (hm : b = m + 1) (h1 : a ≤ i) (h2 : i ≤ m) (ha : Sorted (win f a m)) (l1 : ∀ k, a ≤ k → k < i → (f k).1 ≤ (f m).1) (l2 : ∀ k, i ≤ k → k < m → (f m).1 < (f k).1) (hk : k = i) (O : Only (· = g) w wr) (hR : Arr wr g n (downTo f m k)) :
    SymRes w g n a b f (.returned (.tuple #[])) wr := by
  obtain ⟨r1, r2⟩ := right_done hm h1 h2 ha l1 l2
  refine ⟨rfl, O, _, hR, ?_⟩
  unfold downTo
  rw [hk, ← hm]
  exact ⟨r1, r2⟩
set_option maxHeartbeats 4000000 in
set_option maxRecDepth 200000 in
theorem symm_right (g n cap a m b : Nat) (f : Nat → Cn) (w : World) (hn : n ≤ 9007199254740992) (ham : a + 1 < m) (hm : b = m + 1) (h3 : b ≤ n) (hA : Arr w g n f) (ha : Sorted (win f a m)) :
    Calls Try.prog 112 #[hv g n cap, .int .i64 a, .int .i64 m, .int .i64 b, cmpf] w (SymRes w g n a b f) := by
  have hA' := Lib.hid hA; clear hA
  have ha' := Lib.hid ha; clear ha
  have k1 : ((m : Int) - a == 1) = false := by simp; omega
  have k2 : ((b : Int) - m == 1) = true := by simp; omega
  have am : m < b := by omega
  have hm' := Lib.hid hm; clear hm
  unfold cmpf
  go_enter Try.func112, Try.ntmps112
  go_wp2_with fail
  go_loopw [14, 15] (fun p q wr => SR w a m f p q wr) (fun p q _ => (intOf q).toNat - (intOf p).toNat)
  case atStart => exact ⟨a, m, rfl, rfl, Nat.le_refl _, by omega, Nat.le_refl _, fun k q1 q2 => by omega, fun k q1 q2 => by omega, Only.refl _ _⟩
  case round =>
    obtain ⟨i, j, rfl, rfl, i1, i2, i3, l1, l2, O⟩ := hrel
    have L1 := Lib.hid l1
    have L2 := Lib.hid l2
    clear l1 l2
    by_cases hlt : i < j
    · have hh : (((i : Int) + j) / 2) = (((i + j) / 2 : Nat) : Int) := by omega
      obtain ⟨c, hc⟩ : ∃ c, c = (i + j) / 2 := ⟨_, rfl⟩
      have c1 : i ≤ c := by omega
      have c2 : c < j := by omega
      have hc' := Lib.hid hc
      rw [← hc] at hh
      clear hc
      have hcn : c < n := by omega
      have hmn : m < n := by omega
      have hR := hA'.out.only O id
      have hC := Cm.start hR (i := m) (j := c) (hmn) (hcn)
      rcases hx : f m with ⟨x1, x2⟩
      rcases hy : f c with ⟨y1, y2⟩
      rw [hx, hy] at hC
      have Hx := Lib.hid hx
      have Hy := Lib.hid hy
      clear hx hy
      obtain ⟨d0, d1, d2, d3⟩ := hC.cells
      have O' := Lib.hid O
      clear O hR
      by_cases hxy : x1 < y1
      · have kc := cmpN_lt (x := (x1, x2)) (y := (y1, y2)) hxy
        have hxy' := Lib.hid hxy
        clear hxy
        go_wp2_with fail
        go_region_held3 (fun w' => Cm wr g m c (x1, x2) (y1, y2) w' ∧ w'.cell? ⟨g, m * 2, none⟩ = some (.int .i64 x1) ∧ w'.cell? ⟨g, m * 2 + 1, none⟩ = some (.int .u64 (x2 : Nat)) ∧ w'.cell? ⟨g, c * 2, none⟩ = some (.int .i64 y1) ∧ w'.cell? ⟨g, c * 2 + 1, none⟩ = some (.int .u64 (y2 : Nat)))
          ((go_split_ands; first | exact ⟨by assumption, Cm.cells (by assumption)⟩ | exact ⟨Cm.drew (by assumption), Cm.cells (Cm.drew (by assumption))⟩))
          (first | (go_at_call 76; go_split_ands; refine (cm_cmp (by assumption)).mono ?_; rintro e w8 ⟨rfl, hC8⟩))
        have O8 := Lib.hid (O'.out.trans hC8.only)
        clear hC8
        go_wp2_with fail
        go_roundw
        case rel => exact ⟨i, c, rfl, rfl, i1, c1, by omega, L1.out, fun k q1 q2 => by have := sorted_le ha'.out (show a ≤ c by omega) q1 q2; have f1 : (f m).1 = x1 := (by rw [Hx.out]); have f2 : (f c).1 = y1 := (by rw [Hy.out]); have := hxy'.out; omega, O8.out⟩
        case measure => simp [intOf]; omega
      · have kc := cmpN_ge (x := (x1, x2)) (y := (y1, y2)) hxy
        have hxy' := Lib.hid hxy
        clear hxy
        go_wp2_with fail
        go_region_held3 (fun w' => Cm wr g m c (x1, x2) (y1, y2) w' ∧ w'.cell? ⟨g, m * 2, none⟩ = some (.int .i64 x1) ∧ w'.cell? ⟨g, m * 2 + 1, none⟩ = some (.int .u64 (x2 : Nat)) ∧ w'.cell? ⟨g, c * 2, none⟩ = some (.int .i64 y1) ∧ w'.cell? ⟨g, c * 2 + 1, none⟩ = some (.int .u64 (y2 : Nat)))
          ((go_split_ands; first | exact ⟨by assumption, Cm.cells (by assumption)⟩ | exact ⟨Cm.drew (by assumption), Cm.cells (Cm.drew (by assumption))⟩))
          (first | (go_at_call 76; go_split_ands; refine (cm_cmp (by assumption)).mono ?_; rintro e w8 ⟨rfl, hC8⟩))
        have O8 := Lib.hid (O'.out.trans hC8.only)
        clear hC8
        go_wp2_with fail
        go_roundw
        case rel => exact ⟨c + 1, j, by go_num, rfl, by omega, by omega, i3, fun k q1 q2 => by have := sorted_le ha'.out q1 (show k ≤ c by omega) (by omega); have f1 : (f m).1 = x1 := (by rw [Hx.out]); have f2 : (f c).1 = y1 := (by rw [Hy.out]); have := hxy'.out; omega, L2.out, O8.out⟩
        case measure => simp [intOf]; omega
    · obtain rfl : i = j := by omega
      have O' := Lib.hid O
      have hR := Lib.hid (hA'.out.only O id)
      clear O
      go_wp2_with fail
      go_loopw [17] (fun v wr' => SRd w g n m i f v wr') (fun v _ => (intOf v).toNat)
      case atStart => exact ⟨m, rfl, by omega, Nat.le_refl _, O'.out.mono (fun _ _ h => h.elim), by rw [downTo_start]; exact hR.out⟩
      case round =>
        obtain ⟨k, rfl, q1, q2, O2, hR2⟩ := hrel
        by_cases hlt2 : i < k
        · obtain ⟨q, hq⟩ : ∃ q, k = q + 1 := ⟨k - 1, by omega⟩
          obtain ⟨x0, x1, x2, x3⟩ := hR2.get (i := k) (by omega)
          obtain ⟨y0, y1, y2, y3⟩ := hR2.get (i := q) (by omega)
          rcases hu : downTo f m k k with ⟨u1, u2⟩
          rcases hv : downTo f m k q with ⟨v1, v2⟩
          have N := Lib.hid (srd_next (i := i) hq (by omega) q2 O2 hR2 hu hv)
          rw [hu] at x0 x1
          rw [hv] at y0 y1
          dsimp only at x0 x1 y0 y1
          have wk : IntKind.i64.wrap ((k : Int) - 1) = (q : Int) := i64_of q (by omega) (by omega)
          have kt : decide ((k : Int) > i) = true := by simp; omega
          have hkn : k < n := by omega
          have hkn1 : q < n := by omega
          have hne : k ≠ q := by omega
          have hqk : q < k := by omega
          clear hu hv O2 hR2 hq
          go_wp2_with fail
          go_region
          all_goals
            go_wp2_with fail
            exact ⟨N.out, by simp [intOf]; omega⟩
        · have kt : decide ((k : Int) > i) = false := by simp; omega
          have N := Lib.hid (srd_end (k := k) hm'.out i1 i3 ha'.out L1.out L2.out (by omega) O2 hR2)
          go_wp2_with fail
          go_end0
          exact N.out
end Go.Proofs.Ytimiojckinpfdaa

/- The walk of symMerge, and of the whole sort. -/
namespace Go.Proofs.Ytimiojckinpfdaa
open Go.RowKit Srt

def Mid (a m b d s0 r0 : Nat) : Prop := (d < m ∧ s0 + b = d + m ∧ r0 = d) ∨ (m ≤ d ∧ s0 = a ∧ r0 = m)
theorem mid_cut {f : Nat → Cn} {a m b d s0 r0 s e : Nat} (ham : a + 1 < m) (_hmb : m + 1 < b) (hd : 2 * d ≤ a + b) (hd2 : a + b ≤ 2 * d + 1) (hs : Mid a m b d s0 r0)
    (ha : Sorted (win f a m)) (hb : Sorted (win f m b)) (h1 : s0 ≤ s) (h2 : s ≤ r0) (he : e + s = d + m) (l1 : ∀ k, s0 ≤ k → k < s → (f k).1 ≤ (f (d + m - 1 - k)).1) (l2 : ∀ k, s ≤ k → k < r0 → (f (d + m - 1 - k)).1 < (f k).1) : Cut f a m b s e ∧ d = s + (e - m) := by
  have g1 : a ≤ s := by rcases hs with ⟨h, h', h''⟩ | ⟨h, h', h''⟩ <;> omega
  have g2 : s ≤ m := by rcases hs with ⟨h, h', h''⟩ | ⟨h, h', h''⟩ <;> omega
  have g3 : m ≤ e := by rcases hs with ⟨h, h', h''⟩ | ⟨h, h', h''⟩ <;> omega
  have g4 : e ≤ b := by rcases hs with ⟨h, h', h''⟩ | ⟨h, h', h''⟩ <;> omega
  refine ⟨⟨g1, g2, g3, g4, fun i j q1 q2 q3 q4 => ?_, fun i j q1 q2 q3 q4 => ?_⟩, by omega⟩
  · have hlt : s0 < s := by rcases hs with ⟨h, h', h''⟩ | ⟨h, h', h''⟩ <;> omega
    have x1 := sorted_le ha q1 (show i ≤ s - 1 by omega) (by omega)
    have x2 := l1 (s - 1) (by omega) (by omega)
    rw [show d + m - 1 - (s - 1) = e by omega] at x2
    have x3 := sorted_le hb g3 q3 q4
    omega
  · have hlt : s < r0 := by rcases hs with ⟨h, h', h''⟩ | ⟨h, h', h''⟩ <;> omega
    have x1 := sorted_le hb q1 (show i ≤ e - 1 by omega) (by omega)
    have x2 := l2 s (by omega) hlt
    rw [show d + m - 1 - s = e - 1 by omega] at x2
    have x3 := sorted_le ha g1 q3 q4
    omega
theorem rot_triv (f : Nat → Cn) {s m e : Nat} (h : ¬ (s < m ∧ m < e)) (h1 : s ≤ m) (h2 : m ≤ e) : rot f s m e = f := by
  funext k
  unfold rot
  repeat' split
  all_goals first | rfl | (exfalso; omega) | (congr 1; omega)
/-- the windows behind the turn -/
theorem cut_wins {f : Nat → Cn} {a m b s e d : Nat} (k : Cut f a m b s e) (hd : d = s + (e - m)) (ha : Sorted (win f a m)) (hb : Sorted (win f m b)) :
    Sorted (win (rot f s m e) a s) ∧ Sorted (win (rot f s m e) s d) ∧ Sorted (win (rot f s m e) d e) ∧ Sorted (win (rot f s m e) e b) := by
  obtain ⟨k1, k2, k3, k4, l1, l2⟩ := k
  obtain ⟨e1, e2⟩ := rot_win f k2 k3
  rw [← hd] at e1 e2
  have R := rot_anew f k2 k3
  rw [R.same (.inl (Nat.le_refl _)), e1, e2, R.same (.inr (Nat.le_refl _))]
  exact ⟨sorted_part ha (Nat.le_refl _) k2, sorted_part hb (Nat.le_refl _) k4, sorted_part ha k1 (Nat.le_refl _), sorted_part hb k3 (Nat.le_refl _)⟩
/-- the first half's merge was not needed -/
theorem half_l {f : Nat → Cn} {a s d : Nat} (h : ¬ (a < s ∧ s < d)) (h1 : a ≤ s) (h2 : s ≤ d) (q1 : Sorted (win f a s)) (q2 : Sorted (win f s d)) : Sorted (win f a d) := by
  by_cases e : a = s
  · rw [e]; exact q2
  · have : s = d := by omega
    rw [← this]; exact q1
theorem half_r {f : Nat → Cn} {d e b : Nat} (h : ¬ (d < e ∧ e < b)) (h1 : d ≤ e) (h2 : e ≤ b) (q1 : Sorted (win f d e)) (q2 : Sorted (win f e b)) : Sorted (win f d b) := half_l h h1 h2 q1 q2
def SM (w : World) (d m s0 r0 : Nat) (f : Nat → Cn) (p q : Value) (wr : World) : Prop := ∃ s r : Nat, p = .int .i64 s ∧ q = .int .i64 r ∧ s0 ≤ s ∧ s ≤ r ∧ r ≤ r0 ∧ (∀ k, s0 ≤ k → k < s → (f k).1 ≤ (f (d + m - 1 - k)).1) ∧ (∀ k, r ≤ k → k < r0 → (f (d + m - 1 - k)).1 < (f k).1) ∧ Only (fun _ => False) w wr
theorem sm_lo {f : Nat → Cn} {a m b d s0 r0 s c : Nat} (ham : a + 1 < m) (_hmb : m + 1 < b) (hd : 2 * d ≤ a + b) (hd2 : a + b ≤ 2 * d + 1) (hs : Mid a m b d s0 r0) (ha : Sorted (win f a m)) (hb : Sorted (win f m b)) (hc : c < r0) (_h1 : s0 ≤ s) (_h2 : s ≤ c) (h : (f c).1 ≤ (f (d + m - 1 - c)).1) :
    ∀ k, s0 ≤ k → k < c + 1 → (f k).1 ≤ (f (d + m - 1 - k)).1 := by
  intro k q1 q2
  have x1 := sorted_le ha (show a ≤ k by rcases hs with ⟨h, h', h''⟩ | ⟨h, h', h''⟩ <;> omega) (show k ≤ c by omega) (by rcases hs with ⟨h, h', h''⟩ | ⟨h, h', h''⟩ <;> omega)
  have x2 := sorted_le hb (i := d + m - 1 - c) (j := d + m - 1 - k) (by rcases hs with ⟨h, h', h''⟩ | ⟨h, h', h''⟩ <;> omega) (by omega) (by rcases hs with ⟨h, h', h''⟩ | ⟨h, h', h''⟩ <;> omega)
  omega
theorem sm_hi {f : Nat → Cn} {a m b d s0 r0 c : Nat} (ham : a + 1 < m) (hmb : m + 1 < b) (hd : 2 * d ≤ a + b) (hd2 : a + b ≤ 2 * d + 1) (hs : Mid a m b d s0 r0) (ha : Sorted (win f a m)) (hb : Sorted (win f m b)) (hc : s0 ≤ c) (h : (f (d + m - 1 - c)).1 < (f c).1) :
    ∀ k, c ≤ k → k < r0 → (f (d + m - 1 - k)).1 < (f k).1 := by
  intro k q1 q2
  have x1 := sorted_le ha (show a ≤ c by rcases hs with ⟨h, h', h''⟩ | ⟨h, h', h''⟩ <;> omega) q1 (by rcases hs with ⟨h, h', h''⟩ | ⟨h, h', h''⟩ <;> omega)
  have x2 := sorted_le hb (i := d + m - 1 - k) (j := d + m - 1 - c) (by rcases hs with ⟨h, h', h''⟩ | ⟨h, h', h''⟩ <;> omega) (by omega) (by rcases hs with ⟨h, h', h''⟩ | ⟨h, h', h''⟩ <;> omega)
  omega
def SymAt (g n cap a m b : Nat) (f : Nat → Cn) (w : World) : Prop := Arr w g n f → Sorted (win f a m) → Sorted (win f m b) → Calls Try.prog 112 #[hv g n cap, .int .i64 a, .int .i64 m, .int .i64 b, cmpf] w (SymRes w g n a b f)
set_option maxHeartbeats 16000000 in
set_option maxRecDepth 200000 in
theorem symm_main (g n cap a m b : Nat) (f : Nat → Cn) (w : World) (hn : n ≤ 9007199254740992) (ham : a + 1 < m) (hmb : m + 1 < b) (h3 : b ≤ n) (hA : Arr w g n f) (ha : Sorted (win f a m)) (hb : Sorted (win f m b))
    (IH : ∀ a' m' b' f' w', b' - a' < b - a → a' < m' → m' < b' → b' ≤ n → SymAt g n cap a' m' b' f' w') :
    Calls Try.prog 112 #[hv g n cap, .int .i64 a, .int .i64 m, .int .i64 b, cmpf] w (SymRes w g n a b f) := by
  have hA' := Lib.hid hA; clear hA
  have ha' := Lib.hid ha; clear ha
  have hb' := Lib.hid hb; clear hb
  have IH' := Lib.hid IH; clear IH
  have k1 : ((m : Int) - a == 1) = false := by simp; omega
  have k2 : ((b : Int) - m == 1) = false := by simp; omega
  obtain ⟨d, hd⟩ : ∃ d, d = (a + b) / 2 := ⟨_, rfl⟩
  have dd1 : 2 * d ≤ a + b := by omega
  have dd2 : a + b ≤ 2 * d + 1 := by omega
  have hh : (((a : Int) + b) / 2) = (d : Int) := by omega
  clear hd
  obtain ⟨p, hp⟩ : ∃ p, p = d + m - 1 := ⟨_, rfl⟩
  have hpi : (d : Int) + m - 1 = (p : Int) := by omega
  have hp' := Lib.hid hp
  have p1 : p ≤ d + m - 1 := by omega
  have p2 : d + m - 1 ≤ p := by omega
  clear hp
  by_cases hdm : d < m
  · have kd : decide ((m : Int) > d) = true := by simp; omega
    obtain ⟨s0, hs0⟩ : ∃ s0, s0 = d + m - b := ⟨_, rfl⟩
    have hs1 : s0 + b = d + m := by omega
    have hsi : (d : Int) + m - b = (s0 : Int) := by omega
    clear hs0
    have HM : Hid (Mid a m b d s0 d) := Lib.hid (.inl ⟨hdm, hs1, rfl⟩)
    have h01 : s0 ≤ d := by omega
    have r0n : d ≤ n := by omega
    have r0p : d ≤ p := by omega
    unfold cmpf
    go_enter Try.func112, Try.ntmps112
    go_wp2_with fail
    go_loopw [20, 21] (fun u v wr => SM w d m s0 d f u v wr) (fun u v _ => (intOf v).toNat - (intOf u).toNat)
    case atStart => exact ⟨s0, d, rfl, rfl, Nat.le_refl _, h01, Nat.le_refl _, fun k q1 q2 => by omega, fun k q1 q2 => by omega, Only.refl _ _⟩
    case round =>
      obtain ⟨s, r, rfl, rfl, i1, i2, i3, l1, l2, O⟩ := hrel
      have L1 := Lib.hid l1
      have L2 := Lib.hid l2
      clear l1 l2
      by_cases hlt : s < r
      · obtain ⟨c, hc⟩ : ∃ c, c = (s + r) / 2 := ⟨_, rfl⟩
        have hc2 : (((s : Int) + r) / 2) = (c : Int) := by omega
        have c1 : s ≤ c := by omega
        have c2 : c < r := by omega
        clear hc
        obtain ⟨q, hq⟩ : ∃ q, q = p - c := ⟨_, rfl⟩
        have cp : c ≤ p := by omega
        have wq : IntKind.i64.wrap ((p : Int) - c) = (q : Int) := i64_of q (by omega) (by omega)
        have hqn : q < n := by omega
        have hcn : c < n := by omega
        have hqd : q = d + m - 1 - c := by omega
        have Hq := Lib.hid hqd
        clear hqd hq
        have hR := hA'.out.only O id
        have hC := Cm.start hR (i := q) (j := c) (hqn) (hcn)
        rcases hx : f q with ⟨x1, x2⟩
        rcases hy : f c with ⟨y1, y2⟩
        rw [hx, hy] at hC
        have Hx := Lib.hid hx
        have Hy := Lib.hid hy
        clear hx hy
        obtain ⟨d0, d1, d2, d3⟩ := hC.cells
        have O' := Lib.hid O
        clear O hR
        by_cases hxy : x1 < y1
        · have kc := cmpN_lt (x := (x1, x2)) (y := (y1, y2)) hxy
          have hxy' := Lib.hid hxy
          clear hxy
          go_wp2_with fail
          go_region_held3 (fun w' => Cm wr g q c (x1, x2) (y1, y2) w' ∧ w'.cell? ⟨g, q * 2, none⟩ = some (.int .i64 x1) ∧ w'.cell? ⟨g, q * 2 + 1, none⟩ = some (.int .u64 (x2 : Nat)) ∧ w'.cell? ⟨g, c * 2, none⟩ = some (.int .i64 y1) ∧ w'.cell? ⟨g, c * 2 + 1, none⟩ = some (.int .u64 (y2 : Nat)))
            ((go_split_ands; first | exact ⟨by assumption, Cm.cells (by assumption)⟩ | exact ⟨Cm.drew (by assumption), Cm.cells (Cm.drew (by assumption))⟩))
            (first | (go_at_call 76; go_split_ands; refine (cm_cmp (by assumption)).mono ?_; rintro e w8 ⟨rfl, hC8⟩))
          have O8 := Lib.hid (O'.out.trans hC8.only)
          clear hC8
          go_wp2_with fail
          go_roundw
          case rel => exact ⟨s, c, rfl, rfl, i1, c1, by omega, L1.out, sm_hi ham hmb dd1 dd2 HM.out ha'.out hb'.out (by omega) (by have f1 : (f q).1 = x1 := (by rw [Hx.out]); have f2 : (f c).1 = y1 := (by rw [Hy.out]); have := hxy'.out; rw [Hq.out] at f1; omega), O8.out⟩
          case measure => simp [intOf]; omega
        · have kc := cmpN_ge (x := (x1, x2)) (y := (y1, y2)) hxy
          have hxy' := Lib.hid hxy
          clear hxy
          go_wp2_with fail
          go_region_held3 (fun w' => Cm wr g q c (x1, x2) (y1, y2) w' ∧ w'.cell? ⟨g, q * 2, none⟩ = some (.int .i64 x1) ∧ w'.cell? ⟨g, q * 2 + 1, none⟩ = some (.int .u64 (x2 : Nat)) ∧ w'.cell? ⟨g, c * 2, none⟩ = some (.int .i64 y1) ∧ w'.cell? ⟨g, c * 2 + 1, none⟩ = some (.int .u64 (y2 : Nat)))
            ((go_split_ands; first | exact ⟨by assumption, Cm.cells (by assumption)⟩ | exact ⟨Cm.drew (by assumption), Cm.cells (Cm.drew (by assumption))⟩))
            (first | (go_at_call 76; go_split_ands; refine (cm_cmp (by assumption)).mono ?_; rintro e w8 ⟨rfl, hC8⟩))
          have O8 := Lib.hid (O'.out.trans hC8.only)
          clear hC8
          go_wp2_with fail
          go_roundw
          case rel => exact ⟨c + 1, r, by go_num, rfl, by omega, by omega, i3, sm_lo ham hmb dd1 dd2 HM.out ha'.out hb'.out (by omega) i1 c1 (by have f1 : (f q).1 = x1 := (by rw [Hx.out]); have f2 : (f c).1 = y1 := (by rw [Hy.out]); have := hxy'.out; rw [Hq.out] at f1; omega), L2.out, O8.out⟩
          case measure => simp [intOf]; omega
      · obtain rfl : s = r := by omega
        obtain ⟨e, he⟩ : ∃ e, e = d + m - s := ⟨_, rfl⟩
        have hes : e + s = d + m := by omega
        have hei : (d : Int) + m - s = (e : Int) := by omega
        clear he
        obtain ⟨hK, hds⟩ := mid_cut ham hmb dd1 dd2 HM.out ha'.out hb'.out i1 i3 hes L1.out L2.out
        have hds' := Lib.hid hds
        clear hds
        have K1 := hK.h1
        have K2 := hK.h2
        have K3 := hK.h3
        have K4 := hK.h4
        have HK := Lib.hid hK
        clear hK
        obtain ⟨W1, W2, W3, W4⟩ := cut_wins HK.out hds'.out ha'.out hb'.out
        have W1' := Lib.hid W1
        have W2' := Lib.hid W2
        have W3' := Lib.hid W3
        have W4' := Lib.hid W4
        clear W1 W2 W3 W4
        have sd : s ≤ d := by have := hds'.out; omega
        have de : d ≤ e := by omega
        have hR := Lib.hid (hA'.out.only O id)
        have O' := Lib.hid (O.mono (T := (· = g)) (fun _ _ h => h.elim))
        clear O
        have hde := hds'.out
        have e1 : m ≤ e → e - m + m = e := by omega
        by_cases hrot : s < m ∧ m < e
        · have t1 : decide ((s : Int) < m) = true := by simp; omega
          have t2 : decide ((m : Int) < e) = true := by simp; omega
          have sd2 : s < d := by omega
          have de2 : d < e := by omega
          clear hde e1
          go_wp2_with fail
          refine (rot_calls g n cap s m e _ _ _ _ f wr rfl rfl rfl hn hrot.1 hrot.2 (by omega) hR.out).mono ?_
          rintro e3 w3 ⟨rfl, O3, R3⟩
          have R3' := Lib.hid R3
          have O3' := Lib.hid (O'.out.trans O3)
          clear R3 O3
          by_cases hl : a < s
          · have l1 : decide ((a : Int) < s) = true := by simp; omega
            have l2 : decide ((s : Int) < d) = true := by simp; omega
            go_wp2_with fail
            refine ((IH'.out a s d (rot f s m e) w3 (by omega) (by omega) (by omega) (by omega)) R3'.out W1'.out W2'.out).mono ?_
            rintro e4 w4 ⟨rfl, O4, g4, R4, N4, S4⟩
            have R4' := Lib.hid R4
            have N4' := Lib.hid N4
            have S4' := Lib.hid S4
            have O4' := Lib.hid (O3'.out.trans O4)
            clear R4 N4 S4 O4
            have V3 := Lib.hid (show Sorted (win g4 d e) by rw [N4'.out.same (.inr (Nat.le_refl _))]; exact W3'.out)
            have V4 := Lib.hid (show Sorted (win g4 e b) by rw [N4'.out.same (.inr de)]; exact W4'.out)
            by_cases hr : e < b
            · skip
              have r1 : decide ((d : Int) < e) = true := by simp; omega
              have r2 : decide ((e : Int) < b) = true := by simp; omega
              go_wp2_with fail
              refine ((IH'.out d e b g4 w4 (by omega) (by omega) (by omega) (by omega)) R4'.out V3.out V4.out).mono ?_
              rintro e5 w5 ⟨rfl, O5, g5, R5, N5, S5⟩
              have R5' := Lib.hid R5
              have N5' := Lib.hid N5
              have S5' := Lib.hid S5
              have O5' := Lib.hid (O4'.out.trans O5)
              clear R5 N5 S5 O5
              go_wp2_with fail
              go_end0
              exact ⟨rfl, O5'.out, _, R5'.out, merged ha'.out hb'.out HK.out hds'.out N4'.out S4'.out N5'.out S5'.out⟩
            · skip
              have V5 := Lib.hid (half_r (by omega) de K4 V3.out V4.out)
              have r1 : decide ((d : Int) < e) = true := by simp; omega
              have r2 : decide ((e : Int) < b) = false := by simp; omega
              go_wp2_with fail
              go_end0
              exact ⟨rfl, O4'.out, _, R4'.out, merged ha'.out hb'.out HK.out hds'.out N4'.out S4'.out (Anew.refl _ _ _) V5.out⟩
          · have l1 : decide ((a : Int) < s) = false := by simp; omega
            have S4' := Lib.hid (half_l (by omega) K1 sd W1'.out W2'.out)
            have N4' := Lib.hid (Anew.refl (rot f s m e) a d)
            have V3 := Lib.hid (show Sorted (win (rot f s m e) d e) by rw [N4'.out.same (.inr (Nat.le_refl _))]; exact W3'.out)
            have V4 := Lib.hid (show Sorted (win (rot f s m e) e b) by rw [N4'.out.same (.inr de)]; exact W4'.out)
            by_cases hr : e < b
            · skip
              have r1 : decide ((d : Int) < e) = true := by simp; omega
              have r2 : decide ((e : Int) < b) = true := by simp; omega
              go_wp2_with fail
              refine ((IH'.out d e b (rot f s m e) w3 (by omega) (by omega) (by omega) (by omega)) R3'.out V3.out V4.out).mono ?_
              rintro e5 w5 ⟨rfl, O5, g5, R5, N5, S5⟩
              have R5' := Lib.hid R5
              have N5' := Lib.hid N5
              have S5' := Lib.hid S5
              have O5' := Lib.hid (O3'.out.trans O5)
              clear R5 N5 S5 O5
              go_wp2_with fail
              go_end0
              exact ⟨rfl, O5'.out, _, R5'.out, merged ha'.out hb'.out HK.out hds'.out N4'.out S4'.out N5'.out S5'.out⟩
            · skip
              have V5 := Lib.hid (half_r (by omega) de K4 V3.out V4.out)
              have r1 : decide ((d : Int) < e) = true := by simp; omega
              have r2 : decide ((e : Int) < b) = false := by simp; omega
              go_wp2_with fail
              go_end0
              exact ⟨rfl, O3'.out, _, R3'.out, merged ha'.out hb'.out HK.out hds'.out N4'.out S4'.out (Anew.refl _ _ _) V5.out⟩
        · have R3' := Lib.hid (show Arr wr g n (rot f s m e) by rw [rot_triv f hrot K2 K3]; exact hR.out)
          by_cases hrot1 : s < m
          · have t1 : decide ((s : Int) < m) = true := by simp; omega
            have t2 : decide ((m : Int) < e) = false := by simp; omega
            have sd2 : d ≤ s := by omega
            have em : e ≤ m := by omega
            have hl : a < s := by omega
            clear hde e1
            have l1 : decide ((a : Int) < s) = true := by simp; omega
            have l2 : decide ((s : Int) < d) = false := by simp; omega
            have S4' := Lib.hid (half_l (by omega) K1 sd W1'.out W2'.out)
            have N4' := Lib.hid (Anew.refl (rot f s m e) a d)
            have V3 := Lib.hid (show Sorted (win (rot f s m e) d e) by rw [N4'.out.same (.inr (Nat.le_refl _))]; exact W3'.out)
            have V4 := Lib.hid (show Sorted (win (rot f s m e) e b) by rw [N4'.out.same (.inr de)]; exact W4'.out)
            have r1 : decide ((d : Int) < e) = true := by simp; omega
            have r2 : decide ((e : Int) < b) = true := by simp; omega
            go_wp2_with fail
            refine ((IH'.out d e b (rot f s m e) wr (by omega) (by omega) (by omega) (by omega)) R3'.out V3.out V4.out).mono ?_
            rintro e5 w5 ⟨rfl, O5, g5, R5, N5, S5⟩
            have R5' := Lib.hid R5
            have N5' := Lib.hid N5
            have S5' := Lib.hid S5
            have O5' := Lib.hid (O'.out.trans O5)
            clear R5 N5 S5 O5
            go_wp2_with fail
            go_end0
            exact ⟨rfl, O5'.out, _, R5'.out, merged ha'.out hb'.out HK.out hds'.out N4'.out S4'.out N5'.out S5'.out⟩
          · exfalso; omega
  · have kd : decide ((m : Int) > d) = false := by simp; omega
    have HM : Hid (Mid a m b d a m) := Lib.hid (.inr ⟨by omega, rfl, rfl⟩)
    have h01 : a ≤ m := by omega
    have r0n : m ≤ n := by omega
    have r0p : m ≤ p := by omega
    unfold cmpf
    go_enter Try.func112, Try.ntmps112
    go_wp2_with fail
    go_loopw [20, 21] (fun u v wr => SM w d m a m f u v wr) (fun u v _ => (intOf v).toNat - (intOf u).toNat)
    case atStart => exact ⟨a, m, rfl, rfl, Nat.le_refl _, h01, Nat.le_refl _, fun k q1 q2 => by omega, fun k q1 q2 => by omega, Only.refl _ _⟩
    case round =>
      obtain ⟨s, r, rfl, rfl, i1, i2, i3, l1, l2, O⟩ := hrel
      have L1 := Lib.hid l1
      have L2 := Lib.hid l2
      clear l1 l2
      by_cases hlt : s < r
      · obtain ⟨c, hc⟩ : ∃ c, c = (s + r) / 2 := ⟨_, rfl⟩
        have hc2 : (((s : Int) + r) / 2) = (c : Int) := by omega
        have c1 : s ≤ c := by omega
        have c2 : c < r := by omega
        clear hc
        obtain ⟨q, hq⟩ : ∃ q, q = p - c := ⟨_, rfl⟩
        have cp : c ≤ p := by omega
        have wq : IntKind.i64.wrap ((p : Int) - c) = (q : Int) := i64_of q (by omega) (by omega)
        have hqn : q < n := by omega
        have hcn : c < n := by omega
        have hqd : q = d + m - 1 - c := by omega
        have Hq := Lib.hid hqd
        clear hqd hq
        have hR := hA'.out.only O id
        have hC := Cm.start hR (i := q) (j := c) (hqn) (hcn)
        rcases hx : f q with ⟨x1, x2⟩
        rcases hy : f c with ⟨y1, y2⟩
        rw [hx, hy] at hC
        have Hx := Lib.hid hx
        have Hy := Lib.hid hy
        clear hx hy
        obtain ⟨d0, d1, d2, d3⟩ := hC.cells
        have O' := Lib.hid O
        clear O hR
        by_cases hxy : x1 < y1
        · have kc := cmpN_lt (x := (x1, x2)) (y := (y1, y2)) hxy
          have hxy' := Lib.hid hxy
          clear hxy
          go_wp2_with fail
          go_region_held3 (fun w' => Cm wr g q c (x1, x2) (y1, y2) w' ∧ w'.cell? ⟨g, q * 2, none⟩ = some (.int .i64 x1) ∧ w'.cell? ⟨g, q * 2 + 1, none⟩ = some (.int .u64 (x2 : Nat)) ∧ w'.cell? ⟨g, c * 2, none⟩ = some (.int .i64 y1) ∧ w'.cell? ⟨g, c * 2 + 1, none⟩ = some (.int .u64 (y2 : Nat)))
            ((go_split_ands; first | exact ⟨by assumption, Cm.cells (by assumption)⟩ | exact ⟨Cm.drew (by assumption), Cm.cells (Cm.drew (by assumption))⟩))
            (first | (go_at_call 76; go_split_ands; refine (cm_cmp (by assumption)).mono ?_; rintro e w8 ⟨rfl, hC8⟩))
          have O8 := Lib.hid (O'.out.trans hC8.only)
          clear hC8
          go_wp2_with fail
          go_roundw
          case rel => exact ⟨s, c, rfl, rfl, i1, c1, by omega, L1.out, sm_hi ham hmb dd1 dd2 HM.out ha'.out hb'.out (by omega) (by have f1 : (f q).1 = x1 := (by rw [Hx.out]); have f2 : (f c).1 = y1 := (by rw [Hy.out]); have := hxy'.out; rw [Hq.out] at f1; omega), O8.out⟩
          case measure => simp [intOf]; omega
        · have kc := cmpN_ge (x := (x1, x2)) (y := (y1, y2)) hxy
          have hxy' := Lib.hid hxy
          clear hxy
          go_wp2_with fail
          go_region_held3 (fun w' => Cm wr g q c (x1, x2) (y1, y2) w' ∧ w'.cell? ⟨g, q * 2, none⟩ = some (.int .i64 x1) ∧ w'.cell? ⟨g, q * 2 + 1, none⟩ = some (.int .u64 (x2 : Nat)) ∧ w'.cell? ⟨g, c * 2, none⟩ = some (.int .i64 y1) ∧ w'.cell? ⟨g, c * 2 + 1, none⟩ = some (.int .u64 (y2 : Nat)))
            ((go_split_ands; first | exact ⟨by assumption, Cm.cells (by assumption)⟩ | exact ⟨Cm.drew (by assumption), Cm.cells (Cm.drew (by assumption))⟩))
            (first | (go_at_call 76; go_split_ands; refine (cm_cmp (by assumption)).mono ?_; rintro e w8 ⟨rfl, hC8⟩))
          have O8 := Lib.hid (O'.out.trans hC8.only)
          clear hC8
          go_wp2_with fail
          go_roundw
          case rel => exact ⟨c + 1, r, by go_num, rfl, by omega, by omega, i3, sm_lo ham hmb dd1 dd2 HM.out ha'.out hb'.out (by omega) i1 c1 (by have f1 : (f q).1 = x1 := (by rw [Hx.out]); have f2 : (f c).1 = y1 := (by rw [Hy.out]); have := hxy'.out; rw [Hq.out] at f1; omega), L2.out, O8.out⟩
          case measure => simp [intOf]; omega
      · obtain rfl : s = r := by omega
        obtain ⟨e, he⟩ : ∃ e, e = d + m - s := ⟨_, rfl⟩
        have hes : e + s = d + m := by omega
        have hei : (d : Int) + m - s = (e : Int) := by omega
        clear he
        obtain ⟨hK, hds⟩ := mid_cut ham hmb dd1 dd2 HM.out ha'.out hb'.out i1 i3 hes L1.out L2.out
        have hds' := Lib.hid hds
        clear hds
        have K1 := hK.h1
        have K2 := hK.h2
        have K3 := hK.h3
        have K4 := hK.h4
        have HK := Lib.hid hK
        clear hK
        obtain ⟨W1, W2, W3, W4⟩ := cut_wins HK.out hds'.out ha'.out hb'.out
        have W1' := Lib.hid W1
        have W2' := Lib.hid W2
        have W3' := Lib.hid W3
        have W4' := Lib.hid W4
        clear W1 W2 W3 W4
        have sd : s ≤ d := by have := hds'.out; omega
        have de : d ≤ e := by omega
        have hR := Lib.hid (hA'.out.only O id)
        have O' := Lib.hid (O.mono (T := (· = g)) (fun _ _ h => h.elim))
        clear O
        have hde := hds'.out
        have e1 : m ≤ e → e - m + m = e := by omega
        by_cases hrot : s < m ∧ m < e
        · have t1 : decide ((s : Int) < m) = true := by simp; omega
          have t2 : decide ((m : Int) < e) = true := by simp; omega
          have sd2 : s < d := by omega
          have de2 : d < e := by omega
          clear hde e1
          go_wp2_with fail
          refine (rot_calls g n cap s m e _ _ _ _ f wr rfl rfl rfl hn hrot.1 hrot.2 (by omega) hR.out).mono ?_
          rintro e3 w3 ⟨rfl, O3, R3⟩
          have R3' := Lib.hid R3
          have O3' := Lib.hid (O'.out.trans O3)
          clear R3 O3
          by_cases hl : a < s
          · have l1 : decide ((a : Int) < s) = true := by simp; omega
            have l2 : decide ((s : Int) < d) = true := by simp; omega
            go_wp2_with fail
            refine ((IH'.out a s d (rot f s m e) w3 (by omega) (by omega) (by omega) (by omega)) R3'.out W1'.out W2'.out).mono ?_
            rintro e4 w4 ⟨rfl, O4, g4, R4, N4, S4⟩
            have R4' := Lib.hid R4
            have N4' := Lib.hid N4
            have S4' := Lib.hid S4
            have O4' := Lib.hid (O3'.out.trans O4)
            clear R4 N4 S4 O4
            have V3 := Lib.hid (show Sorted (win g4 d e) by rw [N4'.out.same (.inr (Nat.le_refl _))]; exact W3'.out)
            have V4 := Lib.hid (show Sorted (win g4 e b) by rw [N4'.out.same (.inr de)]; exact W4'.out)
            by_cases hr : e < b
            · skip
              have r1 : decide ((d : Int) < e) = true := by simp; omega
              have r2 : decide ((e : Int) < b) = true := by simp; omega
              go_wp2_with fail
              refine ((IH'.out d e b g4 w4 (by omega) (by omega) (by omega) (by omega)) R4'.out V3.out V4.out).mono ?_
              rintro e5 w5 ⟨rfl, O5, g5, R5, N5, S5⟩
              have R5' := Lib.hid R5
              have N5' := Lib.hid N5
              have S5' := Lib.hid S5
              have O5' := Lib.hid (O4'.out.trans O5)
              clear R5 N5 S5 O5
              go_wp2_with fail
              go_end0
              exact ⟨rfl, O5'.out, _, R5'.out, merged ha'.out hb'.out HK.out hds'.out N4'.out S4'.out N5'.out S5'.out⟩
            · skip
              have V5 := Lib.hid (half_r (by omega) de K4 V3.out V4.out)
              have r1 : decide ((d : Int) < e) = true := by simp; omega
              have r2 : decide ((e : Int) < b) = false := by simp; omega
              go_wp2_with fail
              go_end0
              exact ⟨rfl, O4'.out, _, R4'.out, merged ha'.out hb'.out HK.out hds'.out N4'.out S4'.out (Anew.refl _ _ _) V5.out⟩
          · have l1 : decide ((a : Int) < s) = false := by simp; omega
            have S4' := Lib.hid (half_l (by omega) K1 sd W1'.out W2'.out)
            have N4' := Lib.hid (Anew.refl (rot f s m e) a d)
            have V3 := Lib.hid (show Sorted (win (rot f s m e) d e) by rw [N4'.out.same (.inr (Nat.le_refl _))]; exact W3'.out)
            have V4 := Lib.hid (show Sorted (win (rot f s m e) e b) by rw [N4'.out.same (.inr de)]; exact W4'.out)
            by_cases hr : e < b
            · skip
              have r1 : decide ((d : Int) < e) = true := by simp; omega
              have r2 : decide ((e : Int) < b) = true := by simp; omega
              go_wp2_with fail
              refine ((IH'.out d e b (rot f s m e) w3 (by omega) (by omega) (by omega) (by omega)) R3'.out V3.out V4.out).mono ?_
              rintro e5 w5 ⟨rfl, O5, g5, R5, N5, S5⟩
              have R5' := Lib.hid R5
              have N5' := Lib.hid N5
              have S5' := Lib.hid S5
              have O5' := Lib.hid (O3'.out.trans O5)
              clear R5 N5 S5 O5
              go_wp2_with fail
              go_end0
              exact ⟨rfl, O5'.out, _, R5'.out, merged ha'.out hb'.out HK.out hds'.out N4'.out S4'.out N5'.out S5'.out⟩
            · skip
              have V5 := Lib.hid (half_r (by omega) de K4 V3.out V4.out)
              have r1 : decide ((d : Int) < e) = true := by simp; omega
              have r2 : decide ((e : Int) < b) = false := by simp; omega
              go_wp2_with fail
              go_end0
              exact ⟨rfl, O3'.out, _, R3'.out, merged ha'.out hb'.out HK.out hds'.out N4'.out S4'.out (Anew.refl _ _ _) V5.out⟩
        · have R3' := Lib.hid (show Arr wr g n (rot f s m e) by rw [rot_triv f hrot K2 K3]; exact hR.out)
          by_cases hrot1 : s < m
          · exfalso; omega
          · have t1 : decide ((s : Int) < m) = false := by simp; omega
            have em : e ≤ d := by omega
            have l1 : decide ((a : Int) < s) = true := by simp; omega
            clear hde e1
            by_cases hl : s < d
            · have l2 : decide ((s : Int) < d) = true := by simp; omega
              go_wp2_with fail
              refine ((IH'.out a s d (rot f s m e) wr (by omega) (by omega) (by omega) (by omega)) R3'.out W1'.out W2'.out).mono ?_
              rintro e4 w4 ⟨rfl, O4, g4, R4, N4, S4⟩
              have R4' := Lib.hid R4
              have N4' := Lib.hid N4
              have S4' := Lib.hid S4
              have O4' := Lib.hid (O'.out.trans O4)
              clear R4 N4 S4 O4
              have V3 := Lib.hid (show Sorted (win g4 d e) by rw [N4'.out.same (.inr (Nat.le_refl _))]; exact W3'.out)
              have V4 := Lib.hid (show Sorted (win g4 e b) by rw [N4'.out.same (.inr de)]; exact W4'.out)
              have V5 := Lib.hid (half_r (by omega) de K4 V3.out V4.out)
              have r1 : decide ((d : Int) < e) = false := by simp; omega
              go_wp2_with fail
              go_end0
              exact ⟨rfl, O4'.out, _, R4'.out, merged ha'.out hb'.out HK.out hds'.out N4'.out S4'.out (Anew.refl _ _ _) V5.out⟩
            · have l2 : decide ((s : Int) < d) = false := by simp; omega
              have S4' := Lib.hid (half_l (by omega) K1 sd W1'.out W2'.out)
              have N4' := Lib.hid (Anew.refl (rot f s m e) a d)
              have V3 := Lib.hid (show Sorted (win (rot f s m e) d e) by rw [N4'.out.same (.inr (Nat.le_refl _))]; exact W3'.out)
              have V4 := Lib.hid (show Sorted (win (rot f s m e) e b) by rw [N4'.out.same (.inr de)]; exact W4'.out)
              have V5 := Lib.hid (half_r (by omega) de K4 V3.out V4.out)
              have r1 : decide ((d : Int) < e) = false := by simp; omega
              go_wp2_with fail
              go_end0
              exact ⟨rfl, O'.out, _, R3'.out, merged ha'.out hb'.out HK.out hds'.out N4'.out S4'.out (Anew.refl _ _ _) V5.out⟩
end Go.Proofs.Ytimiojckinpfdaa

/- The walks of the stable sort. -/
namespace Go.Proofs.Ytimiojckinpfdaa
open Go.RowKit Srt

theorem symm_all (g n cap : Nat) (hn : n ≤ 9007199254740992) : ∀ k a m b f w, b - a ≤ k → a < m → m < b → b ≤ n → SymAt g n cap a m b f w
  | 0, a, m, b, f, w, h, h1, h2, h3 => by omega
  | k + 1, a, m, b, f, w, h, h1, h2, h3 => fun hA ha hb => by
    by_cases e1 : m = a + 1
    · exact symm_left g n cap a m b f w hn e1 h2 h3 hA hb
    · by_cases e2 : b = m + 1
      · exact symm_right g n cap a m b f w hn (by omega) e2 h3 hA ha
      · exact symm_main g n cap a m b f w hn (by omega) (by omega) h3 hA ha hb fun a' m' b' f' w' hlt => symm_all g n cap hn k a' m' b' f' w' (by omega)
theorem symm_calls (g n cap a m b : Nat) (A M B : Int) (f : Nat → Cn) (w : World) (ea : A = a) (em : M = m) (eb : B = b) (hn : n ≤ 9007199254740992) (h1 : a < m) (h2 : m < b) (h3 : b ≤ n) (hA : Arr w g n f) (ha : Sorted (win f a m)) (hb : Sorted (win f m b)) :
    Calls Try.prog 112 #[hv g n cap, .int .i64 A, .int .i64 M, .int .i64 B, cmpf] w (SymRes w g n a b f) := by
  subst ea; subst em; subst eb
  exact symm_all g n cap hn (b - a) a m b f w (Nat.le_refl _) h1 h2 h3 hA ha hb

/-- each stretch of t is sorted, as far as a -/
def BS (f : Nat → Cn) (a t : Nat) : Prop := ∀ x y, x < y → y < a → x / t = y / t → (f x).1 ≤ (f y).1
/-- each stretch of s is sorted, from a on -/
def Up (f : Nat → Cn) (a n s : Nat) : Prop := ∀ x y, a ≤ x → x < y → y < n → x / s = y / s → (f x).1 ≤ (f y).1
theorem BS.next {f g : Nat → Cn} {a b t c : Nat} (h : BS f a t) (ha : a = c * t) (ht : 0 < t) (hN : Anew f g a b) (hS : Sorted (win g a b)) : BS g b t := by
  intro x y h1 h2 h3
  by_cases hy : y < a
  · rw [hN.out x (by omega), hN.out y (by omega)]; exact h x y h1 hy h3
  · have q1 : c ≤ y / t := (Nat.le_div_iff_mul_le ht).2 (by omega)
    have q2 : c * t ≤ x := (Nat.le_div_iff_mul_le ht).1 (by omega)
    exact sorted_le hS (by omega) (by omega) h2
theorem Up.next {f g : Nat → Cn} {a b n s : Nat} (h : Up f a n s) (hab : a ≤ b) (hN : Anew f g a b) : Up g b n s := by
  intro x y h1 h2 h3 h4
  rw [hN.out x (by omega), hN.out y (by omega)]
  exact h x y (by omega) h2 h3 h4
theorem Up.win {f : Nat → Cn} {a n s q l r : Nat} (h : Up f a n s) (h1 : a ≤ l) (h2 : q * s ≤ l) (h3 : r ≤ (q + 1) * s) (h4 : r ≤ n) : Sorted (win f l r) :=
  sorted_win.2 fun x y p1 p2 p3 => h x y (by omega) p2 (by omega) (by rw [Nat.div_eq_of_lt_le (by omega) (by omega : x < (q + 1) * s), Nat.div_eq_of_lt_le (by omega) (by omega : y < (q + 1) * s)])
theorem BS.up {f : Nat → Cn} {n s : Nat} (h : BS f n s) : Up f 0 n s := fun x y _ h2 h3 h4 => h x y h2 h3 h4
theorem BS.zero (f : Nat → Cn) (t : Nat) : BS f 0 t := fun x y _ h2 => by omega
theorem BS.all {f : Nat → Cn} {n s : Nat} (h : BS f n s) (hs : n ≤ s) : Sorted (win f 0 n) :=
  sorted_win.2 fun x y _ h2 h3 => h x y h2 h3 (by rw [Nat.div_eq_of_lt (by omega), Nat.div_eq_of_lt (by omega)])
def St1 (w : World) (g n : Nat) (f : Nat → Cn) (p q : Value) (wr : World) : Prop := ∃ c a : Nat, ∃ h, p = .int .i64 a ∧ q = .int .i64 ((a : Int) + 20) ∧ a = c * 20 ∧ a ≤ n ∧ Anew f h 0 n ∧ BS h a 20 ∧ Only (· = g) w wr ∧ Arr wr g n h
def St2 (w : World) (g n : Nat) (f : Nat → Cn) (p : Value) (wr : World) : Prop := ∃ s : Nat, ∃ h, p = .int .i64 s ∧ 20 ≤ s ∧ s ≤ 2 * n + 20 ∧ Anew f h 0 n ∧ BS h n s ∧ Only (· = g) w wr ∧ Arr wr g n h
def St3 (w : World) (g n s : Nat) (f : Nat → Cn) (p q : Value) (wr : World) : Prop := ∃ c a : Nat, ∃ h, p = .int .i64 a ∧ q = .int .i64 ((a : Int) + 2 * s) ∧ a = c * (2 * s) ∧ a ≤ n ∧ Anew f h 0 n ∧ BS h a (2 * s) ∧ Up h a n s ∧ Only (· = g) w wr ∧ Arr wr g n h
set_option maxHeartbeats 4000000 in
set_option maxRecDepth 100000 in
theorem stable_calls (g n cap : Nat) (f : Nat → Cn) (w : World) (hn : n ≤ 9007199254740992) (hA : Arr w g n f) :
    Calls Try.prog 102 #[hv g n cap, .int .i64 n, cmpf] w (SymRes w g n 0 n f) := by
  have hA' := Lib.hid hA; clear hA
  unfold cmpf
  go_enter Try.func102, Try.ntmps102
  go_wp2_with fail
  go_loopw [7, 8] (fun p q wr => St1 w g n f p q wr) (fun p _ _ => n - (intOf p).toNat)
  case atStart => exact ⟨0, 0, f, rfl, rfl, by omega, Nat.zero_le _, Anew.refl _ _ _, BS.zero _ _, Only.refl _ _, hA'.out⟩
  case round =>
    obtain ⟨c, a, h, rfl, rfl, ha, han, hN, hB, O, hR⟩ := hrel
    have Ha := Lib.hid ha
    have N1 := Lib.hid hN
    have B1 := Lib.hid hB
    have O1 := Lib.hid O
    have R1 := Lib.hid hR
    clear ha hN hB O hR
    by_cases hlt : a + 20 ≤ n
    · have kt : decide ((a : Int) + 20 ≤ n) = true := by simp; omega
      go_wp2_with fail
      refine (insert_calls g n cap a (a + 20) h wr hn (by omega) hlt R1.out).mono ?_
      rintro e1 w1 ⟨rfl, O2, h2, R2, N2, S2⟩
      have X := Lib.hid (show St1 w g n f (.int .i64 ((a : Int) + 20)) (.int .i64 ((a : Int) + 20 + 20)) w1 from ⟨c + 1, a + 20, h2, by go_num, by go_num, by have := Ha.out; omega, hlt, N1.out.trans (N2.wide (by omega) (by omega) hlt), B1.out.next Ha.out (by decide) N2 S2, O1.out.trans O2, R2⟩)
      clear O2 R2 N2 S2
      go_wp2_with fail
      go_roundw
      case rel => exact X.out
      case measure => simp [intOf]; omega
    · have kt : decide ((a : Int) + 20 ≤ n) = false := by simp; omega
      go_wp2_with fail
      refine (insert_calls g n cap a n h wr hn (by omega) (Nat.le_refl _) R1.out).mono ?_
      rintro e1 w1 ⟨rfl, O2, h2, R2, N2, S2⟩
      have X := Lib.hid (show St2 w g n f (.int .i64 (20 : Nat)) w1 from ⟨20, h2, rfl, Nat.le_refl _, by omega, N1.out.trans (N2.wide (by omega) (by omega) (Nat.le_refl _)), B1.out.next Ha.out (by decide) N2 S2, O1.out.trans O2, R2⟩)
      clear O2 R2 N2 S2
      go_wp2_with fail
      go_loopw [6] (fun p wr => St2 w g n f p wr) (fun p _ => n - (intOf p).toNat)
      case atStart => exact X.out
      case round =>
        obtain ⟨s, h3, rfl, s1, s2, hN3, hB3, O3, hR3⟩ := hrel
        have N3 := Lib.hid hN3
        have B3 := Lib.hid hB3
        have P3 := Lib.hid O3
        have R3 := Lib.hid hR3
        clear hN3 hB3 O3 hR3
        by_cases hsn : s < n
        · go_wp2_with fail
          go_loopw [7, 8] (fun p q wr => St3 w g n s f p q wr) (fun p _ _ => n - (intOf p).toNat)
          case atStart => exact ⟨0, 0, h3, rfl, by congr 1 <;> omega, by omega, Nat.zero_le _, N3.out, BS.zero _ _, B3.out.up, P3.out, R3.out⟩
          case round =>
            obtain ⟨c4, a4, h4, rfl, rfl, ha4, han4, hN4, hB4, hU4, O4, hR4⟩ := hrel
            have hq : a4 = 2 * c4 * s := by rw [ha4, Nat.mul_comm 2 c4, Nat.mul_assoc]
            have hq1 : (2 * c4 + 1) * s = a4 + s := by rw [Nat.add_mul, ← hq]; omega
            have hq2 : (2 * c4 + 1 + 1) * s = a4 + s + s := by rw [Nat.add_mul, hq1]; omega
            have hq3 : (c4 + 1) * (2 * s) = a4 + 2 * s := by rw [Nat.add_mul, ← ha4]; omega
            have Q0 := Lib.hid hq
            have Q1 := Lib.hid hq1
            have Q2 := Lib.hid hq2
            have Q3 := Lib.hid hq3
            have Ha4 := Lib.hid ha4
            have N4 := Lib.hid hN4
            have B4 := Lib.hid hB4
            have U4 := Lib.hid hU4
            have P4 := Lib.hid O4
            have R4 := Lib.hid hR4
            clear hq hq1 hq2 hq3 ha4 hN4 hB4 hU4 O4 hR4
            by_cases hlt4 : a4 + 2 * s ≤ n
            · have kt : decide ((a4 : Int) + 2 * s ≤ n) = true := by simp; omega
              go_wp2_with fail
              refine (symm_calls g n cap a4 (a4 + s) (a4 + 2 * s) _ _ _ h4 _ (by omega) (by omega) (by omega) hn (by omega) (by omega) hlt4 R4.out (U4.out.win (q := 2 * c4) (Nat.le_refl _) (Nat.le_of_eq Q0.out.symm) (Nat.le_of_eq Q1.out.symm) (by omega)) (U4.out.win (q := 2 * c4 + 1) (by omega) (Nat.le_of_eq Q1.out) (by have := Q2.out; omega) hlt4)).mono ?_
              rintro e5 w5 ⟨rfl, O5, h5, R5, N5, S5⟩
              have X := Lib.hid (show St3 w g n s f (.int .i64 ((a4 : Int) + 2 * s)) (.int .i64 ((a4 : Int) + 2 * s + 2 * s)) w5 from ⟨c4 + 1, a4 + 2 * s, h5, by go_num, by congr 1 <;> omega, Q3.out.symm, hlt4, N4.out.trans (N5.wide (by omega) (by omega) hlt4), B4.out.next Ha4.out (by omega) N5 S5, U4.out.next (by omega) N5, P4.out.trans O5, R5⟩)
              clear O5 R5 N5 S5
              go_wp2_with fail
              go_roundw
              case rel => exact X.out
              case measure => simp [intOf]; omega
            · have kt : decide ((a4 : Int) + 2 * s ≤ n) = false := by simp; omega
              by_cases hm : a4 + s < n
              · have km : decide ((a4 : Int) + s < n) = true := by simp; omega
                go_wp2_with fail
                refine (symm_calls g n cap a4 (a4 + s) n _ _ _ h4 _ (by omega) (by omega) (by omega) hn (by omega) hm (Nat.le_refl _) R4.out (U4.out.win (q := 2 * c4) (Nat.le_refl _) (Nat.le_of_eq Q0.out.symm) (Nat.le_of_eq Q1.out.symm) (by omega)) (U4.out.win (q := 2 * c4 + 1) (by omega) (Nat.le_of_eq Q1.out) (by have := Q2.out; omega) (Nat.le_refl _))).mono ?_
                rintro e5 w5 ⟨rfl, O5, h5, R5, N5, S5⟩
                have X := Lib.hid (show St2 w g n f (.int .i64 ((s : Int) * 2)) w5 from ⟨2 * s, h5, by congr 1 <;> omega, by omega, by omega, N4.out.trans (N5.wide (by omega) (by omega) (Nat.le_refl _)), B4.out.next Ha4.out (by omega) N5 S5, P4.out.trans O5, R5⟩)
                clear O5 R5 N5 S5
                go_wp2_with fail
                go_roundw
                case rel => exact X.out
                case measure => simp [intOf]; omega
              · have km : decide ((a4 : Int) + s < n) = false := by simp; omega
                have X := Lib.hid (show St2 w g n f (.int .i64 ((s : Int) * 2)) wr from ⟨2 * s, h4, by congr 1 <;> omega, by omega, by omega, N4.out, B4.out.next Ha4.out (by omega) (Anew.refl h4 a4 n) (U4.out.win (q := 2 * c4) (Nat.le_refl _) (Nat.le_of_eq Q0.out.symm) (by have := Q1.out; omega) (Nat.le_refl _)), P4.out, R4.out⟩)
                go_wp2_with fail
                go_roundw
                case rel => exact X.out
                case measure => simp [intOf]; omega
        · go_wp2_with fail
          go_end0
          exact ⟨rfl, P3.out, h3, R3.out, N3.out, B3.out.all (by omega)⟩
theorem sort_calls (g n cap : Nat) (f : Nat → Cn) (w : World) (hn : n ≤ 9007199254740992) (hA : Arr w g n f) :
    Calls Try.prog 75 #[hv g n cap, cmpf] w (SymRes w g n 0 n f) := by
  have K := Lib.hid (stable_calls g n cap f w hn hA)
  clear hA
  go_enter Try.func75, Try.ntmps75
  go_wp2_with fail
  refine K.out.mono ?_
  rintro e1 w1 ⟨rfl, O1, h, R1, N1, S1⟩
  have X := Lib.hid (show SymRes w g n 0 n f (.returned (.tuple #[])) w1 from ⟨rfl, O1, h, R1, N1, S1⟩)
  clear O1 R1 N1 S1
  go_wp2_with fail
  go_end0
  exact X.out
end Go.Proofs.Ytimiojckinpfdaa

/- Plain facts: how the counts of one index come together, one behind the other. -/
namespace Go.Proofs.Ytimiojckinpfdaa.Srt

/-- the sums of L by rising index, some of them perhaps 0 -/
structure Pre (L R : List Cn) : Prop where
  up : Strict R
  lt : ∀ x ∈ R, x.2 < 18446744073709551616
  sum : ∀ k, sumK k R % 18446744073709551616 = sumK k L % 18446744073709551616
  key : ∀ x ∈ R, ∃ y ∈ L, y.1 = x.1
theorem pre_nil : Pre [] [] := ⟨List.Pairwise.nil, fun x hx => (by cases hx), fun _ => rfl, fun x hx => (by cases hx)⟩
theorem Pre.push {L R : List Cn} {c : Cn} (h : Pre L R) (hc : c.2 < 18446744073709551616) (hk : ∀ x ∈ L, x.1 < c.1) : Pre (L ++ [c]) (R ++ [c]) := by
  refine ⟨?_, ?_, ?_, ?_⟩
  · unfold Strict
    rw [List.pairwise_append]
    refine ⟨h.up, by simp, fun x hx y hy => ?_⟩
    simp at hy; subst hy
    obtain ⟨z, hz, e⟩ := h.key x hx
    have := hk z hz; omega
  · intro x hx
    rcases List.mem_append.1 hx with hx | hx
    · exact h.lt x hx
    · simp at hx; subst hx; exact hc
  · intro k
    rw [sumK_app, sumK_app, Nat.add_mod, h.sum, ← Nat.add_mod]
  · intro x hx
    rcases List.mem_append.1 hx with hx | hx
    · obtain ⟨z, hz, e⟩ := h.key x hx; exact ⟨z, by simp [hz], e⟩
    · exact ⟨x, by simp at hx; simp [hx], rfl⟩
theorem Pre.add {L R : List Cn} {y c : Cn} (h : Pre L (R ++ [y])) (hk : y.1 = c.1) : Pre (L ++ [c]) (R ++ [(y.1, (y.2 + c.2) % 18446744073709551616)]) := by
  have hu := h.up
  unfold Strict at hu
  rw [List.pairwise_append] at hu
  refine ⟨?_, ?_, ?_, ?_⟩
  · unfold Strict
    rw [List.pairwise_append]
    refine ⟨hu.1, by simp, fun x hx z hz => ?_⟩
    simp at hz; subst hz
    exact hu.2.2 x hx y (by simp)
  · intro x hx
    rcases List.mem_append.1 hx with hx | hx
    · exact h.lt x (by simp [hx])
    · simp at hx; subst hx; exact Nat.mod_lt _ (by omega)
  · intro k
    have e := h.sum k
    rw [sumK_app] at e
    rw [sumK_app, sumK_app]
    simp only [sumK] at e ⊢
    by_cases hy : y.1 = k
    · rw [if_pos hy] at e; rw [if_pos hy, if_pos (by omega)]; omega
    · rw [if_neg hy] at e; rw [if_neg hy, if_neg (by omega)]; omega
  · intro x hx
    rcases List.mem_append.1 hx with hx | hx
    · obtain ⟨z, hz, e⟩ := h.key x (by simp [hx]); exact ⟨z, by simp [hz], e⟩
    · simp at hx; subst hx; exact ⟨c, by simp, hk.symm⟩
theorem sumK_filter (k : Int) (l : List Cn) : sumK k (l.filter fun x => x.2 != 0) = sumK k l := by
  induction l with
  | nil => rfl
  | cons x t ih =>
    by_cases h : x.2 = 0
    · rw [List.filter_cons_of_neg (by simp [h]), ih]; simp [sumK, h]
    · rw [List.filter_cons_of_pos (by simp [h])]; simp only [sumK, ih]
theorem Pre.norm {L R : List Cn} (h : Pre L R) : Norm L (R.filter fun x => x.2 != 0) := by
  refine ⟨h.up.filter _, fun x hx => ?_, fun k => ?_⟩
  · obtain ⟨h1, h2⟩ := List.mem_filter.1 hx
    exact ⟨by simpa using h2, h.lt x h1⟩
  · rw [sumK_filter, h.sum]
theorem norm_nil : Norm [] [] := ⟨List.Pairwise.nil, fun x hx => (by cases hx), fun _ => rfl⟩
theorem Norm.key {L R : List Cn} (h : Norm L R) {x : Cn} (hx : x ∈ R) : ∃ y ∈ L, y.1 = x.1 := by
  by_cases hh : ∃ y ∈ L, y.1 = x.1
  · exact hh
  · exfalso
    have e : sumK x.1 L = 0 := sumK_none (fun y hy hk => hh ⟨y, hy, hk⟩)
    have h1 := h.sum x.1
    rw [e] at h1
    have h2 : sumK x.1 R = x.2 := by
      have : ∀ (l : List Cn), Strict l → x ∈ l → sumK x.1 l = x.2 := by
        intro l
        induction l with
        | nil => intro _ hx; cases hx
        | cons y t ih =>
          intro hs hx
          rcases List.mem_cons.1 hx with rfl | hx
          · exact strict_sum hs
          · have := (List.pairwise_cons.1 hs).1 x hx
            simp only [sumK]
            rw [if_neg (by omega), ih (List.pairwise_cons.1 hs).2 hx]; omega
      exact this R h.up hx
    rw [h2] at h1
    have := h.pos x hx
    rw [Nat.mod_eq_of_lt this.2] at h1
    simp at h1; omega
/-- how many, in all -/
def sumN : List Cn → Nat
  | [] => 0
  | x :: r => x.2 + sumN r
theorem sumN_app (l r : List Cn) : sumN (l ++ r) = sumN l + sumN r := by
  induction l with
  | nil => simp [sumN]
  | cons x t ih => simp only [List.cons_append, sumN, ih]; omega
theorem sumK_all {l : List Cn} {k : Int} (h : ∀ x ∈ l, x.1 = k) : sumK k l = sumN l := by
  induction l with
  | nil => rfl
  | cons x t ih => simp only [sumK, sumN]; rw [if_pos (h x (by simp)), ih (fun y hy => h y (by simp [hy]))]
/-- a row of one index is done -/
theorem Norm.group {L R G : List Cn} {k : Int} {s : Nat} (h : Norm L R) (hG : ∀ x ∈ G, x.1 = k) (hL : ∀ x ∈ L, x.1 < k) (hs : s = sumN G % 18446744073709551616) :
    Norm (L ++ G) (if s = 0 then R else R ++ [(k, s)]) := by
  have hR : ∀ x ∈ R, x.1 < k := fun x hx => by obtain ⟨y, hy, e⟩ := h.key hx; have := hL y hy; omega
  have sG : ∀ j, sumK j G = if j = k then sumN G else 0 := fun j => by
    split
    · rename_i e; subst e; exact sumK_all hG
    · rename_i e; exact sumK_none (fun x hx => by have := hG x hx; omega)
  split
  · rename_i e
    refine ⟨h.up, h.pos, fun j => ?_⟩
    rw [sumK_app, sG, h.sum]
    split
    · omega
    · rfl
  · rename_i e
    refine ⟨?_, ?_, fun j => ?_⟩
    · unfold Strict
      rw [List.pairwise_append]
      refine ⟨h.up, by simp, fun x hx z hz => ?_⟩
      simp at hz; subst hz; exact hR x hx
    · intro x hx
      rcases List.mem_append.1 hx with hx | hx
      · exact h.pos x hx
      · simp at hx; subst hx; exact ⟨e, by rw [hs]; exact Nat.mod_lt _ (by omega)⟩
    · rw [sumK_app, sumK_app, sG]
      have := h.sum j
      simp only [sumK]
      by_cases hj : j = k
      · rw [if_pos hj.symm, if_pos hj]; omega
      · rw [if_neg (fun e => hj e.symm), if_neg hj]; omega
theorem Norm.of_perm {L L' R : List Cn} (h : Norm L R) (p : L'.Perm L) : Norm L' R := ⟨h.up, h.pos, fun k => by rw [h.sum, sumK_perm p]⟩
end Go.Proofs.Ytimiojckinpfdaa.Srt

/- The walk of ranks.Merge at any lists. -/
namespace Go.Proofs.Ytimiojckinpfdaa
open Go.RowKit Srt

theorem u64_mod' (x : Int) : IntKind.u64.wrap x = x % 18446744073709551616 := by simp [IntKind.wrap, IntKind.signed, IntKind.bits]
structure MrIn (w : World) (g n : Nat) (s : Nat → Cn) (k m : Nat) (h : Nat → Cn) (v : Value) (wr : World) : Prop where
  kn : k ≤ n
  mle : m ≤ k
  own : wr.ownsRow w.heap.size 55 2 v m (cl h m)
  ne : ∀ b, v.ownBlock = some b → b ≠ g
  pre : Pre (win s 0 k) (win h 0 m)
  last : k = 0 ∨ (0 < k ∧ 0 < m ∧ (h (m - 1)).1 = (s (k - 1)).1)
  arr : Arr wr g n s
  only : Only (fun _ => False) w wr
def MR (w : World) (g n : Nat) (s : Nat → Cn) (v q : Value) (wr : World) : Prop := ∃ k m h, q = .int .i64 (k : Nat) ∧ MrIn w g n s k m h v wr
theorem arr_lt {w : World} {g n : Nat} {f : Nat → Cn} (h : Arr w g n f) : g < w.heap.size := by obtain ⟨X, h1, _⟩ := h; exact blk_lt h1
theorem mr_push {w wr wa w' : World} {g n k m : Nat} {s h : Nat → Cn} {v v' : Value} (H : MrIn w g n s k m h v wr) (hs : Sorted (win s 0 n)) (hb : ∀ i, i < n → (s i).2 < 18446744073709551616) (hk : k < n) (hne : k = 0 ∨ (s (k - 1)).1 ≠ (s k).1)
    (Oa : Only (fun _ => False) wr wa) (hg : Grew wa w' v v' (m * 2)) (ho : w'.ownsRow w.heap.size 55 2 v' (m + 1) (cl h m ++ [.int .i64 (s k).1, .int .u64 ((s k).2 : Nat)])) :
    MrIn w g n s (k + 1) (m + 1) (fun i => if i = m then s k else h i) v' w' := by
  have ha := H.arr.only Oa id
  refine ⟨hk, by have := H.mle; omega, ?_, fun b hb' => ?_, ?_, .inr ⟨by omega, by omega, ?_⟩, ?_, ?_⟩
  · rw [cl_snoc]
    have e1 : cl (fun i => if i = m then s k else h i) m = cl h m := cl_congr fun i hi => if_neg (by omega)
    rw [e1]
    have e2 : ci (fun i => if i = m then s k else h i) m = .int .i64 (s k).1 := by unfold ci; dsimp only; rw [if_pos rfl]
    have e3 : cn (fun i => if i = m then s k else h i) m = .int .u64 ((s k).2 : Nat) := by unfold cn; dsimp only; rw [if_pos rfl]
    rw [e2, e3]; exact ho
  · rcases hg.which with e | ⟨g', e, hge⟩
    · exact H.ne b (by rw [← e]; exact hb')
    · rw [e] at hb'; injection hb' with hb'
      have := arr_lt ha; omega
  · rw [win_snoc s (Nat.zero_le _), win_put]
    refine H.pre.push (hb k hk) fun x hx => ?_
    obtain ⟨i, _, hi, rfl⟩ := mem_win.1 hx
    rcases hne with e | e
    · omega
    · have h1 := sorted_le hs (Nat.zero_le i) (show i ≤ k - 1 by omega) (by omega)
      have h2 := sorted_le hs (Nat.zero_le (k - 1)) (show k - 1 ≤ k by omega) hk
      omega
  · rw [show m + 1 - 1 = m by omega, if_pos rfl, show k + 1 - 1 = k by omega]
  · obtain ⟨X, h1, h2⟩ := ha
    refine ⟨X, ?_, h2⟩
    rw [hg.grown.block g (blk_lt h1) (fun e => H.ne g e.symm rfl), h1]
  · refine (H.only.trans Oa).grown hg.grown fun b hb' => .inl ?_
    obtain ⟨q, _⟩ := own_tag H.own hb'
    exact q
theorem mr_add {w wr wa : World} {g n k m g' cap : Nat} {s h : Nat → Cn} (H : MrIn w g n s k m h (hv g' m cap) wr) (hk : k < n) (hk0 : 0 < k) (he : (s (k - 1)).1 = (s k).1)
    (Oa : Only (fun _ => False) wr wa) {z : Nat} (hz : z = ((h (m - 1)).2 + (s k).2) % 18446744073709551616) :
    MrIn w g n s (k + 1) m (fun i => if i = m - 1 then ((h (m - 1)).1, z) else h i) (hv g' m cap) (wa.setCell ⟨g', (m - 1) * 2 + 1, none⟩ (.int .u64 (z : Nat))) := by
  have ha := H.arr.only Oa id
  have hm : 0 < m := by rcases H.last with e | ⟨_, e, _⟩ <;> omega
  have hl : (h (m - 1)).1 = (s (k - 1)).1 := by rcases H.last with e | ⟨_, _, e⟩; omega; exact e
  have hgg : g' ≠ g := H.ne g' rfl
  have hgb : w.heap.size ≤ g' := (own_tag H.own rfl).1
  have hR : RowC wa g' m cap h := by
    rcases own_row H.own with ⟨e, _⟩ | ⟨g2, cap2, e, _, R⟩
    · simp [hv] at e
    · simp [hv] at e
      obtain ⟨e1, e2⟩ := e
      subst e1; subst e2
      exact R.only Oa id
  refine ⟨hk, by have := H.mle; omega, (hR.put2 (m - 1) z).own hgb, H.ne, ?_, .inr ⟨by omega, hm, ?_⟩, ?_, ?_⟩
  · rw [win_snoc s (Nat.zero_le _)]
    obtain ⟨q, rfl⟩ : ∃ q, m = q + 1 := ⟨m - 1, by omega⟩
    rw [show q + 1 - 1 = q by omega] at *
    rw [win_put, hz]
    have hp := H.pre
    rw [win_snoc h (Nat.zero_le _)] at hp
    exact hp.add (by rw [hl, he])
  · rw [if_pos rfl, show k + 1 - 1 = k by omega]
    show (h (m - 1)).1 = _
    rw [hl, he]
  · exact ha.only (Only.set1 g' wa _ _) (fun e => hgg e.symm)
  · exact (H.only.trans Oa).setCell (p := ⟨g', _, none⟩) (.inl hgb) _
theorem MrIn.drew {w : World} {g n k m : Nat} {s h : Nat → Cn} {v : Value} {wr : World} (H : MrIn w g n s k m h v wr) : MrIn w g n s k m h v wr.drew :=
  ⟨H.kn, H.mle, H.own, H.ne, H.pre, H.last, H.arr, H.only.drew⟩
theorem own_keep {w w' : World} {base e size n : Nat} {v : Value} {xs : List Value} (h : w.ownsRow base e size v n xs) (O : Only (fun _ => False) w w') : w'.ownsRow base e size v n xs :=
  own_block h fun g hg => by obtain ⟨_, cur, q⟩ := own_tag h hg; rw [O.blk q id, q]
theorem mr_row {w : World} {g n k m : Nat} {s h : Nat → Cn} {v : Value} {wr wa : World} (H : MrIn w g n s k m h v wr) (hm : 0 < k) (O : Only (fun _ => False) wr wa) : 0 < m ∧ ∃ g' cap, v = hv g' m cap ∧ RowC wa g' m cap h := by
  have hm' : 0 < m := by rcases H.last with e | ⟨_, e, _⟩ <;> omega
  refine ⟨hm', ?_⟩
  rcases own_row H.own with ⟨_, e⟩ | ⟨g2, cap2, e, _, R⟩
  · omega
  · exact ⟨g2, cap2, e, R.only O id⟩
theorem box_src (w : World) (x y : Value) : ∀ (ad : Addr) j u, some (⟨w.heap.size, 0, none⟩ : Addr) = some ad → [x, y][j]? = some u → (w.alloc (.cells #[x, y] 55)).cell? (ad.add j) = some u := by
  intro ad j u h hu
  injection h with h; subst h
  have hb := blk_new w (.cells #[x, y] 55)
  have ha : (⟨w.heap.size, 0, none⟩ : Addr).add j = ⟨w.heap.size, j, none⟩ := by unfold Addr.add; split <;> simp_all
  rw [ha, blk_cell hb]; simpa using hu
/-- what Merge answers: rising counts, none of them 0, whose sums are those of the two lists -/
def RkRes (w : World) (L : List Cn) (e : Ending) (w' : World) : Prop := ∃ v m h, e = .returned v ∧ Only (fun _ => False) w w' ∧ w'.ownsRow w.heap.size 55 2 v m (cl h m) ∧ Norm L (win h 0 m) ∧ m ≤ L.length
theorem rk_nil (w w' : World) (O : Only (fun _ => False) w w') : RkRes w [] (.returned (.slice none 0 0)) w' :=
  ⟨_, 0, fun _ => (0, 0), rfl, O, ⟨rfl, .inl ⟨rfl, rfl⟩⟩, norm_nil, Nat.le_refl _⟩
theorem rk_end {w w1 wr : World} {g n m : Nat} {s h : Nat → Cn} {v : Value} {L : List Cn} (H : MrIn w1 g n s n m h v wr) (O1 : Only (fun _ => False) w w1) (hp : (win s 0 n).Perm L) :
    (v = .slice none 0 0 → RkRes w L (.returned (.slice none 0 0)) wr) ∧
    (∀ g' cap, v = hv g' m cap → RowC wr g' m cap h ∧ ∀ e w', DelRes wr g' m cap h e w' → RkRes w L e w') := by
  have hlen : n = L.length := by rw [← hp.length_eq, win_len]; omega
  constructor
  · rintro rfl
    have hm : m = 0 := by
      rcases H.own.2 with ⟨_, e⟩ | ⟨_, _, _, e, _⟩
      · exact e
      · cases e
    subst hm
    refine ⟨_, 0, h, rfl, O1.trans H.only, ⟨rfl, .inl ⟨rfl, rfl⟩⟩, ?_, Nat.zero_le _⟩
    have := H.pre.norm
    rw [win_nil h (Nat.le_refl _)] at this ⊢
    exact this.of_perm hp.symm
  · rintro g' cap rfl
    have hgb : w1.heap.size ≤ g' := (own_tag H.own rfl).1
    rcases own_row H.own with ⟨e, _⟩ | ⟨g2, cap2, e, _, R⟩
    · simp [hv] at e
    · simp [hv] at e
      obtain ⟨e1, e2⟩ := e
      subst e1; subst e2
      refine ⟨R, fun e w' => ?_⟩
      rintro ⟨i, h2, rfl, hi, hw, R2, O2⟩
      refine ⟨_, i, h2, rfl, ?_, R2.own (Nat.le_trans O1.size hgb), ?_, by have := H.mle; omega⟩
      · exact (O1.trans H.only).seq2 O2 (by rintro j rfl; exact .inl (Nat.le_trans O1.size hgb))
      · rw [hw]; exact H.pre.norm.of_perm hp.symm
set_option maxRecDepth 100000 in
set_option maxHeartbeats 8000000 in
theorem rkmerge_calls (p1 p2 : Option Addr) (n1 n2 k1 k2 : Nat) (c1 c2 : Nat → Cn) (w : World) (hc1 : Cnts w p1 n1 c1) (hc2 : Cnts w p2 n2 c2) (e1 : p1 = none → n1 = 0) (e2 : p2 = none → n2 = 0) (hn : n1 + n2 ≤ 8796093022208)
    (hb1 : ∀ i, i < n1 → (c1 i).2 < 18446744073709551616) (hb2 : ∀ i, i < n2 → (c2 i).2 < 18446744073709551616) :
    Calls Try.prog 47 #[.slice p1 n1 k1, .slice p2 n2 k2] w (RkRes w (win c1 0 n1 ++ win c2 0 n2)) := by
  obtain ⟨i3, hi3, hz3, hs3, hb3⟩ := info_parts info55
  have d0 : (w.alloc (.cells #[.slice p1 n1 k1, .slice p2 n2 k2] 36)).cell? ⟨w.heap.size, 0, none⟩ = some (.slice p1 n1 k1) := by rw [blk_cell (blk_new _ _)]; rfl
  have d1 : (w.alloc (.cells #[.slice p1 n1 k1, .slice p2 n2 k2] 36)).cell? ⟨w.heap.size, 1, none⟩ = some (.slice p2 n2 k2) := by rw [blk_cell (blk_new _ _)]; rfl
  have O0 := (Only.refl (fun _ => False) w).alloc (.cells #[.slice p1 n1 k1, .slice p2 n2 k2] 36)
  have K := Lib.hid (concat_calls _ p1 p2 n1 n2 k1 k2 c1 c2 _ d0 d1 (hc1.only O0 (fun _ _ h => h)) (hc2.only O0 (fun _ _ h => h)) e1 e2 hn)
  have hw : win (cat c1 c2 n1) 0 (n1 + n2) = win c1 0 n1 ++ win c2 0 n2 := win_cat c1 c2 n1 n2
  have HB := Lib.hid (show ∀ x ∈ win c1 0 n1 ++ win c2 0 n2, x.2 < 18446744073709551616 by
    intro x hx
    rcases List.mem_append.1 hx with hx | hx
    · obtain ⟨k, _, hk, rfl⟩ := mem_win.1 hx; exact hb1 k hk
    · obtain ⟨k, _, hk, rfl⟩ := mem_win.1 hx; exact hb2 k hk)
  have HW := Lib.hid hw
  have HO0 := Lib.hid O0
  have hnn : n1 + n2 ≤ 9007199254740992 := by omega
  clear d0 d1 O0 hc1 hc2 e1 e2 hb1 hb2 hw
  generalize hL : win c1 0 n1 ++ win c2 0 n2 = L at *
  generalize hc : cat c1 c2 n1 = c at *
  clear hL hc
  generalize hnN : n1 + n2 = n at *
  clear hnN
  go_enter Try.func47, Try.ntmps47
  go_wp2_with fail
  refine K.out.mono ?_
  rintro e w1 ⟨v1, rfl, O1, R1⟩
  rcases own_row R1 with ⟨rfl, hn0⟩ | ⟨g, cap, rfl, hg, R⟩
  · have hL : L = [] := by rw [← HW.out, hn0]; rfl
    have X := Lib.hid (show ∀ w', Only (fun _ => False) w1 w' → RkRes w L (.returned (.slice none 0 0)) w' from fun w' O => by rw [hL]; exact rk_nil w w' ((HO0.out.trans O1).trans O))
    clear R1 O1 hL
    go_wp2_with fail
    refine (sort_nil _ _).mono ?_
    rintro e w2 ⟨rfl, hw⟩; rw [hw]; clear hw w2
    go_wp2_with fail
    refine wp_loop_rounds 1 ?_
    rw [rounds_succ]
    go_wp2_with fail
    refine (delete_nil _ _).mono ?_
    rintro e w2 ⟨rfl, hw⟩; rw [hw]; clear hw w2
    go_wp2_with fail
    go_ret
    exact X.out _ (Only.refl _ _)
  · have KS := Lib.hid (sort_calls g n cap c w1 hnn R.arr)
    have HO1 := Lib.hid O1
    have hgw : (w.alloc (.cells #[.slice p1 n1 k1, .slice p2 n2 k2] 36)).heap.size ≤ g := hg
    have HG := Lib.hid hgw
    clear R1 O1 R hg hgw K
    go_wp2_with fail
    refine KS.out.mono ?_
    rintro e w2 ⟨rfl, O2, s, A2, N2, S2⟩
    have O2' := (HO0.out.trans HO1.out).seq2 O2 (S := fun _ => False) (by rintro i rfl; have := HG.out; have := HO0.out.size; exact .inl (by omega))
    have P2 : (win s 0 n).Perm L := by rw [← HW.out]; exact N2.perm
    have B2 : ∀ i, i < n → (s i).2 < 18446744073709551616 := fun i hi => HB.out (s i) (P2.mem_iff.1 (mem_win.2 ⟨i, Nat.zero_le _, hi, rfl⟩))
    have HP := Lib.hid P2
    have HB2 := Lib.hid B2
    have HS := Lib.hid S2
    have HO2 := Lib.hid O2'
    have HA := Lib.hid A2
    clear O2 O2' P2 B2 S2 A2 N2 KS
    go_wp2_with fail
    go_loopw [6, 17] (fun v q wr => MR w2 g n s v q wr) (fun _ q _ => n - (intOf q).toNat)
    case atStart => exact ⟨0, 0, fun _ => (0, 0), rfl, Nat.zero_le _, Nat.le_refl _, ⟨rfl, .inl ⟨rfl, rfl⟩⟩, (by intro b hb; cases hb), pre_nil, .inl rfl, HA.out, Only.refl _ _⟩
    case round =>
      obtain ⟨k, m, h, rfl, H⟩ := hrel
      have hkn := H.kn
      have hmk := H.mle
      by_cases hlt : k < n
      · obtain ⟨d0, d1, d2, d3⟩ := H.arr.get hlt
        have hgl := arr_lt H.arr
        rcases hx : s k with ⟨u, y⟩
        rw [hx] at d0 d1
        dsimp only at d0 d1
        have HX := Lib.hid hx
        have HM := Lib.hid H
        clear hx d2 d3
        by_cases hk0 : k = 0
        · have kg : decide ((k : Int) > 0) = false := by simp; omega
          have kg2 : decide (0 < k) = false := by simp; omega
          have HNE := Lib.hid (show k = 0 ∨ (s (k - 1)).1 ≠ (s k).1 from .inl hk0)
          have hk00 : k ≤ 0 := by omega
          clear H hk0
          go_wp2_with fail
          go_quiet (fail)
          have hOa := (((Only.refl (fun _ => False) wr).alloc (.cells #[.int .i64 u, .int .u64 (y : Nat)] 55)).drewN nq)
          have hbx : ((wr.alloc (.cells #[.int .i64 u, .int .u64 (y : Nat)] 55)).drewN nq).heap[wr.heap.size]? = some (.cells #[.int .i64 u, .int .u64 (y : Nat)] 55) := blk_new wr _
          have f0 : ((wr.alloc (.cells #[.int .i64 u, .int .u64 (y : Nat)] 55)).drewN nq).cell? ⟨wr.heap.size, 0, none⟩ = some (.int .i64 u) := blk_cell hbx 0
          have f1 : ((wr.alloc (.cells #[.int .i64 u, .int .u64 (y : Nat)] 55)).drewN nq).cell? ⟨wr.heap.size, 1, none⟩ = some (.int .u64 (y : Nat)) := blk_cell hbx 1
          have HOa := Lib.hid hOa
          clear hOa hbx d0 d1
          generalize (wr.alloc (.cells #[.int .i64 u, .int .u64 (y : Nat)] 55)).drewN nq = wa at *

          go_wp2_with (at_builtin; go_loud (refine wpList_append_any _ rfl (.tmp 47) (.tmp 49) 36 rfl 55 i3 (.agg #[.int .i64 0, .int .u64 0]) 2 16 Try.underlying36 hi3 hz3 hs3 hb3 rfl (by decide) w2.heap.size m _ (cl h m) (by simp [Act.eval]) (own_keep HM.out.own (HOa.out.alloc _)) (by have := HM.out.only.size; have := HOa.out.size; simp; omega) (some ⟨wa.heap.size, 0, none⟩) 1 1 [.int .i64 u, .int .u64 (y : Nat)] (by simp [Act.eval]) (by simp) rfl (box_src wa _ _) (by simp [Value.oneCell']) (by unfold maxLen; omega) (by omega) ?_; intro v' w' hgr hown; have N := Lib.hid (show MR w2 g n s v' (.int .i64 ((k : Int) + 1)) w' from ⟨k + 1, m + 1, _, by go_num, mr_push HM.out HS.out HB2.out hlt HNE.out (HOa.out.alloc _) hgr (by rw [HX.out]; exact hown)⟩); clear hgr hown))
          go_roundw
          case rel => exact N.out
          case measure => simp [intOf]; omega
        · obtain ⟨q, hq⟩ : ∃ q, k = q + 1 := ⟨k - 1, by omega⟩
          have kg : decide ((k : Int) > 0) = true := by simp; omega
          have kg2 : decide (0 < k) = true := by simp; omega
          have kp : 0 < k := by omega
          have wq : IntKind.i64.wrap ((k : Int) - 1) = (q : Int) := i64_of q (by omega) (by omega)
          have hqn : q < n := by omega
          obtain ⟨d4, _, _, _⟩ := H.arr.get hqn
          have hqk : k - 1 = q := by omega
          by_cases he : (s q).1 = u
          · rw [he] at d4
            have HE := Lib.hid (show (s (k - 1)).1 = (s k).1 by rw [hqk, HX.out]; exact he)
            clear H hk0 hq hqk he
            go_wp2_with fail
            go_quiet (fail)
            have hOa := (((Only.refl (fun _ => False) wr).alloc (.cells #[.int .i64 u, .int .u64 (y : Nat)] 55)).drewN nq)
            have hbx : ((wr.alloc (.cells #[.int .i64 u, .int .u64 (y : Nat)] 55)).drewN nq).heap[wr.heap.size]? = some (.cells #[.int .i64 u, .int .u64 (y : Nat)] 55) := blk_new wr _
            have f0 : ((wr.alloc (.cells #[.int .i64 u, .int .u64 (y : Nat)] 55)).drewN nq).cell? ⟨wr.heap.size, 0, none⟩ = some (.int .i64 u) := blk_cell hbx 0
            have f1 : ((wr.alloc (.cells #[.int .i64 u, .int .u64 (y : Nat)] 55)).drewN nq).cell? ⟨wr.heap.size, 1, none⟩ = some (.int .u64 (y : Nat)) := blk_cell hbx 1
            have HOa := Lib.hid hOa
            clear hOa hbx d0 d1
            generalize (wr.alloc (.cells #[.int .i64 u, .int .u64 (y : Nat)] 55)).drewN nq = wa at *

            obtain ⟨hm0, g', cap', rfl, hR⟩ := mr_row HM.out kp HOa.out
            obtain ⟨t, ht⟩ : ∃ t, t = m - 1 := ⟨_, rfl⟩
            have wt : IntKind.i64.wrap ((m : Int) - 1) = (t : Int) := i64_of t (by omega) (by omega)
            have htm : t < m := by omega
            obtain ⟨_, r1, _, r3⟩ := hR.arr.get htm
            rcases hh : h t with ⟨a, b⟩
            rw [hh] at r1
            dsimp only at r1
            obtain ⟨z, hz⟩ : ∃ z, z = (b + y) % 18446744073709551616 := ⟨_, rfl⟩
            have wz : IntKind.u64.wrap ((b : Int) + y) = ((z : Nat) : Int) := by rw [u64_mod', hz]; omega
            have N := Lib.hid (show MR w2 g n s (hv g' m cap') (.int .i64 ((k : Int) + 1)) (wa.setCell ⟨g', t * 2 + 1, none⟩ (.int .u64 (z : Nat))).drew from ⟨k + 1, m, _, by go_num, MrIn.drew (by rw [ht]; exact mr_add HM.out hlt kp HE.out HOa.out (by rw [← ht, hh, HX.out]; exact hz))⟩)
            clear hz hh ht hR
            go_wp2_with fail
            go_region
            all_goals
              go_wp2_with fail
              exact ⟨N.out, by simp [intOf]; omega⟩
          · have kf : ((s q).1 == u) = false := by simp; exact he
            have HNE := Lib.hid (show k = 0 ∨ (s (k - 1)).1 ≠ (s k).1 from .inr (by rw [hqk, HX.out]; exact he))
            generalize (s q).1 = u2 at *
            clear H hk0 hq hqk he
            go_wp2_with fail
            go_quiet (fail)
            have hOa := (((Only.refl (fun _ => False) wr).alloc (.cells #[.int .i64 u, .int .u64 (y : Nat)] 55)).drewN nq)
            have hbx : ((wr.alloc (.cells #[.int .i64 u, .int .u64 (y : Nat)] 55)).drewN nq).heap[wr.heap.size]? = some (.cells #[.int .i64 u, .int .u64 (y : Nat)] 55) := blk_new wr _
            have f0 : ((wr.alloc (.cells #[.int .i64 u, .int .u64 (y : Nat)] 55)).drewN nq).cell? ⟨wr.heap.size, 0, none⟩ = some (.int .i64 u) := blk_cell hbx 0
            have f1 : ((wr.alloc (.cells #[.int .i64 u, .int .u64 (y : Nat)] 55)).drewN nq).cell? ⟨wr.heap.size, 1, none⟩ = some (.int .u64 (y : Nat)) := blk_cell hbx 1
            have HOa := Lib.hid hOa
            clear hOa hbx d0 d1
            generalize (wr.alloc (.cells #[.int .i64 u, .int .u64 (y : Nat)] 55)).drewN nq = wa at *

            go_wp2_with (at_builtin; go_loud (refine wpList_append_any _ rfl (.tmp 47) (.tmp 49) 36 rfl 55 i3 (.agg #[.int .i64 0, .int .u64 0]) 2 16 Try.underlying36 hi3 hz3 hs3 hb3 rfl (by decide) w2.heap.size m _ (cl h m) (by simp [Act.eval]) (own_keep HM.out.own (HOa.out.alloc _)) (by have := HM.out.only.size; have := HOa.out.size; simp; omega) (some ⟨wa.heap.size, 0, none⟩) 1 1 [.int .i64 u, .int .u64 (y : Nat)] (by simp [Act.eval]) (by simp) rfl (box_src wa _ _) (by simp [Value.oneCell']) (by unfold maxLen; omega) (by omega) ?_; intro v' w' hgr hown; have N := Lib.hid (show MR w2 g n s v' (.int .i64 ((k : Int) + 1)) w' from ⟨k + 1, m + 1, _, by go_num, mr_push HM.out HS.out HB2.out hlt HNE.out (HOa.out.alloc _) hgr (by rw [HX.out]; exact hown)⟩); clear hgr hown))
            go_roundw
            case rel => exact N.out
            case measure => simp [intOf]; omega
      · obtain rfl : k = n := by omega
        obtain ⟨q1, q2⟩ := rk_end H HO2.out HP.out
        rcases own_row H.own with ⟨rfl, _⟩ | ⟨g', cap', rfl, _, _⟩
        · have X := Lib.hid (q1 rfl)
          clear q1 q2 H
          go_wp2_with fail
          refine (delete_nil _ _).mono ?_
          rintro e w3 ⟨rfl, hw⟩; rw [hw]; clear hw w3
          go_wp2_with fail
          go_ret
          exact X.out
        · obtain ⟨R3, q3⟩ := q2 g' cap' rfl
          have X := Lib.hid q3
          have KD := Lib.hid (delete_calls g' m cap' h wr (by omega) R3)
          clear q1 q2 q3 H R3
          go_wp2_with fail
          refine KD.out.mono ?_
          intro e w3 hD
          have Y := Lib.hid (X.out _ _ hD)
          obtain ⟨i5, h5, he5, _⟩ := hD
          subst he5
          go_wp2_with fail
          go_ret
          exact Y.out
end Go.Proofs.Ytimiojckinpfdaa
