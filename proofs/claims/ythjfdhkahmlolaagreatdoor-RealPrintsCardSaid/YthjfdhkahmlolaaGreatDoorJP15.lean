/- The multiprecision decimal of strconv as a block; trim. -/
import Derived.Test.YthjfdhkahmlolaaGreatDoorJP01
import Derived.WalkMore
import Derived.Deep.QuietTactic
import Derived.BigQuiet
import Derived.IntWalk
import Derived.LoopN
import Derived.Test.YthjfdhkahmlolaaGreatDoorJP04
namespace Go.Proofs.YthjfdhkahmlolaaGreatDoor
open Go.RowKit
set_option maxRecDepth 100000
/-- block b has n cells of the type t, as F tells -/
def Fb (w : World) (b n : Nat) (t : TypeId) (F : Nat → Value) : Prop := ∃ cs : Array Value, w.heap[b]? = some (.cells cs t (0, 0)) ∧ cs.size = n ∧ ∀ k, k < n → cs[k]? = some (F k)
section
variable {w w' : World} {b n : Nat} {t : TypeId} {F : Nat → Value}
theorem Fb.cell (h : Fb w b n t F) {k : Nat} (hk : k < n) : w.cell? ⟨b, k, none⟩ = some (F k) := by
  obtain ⟨cs, h1, _, h3⟩ := h
  rw [blk_cell h1, h3 k hk]
theorem Fb.free (h : Fb w b n t F) (k : Nat) : w.frozen? ⟨b, k, none⟩ = false := by
  obtain ⟨cs, h1, _⟩ := h
  exact blk_free h1 k
theorem Fb.set (h : Fb w b n t F) (i : Nat) (v : Value) : Fb (w.setCell ⟨b, i, none⟩ v) b n t (fun k => if k = i then v else F k) := by
  obtain ⟨cs, h1, h2, h3⟩ := h
  refine ⟨_, blk_set h1 i v, by simpa using h2, fun k hk => ?_⟩
  rw [Array.getElem?_setIfInBounds]
  by_cases e : i = k
  · subst e; simp; omega
  · rw [if_neg e]; show cs[k]? = some (if k = i then v else F k); rw [if_neg (fun q : k = i => e q.symm)]; exact h3 k hk
theorem Fb.only {S : Nat → Prop} (h : Fb w b n t F) (O : Only S w w') (hs : ¬ S b) : Fb w' b n t F := by
  obtain ⟨cs, h1, h2⟩ := h
  exact ⟨cs, O.blk h1 hs, h2⟩
theorem Fb.congr {G : Nat → Value} (h : Fb w b n t F) (e : ∀ k, k < n → F k = G k) : Fb w b n t G := by
  obtain ⟨cs, h1, h2, h3⟩ := h
  exact ⟨cs, h1, h2, fun k hk => by rw [h3 k hk, e k hk]⟩
theorem Fb.lt (h : Fb w b n t F) : b < w.heap.size := by
  obtain ⟨cs, h1, _⟩ := h
  exact blk_lt h1
end
/-- the cells of a decimal -/
def dcF (g : Nat → Nat) (nd : Nat) (dp : Int) (ng tr : Bool) (k : Nat) : Value :=
  if k < 800 then .int .u8 (g k : Int) else if k = 800 then .int .i64 (nd : Int) else if k = 801 then .int .i64 dp else if k = 802 then .bool ng else .bool tr
def DecB (w : World) (b : Nat) (g : Nat → Nat) (nd : Nat) (dp : Int) (ng tr : Bool) : Prop := Fb w b 804 127 (dcF g nd dp ng tr)
section
variable {w w' : World} {b nd : Nat} {g : Nat → Nat} {dp : Int} {ng tr : Bool}
theorem DecB.dig (h : DecB w b g nd dp ng tr) {i : Nat} (hi : i < 800) : w.cell? ⟨b, i, none⟩ = some (.int .u8 (g i : Int)) := by
  rw [Fb.cell h (by omega)]; unfold dcF; rw [if_pos hi]
theorem DecB.cnd (h : DecB w b g nd dp ng tr) : w.cell? ⟨b, 800, none⟩ = some (.int .i64 (nd : Int)) := Fb.cell h (by omega)
theorem DecB.cdp (h : DecB w b g nd dp ng tr) : w.cell? ⟨b, 801, none⟩ = some (.int .i64 dp) := Fb.cell h (by omega)
theorem DecB.cng (h : DecB w b g nd dp ng tr) : w.cell? ⟨b, 802, none⟩ = some (.bool ng) := Fb.cell h (by omega)
theorem DecB.ctr (h : DecB w b g nd dp ng tr) : w.cell? ⟨b, 803, none⟩ = some (.bool tr) := Fb.cell h (by omega)
theorem DecB.free (h : DecB w b g nd dp ng tr) (i : Nat) : w.frozen? ⟨b, i, none⟩ = false := Fb.free h i
theorem DecB.only {S : Nat → Prop} (h : DecB w b g nd dp ng tr) (O : Only S w w') (hs : ¬ S b) : DecB w' b g nd dp ng tr := Fb.only h O hs
theorem DecB.drewN (h : DecB w b g nd dp ng tr) (n : Nat) : DecB (w.drewN n) b g nd dp ng tr := h
theorem DecB.setD (h : DecB w b g nd dp ng tr) {i : Nat} (hi : i < 800) (x : Nat) : DecB (w.setCell ⟨b, i, none⟩ (.int .u8 (x : Int))) b (fun k => if k = i then x else g k) nd dp ng tr := by
  refine (Fb.set h i _).congr fun k hk => ?_
  by_cases e : k = i
  · subst e; simp only [if_true]; unfold dcF; rw [if_pos hi]; simp
  · rw [if_neg e]; unfold dcF; simp only [if_neg e]
theorem DecB.setE (h : DecB w b g nd dp ng tr) {i : Nat} (hi : i < 800) {x : Nat} {v : Int} (e : v = (x : Int)) : DecB (w.setCell ⟨b, i, none⟩ (.int .u8 v)) b (fun k => if k = i then x else g k) nd dp ng tr := by
  subst e; exact h.setD hi x
theorem DecB.setN (h : DecB w b g nd dp ng tr) (x : Nat) : DecB (w.setCell ⟨b, 800, none⟩ (.int .i64 (x : Int))) b g x dp ng tr := by
  refine (Fb.set h 800 _).congr fun k hk => ?_
  by_cases e : k = 800
  · subst e; rfl
  · rw [if_neg e]; unfold dcF; rw [if_neg e, if_neg e]
theorem DecB.setM (h : DecB w b g nd dp ng tr) {x : Nat} {v : Int} (e : v = (x : Int)) : DecB (w.setCell ⟨b, 800, none⟩ (.int .i64 v)) b g x dp ng tr := by
  subst e; exact h.setN x
theorem DecB.setP (h : DecB w b g nd dp ng tr) (x : Int) : DecB (w.setCell ⟨b, 801, none⟩ (.int .i64 x)) b g nd x ng tr := by
  refine (Fb.set h 801 _).congr fun k hk => ?_
  by_cases e : k = 801
  · subst e; rfl
  · rw [if_neg e]; unfold dcF; rw [if_neg e, if_neg e]
theorem DecB.setG (h : DecB w b g nd dp ng tr) (x : Bool) : DecB (w.setCell ⟨b, 802, none⟩ (.bool x)) b g nd dp x tr := by
  refine (Fb.set h 802 _).congr fun k hk => ?_
  by_cases e : k = 802
  · subst e; rfl
  · rw [if_neg e]; unfold dcF; rw [if_neg e, if_neg e]
theorem DecB.setT (h : DecB w b g nd dp ng tr) (x : Bool) : DecB (w.setCell ⟨b, 803, none⟩ (.bool x)) b g nd dp ng x := by
  refine (Fb.set h 803 _).congr fun k hk => ?_
  by_cases e : k = 803
  · subst e; rfl
  · rw [if_neg e]; unfold dcF
    by_cases h1 : k < 800
    · rw [if_pos h1, if_pos h1]
    · by_cases h2 : k = 800
      · subst h2; rfl
      · by_cases h3 : k = 801
        · subst h3; rfl
        · by_cases h4 : k = 802
          · subst h4; rfl
          · exact absurd hk (by omega)
end
theorem only_set {w w2 : World} {b : Nat} (O : Only (· = b) w w2) (i : Nat) (v : Value) : Only (· = b) w (w2.setCell ⟨b, i, none⟩ v) := O.setCell (p := ⟨b, i, none⟩) (.inr rfl) v
/-- what trim leaves -/
def TrimPost (b : Nat) (g : Nat → Nat) (nd : Nat) (dp : Int) (ng tr : Bool) (w : World) (e : Ending) (w' : World) : Prop :=
  e = .returned (.tuple #[]) ∧ Only (· = b) w w' ∧ ∃ n', n' ≤ nd ∧ DecB w' b g n' (if n' = 0 then 0 else dp) ng tr ∧ (1 ≤ nd → g 0 ≠ 48 → 1 ≤ n')
set_option maxHeartbeats 1000000 in
theorem trim_calls {w : World} {b nd : Nat} {g : Nat → Nat} {dp : Int} {ng tr : Bool} (h : DecB w b g nd dp ng tr) (hn : nd ≤ 800) :
    Calls Tryz.prog 143 #[.pointer (some ⟨b, 0, none⟩)] w (TrimPost b g nd dp ng tr w) := by
  have H := Lib.hid h; clear h
  go_enter Tryz.func143, Tryz.ntmps143
  go_wp2_with fail
  go_loopw [] (fun wr => ∃ n, n ≤ nd ∧ DecB wr b g n dp ng tr ∧ Only (· = b) w wr ∧ (1 ≤ nd → g 0 ≠ 48 → 1 ≤ n)) (fun wr => match wr.cell? ⟨b, 800, none⟩ with | some (.int _ n) => n.toNat | _ => 0)
  case atStart => exact ⟨nd, Nat.le_refl _, H.out, Only.refl _ _, fun h _ => h⟩
  case round =>
    obtain ⟨n, hn1, hD, hO, hg⟩ := hrel
    have c0 := hD.cnd
    have c1 := hD.cdp
    have f0 := hD.free 800
    have f1 := hD.free 801
    have HD := Lib.hid hD; have HO := Lib.hid hO; have HG := Lib.hid hg
    clear hD hO hg
    by_cases hz : n = 0
    · subst hz
      have t0 : decide ((0 : Int) > 0) = false := by decide
      go_wp2_with fail
      go_quiet (fail)
      go_wp2_with fail
      go_end0
      refine ⟨rfl, only_set (HO.out.drewN _) _ _, 0, Nat.zero_le _, ?_, HG.out⟩
      rw [if_pos rfl]
      exact DecB.setP (DecB.drewN HD.out _) 0
    · obtain ⟨m, rfl⟩ : ∃ m, n = m + 1 := ⟨n - 1, by omega⟩
      have cm := HD.out.dig (i := m) (by omega)
      have t0 : decide (((m + 1 : Nat) : Int) > 0) = true := decide_eq_true (by omega)
      have t2 : IntKind.i64.wrap (((m + 1 : Nat) : Int) - 1) = (m : Int) := by rw [IntWalk.i64_in _ (by omega)]; omega
      have t3 : 0 ≤ (m : Int) := by omega
      have t4 : (m : Int) < 800 := by omega
      have t5 : (m : Int).toNat = m := by omega
      by_cases h48 : g m = 48
      · rw [h48] at cm
        have HC := Lib.hid c0
        go_wp2_with fail
        go_quiet (fail)
        go_wp2_with fail
        have hD2 := DecB.setN (DecB.drewN HD.out nq) m
        refine ⟨⟨m, by omega, hD2, only_set (HO.out.drewN _) _ _, fun h1 h2 => ?_⟩, ?_⟩
        · rcases Nat.eq_zero_or_pos m with h | h
          · subst h; exact absurd h48 h2
          · exact h
        · rw [hD2.cnd, HC.out]
          show (m : Int).toNat < ((m + 1 : Nat) : Int).toNat
          omega
      · have t1 : ((g m : Int) == 48) = false := by rw [beq_eq_false_iff_ne]; omega
        have t6 : (((m + 1 : Nat) : Int) == 0) = false := by rw [beq_eq_false_iff_ne]; omega
        go_wp2_with fail
        go_quiet (fail)
        go_wp2_with fail
        go_end0
        refine ⟨rfl, HO.out.drewN _, m + 1, hn1, ?_, fun _ _ => by omega⟩
        rw [if_neg (by omega)]
        exact DecB.drewN HD.out _
end Go.Proofs.YthjfdhkahmlolaaGreatDoor

/- Unrounded scaling, plainly: when it is exact; certificates by neighbouring fractions. -/
namespace Go.Proofs.YthjfdhkahmlolaaGreatDoor.Usc

/-- num / den, the last bit set too if it is not whole -/
def unr (num den : Nat) : Nat := (num / den) ||| (if num % den = 0 then 0 else 1)

theorem far_id1 (x y la lb ra rb : Int) (hd : ra * lb = la * rb + 1) : x = (ra * x - rb * y) * lb - (la * x - lb * y) * rb := by grind
theorem far_id2 (x y a M la lb ra rb : Int) (hd : ra * lb = la * rb + 1) : x * a - y * M = (ra * x - rb * y) * (lb * a - la * M) + (la * x - lb * y) * (ra * M - rb * a) := by grind

theorem mul_np {i b : Int} (h : i ≤ 0) (hb : 0 ≤ b) : i * b ≤ 0 := by
  have := Int.mul_le_mul_of_nonneg_right h hb; simpa using this
theorem mul_nn {i b : Int} (h : 0 ≤ i) (hb : 0 ≤ b) : 0 ≤ i * b := Int.mul_nonneg h hb
theorem mul_ge {i b : Int} (h : 1 ≤ i) (hb : 0 ≤ b) : b ≤ i * b := by
  have := Int.mul_le_mul_of_nonneg_right h hb; simpa using this

/-- what lies below: x a - y M, where y is the whole part -/
theorem far_low {x y a M la lb ra rb : Int} (hd : ra * lb = la * rb + 1) (hx : 0 < x) (hxl : x < lb + rb) (hL : 0 ≤ lb * a - la * M) (hR : 0 < ra * M - rb * a) (hlb : 0 ≤ lb) (hrb : 0 ≤ rb) (hN : 0 ≤ x * a - y * M) :
    ∃ i j : Int, 1 ≤ i ∧ 0 ≤ j ∧ x = i * lb - j * rb ∧ x * a - y * M = i * (lb * a - la * M) + j * (ra * M - rb * a) := by
  have e1 := far_id1 x y la lb ra rb hd
  have e2 := far_id2 x y a M la lb ra rb hd
  refine ⟨ra * x - rb * y, la * x - lb * y, ?_, ?_, e1, e2⟩
  · generalize ra * x - rb * y = i at *
    generalize la * x - lb * y = j at *
    generalize lb * a - la * M = L at *
    generalize ra * M - rb * a = R at *
    rcases Int.lt_or_le i 1 with hi | hi
    · exfalso
      have h1 := mul_np (i := i) (b := lb) (by omega) hlb
      have h2 := mul_np (i := i) (b := L) (by omega) hL
      rcases Int.lt_or_le j 0 with hj | hj
      · have h3 := mul_ge (i := -j) (b := R) (by omega) (by omega)
        rw [Int.neg_mul] at h3
        omega
      · have h3 := mul_nn hj hrb
        omega
    · exact hi
  · generalize ra * x - rb * y = i at *
    generalize la * x - lb * y = j at *
    generalize lb * a - la * M = L at *
    generalize ra * M - rb * a = R at *
    rcases Int.lt_or_le j 0 with hj | hj
    · exfalso
      have h4 := mul_ge (i := -j) (b := rb) (by omega) hrb
      rw [Int.neg_mul] at h4
      rcases Int.lt_or_le i 1 with hi | hi
      · have h2 := mul_np (i := i) (b := L) (by omega) hL
        have h3 := mul_ge (i := -j) (b := R) (by omega) (by omega)
        rw [Int.neg_mul] at h3
        omega
      · have h5 := mul_ge hi hlb
        omega
    · exact hj
/-- what lies above: y' M - x a -/
theorem far_up {x y a M la lb ra rb : Int} (hd : ra * lb = la * rb + 1) (hx : 0 < x) (hxl : x < lb + rb) (hL : 0 ≤ lb * a - la * M) (hR : 0 < ra * M - rb * a) (hlb : 0 ≤ lb) (hrb : 0 ≤ rb) (hN : 0 < y * M - x * a) :
    x * (ra * M - rb * a) ≤ (y * M - x * a) * rb := by
  have e1 := far_id1 x y la lb ra rb hd
  have e2 := far_id2 x y a M la lb ra rb hd
  have key : ∀ i j L R N : Int, 0 ≤ L → 0 < R → x = i * lb - j * rb → N = -(i * L + j * R) → 0 < N → x * R ≤ N * rb := by
    intro i j L R N hL hR e1 e2 hN
    have hj : j ≤ -1 := by
      rcases Int.lt_or_le (-1) j with hj | hj
      · exfalso
        have h3 := mul_nn (i := j) (b := R) (by omega) (by omega)
        rcases Int.lt_or_le i 1 with hi | hi
        · have h1 := mul_np (i := i) (b := lb) (by omega) hlb
          have h2 := mul_nn (i := j) (b := rb) (by omega) hrb
          omega
        · have h1 := mul_nn (i := i) (b := L) (by omega) hL
          omega
      · exact hj
    have hi : i ≤ 0 := by
      rcases Int.lt_or_le 0 i with hi | hi
      · exfalso
        have h1 := mul_ge (i := i) (b := lb) (by omega) hlb
        have h2 := mul_ge (i := -j) (b := rb) (by omega) hrb
        rw [Int.neg_mul] at h2
        omega
      · exact hi
    -- x <= -j rb ; N >= -j R
    have h1 := mul_np hi hlb
    have h2 := mul_np hi hL
    have h3 : x ≤ (-j) * rb := by rw [Int.neg_mul]; omega
    have h4 : (-j) * R ≤ N := by rw [Int.neg_mul]; omega
    have h5 := Int.mul_le_mul_of_nonneg_right h3 (Int.le_of_lt hR)
    have h6 := Int.mul_le_mul_of_nonneg_right h4 hrb
    have h7 : (-j) * rb * R = (-j) * R * rb := by grind
    omega
  exact key (ra * x - rb * y) (la * x - lb * y) _ _ _ hL hR e1 (by omega) hN
end Go.Proofs.YthjfdhkahmlolaaGreatDoor.Usc
