/- The multiprecision decimal of strconv as a block; trim. -/
import Derived.Test.YthjfdhkahmlolaaGreatDoorJQ00
import Derived.WalkMore
import Derived.Deep.QuietTactic
import Derived.BigQuiet
import Derived.IntWalk
import Derived.LoopN
import Derived.Test.YthjfdhkahmlolaaGreatDoorJQ05
namespace Go.Proofs.YthjfdhkahmlolaaGreatDoor
open Go.RowKit
set_option maxRecDepth 100000
/-- block b has n cells of the type t, as F tells -/
def Fb (w : World) (b n : Nat) (t : TypeId) (F : Nat → Value) : Prop := ∃ cs : Array Value, w.heap[b]? = some (.cells cs t (0, 0)) ∧ cs.size = n ∧ ∀ k, k < n → cs[k]? = some (F k)
section
variable {w w' : World} {b n : Nat} {t : TypeId} {F : Nat → Value}
theorem Fb.cell (h : Fb w b n t F) {k : Nat} (hk : k < n) : w.cell? ⟨b, k, none⟩ = some (F k) := by
  obtain ⟨cs, h1, _, h3⟩ := h
  rw [blk_cell h1, h3 k hk]
theorem Fb.free (h : Fb w b n t F) (k : Nat) : w.frozen? ⟨b, k, none⟩ = false := by
  obtain ⟨cs, h1, _⟩ := h
  exact blk_free h1 k
theorem Fb.set (h : Fb w b n t F) (i : Nat) (v : Value) : Fb (w.setCell ⟨b, i, none⟩ v) b n t (fun k => if k = i then v else F k) := by
  obtain ⟨cs, h1, h2, h3⟩ := h
  refine ⟨_, blk_set h1 i v, by simpa using h2, fun k hk => ?_⟩
  rw [Array.getElem?_setIfInBounds]
  by_cases e : i = k
  · subst e; simp; omega
  · rw [if_neg e]; show cs[k]? = some (if k = i then v else F k); rw [if_neg (fun q : k = i => e q.symm)]; exact h3 k hk
theorem Fb.only {S : Nat → Prop} (h : Fb w b n t F) (O : Only S w w') (hs : ¬ S b) : Fb w' b n t F := by
  obtain ⟨cs, h1, h2⟩ := h
  exact ⟨cs, O.blk h1 hs, h2⟩
theorem Fb.congr {G : Nat → Value} (h : Fb w b n t F) (e : ∀ k, k < n → F k = G k) : Fb w b n t G := by
  obtain ⟨cs, h1, h2, h3⟩ := h
  exact ⟨cs, h1, h2, fun k hk => by rw [h3 k hk, e k hk]⟩
theorem Fb.lt (h : Fb w b n t F) : b < w.heap.size := by
  obtain ⟨cs, h1, _⟩ := h
  exact blk_lt h1
end
/-- the cells of a decimal -/
def dcF (g : Nat → Nat) (nd : Nat) (dp : Int) (ng tr : Bool) (k : Nat) : Value :=
  if k < 800 then .int .u8 (g k : Int) else if k = 800 then .int .i64 (nd : Int) else if k = 801 then .int .i64 dp else if k = 802 then .bool ng else .bool tr
def DecB (w : World) (b : Nat) (g : Nat → Nat) (nd : Nat) (dp : Int) (ng tr : Bool) : Prop := Fb w b 804 127 (dcF g nd dp ng tr)
section
variable {w w' : World} {b nd : Nat} {g : Nat → Nat} {dp : Int} {ng tr : Bool}
theorem DecB.dig (h : DecB w b g nd dp ng tr) {i : Nat} (hi : i < 800) : w.cell? ⟨b, i, none⟩ = some (.int .u8 (g i : Int)) := by
  rw [Fb.cell h (by omega)]; unfold dcF; rw [if_pos hi]
theorem DecB.cnd (h : DecB w b g nd dp ng tr) : w.cell? ⟨b, 800, none⟩ = some (.int .i64 (nd : Int)) := Fb.cell h (by omega)
theorem DecB.cdp (h : DecB w b g nd dp ng tr) : w.cell? ⟨b, 801, none⟩ = some (.int .i64 dp) := Fb.cell h (by omega)
theorem DecB.cng (h : DecB w b g nd dp ng tr) : w.cell? ⟨b, 802, none⟩ = some (.bool ng) := Fb.cell h (by omega)
theorem DecB.ctr (h : DecB w b g nd dp ng tr) : w.cell? ⟨b, 803, none⟩ = some (.bool tr) := Fb.cell h (by omega)
theorem DecB.free (h : DecB w b g nd dp ng tr) (i : Nat) : w.frozen? ⟨b, i, none⟩ = false := Fb.free h i
theorem DecB.only {S : Nat → Prop} (h : DecB w b g nd dp ng tr) (O : Only S w w') (hs : ¬ S b) : DecB w' b g nd dp ng tr := Fb.only h O hs
theorem DecB.drewN (h : DecB w b g nd dp ng tr) (n : Nat) : DecB (w.drewN n) b g nd dp ng tr := h
theorem DecB.setD (h : DecB w b g nd dp ng tr) {i : Nat} (hi : i < 800) (x : Nat) : DecB (w.setCell ⟨b, i, none⟩ (.int .u8 (x : Int))) b (fun k => if k = i then x else g k) nd dp ng tr := by
  refine (Fb.set h i _).congr fun k hk => ?_
  by_cases e : k = i
  · subst e; simp only [if_true]; unfold dcF; rw [if_pos hi]; simp
  · rw [if_neg e]; unfold dcF; simp only [if_neg e]
theorem DecB.setE (h : DecB w b g nd dp ng tr) {i : Nat} (hi : i < 800) {x : Nat} {v : Int} (e : v = (x : Int)) : DecB (w.setCell ⟨b, i, none⟩ (.int .u8 v)) b (fun k => if k = i then x else g k) nd dp ng tr := by
  subst e; exact h.setD hi x
theorem DecB.setN (h : DecB w b g nd dp ng tr) (x : Nat) : DecB (w.setCell ⟨b, 800, none⟩ (.int .i64 (x : Int))) b g x dp ng tr := by
  refine (Fb.set h 800 _).congr fun k hk => ?_
  by_cases e : k = 800
  · subst e; rfl
  · rw [if_neg e]; unfold dcF; rw [if_neg e, if_neg e]
theorem DecB.setM (h : DecB w b g nd dp ng tr) {x : Nat} {v : Int} (e : v = (x : Int)) : DecB (w.setCell ⟨b, 800, none⟩ (.int .i64 v)) b g x dp ng tr := by
  subst e; exact h.setN x
theorem DecB.setP (h : DecB w b g nd dp ng tr) (x : Int) : DecB (w.setCell ⟨b, 801, none⟩ (.int .i64 x)) b g nd x ng tr := by
  refine (Fb.set h 801 _).congr fun k hk => ?_
  by_cases e : k = 801
  · subst e; rfl
  · rw [if_neg e]; unfold dcF; rw [if_neg e, if_neg e]
theorem DecB.setG (h : DecB w b g nd dp ng tr) (x : Bool) : DecB (w.setCell ⟨b, 802, none⟩ (.bool x)) b g nd dp x tr := by
  refine (Fb.set h 802 _).congr fun k hk => ?_
  by_cases e : k = 802
  · subst e; rfl
  · rw [if_neg e]; unfold dcF; rw [if_neg e, if_neg e]
theorem DecB.setT (h : DecB w b g nd dp ng tr) (x : Bool) : DecB (w.setCell ⟨b, 803, none⟩ (.bool x)) b g nd dp ng x := by
  refine (Fb.set h 803 _).congr fun k hk => ?_
  by_cases e : k = 803
  · subst e; rfl
  · rw [if_neg e]; unfold dcF
    by_cases h1 : k < 800
    · rw [if_pos h1, if_pos h1]
    · by_cases h2 : k = 800
      · subst h2; rfl
      · by_cases h3 : k = 801
        · subst h3; rfl
        · by_cases h4 : k = 802
          · subst h4; rfl
          · exact absurd hk (by omega)
end
theorem only_set {w w2 : World} {b : Nat} (O : Only (· = b) w w2) (i : Nat) (v : Value) : Only (· = b) w (w2.setCell ⟨b, i, none⟩ v) := O.setCell (p := ⟨b, i, none⟩) (.inr rfl) v
/-- what trim leaves -/
def TrimPost (b : Nat) (g : Nat → Nat) (nd : Nat) (dp : Int) (ng tr : Bool) (w : World) (e : Ending) (w' : World) : Prop :=
  e = .returned (.tuple #[]) ∧ Only (· = b) w w' ∧ ∃ n', n' ≤ nd ∧ DecB w' b g n' (if n' = 0 then 0 else dp) ng tr ∧ (1 ≤ nd → g 0 ≠ 48 → 1 ≤ n')
set_option maxHeartbeats 1000000 in
theorem trim_calls {w : World} {b nd : Nat} {g : Nat → Nat} {dp : Int} {ng tr : Bool} (h : DecB w b g nd dp ng tr) (hn : nd ≤ 800) :
    Calls Tryz.prog 143 #[.pointer (some ⟨b, 0, none⟩)] w (TrimPost b g nd dp ng tr w) := by
  have H := Lib.hid h; clear h
  go_enter Tryz.func143, Tryz.ntmps143
  go_wp2_with fail
  go_loopw [] (fun wr => ∃ n, n ≤ nd ∧ DecB wr b g n dp ng tr ∧ Only (· = b) w wr ∧ (1 ≤ nd → g 0 ≠ 48 → 1 ≤ n)) (fun wr => match wr.cell? ⟨b, 800, none⟩ with | some (.int _ n) => n.toNat | _ => 0)
  case atStart => exact ⟨nd, Nat.le_refl _, H.out, Only.refl _ _, fun h _ => h⟩
  case round =>
    obtain ⟨n, hn1, hD, hO, hg⟩ := hrel
    have c0 := hD.cnd
    have c1 := hD.cdp
    have f0 := hD.free 800
    have f1 := hD.free 801
    have HD := Lib.hid hD; have HO := Lib.hid hO; have HG := Lib.hid hg
    clear hD hO hg
    by_cases hz : n = 0
    · subst hz
      have t0 : decide ((0 : Int) > 0) = false := by decide
      go_wp2_with fail
      go_quiet (fail)
      go_wp2_with fail
      go_end0
      refine ⟨rfl, only_set (HO.out.drewN _) _ _, 0, Nat.zero_le _, ?_, HG.out⟩
      rw [if_pos rfl]
      exact DecB.setP (DecB.drewN HD.out _) 0
    · obtain ⟨m, rfl⟩ : ∃ m, n = m + 1 := ⟨n - 1, by omega⟩
      have cm := HD.out.dig (i := m) (by omega)
      have t0 : decide (((m + 1 : Nat) : Int) > 0) = true := decide_eq_true (by omega)
      have t2 : IntKind.i64.wrap (((m + 1 : Nat) : Int) - 1) = (m : Int) := by rw [IntWalk.i64_in _ (by omega)]; omega
      have t3 : 0 ≤ (m : Int) := by omega
      have t4 : (m : Int) < 800 := by omega
      have t5 : (m : Int).toNat = m := by omega
      by_cases h48 : g m = 48
      · rw [h48] at cm
        have HC := Lib.hid c0
        go_wp2_with fail
        go_quiet (fail)
        go_wp2_with fail
        have hD2 := DecB.setN (DecB.drewN HD.out nq) m
        refine ⟨⟨m, by omega, hD2, only_set (HO.out.drewN _) _ _, fun h1 h2 => ?_⟩, ?_⟩
        · rcases Nat.eq_zero_or_pos m with h | h
          · subst h; exact absurd h48 h2
          · exact h
        · rw [hD2.cnd, HC.out]
          show (m : Int).toNat < ((m + 1 : Nat) : Int).toNat
          omega
      · have t1 : ((g m : Int) == 48) = false := by rw [beq_eq_false_iff_ne]; omega
        have t6 : (((m + 1 : Nat) : Int) == 0) = false := by rw [beq_eq_false_iff_ne]; omega
        go_wp2_with fail
        go_quiet (fail)
        go_wp2_with fail
        go_end0
        refine ⟨rfl, HO.out.drewN _, m + 1, hn1, ?_, fun _ _ => by omega⟩
        rw [if_neg (by omega)]
        exact DecB.drewN HD.out _
end Go.Proofs.YthjfdhkahmlolaaGreatDoor

/- What readFloat makes of a text's digits, as a plain function. -/
namespace Go.Proofs.YthjfdhkahmlolaaGreatDoor
/-- the bytes of a text as numbers -/
def bl (s : ByteArray) : List Nat := s.data.toList.map UInt8.toNat
theorem bl_size (s : ByteArray) : s.size = (bl s).length := by unfold bl; rw [List.length_map]; rfl
theorem bl_at {s : ByteArray} {pre r : List Nat} {c : Nat} (h : bl s = pre ++ c :: r) (hj : pre.length < s.size) : (s[pre.length]'hj).toNat = c := by
  have h1 : (bl s)[pre.length]? = some c := by rw [h]; simp
  unfold bl at h1
  rw [List.getElem?_map] at h1
  have h2 : s.data.toList[pre.length]? = some (s[pre.length]'hj) := by
    rw [List.getElem?_eq_getElem (by simpa using hj)]
    rfl
  rw [h2] at h1
  simpa using h1
theorem bl_lt {s : ByteArray} {c : Nat} (h : c ∈ bl s) : c < 256 := by
  unfold bl at h
  obtain ⟨x, _, rfl⟩ := List.mem_map.1 h
  exact x.toNat_lt
structure St where
  m : Nat
  nd : Nat
  nM : Nat
  dp : Int
  dot : Bool
  dig : Bool
  tr : Bool
  und : Bool
def St.zero : St := ⟨0, 0, 0, 0, false, false, false, false⟩
def St.put (s : St) (c : Nat) : Option St :=
  if c = 95 then some { s with und := true }
  else if c = 46 then (if s.dot then none else some { s with dot := true, dp := s.nd })
  else if 48 ≤ c ∧ c ≤ 57 then
    (if c = 48 ∧ s.nd = 0 then some { s with dig := true, dp := s.dp - 1 }
     else if s.nM < 19 then some { s with dig := true, nd := s.nd + 1, m := s.m * 10 + (c - 48), nM := s.nM + 1 }
     else some { s with dig := true, nd := s.nd + 1, tr := s.tr || c != 48 })
  else none
def scan : St → List Nat → St × List Nat
  | s, [] => (s, [])
  | s, c :: r => match s.put c with
    | none => (s, c :: r)
    | some s' => scan s' r
def St.ok (s : St) (n : Nat) : Prop := s.m < 10 ^ s.nM ∧ s.nM ≤ 19 ∧ s.nM ≤ s.nd ∧ s.nd ≤ n ∧ -(n : Int) ≤ s.dp ∧ s.dp ≤ n
theorem St.zero_ok : St.zero.ok 0 := by unfold St.ok St.zero; simp
/-- the loop's variables -/
def RI (l : List Nat) (i0 : Nat) (tot : St × List Nat) (w : World) (v1 v4 v6 v8 v12 v13 v14 v15 v16 : Value) (wr : World) : Prop :=
  ∃ (pre rest : List Nat) (st : St), l = pre ++ rest ∧ i0 ≤ pre.length ∧ scan st rest = tot ∧ st.ok pre.length ∧ v1 = .int .u64 (st.m : Int) ∧ v4 = .bool st.tr ∧ v6 = .int .i64 ((pre.length : Nat) : Int) ∧ v8 = .bool st.und ∧ v12 = .bool st.dot ∧ v13 = .bool st.dig ∧ v14 = .int .i64 (st.nd : Int) ∧ v15 = .int .i64 (st.nM : Int) ∧ v16 = .int .i64 st.dp ∧ wr = w
theorem St.put_ok {s s2 : St} {c n : Nat} (h : s.ok n) (hp : s.put c = some s2) : s2.ok (n + 1) := by
  obtain ⟨a1, a2, a3, a4, a5, a6⟩ := h
  unfold St.put at hp
  unfold St.ok
  by_cases h1 : c = 95
  · rw [if_pos h1] at hp; cases hp; exact ⟨a1, a2, a3, by simp only; omega, by simp only; omega, by simp only; omega⟩
  rw [if_neg h1] at hp
  by_cases h2 : c = 46
  · rw [if_pos h2] at hp
    cases hd : s.dot
    · rw [hd] at hp; cases hp; exact ⟨a1, a2, a3, by simp only; omega, by simp only; omega, by simp only; omega⟩
    · rw [hd] at hp; cases hp
  rw [if_neg h2] at hp
  by_cases h3 : 48 ≤ c ∧ c ≤ 57
  · rw [if_pos h3] at hp
    by_cases h4 : c = 48 ∧ s.nd = 0
    · rw [if_pos h4] at hp; cases hp; exact ⟨a1, a2, a3, by simp only; omega, by simp only; omega, by simp only; omega⟩
    · rw [if_neg h4] at hp
      by_cases h5 : s.nM < 19
      · rw [if_pos h5] at hp; cases hp
        refine ⟨?_, by simp only; omega, by simp only; omega, by simp only; omega, by simp only; omega, by simp only; omega⟩
        simp only
        rw [Nat.pow_succ]
        omega
      · rw [if_neg h5] at hp; cases hp; exact ⟨a1, a2, by simp only; omega, by simp only; omega, by simp only; omega, by simp only; omega⟩
  · rw [if_neg h3] at hp; cases hp
theorem St.lt18 {s : St} {n : Nat} (h : s.ok n) : s.m < 10000000000000000000 ∧ (s.nM < 19 → s.m < 1000000000000000000) := by
  obtain ⟨a1, a2, _⟩ := h
  refine ⟨Nat.lt_of_lt_of_le a1 (Nat.le_trans (Nat.pow_le_pow_right (by decide) a2) (by decide)), fun h => Nat.lt_of_lt_of_le a1 (Nat.le_trans (Nat.pow_le_pow_right (by decide) (show s.nM ≤ 18 by omega)) (by decide))⟩
theorem RI.next {l : List Nat} {i0 : Nat} {tot : St × List Nat} {w : World} {pre r : List Nat} {c : Nat} {st st2 : St} {v1 v4 v6 v8 v12 v13 v14 v15 v16 : Value} (hl : l = pre ++ c :: r) (hi : i0 ≤ pre.length) (hsc : scan st (c :: r) = tot) (hok : st.ok pre.length) (hp : st.put c = some st2)
    (h1 : v1 = .int .u64 (st2.m : Int)) (h4 : v4 = .bool st2.tr) (h6 : v6 = .int .i64 ((pre.length : Int) + 1)) (h8 : v8 = .bool st2.und) (h12 : v12 = .bool st2.dot) (h13 : v13 = .bool st2.dig) (h14 : v14 = .int .i64 (st2.nd : Int)) (h15 : v15 = .int .i64 (st2.nM : Int)) (h16 : v16 = .int .i64 st2.dp) : RI l i0 tot w v1 v4 v6 v8 v12 v13 v14 v15 v16 w := by
  refine ⟨pre ++ [c], r, st2, by rw [hl]; simp, by simp; omega, ?_, ?_, h1, h4, ?_, h8, h12, h13, h14, h15, h16, rfl⟩
  · have h9 : scan st (c :: r) = scan st2 r := by rw [scan, hp]
    rw [← hsc, h9]
  · rw [show (pre ++ [c]).length = pre.length + 1 by simp]; exact St.put_ok hok hp
  · rw [h6, show (pre ++ [c]).length = pre.length + 1 by simp]; rfl
theorem scan_nil {st st' : St} {c : Nat} {r : List Nat} (h : scan st (c :: r) = (st', [])) : ∃ st2, st.put c = some st2 := by
  cases hp : st.put c with
  | none => unfold scan at h; rw [hp] at h; cases h
  | some st2 => exact ⟨st2, rfl⟩
/-- the four ways of one more byte -/
theorem St.put_cases {st st2 : St} {c : Nat} (h : st.put c = some st2) :
    (c = 95 ∧ st2 = { st with und := true }) ∨ (c = 46 ∧ st.dot = false ∧ st2 = { st with dot := true, dp := st.nd }) ∨
    (48 ≤ c ∧ c ≤ 57 ∧ ((c = 48 ∧ st.nd = 0 ∧ st2 = { st with dig := true, dp := st.dp - 1 }) ∨
      (¬ (c = 48 ∧ st.nd = 0) ∧ st.nM < 19 ∧ st2 = { st with dig := true, nd := st.nd + 1, m := st.m * 10 + (c - 48), nM := st.nM + 1 }) ∨
      (¬ (c = 48 ∧ st.nd = 0) ∧ 19 ≤ st.nM ∧ st2 = { st with dig := true, nd := st.nd + 1, tr := st.tr || c != 48 }))) := by
  unfold St.put at h
  by_cases h1 : c = 95
  · rw [if_pos h1] at h; cases h; exact .inl ⟨h1, rfl⟩
  rw [if_neg h1] at h
  by_cases h2 : c = 46
  · rw [if_pos h2] at h
    cases hd : st.dot
    · rw [hd] at h; cases h; exact .inr (.inl ⟨h2, rfl, rfl⟩)
    · rw [hd] at h; cases h
  rw [if_neg h2] at h
  by_cases h3 : 48 ≤ c ∧ c ≤ 57
  · rw [if_pos h3] at h
    refine .inr (.inr ⟨h3.1, h3.2, ?_⟩)
    by_cases h4 : c = 48 ∧ st.nd = 0
    · rw [if_pos h4] at h; cases h; exact .inl ⟨h4.1, h4.2, rfl⟩
    · rw [if_neg h4] at h
      by_cases h5 : st.nM < 19
      · rw [if_pos h5] at h; cases h; exact .inr (.inl ⟨h4, h5, rfl⟩)
      · rw [if_neg h5] at h; cases h; exact .inr (.inr ⟨h4, by omega, rfl⟩)
  · rw [if_neg h3] at h; cases h
theorem St.zero_ok1 : St.zero.ok 1 := by unfold St.ok St.zero; simp
theorem scan_stop {st st' : St} {c : Nat} {r es : List Nat} (h : scan st (c :: r) = (st', 101 :: es)) : (∃ st2, st.put c = some st2) ∨ (c = 101 ∧ r = es ∧ st = st') := by
  cases hp : st.put c with
  | none =>
    unfold scan at h
    rw [hp] at h
    injection h with h1 h2
    injection h2 with h3 h4
    exact .inr ⟨h3, h4, h1⟩
  | some st2 => exact .inl ⟨st2, rfl⟩
/-- the number that digits tell -/
def decStep (e d : Nat) : Nat := e * 10 + (d - 48)
def dv (e : Nat) (l : List Nat) : Nat := l.foldl decStep e
theorem dv_nil (e : Nat) : dv e [] = e := rfl
theorem dv_cons (e d : Nat) (r : List Nat) : dv e (d :: r) = dv (e * 10 + (d - 48)) r := by unfold dv; rw [List.foldl_cons, decStep]
theorem dv_ge (l : List Nat) : ∀ e : Nat, e ≤ dv e l := by
  induction l with
  | nil => intro e; exact Nat.le_refl e
  | cons d r ih => intro e; rw [dv_cons]; exact Nat.le_trans (by omega) (ih _)
/-- the exponent's loop -/
def EI (l : List Nat) (E : Nat) (w : World) (v6 v8 v19 : Value) (wr : World) : Prop :=
  ∃ (pre rest : List Nat) (e : Nat), l = pre ++ rest ∧ (∀ d ∈ rest, 48 ≤ d ∧ d ≤ 57) ∧ dv e rest = E ∧ v6 = .int .i64 ((pre.length : Nat) : Int) ∧ v8 = .bool false ∧ v19 = .int .i64 (e : Int) ∧ wr = w
theorem EI.next {l : List Nat} {E : Nat} {w : World} {pre r : List Nat} {d e : Nat} {v6 v8 v19 : Value} (hl : l = pre ++ d :: r) (hd : ∀ x ∈ d :: r, 48 ≤ x ∧ x ≤ 57) (he : dv e (d :: r) = E) (h6 : v6 = .int .i64 ((pre.length : Int) + 1)) (h8 : v8 = .bool false) (h19 : v19 = .int .i64 ((e * 10 + (d - 48) : Nat) : Int)) : EI l E w v6 v8 v19 w :=
  ⟨pre ++ [d], r, e * 10 + (d - 48), by rw [hl]; simp, fun x hx => hd x (List.mem_cons_of_mem _ hx), by rw [← he, dv_cons], by rw [h6, show (pre ++ [d]).length = pre.length + 1 by simp]; rfl, h8, h19, rfl⟩
end Go.Proofs.YthjfdhkahmlolaaGreatDoor

/- Digits as numbers; prefixIsLessThan. -/
namespace Go.Proofs.YthjfdhkahmlolaaGreatDoor
open Go.RowKit
set_option maxRecDepth 100000
/-- the number that the first n digits tell -/
def nm (g : Nat → Nat) : Nat → Nat
  | 0 => 0
  | n + 1 => nm g n * 10 + (g n - 48)
theorem nm_succ (g : Nat → Nat) (n : Nat) : nm g (n + 1) = nm g n * 10 + (g n - 48) := rfl
/-- the first n are digits -/
def Dgt (g : Nat → Nat) (n : Nat) : Prop := ∀ i, i < n → 48 ≤ g i ∧ g i ≤ 57
theorem Dgt.mono {g : Nat → Nat} {m n : Nat} (h : Dgt g n) (hm : m ≤ n) : Dgt g m := fun i hi => h i (by omega)
theorem nm_congr {g h : Nat → Nat} : ∀ {n : Nat}, (∀ i, i < n → g i = h i) → nm g n = nm h n
  | 0, _ => rfl
  | n + 1, e => by rw [nm_succ, nm_succ, nm_congr (n := n) (fun i hi => e i (by omega)), e n (by omega)]
theorem nm_lo (g : Nat → Nat) (i : Nat) : ∀ n, nm g i * 10 ^ n ≤ nm g (i + n)
  | 0 => by simp
  | n + 1 => by
    have h := nm_lo g i n
    rw [show i + (n + 1) = i + n + 1 by omega, nm_succ, Nat.pow_succ, ← Nat.mul_assoc]
    omega
theorem nm_hi {g : Nat → Nat} (i : Nat) : ∀ n, Dgt g (i + n) → nm g (i + n) < (nm g i + 1) * 10 ^ n
  | 0, _ => by simp
  | n + 1, hd => by
    have h := nm_hi (g := g) i n (hd.mono (by omega))
    have hd2 := hd (i + n) (by omega)
    rw [show i + (n + 1) = i + n + 1 by omega, nm_succ, Nat.pow_succ, ← Nat.mul_assoc]
    omega
theorem nm_lt {g : Nat → Nat} {n : Nat} (hd : Dgt g n) : nm g n < 10 ^ n := by
  have := nm_hi (g := g) 0 n (by rw [Nat.zero_add]; exact hd)
  rw [Nat.zero_add] at this
  simpa [nm] using this
theorem nm_ge {g : Nat → Nat} {n : Nat} (h1 : 1 ≤ n) (h0 : 49 ≤ g 0) : 10 ^ (n - 1) ≤ nm g n := by
  have := nm_lo g 1 (n - 1)
  rw [show 1 + (n - 1) = n by omega] at this
  have h2 : 1 ≤ nm g 1 := by rw [nm_succ]; omega
  exact Nat.le_trans (by have := Nat.mul_le_mul_right (10 ^ (n - 1)) h2; rw [Nat.one_mul] at this; exact this) this
theorem nm_less {g h : Nat → Nat} {p n m : Nat} (hg : Dgt g n) (hn : p ≤ n) (hm : p ≤ m) (hl : nm g p < nm h p) : nm g n * 10 ^ m < nm h m * 10 ^ n := by
  have h1 := nm_hi (g := g) p (n - p) (by rw [show p + (n - p) = n by omega]; exact hg)
  have h2 := nm_lo h p (m - p)
  rw [show p + (n - p) = n by omega] at h1
  rw [show p + (m - p) = m by omega] at h2
  have e1 : (10 : Nat) ^ m = 10 ^ p * 10 ^ (m - p) := by rw [← Nat.pow_add]; congr 1; omega
  have e2 : (10 : Nat) ^ n = 10 ^ p * 10 ^ (n - p) := by rw [← Nat.pow_add]; congr 1; omega
  have p1 : 0 < (10 : Nat) ^ p := Nat.pow_pos (by decide)
  have p2 : 0 < (10 : Nat) ^ (m - p) := Nat.pow_pos (by decide)
  have p3 : 0 < (10 : Nat) ^ (n - p) := Nat.pow_pos (by decide)
  rw [e1, e2]
  generalize (10 : Nat) ^ p = P at *
  generalize (10 : Nat) ^ (m - p) = A at *
  generalize (10 : Nat) ^ (n - p) = B at *
  have k1 : nm g n * (P * A) < (nm g p + 1) * B * (P * A) := Nat.mul_lt_mul_of_pos_right h1 (Nat.mul_pos p1 p2)
  have k2 : (nm g p + 1) * B * (P * A) ≤ nm h p * B * (P * A) := Nat.mul_le_mul_right _ (Nat.mul_le_mul_right _ hl)
  have k3 : nm h p * A * (P * B) ≤ nm h m * (P * B) := Nat.mul_le_mul_right _ h2
  have k4 : nm h p * B * (P * A) = nm h p * A * (P * B) := by
    rw [Nat.mul_assoc, Nat.mul_assoc, Nat.mul_left_comm B P A, Nat.mul_left_comm A P B, Nat.mul_comm B A]
  omega
theorem nm_more {g h : Nat → Nat} {n m : Nat} (hm : m ≤ n) (he : ∀ i, i < m → g i = h i) : nm h m * 10 ^ n ≤ nm g n * 10 ^ m := by
  have h1 := nm_lo g m (n - m)
  rw [show m + (n - m) = n by omega, nm_congr he] at h1
  have e1 : (10 : Nat) ^ n = 10 ^ (n - m) * 10 ^ m := by rw [← Nat.pow_add]; congr 1; omega
  rw [e1, ← Nat.mul_assoc]
  exact Nat.mul_le_mul_right _ h1
theorem nm_short {g h : Nat → Nat} {n m : Nat} (hm : n < m) (he : ∀ i, i < n → g i = h i) (hl : 49 ≤ h (m - 1)) : nm g n * 10 ^ m < nm h m * 10 ^ n := by
  have h1 := nm_lo h n (m - 1 - n)
  rw [show n + (m - 1 - n) = m - 1 by omega, ← nm_congr he] at h1
  have h2 : nm h m = nm h (m - 1) * 10 + (h (m - 1) - 48) := by
    obtain ⟨q, rfl⟩ : ∃ q, m = q + 1 := ⟨m - 1, by omega⟩
    rfl
  have h3 : nm g n * 10 ^ (m - n) < nm h m := by
    rw [show m - n = m - 1 - n + 1 by omega, Nat.pow_succ, ← Nat.mul_assoc]
    omega
  have e1 : (10 : Nat) ^ m = 10 ^ (m - n) * 10 ^ n := by rw [← Nat.pow_add]; congr 1; omega
  rw [e1, ← Nat.mul_assoc]
  exact Nat.mul_lt_mul_of_pos_right h3 (Nat.pow_pos (by decide))
/-- a text's bytes, as a function -/
def tb (s : ByteArray) (i : Nat) : Nat := ((bl s)[i]?).getD 0
theorem tb_at (s : ByteArray) {i : Nat} (h : i < s.size) : (s[i]'h).toNat = tb s i := by
  unfold tb
  have h1 : i < (bl s).length := by rw [← bl_size]; exact h
  have h2 : bl s = (bl s).take i ++ (bl s)[i] :: (bl s).drop (i + 1) := by simp
  have h3 := bl_at (s := s) (pre := (bl s).take i) (c := (bl s)[i]) h2 (by simp; omega)
  simp only [List.length_take, Nat.min_eq_left (Nat.le_of_lt h1)] at h3
  rw [h3, List.getElem?_eq_getElem h1]; rfl
/-- what prefixIsLessThan tells -/
def PrePost (g h : Nat → Nat) (n m : Nat) (w : World) (e : Ending) (w' : World) : Prop :=
  e = .returned (.bool (decide (nm g n * 10 ^ m < nm h m * 10 ^ n))) ∧ ∃ q, w' = w.drewN q
set_option maxHeartbeats 1000000 in
theorem pre_calls {w : World} {b nd : Nat} {g : Nat → Nat} {s : ByteArray} (hc : ∀ i, i < nd → w.cell? ⟨b, i, none⟩ = some (.int .u8 (g i : Int))) (hg : Dgt g nd) (hs : Dgt (tb s) s.size) (h0 : 1 ≤ s.size) (hl : 49 ≤ tb s (s.size - 1)) (hn : nd ≤ 800) (hz : s.size < 100) :
    Calls Tryz.prog 160 #[.slice (some ⟨b, 0, none⟩) nd 800, .string s] w (PrePost g (tb s) nd s.size w) := by
  have HC := Lib.hid hc; have HG := Lib.hid hg; have HS := Lib.hid hs; have HL := Lib.hid hl
  clear hc hg hs hl
  go_enter Tryz.func160, Tryz.ntmps160
  go_wp2_with fail
  go_loopw [5] (fun i wr => ∃ k : Nat, i = .int .i64 (k : Int) ∧ k ≤ nd ∧ k ≤ s.size ∧ (∀ j, j < k → g j = tb s j) ∧ ∃ q, wr = w.drewN q) (fun i _ => s.size - (intOf i).toNat)
  case atStart => exact ⟨0, rfl, Nat.zero_le _, Nat.zero_le _, fun j hj => absurd hj (by omega), 0, rfl⟩
  case round =>
    obtain ⟨k, rfl, k1, k2, hke, q, rfl⟩ := hrel
    have HE := Lib.hid hke
    clear hke
    by_cases hks : k = s.size
    · subst hks
      go_wp2_with fail
      go_ret
      exact ⟨by rw [decide_eq_false (Nat.not_lt.2 (nm_more k1 HE.out))]; rfl, _, rfl⟩
    · have hkl : k < s.size := by omega
      by_cases hkn : k = nd
      · subst hkn
        go_wp2_with fail
        go_ret
        exact ⟨by rw [decide_eq_true (nm_short hkl HE.out HL.out)]; rfl, _, rfl⟩
      · have hkd : k < nd := by omega
        have c1 := HC.out k hkd
        have e1 := tb_at s hkl
        by_cases heq : g k = tb s k
        · have t1 : ((g k : Int) != (tb s k : Int)) = false := by rw [bne_eq_false_iff_eq]; omega
          go_wp2_with fail
          go_quiet (fail)
          go_wp2_with fail
          exact ⟨⟨k + 1, by go_num, by omega, by omega, fun j hj => by
            by_cases h : j = k
            · subst h; exact heq
            · exact HE.out j (by omega), _, rfl⟩, by simp only [intOf]; omega⟩
        · have t1 : ((g k : Int) != (tb s k : Int)) = true := by rw [bne_iff_ne]; omega
          go_wp2_with fail
          go_quiet (fail)
          go_wp2_with fail
          go_quiet (fail)
          go_wp2_with fail
          go_ret
          have hgk := HG.out k hkd
          have hsk := HS.out k hkl
          refine ⟨?_, _, by rw [World.drewN_drewN, World.drewN_drewN]⟩
          by_cases hlt : g k < tb s k
          · have h1 := nm_less (p := k + 1) (n := nd) (m := s.size) (h := tb s) HG.out (by omega) (by omega) (by
              rw [nm_succ, nm_succ, nm_congr HE.out]; omega)
            rw [decide_eq_true h1]
            first | (rw [decide_eq_true hlt]; rfl) | (simp [hlt]; done) | (simp only [hlt, decide_true]; rfl)
          · have h1 := nm_less (p := k + 1) (n := s.size) (m := nd) (h := g) HS.out (by omega) (by omega) (by
              rw [nm_succ, nm_succ, nm_congr HE.out]; omega)
            rw [decide_eq_false (Nat.not_lt.2 (Nat.le_of_lt h1))]
            first | (rw [decide_eq_false hlt]; rfl) | (simp [hlt]; done) | (simp only [hlt, decide_false]; rfl)
end Go.Proofs.YthjfdhkahmlolaaGreatDoor

/- The table of leftShift's cheats: what it says of any digits. -/
namespace Go.Proofs.YthjfdhkahmlolaaGreatDoor
open Go.RowKit
set_option maxRecDepth 100000
/-- new digits, and the text of 5^k -/
def chD (k : Nat) : Nat := ((Go.Pinned.cheatRows[k]?).getD (0, [])).1
def chL (k : Nat) : List UInt8 := ((Go.Pinned.cheatRows[k]?).getD (0, [])).2
def chS (k : Nat) : ByteArray := ⟨(chL k).toArray⟩
def chOk (k : Nat) : Bool :=
  nm (fun i => ((chL k)[i]?.getD 0).toNat) (chL k).length == 5 ^ k && k + 1 == (chL k).length + chD k && 1 ≤ (chL k).length && (chL k).length ≤ 60 &&
  decide (10 ^ ((chL k).length - 1) ≤ 5 ^ k) && decide (5 ^ k < 10 ^ (chL k).length) && (chL k).all (fun x => 48 ≤ x && x ≤ 57) && (((chL k).getLast?).getD 0) == 53
theorem ch_ok : ∀ k, k < 61 → 1 ≤ k → chOk k = true := by decide +kernel
theorem cheat_rows_len : Go.Pinned.cheatRows.length = 61 := by decide +kernel
theorem chS_size (k : Nat) : (chS k).size = (chL k).length := by unfold chS; simp [ByteArray.size]
theorem chS_bl (k : Nat) : bl (chS k) = (chL k).map UInt8.toNat := rfl
theorem chS_tb (k i : Nat) : tb (chS k) i = ((chL k)[i]?.getD 0).toNat := by
  unfold tb
  rw [chS_bl, List.getElem?_map]
  cases (chL k)[i]? <;> rfl
structure ChP (k : Nat) : Prop where
  num : nm (tb (chS k)) (chS k).size = 5 ^ k
  len : k + 1 = (chS k).size + chD k
  one : 1 ≤ (chS k).size
  most : (chS k).size ≤ 60
  lo : 10 ^ ((chS k).size - 1) ≤ 5 ^ k
  hi : 5 ^ k < 10 ^ (chS k).size
  dgt : Dgt (tb (chS k)) (chS k).size
  last : 49 ≤ tb (chS k) ((chS k).size - 1)
theorem ch_p {k : Nat} (h1 : 1 ≤ k) (h2 : k ≤ 60) : ChP k := by
  have h := ch_ok k (by omega) h1
  unfold chOk at h
  simp only [Bool.and_eq_true, beq_iff_eq, decide_eq_true_eq, List.all_eq_true] at h
  obtain ⟨⟨⟨⟨⟨⟨⟨a1, a2⟩, a3⟩, a4⟩, a5⟩, a6⟩, a7⟩, a8⟩ := h
  have e : ∀ i, tb (chS k) i = ((chL k)[i]?.getD 0).toNat := chS_tb k
  refine ⟨?_, by rw [chS_size]; exact a2, by rw [chS_size]; exact a3, by rw [chS_size]; exact a4, by rw [chS_size]; exact a5, by rw [chS_size]; exact a6, ?_, ?_⟩
  · rw [chS_size, ← a1]; exact nm_congr (fun i _ => e i)
  · intro i hi
    rw [chS_size] at hi
    rw [e, List.getElem?_eq_getElem hi]
    have h := a7 (chL k)[i] (List.getElem_mem hi)
    have h1 : (48 : UInt8) ≤ (chL k)[i] := h.1
    have h2 : (chL k)[i] ≤ (57 : UInt8) := h.2
    exact ⟨by simpa [UInt8.le_iff_toNat_le] using h1, by simpa [UInt8.le_iff_toNat_le] using h2⟩
  · rw [e, chS_size]
    rw [List.getLast?_eq_getElem?] at a8
    rw [a8]; decide
/-- the digits of a number shifted by k bits -/
theorem shift_len {g : Nat → Nat} {n k D : Nat} {r : Bool} (C : ChP k) (hg : Dgt g n) (h1 : 1 ≤ n) (h0 : 49 ≤ g 0) (hr1 : r = true → nm g n * 10 ^ (chS k).size < 5 ^ k * 10 ^ n) (hr2 : r = false → 5 ^ k * 10 ^ n ≤ nm g n * 10 ^ (chS k).size) (hD : D = if r then chD k - 1 else chD k) :
    (r = true → 1 ≤ chD k) ∧ 10 ^ (n + D - 1) ≤ nm g n * 2 ^ k ∧ nm g n * 2 ^ k < 10 ^ (n + D) := by
  obtain ⟨_, c2, c3, _, c5, c6, _, _⟩ := C
  have hN := nm_lt hg
  have hN2 := nm_ge (n := n) h1 h0
  generalize nm g n = N at *
  generalize (chS k).size = L at *
  generalize chD k = d at *
  have e25 : (2 : Nat) ^ k * 5 ^ k = 10 ^ k := by rw [← Nat.mul_pow]
  have p5 : 0 < (5 : Nat) ^ k := Nat.pow_pos (by decide)
  have pL : 0 < (10 : Nat) ^ L := Nat.pow_pos (by decide)
  have hp : ∀ a b : Nat, (10 : Nat) ^ a * 10 ^ b = 10 ^ (a + b) := fun a b => (Nat.pow_add ..).symm
  cases r
  · refine ⟨fun h => absurd h (by decide), ?_, ?_⟩
    · have h := hr2 rfl
      rw [if_neg (by decide)] at hD
      subst hD
      have h3 : 10 ^ (n + D - 1) * 10 ^ L ≤ N * 2 ^ k * 10 ^ L := by
        rw [hp, show n + D - 1 + L = k + n by omega, ← hp, ← e25]
        have := Nat.mul_le_mul_left (2 ^ k) h
        rw [← Nat.mul_assoc, ← Nat.mul_assoc] at this
        rw [Nat.mul_comm N (2 ^ k)]
        exact this
      exact Nat.le_of_mul_le_mul_right h3 pL
    · rw [if_neg (by decide)] at hD
      subst hD
      have h2 : 2 ^ k ≤ 10 ^ D := by
        have h4 : 2 ^ k * 10 ^ (L - 1) ≤ 10 ^ D * 10 ^ (L - 1) := by
          rw [hp, show D + (L - 1) = k by omega, ← e25]
          exact Nat.mul_le_mul_left _ c5
        exact Nat.le_of_mul_le_mul_right h4 (Nat.pow_pos (by decide))
      rw [← hp]
      exact Nat.lt_of_lt_of_le (Nat.mul_lt_mul_of_pos_right hN (Nat.pow_pos (by decide))) (Nat.mul_le_mul_left _ h2)
  · have h := hr1 rfl
    rw [if_pos rfl] at hD
    have hd : 1 ≤ d := by
      rcases Nat.eq_zero_or_pos d with hd | hd
      · exfalso
        have h6 : k + 1 ≤ L := by omega
        have h7 : (5 : Nat) ^ k < 10 ^ k + 1 := Nat.lt_succ_of_le (Nat.pow_le_pow_left (by decide) k)
        have h8 : (10 : Nat) ^ k ≤ 10 ^ (L - 1) := Nat.pow_le_pow_right (by decide) (by omega)
        have h9 : 5 ^ k = 10 ^ k := by omega
        have hk : (2 : Nat) ^ k = 1 := by
          have h10 : 2 ^ k * 5 ^ k = 1 * 5 ^ k := by rw [e25, h9, Nat.one_mul]
          exact Nat.eq_of_mul_eq_mul_right p5 h10
        have hk0 : k = 0 := by
          rcases Nat.eq_zero_or_pos k with h | h
          · exact h
          · have := Nat.one_lt_two_pow (n := k) (by omega); omega
        subst hk0
        have : L = 1 := by omega
        subst this
        simp at h
        have h11 : 10 ^ (n - 1) * 10 = 10 ^ n := by rw [← Nat.pow_succ]; congr 1; omega
        omega
      · exact hd
    refine ⟨fun _ => hd, ?_, ?_⟩
    · have h2 : 10 ^ (d - 1) ≤ 2 ^ k := by
        have h4 : 10 ^ (d - 1) * 10 ^ L ≤ 2 ^ k * 10 ^ L := by
          rw [hp, show d - 1 + L = k by omega, ← e25]
          exact Nat.mul_le_mul_left _ (Nat.le_of_lt c6)
        exact Nat.le_of_mul_le_mul_right h4 pL
      have := Nat.mul_le_mul hN2 h2
      rw [hp] at this
      rw [hD, show n + (d - 1) - 1 = n - 1 + (d - 1) by omega]
      exact this
    · have h3 : N * 2 ^ k * 10 ^ L < 10 ^ (n + D) * 10 ^ L := by
        rw [hp, hD, show n + (d - 1) + L = k + n by omega, ← hp, ← e25]
        have := Nat.mul_lt_mul_of_pos_left h (Nat.two_pow_pos k)
        rw [← Nat.mul_assoc, ← Nat.mul_assoc] at this
        rw [Nat.mul_comm N (2 ^ k)]
        exact this
      exact Nat.lt_of_mul_lt_mul_right h3
end Go.Proofs.YthjfdhkahmlolaaGreatDoor
