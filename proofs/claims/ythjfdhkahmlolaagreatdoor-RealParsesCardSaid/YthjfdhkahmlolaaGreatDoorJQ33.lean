/- The reference's decimal. Printed by gen_nub.py. -/
import Derived.Test.YthjfdhkahmlolaaGreatDoorJQ32
import Derived.OwnWalk
namespace Go.Proofs.YthjfdhkahmlolaaGreatDoor
open Go.RowKit
set_option maxRecDepth 100000
def decT : Option (Nat × Int) → Value
  | none => .tuple #[.int .u64 0, .int .i64 0, .bool false]
  | some (c, s) => .tuple #[.int .u64 (c : Int), .int .i64 s, .bool true]
def DcR (l : List Nat) (tot : Option (Dst × List Nat)) (w0 : World) (v5 v6 v7 v8 v9 : Value) (w : World) : Prop :=
  ∃ (pre rest : List Nat) (c : Nat) (s p : Int) (d : Nat), l = pre ++ rest ∧ dc1 rest ⟨c, s, p, d, pre.length⟩ = tot ∧ c ≤ 999999999999999999 ∧ -(pre.length : Int) ≤ s ∧ s ≤ pre.length ∧ -1 ≤ p ∧ p ≤ pre.length ∧ d ≤ pre.length ∧
    v5 = .int .u64 (c : Int) ∧ v6 = .int .i64 s ∧ v7 = .int .i64 p ∧ v8 = .int .i64 (d : Int) ∧ v9 = .int .i64 ((pre.length : Nat) : Int) ∧ w = w0
theorem DcR.next {l : List Nat} {tot : Option (Dst × List Nat)} {w0 : World} {pre r : List Nat} {b c c' : Nat} {s s' p p' : Int} {d d' : Nat} {v5 v6 v7 v8 v9 : Value} (hl : l = pre ++ b :: r) (ht : dc1 (b :: r) ⟨c, s, p, d, pre.length⟩ = tot) (hb : b ≠ 101)
    (hs : dcs ⟨c, s, p, d, pre.length⟩ b = some ⟨c', s', p', d', pre.length + 1⟩) (h1 : c' ≤ 999999999999999999) (h2 : -(pre.length : Int) - 1 ≤ s') (h3 : s' ≤ pre.length + 1) (h4 : -1 ≤ p') (h5 : p' ≤ pre.length + 1) (h6 : d' ≤ pre.length + 1)
    (e5 : v5 = .int .u64 (c' : Int)) (e6 : v6 = .int .i64 s') (e7 : v7 = .int .i64 p') (e8 : v8 = .int .i64 (d' : Int)) (e9 : v9 = .int .i64 ((pre.length : Int) + 1)) : DcR l tot w0 v5 v6 v7 v8 v9 w0 := by
  have e : (pre ++ [b]).length = pre.length + 1 := by simp
  refine ⟨pre ++ [b], r, c', s', p', d', by rw [hl]; simp, ?_, h1, ?_, ?_, h4, ?_, ?_, e5, e6, e7, e8, ?_, rfl⟩
  · rw [e, ← ht, dc1_some hb hs]
  · rw [e]; omega
  · rw [e]; omega
  · rw [e]; omega
  · rw [e]; omega
  · rw [e9, e]; rfl
def DeR (l : List Nat) (tot : Option Nat) (w0 : World) (v9 v11 : Value) (w : World) : Prop :=
  ∃ (pre rest : List Nat) (e : Nat), l = pre ++ rest ∧ dc2 rest e = tot ∧ rest.length ≤ 3 ∧ e < 10 ^ (3 - rest.length) ∧ v9 = .int .i64 ((pre.length : Nat) : Int) ∧ v11 = .int .i64 (e : Int) ∧ w = w0
theorem DeR.next {l : List Nat} {tot : Option Nat} {w0 : World} {pre r : List Nat} {b e : Nat} {v9 v11 : Value} (hl : l = pre ++ b :: r) (ht : dc2 (b :: r) e = tot) (hb : 48 ≤ b ∧ b ≤ 57) (h3 : (b :: r).length ≤ 3) (he : e < 10 ^ (3 - (b :: r).length))
    (e9 : v9 = .int .i64 ((pre.length : Int) + 1)) (e11 : v11 = .int .i64 (10 * (e : Int) + ((b : Int) - 48))) : DeR l tot w0 v9 v11 w0 := by
  have e1 : (pre ++ [b]).length = pre.length + 1 := by simp
  have hs : decStep e b = e * 10 + (b - 48) := rfl
  have hr : (b :: r).length = r.length + 1 := rfl
  refine ⟨pre ++ [b], r, decStep e b, by rw [hl]; simp, ?_, by omega, ?_, ?_, ?_, rfl⟩
  · rw [← ht, dc2, if_neg (by omega)]
  · rw [hs]
    have : 10 ^ (3 - r.length) = 10 ^ (3 - (b :: r).length) * 10 := by rw [← Nat.pow_succ]; congr 1; omega
    omega
  · rw [e9, e1]; rfl
  · rw [e11, hs]; congr 1; omega
theorem de_small {n e : Nat} (h : e < 10 ^ (3 - n)) : e ≤ 999 ∧ (1 ≤ n → e ≤ 99) := by
  have h1 : 10 ^ (3 - n) ≤ 10 ^ 3 := Nat.pow_le_pow_right (by decide) (by omega)
  refine ⟨by rw [show (10 : Nat) ^ 3 = 1000 by decide] at h1; omega, fun hn => ?_⟩
  have h2 : 10 ^ (3 - n) ≤ 10 ^ 2 := Nat.pow_le_pow_right (by decide) (by omega)
  rw [show (10 : Nat) ^ 2 = 100 by decide] at h2; omega
theorem dcO_none {st : Dst} {r : List Nat} (h : st.d = 0 ∨ st.c = 0) : dcO (some (st, r)) = none := by
  unfold dcO; simp only; rw [if_pos h]
theorem dcO_e {st : Dst} {r : List Nat} (h1 : st.d ≠ 0) (h2 : st.c ≠ 0) : dcO (some (st, 101 :: r)) = (dcE r).map fun e => (st.c, st.s + e) := by
  unfold dcO; simp only; rw [if_neg (by omega)]
theorem dcE_nil : dcE [] = none := rfl
theorem dcE_m0 : dcE [45] = none := rfl
theorem dcE_m3 {r : List Nat} (h : 3 < r.length) : dcE (45 :: r) = none := by
  unfold dcE; rw [List.head?_cons, if_pos rfl, List.tail_cons, if_pos (.inr h)]
theorem dcE_m {r : List Nat} (h0 : r ≠ []) (h : r.length ≤ 3) : dcE (45 :: r) = (dc2 r 0).map fun e => -(e : Int) := by
  unfold dcE; rw [List.head?_cons, if_pos rfl, List.tail_cons, if_neg (by rintro (g | g); exact h0 g; omega)]
theorem dcE_p3 {x : Nat} {r : List Nat} (hx : x ≠ 45) (h : 3 < (x :: r).length) : dcE (x :: r) = none := by
  unfold dcE; rw [List.head?_cons, if_neg (by intro g; exact hx (Option.some.inj g)), if_pos (.inr h)]
theorem dcE_p {x : Nat} {r : List Nat} (hx : x ≠ 45) (h : (x :: r).length ≤ 3) : dcE (x :: r) = (dc2 (x :: r) 0).map fun e => (e : Int) := by
  unfold dcE; rw [List.head?_cons, if_neg (by intro g; exact hx (Option.some.inj g)), if_neg (by rintro (g | g); cases g; omega)]
set_option maxHeartbeats 16000000 in
theorem decimal_calls (S : ByteArray) (w : World) (hS : S.size ≤ 1000) :
    Calls Tryz.prog 30 #[.string S] w fun en w' => en = .returned (decT (decF (bl S))) ∧ w' = w := by
  have HZ := Lib.hid (bl_size S)
  obtain ⟨F, hF⟩ : ∃ F, F = decF (bl S) := ⟨_, rfl⟩
  obtain ⟨tot, ht⟩ : ∃ tot, tot = dc1 (bl S) st0 := ⟨_, rfl⟩
  have hFt : F = dcO tot := by rw [hF, ht]; rfl
  rw [← hF]
  have HT := Lib.hid ht; have HF := Lib.hid hFt
  clear ht hF hFt
  go_enter Tryz.func30, Tryz.ntmps30
  go_wp2_with fail
  go_loopw [5, 6, 7, 8, 9] (fun v5 v6 v7 v8 v9 wr => DcR (bl S) tot w v5 v6 v7 v8 v9 wr) (fun _ _ _ _ v9 _ => S.size - (intOf v9).toNat)
  case atStart => exact ⟨[], bl S, 0, 0, -1, 0, rfl, HT.out.symm, by decide, by simp, by simp, by decide, by decide, by simp, rfl, rfl, rfl, rfl, rfl, rfl⟩
  case round =>
    obtain ⟨pre, rest, c, s, p, d, hl, hrt, hc, s1, s2, p1, p2, hd, rfl, rfl, rfl, rfl, rfl, hw⟩ := hrel
    rw [hw]; clear hw
    have HL := Lib.hid hl; have HR := Lib.hid hrt; clear hl hrt
    cases rest with
    | nil =>
      have hlen : S.size = pre.length := by rw [HZ.out, HL.out]; simp
      have HE := Lib.hid (show tot = some (⟨c, s, p, d, pre.length⟩, []) from HR.out.symm)
      generalize pre.length = n at *
      by_cases hd0 : d = 0
      · have HN := Lib.hid (show F = none by rw [HF.out, HE.out]; exact dcO_none (.inl hd0))
        subst hd0
        go_wp2_with fail
        go_ret3
        exact ⟨by rw [HN.out]; rfl, rfl⟩
      · have td : ((d : Int) == 0) = false := by rw [beq_eq_false_iff_ne]; omega
        by_cases hc0 : c = 0
        · have HN := Lib.hid (show F = none by rw [HF.out, HE.out]; exact dcO_none (.inr hc0))
          subst hc0
          go_wp2_with fail
          go_ret3
          exact ⟨by rw [HN.out]; rfl, rfl⟩
        · have tc : ((c : Int) == 0) = false := by rw [beq_eq_false_iff_ne]; omega
          have HN := Lib.hid (show F = some (c, s) by rw [HF.out, HE.out]; exact dcO_end (show 1 ≤ d by omega) (show 1 ≤ c by omega))
          have tl : ((n : Int) == (S.size : Int)) = true := by rw [beq_iff_eq]; omega
          go_wp2_with fail
          go_ret3
          exact ⟨by rw [HN.out]; rfl, rfl⟩
    | cons b r =>
      have hlen : S.size = pre.length + 1 + r.length := by rw [HZ.out, HL.out]; simp; omega
      have hlt : pre.length < S.size := by omega
      have hcc := bl_at HL.out hlt
      have hb256 : b < 256 := bl_lt (by rw [HL.out]; simp)
      by_cases h101 : b = 101
      · subst h101
        have HE := Lib.hid (show tot = some (⟨c, s, p, d, pre.length⟩, 101 :: r) by rw [← HR.out]; exact dc1_e _ _)
        by_cases hd0 : d = 0
        · have HN := Lib.hid (show F = none by rw [HF.out, HE.out]; exact dcO_none (.inl hd0))
          subst hd0
          go_wp2_with fail
          go_ret3
          exact ⟨by rw [HN.out]; rfl, rfl⟩
        · have td : ((d : Int) == 0) = false := by rw [beq_eq_false_iff_ne]; omega
          by_cases hc0 : c = 0
          · have HN := Lib.hid (show F = none by rw [HF.out, HE.out]; exact dcO_none (.inr hc0))
            subst hc0
            go_wp2_with fail
            go_ret3
            exact ⟨by rw [HN.out]; rfl, rfl⟩
          · have tc : ((c : Int) == 0) = false := by rw [beq_eq_false_iff_ne]; omega
            have HX := Lib.hid (show F = (dcE r).map fun e => (c, s + e) by rw [HF.out, HE.out]; exact dcO_e hd0 hc0)
            have HL2 := Lib.hid (show bl S = (pre ++ [101]) ++ r by rw [HL.out]; simp)
            clear HE HR HF HT hd0 hc0
            cases r with
            | nil =>
              have hl2 : S.size = pre.length + 1 := by rw [hlen]; rfl
              have HN := Lib.hid (show F = none by rw [HX.out, dcE_nil]; rfl)
              go_wp2_with fail
              go_ret3
              exact ⟨by rw [HN.out]; rfl, rfl⟩
            | cons x r1 =>
              have hl2 : S.size = pre.length + 1 + 1 + r1.length := by rw [hlen]; simp; omega
              have hlt2 : (pre ++ [101]).length < S.size := by simp; omega
              have hcx := bl_at HL2.out hlt2
              simp only [List.length_append, List.length_cons, List.length_nil, Nat.zero_add] at hcx
              have hx256 : x < 256 := bl_lt (by rw [HL2.out]; simp)
              by_cases h45 : x = 45
              · subst h45
                cases r1 with
                | nil =>
                  have hl3 : S.size = pre.length + 2 := by rw [hl2]; rfl
                  have HN := Lib.hid (show F = none by rw [HX.out, dcE_m0]; rfl)
                  go_wp2_with fail
                  go_ret3
                  exact ⟨by rw [HN.out]; rfl, rfl⟩
                | cons y r2 =>
                  have hl3 : S.size = pre.length + 3 + r2.length := by rw [hl2]; simp; omega
                  by_cases h3 : 3 < (y :: r2).length
                  · have HN := Lib.hid (show F = none by rw [HX.out, dcE_m3 h3]; rfl)
                    have h3' : 3 ≤ r2.length := by simp at h3; omega
                    go_wp2_with fail
                    go_ret3
                    exact ⟨by rw [HN.out]; rfl, rfl⟩
                  · have h3' : r2.length ≤ 2 := by simp at h3; omega
                    obtain ⟨tt, htt⟩ : ∃ tt, tt = dc2 (y :: r2) 0 := ⟨_, rfl⟩
                    have HY := Lib.hid (show F = (tt.map fun e => -(e : Int)).map fun e => (c, s + e) by rw [HX.out, dcE_m (by simp) (by omega), htt])
                    have HT2 := Lib.hid htt; clear htt
                    have HL3 := Lib.hid (show bl S = (pre ++ [101, 45]) ++ (y :: r2) by rw [HL.out]; simp)
                    have HS3 := Lib.hid (show (y :: r2).length ≤ 3 by simp; omega)
                    have z1 : pre.length + 2 < S.size := by omega
                    have z2 : S.size ≤ pre.length + 5 := by omega
                    have tq : ((pre.length : Int) + 1 + 1 == (S.size : Int)) = false := by rw [beq_eq_false_iff_ne]; omega
                    clear hl3 hl2 hlen h3 h3'
                    generalize hq : y :: r2 = q at *
                    have HP3 := Lib.hid (show (pre ++ [101, 45]).length = pre.length + 2 by rw [List.length_append]; rfl)
                    go_wp2_with fail
                    go_loopw [9, 11] (fun v9 v11 wr => DeR (bl S) tt w v9 v11 wr) (fun v9 _ _ => S.size - (intOf v9).toNat)
                    case atStart => exact ⟨_, q, 0, HL3.out, HT2.out.symm, HS3.out, Nat.pow_pos (by decide), congrArg (Value.int .i64) (by rw [HP3.out]; omega), rfl, rfl⟩
                    case round =>
                      obtain ⟨pre2, rest2, e, hl, hrt, h33, he, rfl, rfl, hw⟩ := hrel
                      rw [hw]; clear hw
                      have HLL := Lib.hid hl; have HRR := Lib.hid hrt; have HEE := Lib.hid he
                      obtain ⟨e1, e2⟩ := de_small he
                      clear hl hrt he
                      cases rest2 with
                      | nil =>
                        have hln : S.size = pre2.length := by rw [HZ.out, HLL.out]; simp
                        have HN := Lib.hid (show F = some (c, s + -(e : Int)) by rw [HY.out, ← HRR.out]; rfl)
                        generalize pre2.length = n2 at *
                        clear e2
                        have t9 : decide ((n2 : Int) < (S.size : Int)) = false := decide_eq_false (by omega)
                        go_wp2_with fail
                        go_ret3
                        exact ⟨by rw [HN.out]; rfl, rfl⟩
                      | cons z r3 =>
                        have hln : S.size = pre2.length + 1 + r3.length := by rw [HZ.out, HLL.out]; simp; omega
                        have hlt3 : pre2.length < S.size := by omega
                        have hcz := bl_at HLL.out hlt3
                        have hz256 : z < 256 := bl_lt (by rw [HLL.out]; simp)
                        have e3 : e ≤ 99 := e2 (by simp)
                        clear e2
                        by_cases hdg : 48 ≤ z ∧ z ≤ 57
                        · have tlo : decide ((z : Int) < 48) = false := decide_eq_false (by omega)
                          have thi : decide ((57 : Int) < (z : Int)) = false := decide_eq_false (by omega)
                          have H33 := Lib.hid h33; clear h33
                          go_wp2_with fail
                          exact ⟨DeR.next HLL.out HRR.out hdg H33.out HEE.out rfl rfl, by simp only [intOf]; omega⟩
                        · have HN := Lib.hid (show F = none by rw [HY.out, ← HRR.out, dc2, if_pos (by omega)]; rfl)
                          by_cases hlo : z < 48
                          · have tlo : decide ((z : Int) < 48) = true := decide_eq_true (by omega)
                            clear hdg
                            go_wp2_with fail
                            go_ret3
                            exact ⟨by rw [HN.out]; rfl, rfl⟩
                          · have tlo : decide ((z : Int) < 48) = false := decide_eq_false (by omega)
                            have thi : decide ((57 : Int) < (z : Int)) = true := decide_eq_true (by omega)
                            clear hdg
                            go_wp2_with fail
                            go_ret3
                            exact ⟨by rw [HN.out]; rfl, rfl⟩
              · have tx : ((x : Int) == 45) = false := by rw [beq_eq_false_iff_ne]; omega
                by_cases h3 : 3 < (x :: r1).length
                · have HN := Lib.hid (show F = none by rw [HX.out, dcE_p3 h45 h3]; rfl)
                  have h3' : 3 ≤ r1.length := by simp at h3; omega
                  go_wp2_with fail
                  go_ret3
                  exact ⟨by rw [HN.out]; rfl, rfl⟩
                · have h3' : r1.length ≤ 2 := by simp at h3; omega
                  obtain ⟨tt, htt⟩ : ∃ tt, tt = dc2 (x :: r1) 0 := ⟨_, rfl⟩
                  have HY := Lib.hid (show F = (tt.map fun e => (e : Int)).map fun e => (c, s + e) by rw [HX.out, dcE_p h45 (by omega), htt])
                  have HT2 := Lib.hid htt; clear htt
                  have HL3 := Lib.hid (show bl S = (pre ++ [101]) ++ (x :: r1) by rw [HL.out]; simp)
                  have HS3 := Lib.hid (show (x :: r1).length ≤ 3 by simp; omega)
                  have z1 : pre.length + 1 < S.size := by omega
                  have z2 : S.size ≤ pre.length + 4 := by omega
                  have tq : ((pre.length : Int) + 1 == (S.size : Int)) = false := by rw [beq_eq_false_iff_ne]; omega
                  clear hl2 hlen h3 h3'
                  generalize hq : x :: r1 = q at *
                  have HP3 := Lib.hid (show (pre ++ [101]).length = pre.length + 1 by rw [List.length_append]; rfl)
                  go_wp2_with fail
                  go_loopw [9, 11] (fun v9 v11 wr => DeR (bl S) tt w v9 v11 wr) (fun v9 _ _ => S.size - (intOf v9).toNat)
                  case atStart => exact ⟨_, q, 0, HL3.out, HT2.out.symm, HS3.out, Nat.pow_pos (by decide), congrArg (Value.int .i64) (by rw [HP3.out]; omega), rfl, rfl⟩
                  case round =>
                    obtain ⟨pre2, rest2, e, hl, hrt, h33, he, rfl, rfl, hw⟩ := hrel
                    rw [hw]; clear hw
                    have HLL := Lib.hid hl; have HRR := Lib.hid hrt; have HEE := Lib.hid he
                    obtain ⟨e1, e2⟩ := de_small he
                    clear hl hrt he
                    cases rest2 with
                    | nil =>
                      have hln : S.size = pre2.length := by rw [HZ.out, HLL.out]; simp
                      have HN := Lib.hid (show F = some (c, s + (e : Int)) by rw [HY.out, ← HRR.out]; rfl)
                      generalize pre2.length = n2 at *
                      clear e2
                      have t9 : decide ((n2 : Int) < (S.size : Int)) = false := decide_eq_false (by omega)
                      go_wp2_with fail
                      go_ret3
                      exact ⟨by rw [HN.out]; rfl, rfl⟩
                    | cons z r3 =>
                      have hln : S.size = pre2.length + 1 + r3.length := by rw [HZ.out, HLL.out]; simp; omega
                      have hlt3 : pre2.length < S.size := by omega
                      have hcz := bl_at HLL.out hlt3
                      have hz256 : z < 256 := bl_lt (by rw [HLL.out]; simp)
                      have e3 : e ≤ 99 := e2 (by simp)
                      clear e2
                      by_cases hdg : 48 ≤ z ∧ z ≤ 57
                      · have tlo : decide ((z : Int) < 48) = false := decide_eq_false (by omega)
                        have thi : decide ((57 : Int) < (z : Int)) = false := decide_eq_false (by omega)
                        have H33 := Lib.hid h33; clear h33
                        go_wp2_with fail
                        exact ⟨DeR.next HLL.out HRR.out hdg H33.out HEE.out rfl rfl, by simp only [intOf]; omega⟩
                      · have HN := Lib.hid (show F = none by rw [HY.out, ← HRR.out, dc2, if_pos (by omega)]; rfl)
                        by_cases hlo : z < 48
                        · have tlo : decide ((z : Int) < 48) = true := decide_eq_true (by omega)
                          clear hdg
                          go_wp2_with fail
                          go_ret3
                          exact ⟨by rw [HN.out]; rfl, rfl⟩
                        · have tlo : decide ((z : Int) < 48) = false := decide_eq_false (by omega)
                          have thi : decide ((57 : Int) < (z : Int)) = true := decide_eq_true (by omega)
                          clear hdg
                          go_wp2_with fail
                          go_ret3
                          exact ⟨by rw [HN.out]; rfl, rfl⟩
      · have t101 : ((b : Int) != 101) = true := by rw [bne_iff_ne]; omega
        have H101 := Lib.hid h101
        by_cases h46 : b = 46 ∧ p < 0
        · obtain ⟨rfl, hp⟩ := h46
          have tp : decide (p < 0) = true := decide_eq_true hp
          have HD := Lib.hid (show dcs ⟨c, s, p, d, pre.length⟩ 46 = some ⟨c, s, (pre.length : Int), d, pre.length + 1⟩ from dcs_dot hp)
          go_wp2_with fail
          exact ⟨DcR.next HL.out HR.out H101.out HD.out hc (by omega) (by omega) (by omega) (by omega) (by omega) rfl rfl rfl rfl rfl, by simp only [intOf]; omega⟩
        · by_cases hdg : 48 ≤ b ∧ b ≤ 57
          · have t46 : ((b : Int) == 46) = false := by rw [beq_eq_false_iff_ne]; omega
            have tlo : decide ((b : Int) < 48) = false := decide_eq_false (by omega)
            have thi : decide ((57 : Int) < (b : Int)) = false := decide_eq_false (by omega)
            by_cases hz : zrl c b
            · obtain ⟨rfl, hz2⟩ := hz
              have tz : decide ((100000000000000000 : Int) ≤ (c : Int)) = true := decide_eq_true (by omega)
              have tb : decide ((999999999999999999 : Int) < (c : Int)) = false := decide_eq_false (by omega)
              by_cases hp : 0 ≤ p
              · have tp : decide ((0 : Int) ≤ p) = true := decide_eq_true hp
                have HD := Lib.hid (show dcs ⟨c, s, p, d, pre.length⟩ 48 = some ⟨c, s + 1 - 1, p, d + 1, pre.length + 1⟩ by have h := dcs_zero (st := ⟨c, s, p, d, pre.length⟩) hz2 hc; rw [if_pos hp] at h; exact h)
                clear h46
                go_wp2_with fail
                exact ⟨DcR.next HL.out HR.out H101.out HD.out hc (by omega) (by omega) (by omega) (by omega) (by omega) rfl (congrArg (Value.int .i64) (by omega)) rfl (congrArg (Value.int .i64) (by omega)) rfl, by simp only [intOf]; omega⟩
              · have tp : decide ((0 : Int) ≤ p) = false := decide_eq_false hp
                have HD := Lib.hid (show dcs ⟨c, s, p, d, pre.length⟩ 48 = some ⟨c, s + 1 - 0, p, d + 1, pre.length + 1⟩ by have h := dcs_zero (st := ⟨c, s, p, d, pre.length⟩) hz2 hc; rw [if_neg hp] at h; exact h)
                clear h46
                go_wp2_with fail
                exact ⟨DcR.next HL.out HR.out H101.out HD.out hc (by omega) (by omega) (by omega) (by omega) (by omega) rfl (congrArg (Value.int .i64) (by omega)) rfl (congrArg (Value.int .i64) (by omega)) rfl, by simp only [intOf]; omega⟩
            · have hcz : b ≠ 48 ∨ c < 100000000000000000 := by unfold zrl at hz; omega
              have hst : decStep c b = c * 10 + (b - 48) := rfl
              have HST := Lib.hid hst
              by_cases hbig : 999999999999999999 < decStep c b
              · have HN := Lib.hid (show F = none by rw [HF.out, ← HR.out, dc1_none h101 (dcs_big hdg hz hbig)]; rfl)
                rw [hst] at hbig
                have tb : decide ((999999999999999999 : Int) < 10 * (c : Int) + ((b : Int) - 48)) = true := decide_eq_true (by omega)
                clear hst h46
                by_cases h48 : b = 48
                · exact absurd hbig (by omega)
                · have t48 : ((b : Int) == 48) = false := by rw [beq_eq_false_iff_ne]; omega
                  go_wp2_with fail
                  go_ret3
                  exact ⟨by rw [HN.out]; rfl, rfl⟩
              · have HP := Lib.hid (dcs_put (st := ⟨c, s, p, d, pre.length⟩) hdg hz (Nat.le_of_not_lt hbig))
                have hle : decStep c b ≤ 999999999999999999 := by omega
                have HLE := Lib.hid hle
                rw [hst] at hbig
                have tb : decide ((999999999999999999 : Int) < 10 * (c : Int) + ((b : Int) - 48)) = false := decide_eq_false (by omega)
                have HV := Lib.hid (show (10 * (c : Int) + ((b : Int) - 48)) = ((decStep c b : Nat) : Int) by rw [hst]; omega)
                clear hst hle h46
                by_cases hp : 0 ≤ p
                · have tp : decide ((0 : Int) ≤ p) = true := decide_eq_true hp
                  have HD := Lib.hid (show dcs ⟨c, s, p, d, pre.length⟩ b = some ⟨decStep c b, s - 1, p, d + 1, pre.length + 1⟩ by have h := HP.out; rw [if_pos hp] at h; exact h)
                  by_cases h48 : b = 48
                  · subst h48
                    have tz : decide ((100000000000000000 : Int) ≤ (c : Int)) = false := decide_eq_false (by omega)
                    go_wp2_with fail
                    exact ⟨DcR.next HL.out HR.out H101.out HD.out HLE.out (by omega) (by omega) (by omega) (by omega) (by omega) (congrArg (Value.int .u64) (by have := HST.out; omega)) (congrArg (Value.int .i64) (by omega)) rfl (congrArg (Value.int .i64) (by omega)) rfl, by simp only [intOf]; omega⟩
                  · have t48 : ((b : Int) == 48) = false := by rw [beq_eq_false_iff_ne]; omega
                    go_wp2_with fail
                    exact ⟨DcR.next HL.out HR.out H101.out HD.out HLE.out (by omega) (by omega) (by omega) (by omega) (by omega) (congrArg (Value.int .u64) (by have := HST.out; omega)) (congrArg (Value.int .i64) (by omega)) rfl (congrArg (Value.int .i64) (by omega)) rfl, by simp only [intOf]; omega⟩
                · have tp : decide ((0 : Int) ≤ p) = false := decide_eq_false hp
                  have HD := Lib.hid (show dcs ⟨c, s, p, d, pre.length⟩ b = some ⟨decStep c b, s - 0, p, d + 1, pre.length + 1⟩ by have h := HP.out; rw [if_neg hp] at h; exact h)
                  by_cases h48 : b = 48
                  · subst h48
                    have tz : decide ((100000000000000000 : Int) ≤ (c : Int)) = false := decide_eq_false (by omega)
                    go_wp2_with fail
                    exact ⟨DcR.next HL.out HR.out H101.out HD.out HLE.out (by omega) (by omega) (by omega) (by omega) (by omega) (congrArg (Value.int .u64) (by have := HST.out; omega)) (congrArg (Value.int .i64) (by omega)) rfl (congrArg (Value.int .i64) (by omega)) rfl, by simp only [intOf]; omega⟩
                  · have t48 : ((b : Int) == 48) = false := by rw [beq_eq_false_iff_ne]; omega
                    go_wp2_with fail
                    exact ⟨DcR.next HL.out HR.out H101.out HD.out HLE.out (by omega) (by omega) (by omega) (by omega) (by omega) (congrArg (Value.int .u64) (by have := HST.out; omega)) (congrArg (Value.int .i64) (by omega)) rfl (congrArg (Value.int .i64) (by omega)) rfl, by simp only [intOf]; omega⟩
          · have HN := Lib.hid (show F = none by rw [HF.out, ← HR.out, dc1_none h101 (dcs_bad (by omega) (by show b ≠ 46 ∨ 0 ≤ p; omega))]; rfl)
            by_cases hlo : b < 48
            · have tlo : decide ((b : Int) < 48) = true := decide_eq_true (by omega)
              by_cases hb46 : b = 46
              · subst hb46
                have tp : decide (p < 0) = false := decide_eq_false (by omega)
                clear h46 hdg
                go_wp2_with fail
                go_ret3
                exact ⟨by rw [HN.out]; rfl, rfl⟩
              · have t46 : ((b : Int) == 46) = false := by rw [beq_eq_false_iff_ne]; omega
                clear h46 hdg
                go_wp2_with fail
                go_ret3
                exact ⟨by rw [HN.out]; rfl, rfl⟩
            · have tlo : decide ((b : Int) < 48) = false := decide_eq_false (by omega)
              have thi : decide ((57 : Int) < (b : Int)) = true := decide_eq_true (by omega)
              have t46 : ((b : Int) == 46) = false := by rw [beq_eq_false_iff_ne]; omega
              clear h46 hdg
              go_wp2_with fail
              go_ret3
              exact ⟨by rw [HN.out]; rfl, rfl⟩
end Go.Proofs.YthjfdhkahmlolaaGreatDoor
