/- The walks of label's small functions at any text: letter, first, HasSuffix, HasPrefix. -/
import Derived.Test.YtiijgghholhcnaaGreatDoorJL04
import Derived.WalkMore
import Derived.LoopN
import Derived.Laws.RangeString
import Derived.BigQuiet
import Derived.Deep.QuietTactic
import Derived.Test.YtiijgghholhcnaaGreatDoorJL03
namespace Go.Proofs.YtiijgghholhcnaaGreatDoor
open Go.RowKit
set_option maxRecDepth 1000000
def letterB (c : Nat) : Bool := decide ((97 ≤ c ∧ c ≤ 122) ∨ (65 ≤ c ∧ c ≤ 90) ∨ (48 ≤ c ∧ c ≤ 57) ∨ c = 95)
theorem letter_yes (c : Nat) (w : World) (h : (97 ≤ c ∧ c ≤ 122) ∨ (65 ≤ c ∧ c ≤ 90) ∨ (48 ≤ c ∧ c ≤ 57) ∨ c = 95) : Calls Tryz.prog 92 #[.int .u8 (c : Int)] w fun e w' => e = .returned (.bool true) ∧ w' = w := by
  rcases h with h | h | h | h
  · have a1 : decide ((97 : Int) ≤ (c : Int)) = true := decide_eq_true (by omega)
    have a2 : decide ((c : Int) ≤ 122) = true := decide_eq_true (by omega)
    go_enter Tryz.func92, Tryz.ntmps92
    go_wp2_with fail
    go_ret
    exact ⟨rfl, rfl⟩
  · have a1 : decide ((97 : Int) ≤ (c : Int)) = false := decide_eq_false (by omega)
    have a3 : decide ((65 : Int) ≤ (c : Int)) = true := decide_eq_true (by omega)
    have a4 : decide ((c : Int) ≤ 90) = true := decide_eq_true (by omega)
    go_enter Tryz.func92, Tryz.ntmps92
    go_wp2_with fail
    go_ret
    exact ⟨rfl, rfl⟩
  · have a1 : decide ((97 : Int) ≤ (c : Int)) = false := decide_eq_false (by omega)
    have a3 : decide ((65 : Int) ≤ (c : Int)) = false := decide_eq_false (by omega)
    have a5 : decide ((48 : Int) ≤ (c : Int)) = true := decide_eq_true (by omega)
    have a6 : decide ((c : Int) ≤ 57) = true := decide_eq_true (by omega)
    go_enter Tryz.func92, Tryz.ntmps92
    go_wp2_with fail
    go_ret
    exact ⟨rfl, rfl⟩
  · subst h
    go_enter Tryz.func92, Tryz.ntmps92
    go_wp2_with fail
    go_ret
    exact ⟨rfl, rfl⟩
theorem letter_no (c : Nat) (w : World) (h : ¬ ((97 ≤ c ∧ c ≤ 122) ∨ (65 ≤ c ∧ c ≤ 90) ∨ (48 ≤ c ∧ c ≤ 57) ∨ c = 95)) : Calls Tryz.prog 92 #[.int .u8 (c : Int)] w fun e w' => e = .returned (.bool false) ∧ w' = w := by
  have a7 : ((c : Int) == 95) = false := by simp; omega
  rcases (by omega : c < 48 ∨ (57 < c ∧ c < 65) ∨ (90 < c ∧ c < 97) ∨ 122 < c) with k | k | k | k
  · have a1 : decide ((97 : Int) ≤ (c : Int)) = false := decide_eq_false (by omega)
    have a3 : decide ((65 : Int) ≤ (c : Int)) = false := decide_eq_false (by omega)
    have a5 : decide ((48 : Int) ≤ (c : Int)) = false := decide_eq_false (by omega)
    clear h
    go_enter Tryz.func92, Tryz.ntmps92
    go_wp2_with fail
    go_ret
    exact ⟨rfl, rfl⟩
  · have a1 : decide ((97 : Int) ≤ (c : Int)) = false := decide_eq_false (by omega)
    have a3 : decide ((65 : Int) ≤ (c : Int)) = false := decide_eq_false (by omega)
    have a5 : decide ((48 : Int) ≤ (c : Int)) = true := decide_eq_true (by omega)
    have a6 : decide ((c : Int) ≤ 57) = false := decide_eq_false (by omega)
    clear h
    go_enter Tryz.func92, Tryz.ntmps92
    go_wp2_with fail
    go_ret
    exact ⟨rfl, rfl⟩
  · have a1 : decide ((97 : Int) ≤ (c : Int)) = false := decide_eq_false (by omega)
    have a3 : decide ((65 : Int) ≤ (c : Int)) = true := decide_eq_true (by omega)
    have a4 : decide ((c : Int) ≤ 90) = false := decide_eq_false (by omega)
    have a5 : decide ((48 : Int) ≤ (c : Int)) = true := decide_eq_true (by omega)
    have a6 : decide ((c : Int) ≤ 57) = false := decide_eq_false (by omega)
    clear h
    go_enter Tryz.func92, Tryz.ntmps92
    go_wp2_with fail
    go_ret
    exact ⟨rfl, rfl⟩
  · have a1 : decide ((97 : Int) ≤ (c : Int)) = true := decide_eq_true (by omega)
    have a2 : decide ((c : Int) ≤ 122) = false := decide_eq_false (by omega)
    have a3 : decide ((65 : Int) ≤ (c : Int)) = true := decide_eq_true (by omega)
    have a4 : decide ((c : Int) ≤ 90) = false := decide_eq_false (by omega)
    have a5 : decide ((48 : Int) ≤ (c : Int)) = true := decide_eq_true (by omega)
    have a6 : decide ((c : Int) ≤ 57) = false := decide_eq_false (by omega)
    clear h
    go_enter Tryz.func92, Tryz.ntmps92
    go_wp2_with fail
    go_ret
    exact ⟨rfl, rfl⟩
theorem letter_calls (c : Nat) (w : World) : Calls Tryz.prog 92 #[.int .u8 (c : Int)] w fun e w' => e = .returned (.bool (letterB c)) ∧ w' = w := by
  by_cases h : (97 ≤ c ∧ c ≤ 122) ∨ (65 ≤ c ∧ c ≤ 90) ∨ (48 ≤ c ∧ c ≤ 57) ∨ c = 95
  · rw [show letterB c = true from decide_eq_true h]; exact letter_yes c w h
  · rw [show letterB c = false from decide_eq_false h]; exact letter_no c w h
/-- a text of 1 to 64 bytes, no digit first -/
def firstB (s : List UInt8) : Bool := decide (1 ≤ s.length ∧ s.length ≤ 64 ∧ ((s.getD 0 0).toNat < 48 ∨ 57 < (s.getD 0 0).toNat))
theorem first_calls (s : List UInt8) (w : World) : Calls Tryz.prog 90 #[.string ⟨s.toArray⟩] w fun e w' => e = .returned (.bool (firstB s)) ∧ w' = w := by
  by_cases h : 1 ≤ s.length ∧ s.length ≤ 64
  · obtain ⟨c, t, rfl⟩ : ∃ c t, s = c :: t := by
      cases s with
      | nil => simp at h
      | cons c t => exact ⟨c, t, rfl⟩
    have by0 : ∀ h, ((⟨(c :: t).toArray⟩ : ByteArray)[0]'h) = c := fun _ => rfl
    obtain ⟨n, hn⟩ : ∃ n, n = (c :: t).length := ⟨_, rfl⟩
    have z : (⟨(c :: t).toArray⟩ : ByteArray).size = n := hn.symm
    have hc := c.toNat_lt
    have a1 : decide ((1 : Int) ≤ (n : Int)) = true := decide_eq_true (by omega)
    have a2 : decide ((n : Int) ≤ 64) = true := decide_eq_true (by omega)
    have a0 : 0 < n := by omega
    have hF : firstB (c :: t) = decide (c.toNat < 48 ∨ 57 < c.toNat) := by
      unfold firstB
      simp only [List.getD_cons_zero]
      exact decide_eq_decide.2 ⟨fun q => q.2.2, fun q => ⟨h.1, h.2, q⟩⟩
    rw [hF]
    have HN := Lib.hid hn
    clear h hF hn
    rcases (by omega : c.toNat < 48 ∨ (48 ≤ c.toNat ∧ c.toNat ≤ 57) ∨ 57 < c.toNat) with k | k | k
    · have a3 : decide ((c.toNat : Int) < 48) = true := decide_eq_true (by omega)
      rw [show decide (c.toNat < 48 ∨ 57 < c.toNat) = true from decide_eq_true (by omega)]
      go_enter Tryz.func90, Tryz.ntmps90
      go_wp2_with fail
      go_ret
      exact ⟨rfl, rfl⟩
    · have a3 : decide ((c.toNat : Int) < 48) = false := decide_eq_false (by omega)
      have a4 : decide ((57 : Int) < (c.toNat : Int)) = false := decide_eq_false (by omega)
      rw [show decide (c.toNat < 48 ∨ 57 < c.toNat) = false from decide_eq_false (by omega)]
      go_enter Tryz.func90, Tryz.ntmps90
      go_wp2_with fail
      go_ret
      exact ⟨rfl, rfl⟩
    · have a3 : decide ((c.toNat : Int) < 48) = false := decide_eq_false (by omega)
      have a4 : decide ((57 : Int) < (c.toNat : Int)) = true := decide_eq_true (by omega)
      rw [show decide (c.toNat < 48 ∨ 57 < c.toNat) = true from decide_eq_true (by omega)]
      go_enter Tryz.func90, Tryz.ntmps90
      go_wp2_with fail
      go_ret
      exact ⟨rfl, rfl⟩
  · rw [show firstB s = false from decide_eq_false (fun q => h ⟨q.1, q.2.1⟩)]
    obtain ⟨n, hn⟩ : ∃ n, n = s.length := ⟨_, rfl⟩
    have z : (⟨s.toArray⟩ : ByteArray).size = n := hn.symm
    rw [← hn] at h
    rcases (by omega : n < 1 ∨ 64 < n) with k | k
    · have a1 : decide ((1 : Int) ≤ (n : Int)) = false := decide_eq_false (by omega)
      clear h
      go_enter Tryz.func90, Tryz.ntmps90
      go_wp2_with fail
      go_ret
      exact ⟨rfl, rfl⟩
    · have a1 : decide ((1 : Int) ≤ (n : Int)) = true := decide_eq_true (by omega)
      have a2 : decide ((n : Int) ≤ 64) = false := decide_eq_false (by omega)
      clear h
      go_enter Tryz.func90, Tryz.ntmps90
      go_wp2_with fail
      go_ret
      exact ⟨rfl, rfl⟩
end Go.Proofs.YtiijgghholhcnaaGreatDoor

/- The walks of label.Name and label.LabelName at any text. -/
namespace Go.Proofs.YtiijgghholhcnaaGreatDoor
open Go.RowKit
set_option maxRecDepth 1000000
def sufB : List UInt8 := [95, 98, 117, 99, 107, 101, 116]
def sufS : List UInt8 := [95, 115, 117, 109]
def sufC : List UInt8 := [95, 99, 111, 117, 110, 116]
/-- a metric's name -/
def nameB (s : List UInt8) : Bool := firstB s && !Lib.hasSuffix s sufB && !Lib.hasSuffix s sufS && !Lib.hasSuffix s sufC && s.all (fun c => letterB c.toNat || c == 58)
def NmR (w0 : World) (s : List UInt8) (P : UInt8 → Bool) (v8 : Value) (w : World) : Prop :=
  ∃ i : Nat, v8 = .int .i64 (i : Int) ∧ i ≤ s.length ∧ w = w0 ∧ (s.take i).all P = true
theorem take_all {s : List UInt8} {P : UInt8 → Bool} {i : Nat} (h : i < s.length) (k : (s.take i).all P = true) (g : P s[i] = true) : (s.take (i + 1)).all P = true := by
  rw [List.take_succ_eq_append_getElem h, List.all_append, k]; simp [g]
theorem all_miss {s : List UInt8} {P : UInt8 → Bool} {i : Nat} (h : i < s.length) (g : P s[i] = false) : s.all P = false := by
  rw [List.all_eq_false]; exact ⟨s[i], List.getElem_mem h, by simp [g]⟩
theorem suf_calls (s t : List UInt8) (w : World) (hs : s.length ≤ 140737488355328) : Calls Tryz.prog 91 #[.string ⟨s.toArray⟩, .string ⟨t.toArray⟩] w fun e w' => e = .returned (.bool (Lib.hasSuffix s t)) ∧ w' = w :=
  Tryz.strings_HasSuffix ⟨s.toArray⟩ ⟨t.toArray⟩ w (by show s.length ≤ _; omega)
theorem pre_calls (s t : List UInt8) (w : World) : Calls Tryz.prog 94 #[.string ⟨s.toArray⟩, .string ⟨t.toArray⟩] w fun e w' => e = .returned (.bool (Lib.hasPrefix s t)) ∧ w' = w :=
  Tryz.strings_HasPrefix ⟨s.toArray⟩ ⟨t.toArray⟩ w
set_option maxHeartbeats 1600000 in
theorem name_calls (s : List UInt8) (w : World) (hs : s.length ≤ 140737488355328) : Calls Tryz.prog 49 #[.string ⟨s.toArray⟩] w fun e w' => e = .returned (.bool (nameB s)) ∧ w' = w := by
  obtain ⟨b0, hb0⟩ : ∃ b, b = firstB s := ⟨_, rfl⟩
  obtain ⟨b1, hb1⟩ : ∃ b, b = Lib.hasSuffix s sufB := ⟨_, rfl⟩
  obtain ⟨b2, hb2⟩ : ∃ b, b = Lib.hasSuffix s sufS := ⟨_, rfl⟩
  obtain ⟨b3, hb3⟩ : ∃ b, b = Lib.hasSuffix s sufC := ⟨_, rfl⟩
  obtain ⟨b4, hb4⟩ : ∃ b, b = s.all (fun c => letterB c.toNat || c == 58) := ⟨_, rfl⟩
  have KF : Hid (Calls Tryz.prog 90 #[.string ⟨s.toArray⟩] w fun e w' => e = .returned (.bool b0) ∧ w' = w) := Lib.hid (by rw [hb0]; exact first_calls s w)
  have K1 : Hid (Calls Tryz.prog 91 #[.string ⟨s.toArray⟩, .string ⟨#[95, 98, 117, 99, 107, 101, 116]⟩] w fun e w' => e = .returned (.bool b1) ∧ w' = w) := Lib.hid (by rw [hb1]; exact suf_calls s sufB w hs)
  have K2 : Hid (Calls Tryz.prog 91 #[.string ⟨s.toArray⟩, .string ⟨#[95, 115, 117, 109]⟩] w fun e w' => e = .returned (.bool b2) ∧ w' = w) := Lib.hid (by rw [hb2]; exact suf_calls s sufS w hs)
  have K3 : Hid (Calls Tryz.prog 91 #[.string ⟨s.toArray⟩, .string ⟨#[95, 99, 111, 117, 110, 116]⟩] w fun e w' => e = .returned (.bool b3) ∧ w' = w) := Lib.hid (by rw [hb3]; exact suf_calls s sufC w hs)
  have KL := Lib.hid (fun c => letter_calls c w)
  have HN : nameB s = (b0 && !b1 && !b2 && !b3 && b4) := by rw [hb0, hb1, hb2, hb3, hb4]; rfl
  rw [HN]
  have HB4 := Lib.hid hb4
  clear hb0 hb1 hb2 hb3 hb4 HN
  obtain ⟨n, hn⟩ : ∃ n, n = s.length := ⟨_, rfl⟩
  have z : (⟨s.toArray⟩ : ByteArray).size = n := hn.symm
  rw [← hn] at hs
  have HN := Lib.hid hn; clear hn
  go_enter Tryz.func49, Tryz.ntmps49
  go_wp2_with fail
  refine KF.out.mono ?_
  rintro e w1 ⟨rfl, hw⟩; rw [hw]; clear hw w1
  rcases b0
  · go_wp2_with fail
    go_ret
    exact ⟨rfl, rfl⟩
  go_wp2_with fail
  refine K1.out.mono ?_
  rintro e w1 ⟨rfl, hw⟩; rw [hw]; clear hw w1
  rcases b1
  case true =>
    go_wp2_with fail
    go_ret
    exact ⟨rfl, rfl⟩
  go_wp2_with fail
  refine K2.out.mono ?_
  rintro e w1 ⟨rfl, hw⟩; rw [hw]; clear hw w1
  rcases b2
  case true =>
    go_wp2_with fail
    go_ret
    exact ⟨rfl, rfl⟩
  go_wp2_with fail
  refine K3.out.mono ?_
  rintro e w1 ⟨rfl, hw⟩; rw [hw]; clear hw w1
  rcases b3
  case true =>
    go_wp2_with fail
    go_ret
    exact ⟨rfl, rfl⟩
  go_wp2_with fail
  go_loopw [21] (fun v8 wr => NmR w s (fun c => letterB c.toNat || c == 58) v8 wr) (fun v8 _ => n - (intOf v8).toNat)
  case atStart => exact ⟨0, rfl, Nat.zero_le _, rfl, by simp⟩
  case round =>
    obtain ⟨i, rfl, hi, hwr, hall⟩ := hrel
    rw [hwr]; clear hwr wr
    have HA := Lib.hid hall; clear hall
    rw [← HN.out] at hi
    by_cases h : i < n
    · have h' : i < s.length := by rw [← HN.out]; exact h
      obtain ⟨y, hy⟩ : ∃ y, y = s[i] := ⟨_, rfl⟩
      have by0 : ∀ h, ((⟨s.toArray⟩ : ByteArray)[i]'h) = y := fun _ => by rw [hy]; rfl
      have HY := Lib.hid hy; clear hy
      have t1 : decide ((i : Int) < (n : Int)) = true := decide_eq_true (by omega)
      have hw1 : wrap64 ((i : Int) + 1) = (i : Int) + 1 := by unfold wrap64; omega
      have H' := Lib.hid h'

      go_wp2_with fail
      refine (KL.out y.toNat).mono ?_
      rintro e w1 ⟨rfl, hw⟩; rw [hw]; clear hw w1
      obtain ⟨bl, hbl⟩ : ∃ b, b = letterB y.toNat := ⟨_, rfl⟩
      rw [← hbl]
      have HBL := Lib.hid hbl; clear hbl
      rcases bl
      · rcases hq : decide (y.toNat = 58) with _ | _
        · have hq1 : ((y.toNat : Int) == 58) = false := by have := of_decide_eq_false hq; simp; omega
          have HQ := Lib.hid hq; clear hq
          go_wp2_with fail
          go_ret
          refine ⟨?_, rfl⟩
          have hm : s.all (fun c => letterB c.toNat || c == 58) = false := all_miss H'.out (by
            rw [← HY.out, ← HBL.out]
            have := of_decide_eq_false HQ.out
            simp only [Bool.false_or, beq_eq_false_iff_ne]
            intro e; exact this (by rw [e]; rfl))
          rw [HB4.out, hm]; rfl
        · have hq1 : ((y.toNat : Int) == 58) = true := by have := of_decide_eq_true hq; simp; omega
          have HQ := Lib.hid hq; clear hq
          go_wp2_with fail
          refine ⟨⟨i + 1, by first | rfl | exact congrArg (Value.int .i64) (by omega), by rw [← HN.out]; omega, rfl, take_all H'.out HA.out (by
            rw [← HY.out, ← HBL.out]
            have := of_decide_eq_true HQ.out
            simp only [Bool.false_or, beq_iff_eq]
            exact UInt8.toNat_inj.1 this)⟩, by simp only [intOf]; omega⟩
      · go_wp2_with fail
        refine ⟨⟨i + 1, by first | rfl | exact congrArg (Value.int .i64) (by omega), by rw [← HN.out]; omega, rfl, take_all H'.out HA.out (by rw [← HY.out, ← HBL.out]; rfl)⟩, by simp only [intOf]; omega⟩
    · obtain rfl : i = n := by omega
      have t1 : decide ((i : Int) < (i : Int)) = false := decide_eq_false (by omega)
      go_wp2_with fail
      go_ret
      refine ⟨?_, rfl⟩
      have := HA.out
      rw [HN.out, List.take_length] at this
      rw [HB4.out, this]; rfl
end Go.Proofs.YtiijgghholhcnaaGreatDoor

/- The walk of label.LabelName at any text. -/
namespace Go.Proofs.YtiijgghholhcnaaGreatDoor
open Go.RowKit
set_option maxRecDepth 1000000
def tLe : List UInt8 := [108, 101]
def tQu : List UInt8 := [113, 117, 97, 110, 116, 105, 108, 101]
/-- a label's name -/
def lnameB (s : List UInt8) : Bool := firstB s && !(s == tLe) && !(s == tQu) && !Lib.hasPrefix s [95, 95] && s.all (fun c => letterB c.toNat)
set_option maxHeartbeats 1600000 in
theorem lname_calls (s : List UInt8) (w : World) (hs : s.length ≤ 140737488355328) : Calls Tryz.prog 51 #[.string ⟨s.toArray⟩] w fun e w' => e = .returned (.bool (lnameB s)) ∧ w' = w := by
  obtain ⟨b0, hb0⟩ : ∃ b, b = firstB s := ⟨_, rfl⟩
  obtain ⟨b1, hb1⟩ : ∃ b, (s == [108, 101]) = b := ⟨_, rfl⟩
  obtain ⟨b2, hb2⟩ : ∃ b, (s == [113, 117, 97, 110, 116, 105, 108, 101]) = b := ⟨_, rfl⟩
  obtain ⟨b3, hb3⟩ : ∃ b, b = Lib.hasPrefix s [95, 95] := ⟨_, rfl⟩
  obtain ⟨b4, hb4⟩ : ∃ b, b = s.all (fun c => letterB c.toNat) := ⟨_, rfl⟩
  have KF : Hid (Calls Tryz.prog 90 #[.string ⟨s.toArray⟩] w fun e w' => e = .returned (.bool b0) ∧ w' = w) := Lib.hid (by rw [hb0]; exact first_calls s w)
  have K3 : Hid (Calls Tryz.prog 94 #[.string ⟨s.toArray⟩, .string ⟨#[95, 95]⟩] w fun e w' => e = .returned (.bool b3) ∧ w' = w) := Lib.hid (by rw [hb3]; exact pre_calls s [95, 95] w)
  have KL := Lib.hid (fun c => letter_calls c w)
  have HN : lnameB s = (b0 && !b1 && !b2 && !b3 && b4) := by rw [hb0, ← hb1, ← hb2, hb3, hb4]; rfl
  rw [HN]
  have HB4 := Lib.hid hb4
  clear hb0 hb3 hb4 HN
  obtain ⟨n, hn⟩ : ∃ n, n = s.length := ⟨_, rfl⟩
  have z : (⟨s.toArray⟩ : ByteArray).size = n := hn.symm
  rw [← hn] at hs
  have HN := Lib.hid hn; clear hn
  go_enter Tryz.func51, Tryz.ntmps51
  go_wp2_with fail
  refine KF.out.mono ?_
  rintro e w1 ⟨rfl, hw⟩; rw [hw]; clear hw w1
  rcases b0
  · go_wp2_with fail
    go_ret
    exact ⟨rfl, rfl⟩
  rcases b1
  case true =>
    go_wp2_with fail
    go_ret
    exact ⟨rfl, rfl⟩
  rcases b2
  case true =>
    go_wp2_with fail
    go_ret
    exact ⟨rfl, rfl⟩
  go_wp2_with fail
  refine K3.out.mono ?_
  rintro e w1 ⟨rfl, hw⟩; rw [hw]; clear hw w1
  rcases b3
  case true =>
    go_wp2_with fail
    go_ret
    exact ⟨rfl, rfl⟩
  go_wp2_with fail
  clear hb1 hb2
  go_loopw [21] (fun v8 wr => NmR w s (fun c => letterB c.toNat) v8 wr) (fun v8 _ => n - (intOf v8).toNat)
  case atStart => exact ⟨0, rfl, Nat.zero_le _, rfl, by simp⟩
  case round =>
    obtain ⟨i, rfl, hi, hwr, hall⟩ := hrel
    rw [hwr]; clear hwr wr
    have HA := Lib.hid hall; clear hall
    rw [← HN.out] at hi
    by_cases h : i < n
    · have h' : i < s.length := by rw [← HN.out]; exact h
      obtain ⟨y, hy⟩ : ∃ y, y = s[i] := ⟨_, rfl⟩
      have by0 : ∀ h, ((⟨s.toArray⟩ : ByteArray)[i]'h) = y := fun _ => by rw [hy]; rfl
      have HY := Lib.hid hy; clear hy
      have t1 : decide ((i : Int) < (n : Int)) = true := decide_eq_true (by omega)
      have hw1 : wrap64 ((i : Int) + 1) = (i : Int) + 1 := by unfold wrap64; omega
      have H' := Lib.hid h'
      go_wp2_with fail
      refine (KL.out y.toNat).mono ?_
      rintro e w1 ⟨rfl, hw⟩; rw [hw]; clear hw w1
      obtain ⟨bl, hbl⟩ : ∃ b, b = letterB y.toNat := ⟨_, rfl⟩
      rw [← hbl]
      have HBL := Lib.hid hbl; clear hbl
      rcases bl
      · go_wp2_with fail
        go_ret
        refine ⟨?_, rfl⟩
        have hm : s.all (fun c => letterB c.toNat) = false := all_miss H'.out (by rw [← HY.out, ← HBL.out])
        rw [HB4.out, hm]; rfl
      · go_wp2_with fail
        refine ⟨⟨i + 1, by first | rfl | exact congrArg (Value.int .i64) (by omega), by rw [← HN.out]; omega, rfl, take_all H'.out HA.out (by rw [← HY.out, ← HBL.out])⟩, by simp only [intOf]; omega⟩
    · obtain rfl : i = n := by omega
      have t1 : decide ((i : Int) < (i : Int)) = false := decide_eq_false (by omega)
      go_wp2_with fail
      go_ret
      refine ⟨?_, rfl⟩
      have := HA.out
      rw [HN.out, List.take_length] at this
      rw [HB4.out, this]; rfl
end Go.Proofs.YtiijgghholhcnaaGreatDoor
