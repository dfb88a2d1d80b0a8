/- strings.Replacer.Replace at a new replacer, label.Help. -/
import Derived.Test.YtiijgghholhcnaaGreatDoorJL08
import Derived.Test.YtiijgghholhcnaaGreatDoorJL09
import Derived.Test.YtiijgghholhcnaaGreatDoorJL06
import Derived.Test.YtiijgghholhcnaaGreatDoorJL05
namespace Go.Proofs.YtiijgghholhcnaaGreatDoor
open Go.RowKit
set_option maxRecDepth 1000000
theorem meth_rep (b : Nat) (w : World) : Sem.run Tryz.prog (method 108 193 (.pointer (some ⟨b, 0, none⟩)) "Replace") w = .ok ((303 : Nat), .pointer (some ⟨b, 0, none⟩)) w := by kernel_rfl
/-- the replacer in block b, built -/
def Built (w0 : World) (b n : Nat) (x : Nat → UInt8) (S : Nat → List UInt8) (d l : Value) (w : World) : Prop :=
  ∃ q r c, w.heap[b]? = some (.cells #[d, l, .int .u32 0, .iface 193 (.pointer (some ⟨q, 0, none⟩)), .slice none 0 0] 110 (0, 0)) ∧ Rp w w0.heap.size q r n c x S ∧ Only (· = b) w0 w
theorem built_dn (b sb n m cap : Nat) (x : Nat → UInt8) (S : Nat → List UInt8) (w : World) (hm : m = 2 * n) (hn : 2 ≤ n) (hn2 : n ≤ 1000) (hR : Rn w b sb n m cap x S)
    (hlen : ∀ k, k < n → (S k).length ≠ 1) (hle : ∀ k, k < n → (S k).length ≤ 1000) (hinj : ∀ i j, i < n → j < n → x i = x j → i = j) :
    Calls Tryz.prog 69 #[.pointer (some ⟨b, 0, none⟩)] (w.setCell ⟨b, 1, none⟩ (.int .i32 1)) (Dn b (Built w b n x S (.int .u32 0) (.int .i32 1))) := by
  have hb1 := blk_set hR.blk 1 (.int .i32 1)
  have O1 : Only (· = b) w (w.setCell ⟨b, 1, none⟩ (.int .i32 1)) := Only.set1 b w 1 _
  refine (once_calls b sb n m cap x S (w.setCell ⟨b, 1, none⟩ (.int .i32 1)) hm hn hn2 hb1 (hR.old.only O1 hR.ne) hlen hle hinj).mono ?_
  rintro e w' ⟨rfl, q, v, W, hB, rfl⟩
  obtain ⟨r, c, hP⟩ := hB.rp (by omega)
  have sz : (w.setCell ⟨b, 1, none⟩ (.int .i32 1)).heap.size = w.heap.size := by simp [World.setCell]
  rw [sz] at hP
  have hbW := hB.only.blk hb1 (fun e => e)
  have h3 := blk_set hbW 3 (.iface 193 (.pointer (some ⟨q, 0, none⟩)))
  have h4 := blk_set h3 4 (.slice none 0 0)
  have O2 : Only (· = b) W ((W.setCell ⟨b, 3, none⟩ (.iface 193 (.pointer (some ⟨q, 0, none⟩)))).setCell ⟨b, 4, none⟩ (.slice none 0 0)) := (Only.set1 b W 3 _).trans (Only.set1 b _ 4 _)
  have hlt : b < w.heap.size := blk_lt hR.blk
  refine ⟨rfl, ?_, ?_, blk_free h4 0, blk_free h4 1, q, r, c, h4, hP.only O2 (fun k hk e => by omega), (O1.trans (hB.only.mono (fun _ _ e => e.elim))).trans O2⟩
  · rw [blk_cell h4]; rfl
  · rw [blk_cell h4]; rfl
theorem built_over {w0 w1 : World} {b n : Nat} {x : Nat → UInt8} {S : Nat → List UInt8} (h : Built w0 b n x S (.int .u32 0) (.int .i32 1) w1) (hb : b < w0.heap.size) :
    Built w0 b n x S (.int .u32 1) (.int .i32 0) ((w1.drew.setCell ⟨b, 0, none⟩ (.int .u32 1)).setCell ⟨b, 1, none⟩ (.int .i32 0)) := by
  obtain ⟨q, r, c, h1, h2, h3⟩ := h
  have g1 := blk_set (blk_drew h1) 0 (.int .u32 1)
  have g2 := blk_set g1 1 (.int .i32 0)
  have O : Only (· = b) w1 ((w1.drew.setCell ⟨b, 0, none⟩ (.int .u32 1)).setCell ⟨b, 1, none⟩ (.int .i32 0)) := ((Only.refl (· = b) w1).drew.trans (Only.set1 b _ 0 _)).trans (Only.set1 b _ 1 _)
  exact ⟨q, r, c, g2, h2.only O (fun k hk e => by omega), h3.trans O⟩
set_option maxHeartbeats 4000000 in
theorem replace_calls (b sb n m cap : Nat) (x : Nat → UInt8) (S : Nat → List UInt8) (s : List UInt8) (w : World) (hm : m = 2 * n) (hn : 2 ≤ n) (hn2 : n ≤ 1000) (hR : Rn w b sb n m cap x S)
    (hlen : ∀ k, k < n → (S k).length ≠ 1) (hge : ∀ k, k < n → 1 ≤ (S k).length) (hle : ∀ k, k < n → (S k).length ≤ 1000) (hinj : ∀ i j, i < n → j < n → x i = x j → i = j) (hs : s.length ≤ 100000000000) :
    Calls Tryz.prog 36 #[.pointer (some ⟨b, 0, none⟩), .string ⟨s.toArray⟩] w fun e w' => e = .returned (.string ⟨(s.flatMap (esc n x S n)).toArray⟩) ∧ Built w b n x S (.int .u32 1) (.int .i32 0) w' := by
  have hlt : b < w.heap.size := blk_lt hR.blk
  have HD := Lib.hid (do_calls b (Built w b n x S (.int .u32 0) (.int .i32 1)) w (by rw [blk_cell hR.blk]; rfl) (by rw [blk_cell hR.blk]; rfl) (blk_free hR.blk 0) (blk_free hR.blk 1) (built_dn b sb n m cap x S w hm hn hn2 hR hlen hle hinj))
  have HF := Lib.hid (fun w1 q r c (h : Rp w1 w.heap.size q r n c x S) => rep_calls w.heap.size q r n c x S s w1 hn2 h hle hge hinj hs)
  have mr := meth_rep
  clear hm hR hlen hge hle hinj
  go_enter Tryz.func36, Tryz.ntmps36
  go_wp2_with fail
  refine HD.out.mono ?_
  rintro e w' ⟨rfl, w1, hB, hw⟩
  have hB2 := built_over hB hlt
  rw [← hw] at hB2
  clear hw hB w1
  obtain ⟨q, r, c, h1, h2, h3⟩ := hB2
  have c3 : w'.cell? ⟨b, 3, none⟩ = some (.iface 193 (.pointer (some ⟨q, 0, none⟩))) := by rw [blk_cell h1]; rfl
  have H1 := Lib.hid h1; have H2 := Lib.hid h2; have H3 := Lib.hid h3
  clear h1 h2 h3 HD
  go_wp2_with fail
  refine (HF.out _ q r c H2.out).mono ?_
  rintro e w2 ⟨rfl, hO⟩
  have HO := Lib.hid hO; clear hO
  go_wp2_with fail
  go_ret
  exact ⟨rfl, q, r, c, HO.out.blk H1.out (fun e => e), H2.out.only HO.out (fun _ _ e => e), H3.out.trans (HO.out.mono (fun _ _ e => e.elim))⟩
/-- a help's text -/
def hx (k : Nat) : UInt8 := if k = 0 then 92 else 10
def hS (k : Nat) : List UInt8 := if k = 0 then [92, 92] else [92, 110]
theorem hold_of {w : World} {sb : Nat} (h : w.heap[sb]? = some (.cells #[.string ⟨#[92]⟩, .string ⟨#[92, 92]⟩, .string ⟨#[10]⟩, .string ⟨#[92, 110]⟩] 9)) : Old w sb 2 hx hS := by
  refine ⟨fun k hk => ?_, fun k hk => ?_, blk_lt h⟩
  · rcases (by omega : k = 0 ∨ k = 1) with rfl | rfl <;> (rw [blk_cell h]; rfl)
  · rcases (by omega : k = 0 ∨ k = 1) with rfl | rfl <;> (rw [blk_cell h]; rfl)
theorem hS_len (k : Nat) (_ : k < 2) : (hS k).length = 2 := by unfold hS; split <;> rfl
set_option maxHeartbeats 4000000 in
theorem help_calls (s : List UInt8) (w : World) (hs : s.length ≤ 100000000000) :
    Calls Tryz.prog 19 #[.string ⟨s.toArray⟩] w fun e w' => e = .returned (.string ⟨(s.flatMap (esc 2 hx hS 2)).toArray⟩) ∧ Only (fun _ => False) w w' := by
  have HN := Lib.hid (fun sb cap w h => new_calls 2 4 sb cap hx hS w rfl (by omega) (by omega) h)
  have HR := Lib.hid (fun b sb cap w h => replace_calls b sb 2 4 cap hx hS s w rfl (by omega) (by omega) h (fun k hk => by rw [hS_len k hk]; omega) (fun k hk => by rw [hS_len k hk]; omega) (fun k hk => by rw [hS_len k hk]; omega) (by
    intro i j hi hj e
    rcases (by omega : i = 0 ∨ i = 1) with rfl | rfl <;> rcases (by omega : j = 0 ∨ j = 1) with rfl | rfl <;> simp_all [hx]) hs)
  go_enter Tryz.func19, Tryz.ntmps19
  go_wp2_with fail
  have hO := (Only.refl (fun _ => False) w).alloc (.cells #[.string ⟨#[92]⟩, .string ⟨#[92, 92]⟩, .string ⟨#[10]⟩, .string ⟨#[92, 110]⟩] 9)
  refine (HN.out _ _ _ (hold_of (blk_new w _))).mono ?_
  rintro e w1 ⟨b, s2, c, rfl, hR, hO1, hb1⟩
  have hO2 := Lib.hid (hO.trans hO1)
  have HRn := Lib.hid hR
  clear hO1 hR
  go_wp2_with fail
  refine (HR.out _ _ _ _ HRn.out).mono ?_
  rintro e w2 ⟨rfl, q, r, c', _, _, hO3⟩
  have HO3 := Lib.hid hO3; clear hO3
  go_wp2_with fail
  go_ret
  refine ⟨rfl, hO2.out.seq2 HO3.out (fun i hi => .inl ?_)⟩
  rw [hi]; exact Nat.le_trans hO.size hb1
end Go.Proofs.YtiijgghholhcnaaGreatDoor

/- strings.Replacer.Replace at a replacer that is built. -/
namespace Go.Proofs.YtiijgghholhcnaaGreatDoor
open Go.RowKit
set_option maxRecDepth 1000000
theorem load_1 (b : Nat) (w : World) (hc : w.cell? ⟨b, 0, none⟩ = some (.int .u32 1)) : Calls Tryz.prog 120 #[.pointer (some ⟨b, 0, none⟩)] w fun e w' => e = .returned (.bool true) ∧ w' = w := by
  have hl := run_call_load (P := Tryz.prog) Tryz.func161 (by kernel_rfl) (by kernel_rfl) (by kernel_rfl) .u32 (by kernel_rfl) hc
  go_enter Tryz.func120, Tryz.ntmps120
  go_wp2_with fail
  go_ret
  exact ⟨rfl, rfl⟩
theorem do_done (b : Nat) (w : World) (h0 : w.cell? ⟨b, 0, none⟩ = some (.int .u32 1)) :
    Calls Tryz.prog 68 #[.pointer (some ⟨b, 0, none⟩), .func (Fn.func 69) #[.pointer (some ⟨b, 0, none⟩)] #[]] w fun e w' => e = .returned (.tuple #[]) ∧ w' = w := by
  have H0 := Lib.hid h0
  clear h0
  go_enter Tryz.func68, Tryz.ntmps68
  go_wp2_with fail
  refine (load_1 b _ H0.out).mono ?_
  rintro e w1 ⟨rfl, hw⟩; rw [hw]; clear hw w1
  go_wp2_with fail
  go_end0
  exact ⟨rfl, rfl⟩
set_option maxHeartbeats 4000000 in
theorem replace_again (w0 : World) (b n : Nat) (x : Nat → UInt8) (S : Nat → List UInt8) (s : List UInt8) (w : World) (hn2 : n ≤ 1000) (hB : Built w0 b n x S (.int .u32 1) (.int .i32 0) w)
    (hge : ∀ k, k < n → 1 ≤ (S k).length) (hle : ∀ k, k < n → (S k).length ≤ 1000) (hinj : ∀ i j, i < n → j < n → x i = x j → i = j) (hs : s.length ≤ 100000000000) :
    Calls Tryz.prog 36 #[.pointer (some ⟨b, 0, none⟩), .string ⟨s.toArray⟩] w fun e w' => e = .returned (.string ⟨(s.flatMap (esc n x S n)).toArray⟩) ∧ Built w0 b n x S (.int .u32 1) (.int .i32 0) w' ∧ Only (fun _ => False) w w' := by
  obtain ⟨q, r, c, h1, h2, h3⟩ := hB
  have HD := Lib.hid (do_done b w (by rw [blk_cell h1]; rfl))
  have HF := Lib.hid (rep_calls w0.heap.size q r n c x S s w hn2 h2 hle hge hinj hs)
  have mr := meth_rep
  have c3 : w.cell? ⟨b, 3, none⟩ = some (.iface 193 (.pointer (some ⟨q, 0, none⟩))) := by rw [blk_cell h1]; rfl
  have H1 := Lib.hid h1; have H2 := Lib.hid h2; have H3 := Lib.hid h3
  clear h1 h2 h3 hge hle hinj
  go_enter Tryz.func36, Tryz.ntmps36
  go_wp2_with fail
  refine HD.out.mono ?_
  rintro e w1 ⟨rfl, hw⟩; rw [hw]; clear hw w1
  go_wp2_with fail
  refine HF.out.mono ?_
  rintro e w2 ⟨rfl, hO⟩
  have HO := Lib.hid hO; clear hO
  go_wp2_with fail
  go_ret
  exact ⟨rfl, ⟨q, r, c, HO.out.blk H1.out (fun e => e), H2.out.only HO.out (fun _ _ e => e), H3.out.trans (HO.out.mono (fun _ _ e => e.elim))⟩, HO.out⟩
/-- a label's value -/
def vx (k : Nat) : UInt8 := if k = 0 then 92 else if k = 1 then 34 else 10
def vS (k : Nat) : List UInt8 := if k = 0 then [92, 92] else if k = 1 then [92, 34] else [92, 110]
theorem vold_of {w : World} {sb : Nat} (h : w.heap[sb]? = some (.cells #[.string ⟨#[92]⟩, .string ⟨#[92, 92]⟩, .string ⟨#[34]⟩, .string ⟨#[92, 34]⟩, .string ⟨#[10]⟩, .string ⟨#[92, 110]⟩] 9)) : Old w sb 3 vx vS := by
  refine ⟨fun k hk => ?_, fun k hk => ?_, blk_lt h⟩
  · rcases (by omega : k = 0 ∨ k = 1 ∨ k = 2) with rfl | rfl | rfl <;> (rw [blk_cell h]; rfl)
  · rcases (by omega : k = 0 ∨ k = 1 ∨ k = 2) with rfl | rfl | rfl <;> (rw [blk_cell h]; rfl)
theorem vS_len (k : Nat) (_ : k < 3) : (vS k).length = 2 := by
  unfold vS
  split
  · rfl
  · split <;> rfl
theorem vx_inj : ∀ i j, i < 3 → j < 3 → vx i = vx j → i = j := by
  intro i j hi hj e
  rcases (by omega : i = 0 ∨ i = 1 ∨ i = 2) with rfl | rfl | rfl <;> rcases (by omega : j = 0 ∨ j = 1 ∨ j = 2) with rfl | rfl | rfl <;> simp_all [vx]
end Go.Proofs.YtiijgghholhcnaaGreatDoor

/- The walks of a counter's line: Concat of nothing, label.Print at no labels, series, counter; the kinds. -/
namespace Go.Proofs.YtiijgghholhcnaaGreatDoor
open Go.RowKit
set_option maxRecDepth 1000000
theorem pcs_of {w : World} {sb t : Nat} {l : List (List UInt8)} (h : w.heap[sb]? = some (.cells (l.map fun s => Value.string ⟨s.toArray⟩).toArray t (0, 0))) : Pcs w sb l.length (fun i => l.getD i []) :=
  ⟨fun i hi => by rw [blk_cell h]; simp [List.getD, List.getElem?_eq_getElem hi], blk_lt h⟩
theorem jn_flat (l : List (List UInt8)) : ∀ k, k ≤ l.length → jn (fun i => l.getD i []) k = (l.take k).flatten
  | 0, _ => by simp [jn]
  | k + 1, h => by
    rw [jn, jn_flat l k (by omega), List.take_succ_eq_append_getElem (by omega), List.flatten_append]
    simp [List.getD, List.getElem?_eq_getElem (show k < l.length by omega)]
/-- a line of pieces that were just laid -/
theorem line_new (pb B : Nat) (prec : Int) (v : Value) (l : List UInt8) (ps : List (List UInt8)) (w1 : World) (t k cap : Nat) (W : World) (hP : Pg w1 pb B prec v l) (hl : ps.length ≤ 1000) (hb : l.length + ps.flatten.length + 1 ≤ 140737488355328) (hk : k = ps.length)
    (hW : W = w1.alloc (.cells (ps.map fun s => Value.string ⟨s.toArray⟩).toArray t)) :
    Calls Tryz.prog 15 #[.pointer (some ⟨pb, 0, none⟩), .slice (some ⟨w1.heap.size, 0, none⟩) k cap] W fun e w' => e = .returned (.tuple #[]) ∧ ∃ v', Pg w' pb B prec v' (l ++ ps.flatten ++ [10]) ∧ Wrote w1 pb v v' w' := by
  subst hW
  subst hk
  have hj : jn (fun i => ps.getD i []) ps.length = ps.flatten := by rw [jn_flat ps _ (Nat.le_refl _), List.take_of_length_le (Nat.le_refl _)]
  have h1 := hP.lt
  have h2 := hP.le
  refine (line_calls pb B w1.heap.size ps.length cap prec v l (fun i => ps.getD i []) _ (by omega) (hP.alloc _) (pcs_of (blk_new w1 _)) (by omega) (fun e => by have := (hP.own.lt _ e).2; omega) (by rw [hj]; exact hb)).mono ?_
  rintro e w' ⟨rfl, v', h3, h4⟩
  rw [hj] at h3
  exact ⟨rfl, v', h3, h4.ofAlloc⟩
theorem grow_nil (w : World) : Calls Tryz.prog 150 #[.slice none 0 0, .int .i64 0] w fun e w' => e = .returned (.slice none 0 0) ∧ w' = w := by
  go_enter Tryz.func150, Tryz.ntmps150
  go_wp2_with fail
  go_ret
  exact ⟨rfl, rfl⟩
theorem concat_nil (b : Nat) (w : World) (h0 : w.cell? ⟨b, 0, none⟩ = some (.slice none 0 0)) (h1 : w.cell? ⟨b, 1, none⟩ = some (.slice none 0 0)) :
    Calls Tryz.prog 113 #[.slice (some ⟨b, 0, none⟩) 2 2] w fun e w' => e = .returned (.slice none 0 0) ∧ w' = w := by
  go_enter Tryz.func113, Tryz.ntmps113
  go_wp2_with fail
  refine wp_loop_rounds 3 ?_
  rw [rounds_succ]
  go_wp2_with fail
  rw [rounds_succ]
  go_wp2_with fail
  rw [rounds_succ]
  go_wp2_with fail
  refine (grow_nil _).mono ?_
  rintro e w1 ⟨rfl, hw⟩; rw [hw]; clear hw w1
  go_wp2_with fail
  refine wp_loop_rounds 3 ?_
  rw [rounds_succ]
  go_wp2_with fail
  rw [rounds_succ]
  go_wp2_with fail
  rw [rounds_succ]
  go_wp2_with fail
  go_ret
  exact ⟨rfl, rfl⟩
theorem print0_calls (nm : List UInt8) (w : World) : Calls Tryz.prog 112 #[.string ⟨nm.toArray⟩, .slice none 0 0] w fun e w' => e = .returned (.string ⟨nm.toArray⟩) ∧ w' = w := by
  go_enter Tryz.func112, Tryz.ntmps112
  go_wp2_with fail
  go_ret
  exact ⟨rfl, rfl⟩
end Go.Proofs.YtiijgghholhcnaaGreatDoor
