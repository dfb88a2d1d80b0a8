/- A block told by a function of its cells; the lock; the pool. -/
import Derived.Test.YtlipngdfhpaodaaGreatWord
import Derived.Deep.RegionLaw
import Derived.Deep.QuietTactic
import Derived.BigQuiet
import Derived.Defers
import Derived.WalkMore
import Derived.LoopN
namespace Go.Proofs.YtlipngdfhpaodaaGreat
open Go.RowKit

/-- block b has n cells of the type t, as F tells -/
def Fb (w : World) (b n : Nat) (t : TypeId) (F : Nat → Value) : Prop := ∃ cs : Array Value, w.heap[b]? = some (.cells cs t (0, 0)) ∧ cs.size = n ∧ ∀ k, k < n → cs[k]? = some (F k)
section
variable {w w' : World} {b n : Nat} {t : TypeId} {F : Nat → Value}
theorem Fb.cell (h : Fb w b n t F) {k : Nat} (hk : k < n) : w.cell? ⟨b, k, none⟩ = some (F k) := by
  obtain ⟨cs, h1, _, h3⟩ := h
  rw [blk_cell h1, h3 k hk]
theorem Fb.free (h : Fb w b n t F) (k : Nat) : w.frozen? ⟨b, k, none⟩ = false := by
  obtain ⟨cs, h1, _⟩ := h
  exact blk_free h1 k
theorem Fb.set (h : Fb w b n t F) (i : Nat) (v : Value) : Fb (w.setCell ⟨b, i, none⟩ v) b n t (fun k => if k = i then v else F k) := by
  obtain ⟨cs, h1, h2, h3⟩ := h
  refine ⟨_, blk_set h1 i v, by simpa using h2, fun k hk => ?_⟩
  rw [Array.getElem?_setIfInBounds]
  by_cases e : i = k
  · subst e; simp; omega
  · rw [if_neg e]; show cs[k]? = some (if k = i then v else F k); rw [if_neg (fun q : k = i => e q.symm)]; exact h3 k hk
theorem Fb.only {S : Nat → Prop} (h : Fb w b n t F) (O : Only S w w') (hs : ¬ S b) : Fb w' b n t F := by
  obtain ⟨cs, h1, h2⟩ := h
  exact ⟨cs, O.blk h1 hs, h2⟩
theorem Fb.drew (h : Fb w b n t F) : Fb w.drew b n t F := h
theorem Fb.congr {G : Nat → Value} (h : Fb w b n t F) (e : ∀ k, k < n → F k = G k) : Fb w b n t G := by
  obtain ⟨cs, h1, h2, h3⟩ := h
  exact ⟨cs, h1, h2, fun k hk => by rw [h3 k hk, e k hk]⟩
theorem Fb.lt (h : Fb w b n t F) : b < w.heap.size := by
  obtain ⟨cs, h1, _⟩ := h
  exact blk_lt h1
end
/-- a served lock's closure -/
theorem served_calls (p q r b o : Nat) (x : Int) (w : World) (c0 : w.cell? ⟨p, 0, none⟩ = some (.pointer (some ⟨b, o, none⟩))) (c1 : w.cell? ⟨q, 0, none⟩ = some (.pointer none)) (c2 : w.cell? ⟨r, 0, none⟩ = some (.int .i64 x)) (c3 : w.cell? ⟨b, o + 1, none⟩ = some (.int .i64 x)) :
    Calls Tryz.prog 112 #[.pointer (some ⟨p, 0, none⟩), .pointer (some ⟨q, 0, none⟩), .pointer (some ⟨r, 0, none⟩)] w fun e w' => e = .returned (.bool true) ∧ Still w w' := by
  go_enter Tryz.func112, Tryz.ntmps112
  go_wp2_with fail
  go_quiet ((go_at_call 113; exact Calls.quiet_of_same (wload _ _ _ c3)))
  go_wp2_with fail
  go_ret
  exact ⟨rfl, (Still.refl w).drewN _⟩
theorem point_nil' (w : World) : Calls Tryz.prog 97 #[.pointer none] w fun e w' => e = .returned (.tuple #[]) ∧ w' = w := by
  go_enter Tryz.func97, Tryz.ntmps97
  go_wp2_with fail
  go_end0
  exact ⟨rfl, rfl⟩
/-- what Take leaves -/
def TakeRes (b n o : Nat) (t : TypeId) (F : Nat → Value) (x : Int) (w : World) (e : Ending) (w' : World) : Prop :=
  e = .returned (.tuple #[.int .i64 x, .int .i64 0]) ∧ Only (fun k => k = b) w w' ∧ Fb w' b n t (fun k => if k = o then .int .i64 (add64 x 1) else F k)
set_option maxHeartbeats 1000000 in
theorem take_calls {w : World} {b n : Nat} {t : TypeId} {F : Nat → Value} (h : Fb w b n t F) (o : Nat) (ho : o + 1 < n) (x : Int) (e0 : F o = .int .i64 x) (e1 : F (o + 1) = .int .i64 x) (hx : -9223372036854775808 ≤ x ∧ x ≤ 9223372036854775807) :
    Calls Tryz.prog 59 #[.pointer (some ⟨b, o, none⟩), .pointer none] w (TakeRes b n o t F x w) := by
  have hbk := Lib.hid (add64_back x 1 hx.1 hx.2)
  have s1 : (w.alloc (.cells #[.pointer (some ⟨b, o, none⟩)] 274)).heap.size = w.heap.size + 1 := by simp
  have s2 : ((w.alloc (.cells #[.pointer (some ⟨b, o, none⟩)] 274)).alloc (.cells #[.pointer none] 165)).heap.size = w.heap.size + 1 + 1 := by simp
  obtain ⟨W0, hW⟩ : ∃ W0, W0 = ((w.alloc (.cells #[.pointer (some ⟨b, o, none⟩)] 274)).alloc (.cells #[.pointer none] 165)).alloc (.cells #[.int .i64 0] 2) := ⟨_, rfl⟩
  have O0 : Only (fun _ => False) w W0 := by rw [hW]; exact (((Only.refl _ w).alloc _).alloc _).alloc _
  have q0 : W0.heap[w.heap.size]? = some (.cells #[.pointer (some ⟨b, o, none⟩)] 274 (0, 0)) := by rw [hW]; exact blk_alloc (blk_alloc (blk_new _ _) _) _
  have q1 : W0.heap[w.heap.size + 1]? = some (.cells #[.pointer none] 165 (0, 0)) := by rw [hW, ← s1]; exact blk_alloc (blk_new _ _) _
  have q2 : W0.heap[w.heap.size + 1 + 1]? = some (.cells #[.int .i64 0] 2 (0, 0)) := by rw [hW, ← s2]; exact blk_new _ _
  have h0 : Fb W0 b n t F := h.only O0 (by simp)
  have hlt := h.lt
  have HW := Lib.hid hW; have HO0 := Lib.hid O0; have Q0 := Lib.hid q0; have Q1 := Lib.hid q1; have Q2 := Lib.hid q2; have H0 := Lib.hid h0
  have c0 : W0.cell? ⟨w.heap.size, 0, none⟩ = some (.pointer (some ⟨b, o, none⟩)) := by rw [blk_cell q0]; rfl
  have c1 : W0.cell? ⟨w.heap.size + 1, 0, none⟩ = some (.pointer none) := by rw [blk_cell q1]; rfl
  have c2 : W0.cell? ⟨w.heap.size + 1 + 1, 0, none⟩ = some (.int .i64 0) := by rw [blk_cell q2]; rfl
  have f2 : W0.frozen? ⟨w.heap.size + 1 + 1, 0, none⟩ = false := blk_free q2 _
  have c3 : W0.cell? ⟨b, o, none⟩ = some (.int .i64 x) := by rw [h0.cell (by omega), e0]
  have f3 : W0.frozen? ⟨b, o, none⟩ = false := h0.free _
  have E1 := Lib.hid e1; have HO := Lib.hid ho
  clear h e0 e1 hx s1 s2 hW O0 q0 q1 q2 h0 ho
  go_enter Tryz.func59, Tryz.ntmps59
  go_wp2_with fail
  rw [← HW.out]
  clear HW
  have WA := Lib.hid (fun w' (hc : w'.cell? ⟨b, o, none⟩ = some (.int .i64 x)) (hf : w'.frozen? ⟨b, o, none⟩ = false) => wadd ⟨b, o, none⟩ x 1 w' hc hf)
  rw [hbk.out] at WA
  go_region_law (first | (go_simp; go_at_call 111; refine (WA.out W0.drew c3 f3).mono ?_; rintro e w2 ⟨rfl, hw⟩; rw [hw]; clear hw w2))
  all_goals
    clear c0 c1 c2 f2 c3 f3 WA
    go_wp2_with fail
    refine wp_loop_rounds 1 ?_
    rw [rounds_succ]
    go_wp2_with fail
    have hF1 : Fb ((W0.setCell ⟨b, o, none⟩ (.int .i64 (add64 x 1))).setCell ⟨w.heap.size + 1 + 1, 0, none⟩ (.int .i64 x)).drew b n t (fun k => if k = o then .int .i64 (add64 x 1) else F k) :=
      ((H0.out.set o _).only (Only.set1 (w.heap.size + 1 + 1) _ 0 _) (by omega)).drew
    have hO1 : Only (fun k => k = b) w ((W0.setCell ⟨b, o, none⟩ (.int .i64 (add64 x 1))).setCell ⟨w.heap.size + 1 + 1, 0, none⟩ (.int .i64 x)).drew :=
      (((HO0.out.mono (T := fun k => k = b) fun _ _ q => q.elim).setCell (p := ⟨b, o, none⟩) (.inr rfl) _).setCell (p := ⟨w.heap.size + 1 + 1, 0, none⟩) (.inl (by show w.heap.size ≤ w.heap.size + 1 + 1; omega)) _).drew
    have r1 : ((W0.setCell ⟨b, o, none⟩ (.int .i64 (add64 x 1))).setCell ⟨w.heap.size + 1 + 1, 0, none⟩ (.int .i64 x)).drew.heap[w.heap.size + 1]? = some (.cells #[.pointer none] 165 (0, 0)) := blk_drew (blk_set_ne (blk_set_ne Q1.out _ _ (by show w.heap.size + 1 ≠ b; omega)) _ _ (by show w.heap.size + 1 ≠ w.heap.size + 1 + 1; omega))
    have r0 : ((W0.setCell ⟨b, o, none⟩ (.int .i64 (add64 x 1))).setCell ⟨w.heap.size + 1 + 1, 0, none⟩ (.int .i64 x)).drew.heap[w.heap.size]? = some (.cells #[.pointer (some ⟨b, o, none⟩)] 274 (0, 0)) := blk_drew (blk_set_ne (blk_set_ne Q0.out _ _ (by show w.heap.size ≠ b; omega)) _ _ (by show w.heap.size ≠ w.heap.size + 1 + 1; omega))
    have r2 : ((W0.setCell ⟨b, o, none⟩ (.int .i64 (add64 x 1))).setCell ⟨w.heap.size + 1 + 1, 0, none⟩ (.int .i64 x)).drew.heap[w.heap.size + 1 + 1]? = some (.cells #[.int .i64 x] 2 (0, 0)) := blk_drew (blk_set (blk_set_ne Q2.out _ _ (by show w.heap.size + 1 + 1 ≠ b; omega)) 0 _)
    generalize ((W0.setCell ⟨b, o, none⟩ (.int .i64 (add64 x 1))).setCell ⟨w.heap.size + 1 + 1, 0, none⟩ (.int .i64 x)).drew = W1 at *
    have HF1 := Lib.hid hF1; have HO1 := Lib.hid hO1
    have HR1 := Lib.hid r1; have HR2 := Lib.hid r2
    have d0 : W1.cell? ⟨w.heap.size, 0, none⟩ = some (.pointer (some ⟨b, o, none⟩)) := by rw [blk_cell r0]; rfl
    have d1 : W1.cell? ⟨w.heap.size + 1, 0, none⟩ = some (.pointer none) := by rw [blk_cell r1]; rfl
    have d2 : W1.cell? ⟨w.heap.size + 1 + 1, 0, none⟩ = some (.int .i64 x) := by rw [blk_cell r2]; rfl
    have d3 : W1.cell? ⟨b, o + 1, none⟩ = some (.int .i64 x) := by rw [hF1.cell HO.out]; show some (if o + 1 = o then _ else F (o + 1)) = _; rw [if_neg (by omega), E1.out]
    have S := Lib.hid (served_calls w.heap.size (w.heap.size + 1) (w.heap.size + 1 + 1) b o x W1 d0 d1 d2 d3)
    clear hF1 hO1 r0 r1 r2 d0 d1 d2 d3 Q0 Q1 Q2 H0 HO0
    refine S.out.mono ?_
    rintro e w2 ⟨rfl, hS⟩
    have O2 := Lib.hid (HO1.out.trans (hS.only (fun k => k = b)))
    have F2 := Lib.hid (HF1.out.only (hS.only (fun _ => False)) (by simp))
    have g1 := (hS.only (fun _ => False)).blk HR1.out (by simp)
    have g2 := (hS.only (fun _ => False)).blk HR2.out (by simp)
    have G2 := Lib.hid g2
    have d1 : w2.cell? ⟨w.heap.size + 1, 0, none⟩ = some (.pointer none) := by rw [blk_cell g1]; rfl
    have d2 : w2.cell? ⟨w.heap.size + 1 + 1, 0, none⟩ = some (.int .i64 x) := by rw [blk_cell g2]; rfl
    have e2 : w2.frozen? ⟨w.heap.size + 1 + 1, 0, none⟩ = false := blk_free g2 _
    clear hS g1 g2 S
    go_wp2_with fail
    refine (point_nil' _).mono ?_
    rintro e w3 ⟨rfl, hw⟩; rw [hw]; clear hw w3
    go_wp2_with fail
    have hF3 : Fb (w2.setCell ⟨w.heap.size + 1 + 1, 0, none⟩ (.int .i64 x)) b n t (fun k => if k = o then .int .i64 (add64 x 1) else F k) := F2.out.only (Only.set1 (w.heap.size + 1 + 1) _ 0 _) (by omega)
    have hO3 : Only (fun k => k = b) w (w2.setCell ⟨w.heap.size + 1 + 1, 0, none⟩ (.int .i64 x)) := O2.out.setCell (p := ⟨w.heap.size + 1 + 1, 0, none⟩) (.inl (by show w.heap.size ≤ w.heap.size + 1 + 1; omega)) _
    have g3 : (w2.setCell ⟨w.heap.size + 1 + 1, 0, none⟩ (.int .i64 x)).cell? ⟨w.heap.size + 1 + 1, 0, none⟩ = some (.int .i64 x) := by rw [blk_cell (blk_set G2.out 0 _)]; rfl
    refine bodyPost_ret (v := .tuple #[.int .i64 x, .int .i64 0]) ?_ rfl ⟨rfl, hO3, hF3⟩
    simp [results, Tryz.results59, go_sem, g3]
/-- Give, as a deferred call -/
theorem give_deferred (u : FrameMode) {w : World} {b n : Nat} {t : TypeId} {F : Nat → Value} (h : Fb w b n t F) (o : Nat) (ho : o + 1 < n) (x : Int) (e1 : F (o + 1) = .int .i64 x) :
    CallsD Tryz.prog 60 #[.pointer (some ⟨b, o, none⟩), .pointer none] u w fun e u' w' => u' = u ∧ (e = .returned (.tuple #[]) ∧ w' = w.setCell ⟨b, o + 1, none⟩ (.int .i64 (add64 x 1))) := by
  have c0 : w.cell? ⟨b, o + 1, none⟩ = some (.int .i64 x) := by rw [h.cell ho, e1]
  have f0 : w.frozen? ⟨b, o + 1, none⟩ = false := h.free _
  clear h e1 ho
  go_enter_d Tryz.func60, Tryz.ntmps60
  go_wp2_with fail
  refine (wadd _ _ _ _ c0 f0).mono ?_
  rintro e w2 ⟨rfl, hw⟩; rw [hw]; clear hw w2
  go_wp2_with fail
  go_end0
  exact ⟨rfl, rfl⟩
/-- a pool of n numbers -/
theorem poolnew_bad (x : Int) (w : World) (h : x < 1 ∨ 16 < x) : Calls Tryz.prog 58 #[.int .i64 x] w fun e w' => e = .returned (.tuple #[.pointer none, .int .i64 1]) ∧ w' = w := by
  by_cases h1 : x < 1
  · have t1 : decide (x < 1) = true := decide_eq_true h1
    clear h h1
    go_enter Tryz.func58, Tryz.ntmps58
    go_wp2_with fail
    go_ret2
    exact ⟨rfl, rfl⟩
  · have t1 : decide (x < 1) = false := decide_eq_false h1
    have t2 : decide (x > 16) = true := decide_eq_true (by omega)
    clear h h1
    go_enter Tryz.func58, Tryz.ntmps58
    go_wp2_with fail
    go_ret2
    exact ⟨rfl, rfl⟩
theorem poolnew_1 (w : World) : Calls Tryz.prog 58 #[.int .i64 1] w fun e w' => e = .returned (.tuple #[.pointer (some ⟨w.heap.size, 0, none⟩), .int .i64 0]) ∧ w' = w.alloc (.cells #[.int .i64 1, .int .u32 1] 273) := by
  go_enter Tryz.func58, Tryz.ntmps58
  go_wp2_with fail
  go_ret2
  exact ⟨rfl, rfl⟩
theorem poolnew_16 (w : World) : Calls Tryz.prog 58 #[.int .i64 16] w fun e w' => e = .returned (.tuple #[.pointer (some ⟨w.heap.size, 0, none⟩), .int .i64 0]) ∧ w' = w.alloc (.cells #[.int .i64 16, .int .u32 65535] 273) := by
  go_enter Tryz.func58, Tryz.ntmps58
  go_wp2_with fail
  go_ret2
  exact ⟨rfl, rfl⟩
theorem is_one (b : Nat) (w : World) (h : w.heap[b]? = some (.cells #[.int .i64 1, .int .u32 1] 273 (0, 0))) : Calls Tryz.prog 116 #[.pointer (some ⟨b, 0, none⟩), .int .i64 0] w fun e w' => e = .returned (.bool true) ∧ w' = w := by
  have c1 : w.cell? ⟨b, 1, none⟩ = some (.int .u32 1) := by rw [blk_cell h]; rfl
  have k : bits BinOp.and IntKind.u32 1 1 = 1 := by decide +kernel
  clear h
  go_enter Tryz.func116, Tryz.ntmps116
  go_wp2_with fail
  go_ret
  exact ⟨rfl, rfl⟩
theorem pooltake_1 (b : Nat) (w : World) (h : w.heap[b]? = some (.cells #[.int .i64 1, .int .u32 1] 273 (0, 0))) : Calls Tryz.prog 61 #[.pointer (some ⟨b, 0, none⟩)] w fun e w' => e = .returned (.tuple #[.int .i64 0, .int .i64 0]) ∧ Only (fun k => k = b) w w' := by
  have c0 : w.cell? ⟨b, 0, none⟩ = some (.int .i64 1) := by rw [blk_cell h]; rfl
  have c1 : w.cell? ⟨b, 1, none⟩ = some (.int .u32 1) := by rw [blk_cell h]; rfl
  have f1 : w.frozen? ⟨b, 1, none⟩ = false := blk_free h _
  have H := Lib.hid h; clear h
  have k : bits BinOp.andNot IntKind.u32 1 1 = 0 := by decide +kernel
  go_enter Tryz.func61, Tryz.ntmps61
  go_wp2_with fail
  refine wp_loop_rounds 1 ?_
  rw [rounds_succ]
  go_wp2_with fail
  refine (is_one b w H.out).mono ?_
  rintro e w2 ⟨rfl, hw⟩; rw [hw]; clear hw w2
  go_wp2_with fail
  go_region_law (fail)
  all_goals
    go_wp2_with fail
    go_ret2
    exact ⟨rfl, by first | exact ((Only.refl (fun k => k = b) w).setCell (p := ⟨b, 1, none⟩) (.inr rfl) _).drew | exact ((Only.refl (fun k => k = b) w).drew).setCell (p := ⟨b, 1, none⟩) (.inr rfl) _⟩
end Go.Proofs.YtlipngdfhpaodaaGreat
