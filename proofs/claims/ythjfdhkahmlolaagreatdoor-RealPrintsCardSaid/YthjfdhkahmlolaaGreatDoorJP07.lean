/- ftoa64 at three floats (printed by gen_fta.py). -/
import Derived.Test.YthjfdhkahmlolaaGreatDoorJP06
import Derived.StillTailTactics
namespace Go.Proofs.YthjfdhkahmlolaaGreatDoor
open Go.RowKit
theorem run_fbits (x : Nat) (w : World) : Sem.run Tryz.prog (callFunc 92 #[.float .f64 x]) w = .ok (.value (.int .u64 (x : Nat))) w := by kernel_rfl
def Tab2 (w : World) : Prop := Lib.TabIs Tryz.prog w "internal/strconv.uint64pow10" .u64 Lib.pow10Tab
theorem gl9 : Tryz.prog.globalNamed "internal/strconv.uint64pow10" = some 9 := by kernel_rfl
theorem Tab2.still {S : Nat → Prop} {w w' : World} (h : Tab2 w) (O : Only S w w') (hs : ¬ S 9) : Tab2 w' := by
  unfold Tab2 Lib.TabIs World.var? at *
  rw [gl9] at *
  simp only [Option.bind_some] at *
  cases hc : w.heap[9]? with
  | none => rw [hc] at h; cases h
  | some o => rw [O.blk hc hs]; rw [hc] at h; exact h
theorem Ap.after {w w2 w' : World} {B : Nat} {d0 v : Value} {l : List Value} {S : Nat → Prop} (O : Only S w w2) (hS : ∀ k, k < w.heap.size → ¬ S k) (h : Ap w2 B d0 v l w') : Ap w B d0 v l w' :=
  ⟨(show Only (fun k => d0.ownBlock = some k) w w2 from O.mono (fun k hk hs => (hS k hk hs).elim)).seq2 h.only (fun i hi => .inr hi), h.own, by
    rcases h.which with e | ⟨g, e, hl⟩
    · exact .inl e
    · exact .inr ⟨g, e, Nat.le_trans O.size hl⟩⟩
theorem fifteen : ∀ k, k < 16 → 10 ^ k ∣ 1000000000000000 → 1000000000000000 / 10 ^ k % 10 ≠ 0 → k = 15 := by decide +kernel
theorem dg_first : Lib.dg 1000000000000000 (16 - 1 - 0) = 49 := by decide +kernel
def zeros32 : Array Value := #[.int .u8 0, .int .u8 0, .int .u8 0, .int .u8 0, .int .u8 0, .int .u8 0, .int .u8 0, .int .u8 0, .int .u8 0, .int .u8 0, .int .u8 0, .int .u8 0, .int .u8 0, .int .u8 0, .int .u8 0, .int .u8 0, .int .u8 0, .int .u8 0, .int .u8 0, .int .u8 0, .int .u8 0, .int .u8 0, .int .u8 0, .int .u8 0, .int .u8 0, .int .u8 0, .int .u8 0, .int .u8 0, .int .u8 0, .int .u8 0, .int .u8 0, .int .u8 0]
theorem zeros32_at (j : Nat) (h : j < 32) : zeros32[j]? = some (.int .u8 0) := by
  have : zeros32 = Array.replicate 32 (.int .u8 0) := by rfl
  rw [this, Array.getElem?_replicate, if_pos h]
set_option maxRecDepth 100000
set_option maxHeartbeats 4000000 in
theorem ftoa_tenth (B : Nat) (d0 : Value) (w : World) (hT : Tab w) (hU : Tab2 w) (hB : B ≤ w.heap.size) (ho : w.ownsRow B 5 1 d0 0 []) : Calls Tryz.prog 68 #[d0, .float .f64 4591870180066957722, .int .u8 101, .int .i64 (-1)] w fun e w' => ∃ v, e = .returned v ∧ Ap w B d0 v [.int .u8 49, .int .u8 101, .int .u8 45, .int .u8 48, .int .u8 49] w' := by
  have HT := Lib.hid hT; have HU := Lib.hid hU; have HO := Lib.hid ho; have HB := Lib.hid hB
  clear hT hU ho hB
  have hf := run_fbits 4591870180066957722
  have a1 : bits BinOp.and IntKind.i64 1019 2047 = 1019 := by decide +kernel
  have a2 : bits BinOp.and IntKind.u64 4591870180066957722 4503599627370495 = 2702159776422298 := by decide +kernel
  have a3 : bits BinOp.or IntKind.u64 2702159776422298 4503599627370496 = 7205759403792794 := by decide +kernel
  go_enter Tryz.func68, Tryz.ntmps68
  go_wp2_with fail
  go_quiet (fail)
  go_wp2_with fail
  refine (Tryz.bits_Len64 7205759403792794 _ (by decide) (by decide)).mono ?_
  rintro en w1 ⟨rfl, hw⟩; rw [hw]; clear hw w1
  rw [show Lib.bitLen (7205759403792794 : Int).toNat = 53 by decide +kernel]
  go_wp2_with fail
  have hd0 : ∀ k, d0.ownBlock = some k → k < w.heap.size := fun k hk => (HO.out.lt k hk).2
  have OA : ∀ n, Only (fun _ => False) w ((w.drewN n).alloc (.cells zeros32 118)) := fun n => ((Only.refl _ w).drewN n).alloc _
  have BA : ∀ n, ((w.drewN n).alloc (.cells zeros32 118)).heap[w.heap.size]? = some (.cells zeros32 118 (0, 0)) := fun n => blk_new (w.drewN n) _
  have HOA := Lib.hid OA; have HBA := Lib.hid BA
  clear OA BA
  refine (sf_normal 14757395258967642112 (-67) _ (HT.out.still (HOA.out _) id) ok_tenth.1 (by decide)).mono ?_
  rintro en w2 ⟨rfl, O2⟩
  have O2' := (HOA.out _).trans O2
  have B2 := O2.blk (HBA.out _) id
  have HO2 := Lib.hid O2'; have HB2 := Lib.hid B2
  clear O2 O2' B2 HOA HBA
  rw [ok_tenth.2.1, ok_tenth.2.2]
  go_wp2_with fail
  have ND := Lib.hid (fun n => Tryz.internal_strconv_numDigits 1000000000000000 (by decide) (by decide) (w2.drewN n) (HU.out.still (HO2.out.drewN n) id))
  rw [show ((Lib.nDigits 1000000000000000 : Nat) : Int) = 16 by decide +kernel] at ND
  have DC := Lib.hid (fun n => digits_calls w.heap.size 16 1000000000000000 (-16) (fun _ => 0) (w2.drewN n) (fun t ht => ⟨(blk_cell (w := w2.drewN n) HB2.out t).trans (zeros32_at t ht), blk_free (w := w2.drewN n) HB2.out t⟩) (by decide) (by decide) (by decide) (by decide) (by decide))
  clear HB2
  go_region_law (first
    | (go_simp; go_at_call 99; refine (ND.out 1).mono ?_; rintro en w3 ⟨rfl, hw⟩; rw [hw]; clear hw w3)
    | (go_simp; go_at_call 98; refine (DC.out 1).mono ?_; rintro en w4 ⟨⟨k, hk, rfl, hdv, hne⟩, O4, B4⟩; obtain rfl := fifteen k hk hdv hne; have HO4 := Lib.hid ((HO2.out.drewN 1).seq2 (S := fun _ => False) O4 (fun i hi => .inl (by rw [hi]; exact Nat.le_refl _))); have HB4 := Lib.hid (B4 0 (by decide)).1; clear hk hdv hne O4 B4 DC ND))
  go_wp2_with fail
  have hx := HB4.out
  rw [dg_first] at hx
  refine (efg_one B w.heap.size d0 49 (0) w4 (Nat.le_trans HB.out HO4.out.size) (own_keepS HO.out HO4.out (fun _ _ h => h)) hx (by decide)).mono ?_
  rintro en w5 ⟨v, l, rfl, hA, hl⟩
  have hA' := Lib.hid (hA.after HO4.out (fun _ _ h => h))
  have HL := Lib.hid hl
  clear hx hA hl
  go_wp2_with fail
  go_ret
  refine ⟨_, rfl, ?_⟩
  have h := hA'.out
  rw [HL.out] at h
  exact h
set_option maxHeartbeats 4000000 in
theorem ftoa_one (B : Nat) (d0 : Value) (w : World) (hT : Tab w) (hU : Tab2 w) (hB : B ≤ w.heap.size) (ho : w.ownsRow B 5 1 d0 0 []) : Calls Tryz.prog 68 #[d0, .float .f64 4607182418800017408, .int .u8 101, .int .i64 (-1)] w fun e w' => ∃ v, e = .returned v ∧ Ap w B d0 v [.int .u8 49, .int .u8 101, .int .u8 43, .int .u8 48, .int .u8 48] w' := by
  have HT := Lib.hid hT; have HU := Lib.hid hU; have HO := Lib.hid ho; have HB := Lib.hid hB
  clear hT hU ho hB
  have hf := run_fbits 4607182418800017408
  have a1 : bits BinOp.and IntKind.i64 1023 2047 = 1023 := by decide +kernel
  have a2 : bits BinOp.and IntKind.u64 4607182418800017408 4503599627370495 = 0 := by decide +kernel
  have a3 : bits BinOp.or IntKind.u64 0 4503599627370496 = 4503599627370496 := by decide +kernel
  go_enter Tryz.func68, Tryz.ntmps68
  go_wp2_with fail
  go_quiet (fail)
  go_wp2_with fail
  refine (Tryz.bits_Len64 4503599627370496 _ (by decide) (by decide)).mono ?_
  rintro en w1 ⟨rfl, hw⟩; rw [hw]; clear hw w1
  rw [show Lib.bitLen (4503599627370496 : Int).toNat = 53 by decide +kernel]
  go_wp2_with fail
  have hd0 : ∀ k, d0.ownBlock = some k → k < w.heap.size := fun k hk => (HO.out.lt k hk).2
  have OA : ∀ n, Only (fun _ => False) w ((w.drewN n).alloc (.cells zeros32 118)) := fun n => ((Only.refl _ w).drewN n).alloc _
  have BA : ∀ n, ((w.drewN n).alloc (.cells zeros32 118)).heap[w.heap.size]? = some (.cells zeros32 118 (0, 0)) := fun n => blk_new (w.drewN n) _
  have HOA := Lib.hid OA; have HBA := Lib.hid BA
  clear OA BA
  refine (sf_normal 9223372036854775808 (-63) _ (HT.out.still (HOA.out _) id) ok_one.1 (by decide)).mono ?_
  rintro en w2 ⟨rfl, O2⟩
  have O2' := (HOA.out _).trans O2
  have B2 := O2.blk (HBA.out _) id
  have HO2 := Lib.hid O2'; have HB2 := Lib.hid B2
  clear O2 O2' B2 HOA HBA
  rw [ok_one.2.1, ok_one.2.2]
  go_wp2_with fail
  have ND := Lib.hid (fun n => Tryz.internal_strconv_numDigits 1000000000000000 (by decide) (by decide) (w2.drewN n) (HU.out.still (HO2.out.drewN n) id))
  rw [show ((Lib.nDigits 1000000000000000 : Nat) : Int) = 16 by decide +kernel] at ND
  have DC := Lib.hid (fun n => digits_calls w.heap.size 16 1000000000000000 (-15) (fun _ => 0) (w2.drewN n) (fun t ht => ⟨(blk_cell (w := w2.drewN n) HB2.out t).trans (zeros32_at t ht), blk_free (w := w2.drewN n) HB2.out t⟩) (by decide) (by decide) (by decide) (by decide) (by decide))
  clear HB2
  go_region_law (first
    | (go_simp; go_at_call 99; refine (ND.out 1).mono ?_; rintro en w3 ⟨rfl, hw⟩; rw [hw]; clear hw w3)
    | (go_simp; go_at_call 98; refine (DC.out 1).mono ?_; rintro en w4 ⟨⟨k, hk, rfl, hdv, hne⟩, O4, B4⟩; obtain rfl := fifteen k hk hdv hne; have HO4 := Lib.hid ((HO2.out.drewN 1).seq2 (S := fun _ => False) O4 (fun i hi => .inl (by rw [hi]; exact Nat.le_refl _))); have HB4 := Lib.hid (B4 0 (by decide)).1; clear hk hdv hne O4 B4 DC ND))
  go_wp2_with fail
  have hx := HB4.out
  rw [dg_first] at hx
  refine (efg_one B w.heap.size d0 49 (1) w4 (Nat.le_trans HB.out HO4.out.size) (own_keepS HO.out HO4.out (fun _ _ h => h)) hx (by decide)).mono ?_
  rintro en w5 ⟨v, l, rfl, hA, hl⟩
  have hA' := Lib.hid (hA.after HO4.out (fun _ _ h => h))
  have HL := Lib.hid hl
  clear hx hA hl
  go_wp2_with fail
  go_ret
  refine ⟨_, rfl, ?_⟩
  have h := hA'.out
  rw [HL.out] at h
  exact h
set_option maxHeartbeats 4000000 in
theorem ftoa_e21 (B : Nat) (d0 : Value) (w : World) (hT : Tab w) (hU : Tab2 w) (hB : B ≤ w.heap.size) (ho : w.ownsRow B 5 1 d0 0 []) : Calls Tryz.prog 68 #[d0, .float .f64 4921056587992461136, .int .u8 101, .int .i64 (-1)] w fun e w' => ∃ v, e = .returned v ∧ Ap w B d0 v [.int .u8 49, .int .u8 101, .int .u8 43, .int .u8 50, .int .u8 49] w' := by
  have HT := Lib.hid hT; have HU := Lib.hid hU; have HO := Lib.hid ho; have HB := Lib.hid hB
  clear hT hU ho hB
  have hf := run_fbits 4921056587992461136
  have a1 : bits BinOp.and IntKind.i64 1092 2047 = 1092 := by decide +kernel
  have a2 : bits BinOp.and IntKind.u64 4921056587992461136 4503599627370495 = 3125794903879504 := by decide +kernel
  have a3 : bits BinOp.or IntKind.u64 3125794903879504 4503599627370496 = 7629394531250000 := by decide +kernel
  go_enter Tryz.func68, Tryz.ntmps68
  go_wp2_with fail
  go_quiet (fail)
  go_wp2_with fail
  refine (Tryz.bits_Len64 7629394531250000 _ (by decide) (by decide)).mono ?_
  rintro en w1 ⟨rfl, hw⟩; rw [hw]; clear hw w1
  rw [show Lib.bitLen (7629394531250000 : Int).toNat = 53 by decide +kernel]
  go_wp2_with fail
  have hd0 : ∀ k, d0.ownBlock = some k → k < w.heap.size := fun k hk => (HO.out.lt k hk).2
  have OA : ∀ n, Only (fun _ => False) w ((w.drewN n).alloc (.cells zeros32 118)) := fun n => ((Only.refl _ w).drewN n).alloc _
  have BA : ∀ n, ((w.drewN n).alloc (.cells zeros32 118)).heap[w.heap.size]? = some (.cells zeros32 118 (0, 0)) := fun n => blk_new (w.drewN n) _
  have HOA := Lib.hid OA; have HBA := Lib.hid BA
  clear OA BA
  refine (sf_normal 15625000000000000000 (6) _ (HT.out.still (HOA.out _) id) ok_e21.1 (by decide)).mono ?_
  rintro en w2 ⟨rfl, O2⟩
  have O2' := (HOA.out _).trans O2
  have B2 := O2.blk (HBA.out _) id
  have HO2 := Lib.hid O2'; have HB2 := Lib.hid B2
  clear O2 O2' B2 HOA HBA
  rw [ok_e21.2.1, ok_e21.2.2]
  go_wp2_with fail
  have ND := Lib.hid (fun n => Tryz.internal_strconv_numDigits 1000000000000000 (by decide) (by decide) (w2.drewN n) (HU.out.still (HO2.out.drewN n) id))
  rw [show ((Lib.nDigits 1000000000000000 : Nat) : Int) = 16 by decide +kernel] at ND
  have DC := Lib.hid (fun n => digits_calls w.heap.size 16 1000000000000000 (6) (fun _ => 0) (w2.drewN n) (fun t ht => ⟨(blk_cell (w := w2.drewN n) HB2.out t).trans (zeros32_at t ht), blk_free (w := w2.drewN n) HB2.out t⟩) (by decide) (by decide) (by decide) (by decide) (by decide))
  clear HB2
  go_region_law (first
    | (go_simp; go_at_call 99; refine (ND.out 1).mono ?_; rintro en w3 ⟨rfl, hw⟩; rw [hw]; clear hw w3)
    | (go_simp; go_at_call 98; refine (DC.out 1).mono ?_; rintro en w4 ⟨⟨k, hk, rfl, hdv, hne⟩, O4, B4⟩; obtain rfl := fifteen k hk hdv hne; have HO4 := Lib.hid ((HO2.out.drewN 1).seq2 (S := fun _ => False) O4 (fun i hi => .inl (by rw [hi]; exact Nat.le_refl _))); have HB4 := Lib.hid (B4 0 (by decide)).1; clear hk hdv hne O4 B4 DC ND))
  go_wp2_with fail
  have hx := HB4.out
  rw [dg_first] at hx
  refine (efg_one B w.heap.size d0 49 (22) w4 (Nat.le_trans HB.out HO4.out.size) (own_keepS HO.out HO4.out (fun _ _ h => h)) hx (by decide)).mono ?_
  rintro en w5 ⟨v, l, rfl, hA, hl⟩
  have hA' := Lib.hid (hA.after HO4.out (fun _ _ h => h))
  have HL := Lib.hid hl
  clear hx hA hl
  go_wp2_with fail
  go_ret
  refine ⟨_, rfl, ?_⟩
  have h := hA'.out
  rw [HL.out] at h
  exact h
end Go.Proofs.YthjfdhkahmlolaaGreatDoor
