/- The walk of linear.Fits at one call. -/
import Derived.Test.YtlipngdfhpaodaaGreatJlb
import Derived.Deep.RegionHeld3
import Derived.Deep.CutRange
namespace Go.Proofs.YtlipngdfhpaodaaGreat.Lo
open Go.RowKit
set_option maxRecDepth 100000
/-- what Fits has laid -/
structure St (w : World) (sb cb hb db : Nat) (any : Bool) (nm : Obj) (w' : World) : Prop where
  fin : FIn sb cb hb db w'
  bs : w'.heap[w.heap.size + 1]? = some (.cells #[.slice (some ⟨sb, 0, none⟩) 1 1, .slice none 0 0, .bool false] 96 (0, 0))
  bh : w'.heap[w.heap.size + 2]? = some (.cells #[.slice (some ⟨hb, 0, none⟩) 1 1, .int .i64 3] 90 (0, 0))
  m1 : w'.heap[w.heap.size + 3]? = some nm
  bp : w'.heap[w.heap.size + 5]? = some (.cells #[.map (some (w.heap.size + 3)), .map (some (w.heap.size + 4)), .int .i64 0, .bool any] 238 (0, 0))
  only : Only (fun _ => False) w w'
  lt : sb < w.heap.size ∧ cb < w.heap.size ∧ hb < w.heap.size ∧ db < w.heap.size
section
variable {w : World} {sb cb hb db : Nat} {any : Bool} {nm : Obj} {w1 w2 : World}
theorem St.next {S : Nat → Prop} (h : St w sb cb hb db any nm w1) (O : Only S w1 w2) (hS : ∀ k, S k → w.heap.size + 6 ≤ k) : St w sb cb hb db any nm w2 := by
  obtain ⟨l1, l2, l3, l4⟩ := h.lt
  have q : ∀ k, k < w.heap.size + 6 → ¬ S k := fun k hk hs => by have := hS k hs; omega
  exact ⟨h.fin.only O (q _ (by omega)) (q _ (by omega)) (q _ (by omega)) (q _ (by omega)), O.blk h.bs (q _ (by omega)), O.blk h.bh (q _ (by omega)), O.blk h.m1 (q _ (by omega)), O.blk h.bp (q _ (by omega)),
    h.only.seq2 O (fun i hi => .inl (by have := hS i hi; omega)), h.lt⟩
theorem St.no (h : St w sb cb hb db any nm w1) (O : Only (fun _ => False) w1 w2) : St w sb cb hb db any nm w2 := h.next O fun _ q => q.elim
theorem St.timed (h : St w sb cb hb db false nm w1) (O : Only (fun k => k = w.heap.size + 5 ∨ k = w.heap.size + 4) w1 w2) (hp : w2.heap[w.heap.size + 5]? = some (.cells #[.map (some (w.heap.size + 3)), .map (some (w.heap.size + 4)), .int .i64 0, .bool true] 238 (0, 0))) : St w sb cb hb db true nm w2 := by
  obtain ⟨l1, l2, l3, l4⟩ := h.lt
  exact ⟨h.fin.only O (by omega) (by omega) (by omega) (by omega), O.blk h.bs (by omega), O.blk h.bh (by omega), O.blk h.m1 (by omega), hp, h.only.seq2 O (fun i hi => .inl (by omega)), h.lt⟩
theorem St.named (h : St w sb cb hb db any nm w1) (nm' : Obj) : St w sb cb hb db any nm' (setM w1 (w.heap.size + 3) nm') := by
  obtain ⟨l1, l2, l3, l4⟩ := h.lt
  have O := only_setM w1 (w.heap.size + 3) nm'
  exact ⟨h.fin.only O (by omega) (by omega) (by omega) (by omega), O.blk h.bs (by omega), O.blk h.bh (by omega), at_setM (blk_lt h.m1), O.blk h.bp (by omega), h.only.seq2 O (fun i hi => .inl (by omega)), h.lt⟩
end
theorem RgNew.onlyS {S : Nat → Prop} {base r sh ph mp pl : Nat} {s p c : Int} {fr : Int} {w w' : World} (h : RgNew base r sh ph mp pl s p c fr w) (O : Only S w w') (hS : ∀ k, base ≤ k → ¬ S k) : RgNew base r sh ph mp pl s p c fr w' :=
  ⟨h.rge, h.mge, h.pge, h.blk.only O (hS _ h.rge), h.shr.only O (hS _ h.shr.sge) (hS _ h.shr.pge), O.blk h.pool (hS _ h.pge), O.blk h.mapb (hS _ h.mge)⟩
/-- the first blocks -/
def W6 (w : World) (sb hb : Nat) : World := (((((w.alloc (.cells #[.int .i64 1, .int .i64 1, .int .i64 100] 52)).alloc (.cells #[.slice (some ⟨sb, 0, none⟩) 1 1, .slice none 0 0, .bool false] 96)).alloc (.cells #[.slice (some ⟨hb, 0, none⟩) 1 1, .int .i64 3] 90)).alloc (.map #[] 0)).alloc (.map #[] 0)).alloc (.cells #[.map (some (w.heap.size + 1 + 1 + 1)), .map (some (w.heap.size + 1 + 1 + 1 + 1)), .int .i64 0, .bool false] 238)
theorem w6_size (w : World) (sb hb : Nat) : (W6 w sb hb).heap.size = w.heap.size + 6 := by simp [W6]
theorem st_start {w : World} {sb cb hb db : Nat} (h : FIn sb cb hb db w) : St w sb cb hb db false (.map #[] 0) (W6 w sb hb) ∧ (W6 w sb hb).heap[w.heap.size + 4]? = some (.map #[] 0) ∧ (W6 w sb hb).heap[w.heap.size]? = some (.cells #[.int .i64 1, .int .i64 1, .int .i64 100] 52 (0, 0)) := by
  have O : Only (fun _ => False) w (W6 w sb hb) := (((((((Only.refl _ w).alloc _).alloc _).alloc _).alloc _).alloc _).alloc _)
  have a1 := blk_new w (.cells #[.int .i64 1, .int .i64 1, .int .i64 100] 52)
  have a2 := blk_new (w.alloc (.cells #[.int .i64 1, .int .i64 1, .int .i64 100] 52)) (.cells #[.slice (some ⟨sb, 0, none⟩) 1 1, .slice none 0 0, .bool false] 96)
  have a3 := blk_new ((w.alloc (.cells #[.int .i64 1, .int .i64 1, .int .i64 100] 52)).alloc (.cells #[.slice (some ⟨sb, 0, none⟩) 1 1, .slice none 0 0, .bool false] 96)) (.cells #[.slice (some ⟨hb, 0, none⟩) 1 1, .int .i64 3] 90)
  have a4 := blk_new (((w.alloc (.cells #[.int .i64 1, .int .i64 1, .int .i64 100] 52)).alloc (.cells #[.slice (some ⟨sb, 0, none⟩) 1 1, .slice none 0 0, .bool false] 96)).alloc (.cells #[.slice (some ⟨hb, 0, none⟩) 1 1, .int .i64 3] 90)) (.map #[] 0)
  have a5 := blk_new ((((w.alloc (.cells #[.int .i64 1, .int .i64 1, .int .i64 100] 52)).alloc (.cells #[.slice (some ⟨sb, 0, none⟩) 1 1, .slice none 0 0, .bool false] 96)).alloc (.cells #[.slice (some ⟨hb, 0, none⟩) 1 1, .int .i64 3] 90)).alloc (.map #[] 0)) (.map #[] 0)
  have a6 := blk_new (((((w.alloc (.cells #[.int .i64 1, .int .i64 1, .int .i64 100] 52)).alloc (.cells #[.slice (some ⟨sb, 0, none⟩) 1 1, .slice none 0 0, .bool false] 96)).alloc (.cells #[.slice (some ⟨hb, 0, none⟩) 1 1, .int .i64 3] 90)).alloc (.map #[] 0)).alloc (.map #[] 0)) (.cells #[.map (some (w.heap.size + 3)), .map (some (w.heap.size + 4)), .int .i64 0, .bool false] 238)
  simp only [World.size_alloc] at a2 a3 a4 a5 a6
  exact ⟨⟨h.only O id id id id, blk_alloc (blk_alloc (blk_alloc (blk_alloc a2 _) _) _) _, blk_alloc (blk_alloc (blk_alloc a3 _) _) _, blk_alloc (blk_alloc a4 _) _, a6, O, ⟨blk_lt h.s1, blk_lt h.s2, blk_lt h.h1, blk_lt h.h2⟩⟩, blk_alloc a5 _, blk_alloc (blk_alloc (blk_alloc (blk_alloc (blk_alloc a1 _) _) _) _) _⟩
theorem chain11 {S : Nat → Prop} {w0 w : World} {b : Nat} (h : Only S w0 w) (hb : w0.heap.size ≤ b ∨ S b) (v0 v1 v2 v3 v4 v5 v6 v7 v8 v9 v10 : Value) : Only S w0 (((((((((((w.setCell ⟨b, 0, none⟩ v0).setCell ⟨b, 1, none⟩ v1).setCell ⟨b, 2, none⟩ v2).setCell ⟨b, 3, none⟩ v3).setCell ⟨b, 4, none⟩ v4).setCell ⟨b, 5, none⟩ v5).setCell ⟨b, 6, none⟩ v6).setCell ⟨b, 7, none⟩ v7).setCell ⟨b, 8, none⟩ v8).setCell ⟨b, 9, none⟩ v9).setCell ⟨b, 10, none⟩ v10) := put11_onlyS h hb v0 v1 v2 v3 v4 v5 v6 v7 v8 v9 v10
def Cut12 (r mp sl : Nat) (W8 : World) (v : Value) (wx : World) : Prop := ∃ eb, v = .pointer (some ⟨eb, 0, none⟩) ∧ wx.heap[eb]? = some (.cells doneZ 220 (0, 0)) ∧ Only (fun k => k = r ∨ k = mp ∨ k = sl) W8 wx
set_option maxHeartbeats 16000000 in
theorem fits_1 {w : World} {sb cb hb db ob oc : Nat} (h : FIn sb cb hb db w) (o0 : w.cell? ⟨ob, 0, none⟩ = some (.int .i64 0)) (o1 : w.cell? ⟨ob, 1, none⟩ = some (.int .i64 0)) :
    Calls Tryz.prog 37 #[.agg #[.int .i64 1, .int .i64 1, .int .i64 100], scrV sb, hisV hb, .slice (some ⟨ob, 0, none⟩) 1 oc] w fun e w' => e = .returned (.tuple #[.bool true, .int .i64 0]) ∧ Only (fun _ => False) w w' := by
  have hmm := @run_makeMap Tryz.prog
  obtain ⟨hst, hm2, hbc⟩ := st_start h
  have hob : ob < w.heap.size := World.block_lt_of_cell? w _ o0
  have hsz := w6_size w sb hb
  obtain ⟨W1, hW⟩ : ∃ W1, W1 = W6 w sb hb := ⟨_, rfl⟩
  rw [← hW] at hst hm2 hbc hsz
  rw [← hst.only.cellAt hob id] at o0 o1
  have c0 : W1.cell? ⟨w.heap.size, 0, none⟩ = some (.int .i64 1) := cells_of hbc rfl
  have c1 : W1.cell? ⟨w.heap.size, 1, none⟩ = some (.int .i64 1) := cells_of hbc rfl
  have c2 : W1.cell? ⟨w.heap.size, 2, none⟩ = some (.int .i64 100) := cells_of hbc rfl
  have HS := Lib.hid hst; have HM := Lib.hid hm2
  unfold W6 at hW
  have HW := Lib.hid hW
  have O0 := Lib.hid o0; have O1 := Lib.hid o1; have SZ := Lib.hid hsz
  clear hst hm2 hbc hW h o0 o1 hsz
  unfold scrV hisV
  go_enter Tryz.func37, Tryz.ntmps37
  go_wp2_with fail
  rw [← HW.out]
  refine (regnew_ok 1 1 100 1 W1 (by decide) (by decide) poolnew_1).mono ?_
  rintro e w2 ⟨r, sh, ph, mp, pl, rfl, O2, N2⟩
  have S2 := HS.out.no O2
  have M2 := O2.blk HM.out id
  have o20 := O0.out
  have o21 := O1.out
  rw [← O2.cellAt (by have := SZ.out; omega) id] at o20 o21
  obtain ⟨W3, hW3⟩ : ∃ W3, W3 = (w2.alloc (.map #[] 0)).alloc (.cells (slotA r w2.heap.size) 243) := ⟨_, rfl⟩
  have OO3 : Only (fun _ => False) w2 W3 := by rw [hW3]; exact ((Only.refl _ w2).alloc _).alloc _
  have hs3 : (w2.alloc (.map #[] 0)).heap.size = w2.heap.size + 1 := by simp
  have RB : r < W3.heap.size ∧ mp < W3.heap.size := by
    obtain ⟨cs, q, _⟩ := (N2.only OO3).blk
    exact ⟨blk_lt q, blk_lt (N2.only OO3).mapb⟩
  have SL3 : W3.heap[w2.heap.size + 1]? = some (.cells (slotA r w2.heap.size) 243 (0, 0)) := by rw [hW3, ← hs3]; exact blk_new _ _
  have SZ2 : w.heap.size + 6 ≤ w2.heap.size := by have := O2.size; have := SZ.out; omega
  have RG : w.heap.size + 6 ≤ r ∧ w.heap.size + 6 ≤ mp := by have := N2.rge; have := N2.mge; have := SZ.out; omega
  have S3 := Lib.hid (S2.no OO3)
  have M3 := Lib.hid (OO3.blk M2 id)
  have N3 := Lib.hid (N2.only OO3)
  have HSL3 := Lib.hid SL3
  rw [← OO3.cellAt (by omega) id] at o20 o21
  unfold slotA at hW3
  have HW3 := Lib.hid hW3
  clear S2 M2 N2 OO3 O2 SL3 hW3 HS HM HW O0 O1 c0 c1 c2 hs3
  go_wp2_with fail
  rw [← HW3.out]
  refine wp_loop_rounds 2 ?_
  rw [rounds_succ]
  have OO4 : Only (fun _ => False) W3 (W3.alloc (.cells #[.int .i64 0, .int .i64 0] 72)) := (Only.refl _ W3).alloc _
  have s4 := S3.out.no OO4
  have A4 := blk_new W3 (.cells #[.int .i64 0, .int .i64 0] 72)
  have M4 := Lib.hid (OO4.blk M3.out id)
  have N4 := Lib.hid (N3.out.only OO4)
  have SL4 := Lib.hid (OO4.blk HSL3.out id)
  have h0 : (W3.alloc (.cells #[.int .i64 0, .int .i64 0] 72)).cell? ⟨w.heap.size + 1 + 1, 0, none⟩ = some (.slice (some ⟨hb, 0, none⟩) 1 1) := cells_of s4.bh rfl
  have h1 : (W3.alloc (.cells #[.int .i64 0, .int .i64 0] 72)).cell? ⟨w.heap.size + 1 + 1, 1, none⟩ = some (.int .i64 3) := cells_of s4.bh rfl
  have k0 : (W3.alloc (.cells #[.int .i64 0, .int .i64 0] 72)).cell? ⟨w.heap.size + 1, 0, none⟩ = some (.slice (some ⟨sb, 0, none⟩) 1 1) := cells_of s4.bs rfl
  have k1 : (W3.alloc (.cells #[.int .i64 0, .int .i64 0] 72)).cell? ⟨w.heap.size + 1, 1, none⟩ = some (.slice none 0 0) := cells_of s4.bs rfl
  have k2 : (W3.alloc (.cells #[.int .i64 0, .int .i64 0] 72)).cell? ⟨w.heap.size + 1, 2, none⟩ = some (.bool false) := cells_of s4.bs rfl
  have S4 := Lib.hid s4
  have HA4 := Lib.hid A4
  have LT3 : W3.heap.size < (W3.alloc (.cells #[.int .i64 0, .int .i64 0] 72)).heap.size := blk_lt A4
  have SZ3 : w2.heap.size + 1 < W3.heap.size := blk_lt HSL3.out
  clear OO4 s4 A4 S3 M3 N3 HSL3
  go_wp2_with fail
  have K := call_0 S4.out.fin
  unfold hisV scrV at K
  refine K.mono ?_
  clear K
  rintro e w5 ⟨rfl, O5⟩
  have s5 := S4.out.no O5
  obtain ⟨X6, hX6⟩ : ∃ X6, X6 = w5.alloc (.cells doneA 220) := ⟨_, rfl⟩
  have O6 : Only (fun _ => False) (W3.alloc (.cells #[.int .i64 0, .int .i64 0] 72)) X6 := by rw [hX6]; exact O5.alloc _
  have D6 : X6.heap[w5.heap.size]? = some (.cells doneA 220 (0, 0)) := by rw [hX6]; exact blk_new _ _
  have s6 := S4.out.no O6
  have A6 := O6.blk HA4.out id
  have M6 := O6.blk M4.out id
  have N6 := Lib.hid (N4.out.only O6)
  have SL6 := Lib.hid (O6.blk SL4.out id)
  have LT5 : (W3.alloc (.cells #[.int .i64 0, .int .i64 0] 72)).heap.size ≤ w5.heap.size := O5.size
  have d0 : X6.cell? ⟨w5.heap.size, 0, none⟩ = some (.int .i64 0) := cells_of D6 rfl
  have d1 : X6.cell? ⟨w5.heap.size, 1, none⟩ = some (.int .i64 0) := cells_of D6 rfl
  have d2 : X6.cell? ⟨w5.heap.size, 2, none⟩ = some (.int .i64 0) := cells_of D6 rfl
  have d3 : X6.cell? ⟨w5.heap.size, 3, none⟩ = some (.slice none 0 0) := cells_of D6 rfl
  have d4 : X6.cell? ⟨w5.heap.size, 4, none⟩ = some (.int .u64 0) := cells_of D6 rfl
  have d5 : X6.cell? ⟨w5.heap.size, 5, none⟩ = some (.int .i64 0) := cells_of D6 rfl
  have d6 : X6.cell? ⟨w5.heap.size, 6, none⟩ = some (.int .i64 3) := cells_of D6 rfl
  have d7 : X6.cell? ⟨w5.heap.size, 7, none⟩ = some (.int .i64 2) := cells_of D6 rfl
  have d8 : X6.cell? ⟨w5.heap.size, 8, none⟩ = some (.int .i64 3) := cells_of D6 rfl
  have d9 : X6.cell? ⟨w5.heap.size, 9, none⟩ = some (.int .i64 0) := cells_of D6 rfl
  have d10 : X6.cell? ⟨w5.heap.size, 10, none⟩ = some (.bool true) := cells_of D6 rfl
  have a0 : X6.cell? ⟨W3.heap.size, 0, none⟩ = some (.int .i64 0) := cells_of A6 rfl
  have a1 : X6.cell? ⟨W3.heap.size, 1, none⟩ = some (.int .i64 0) := cells_of A6 rfl
  have p0 : X6.cell? ⟨w.heap.size + 1 + 1 + 1 + 1 + 1, 0, none⟩ = some (.map (some (w.heap.size + 1 + 1 + 1))) := cells_of s6.bp rfl
  have lk := look_235e (w.heap.size + 1 + 1 + 1) X6.drew s6.m1
  have K := Lib.hid (time_0 (w := X6.drew) s6.bp M6)
  have S6 := Lib.hid s6; have HA6 := Lib.hid A6; have HD6 := Lib.hid D6
  unfold doneA at hX6 K
  have HX6 := Lib.hid hX6
  clear hX6 O6 D6 s6 A6 M6 O5 M4 N4 SL4 S4 HA4 h0 h1 k0 k1 k2
  unfold doneA
  go_wp2_with fail
  rw [← HX6.out]
  go_region
  all_goals
    go_wp2_with fail
    refine K.out.mono ?_
    rintro e w7 ⟨rfl, O7, P7⟩
    have s7 := (S6.out.no (Only.refl _ X6).drew).timed O7 P7
    have L7 : ∀ k, w.heap.size + 6 ≤ k → ¬ (k = w.heap.size + 5 ∨ k = w.heap.size + 4) := fun k hk => by omega
    have A7 := O7.blk HA6.out (L7 _ (by omega))
    have D7 := O7.blk HD6.out (L7 _ (by omega))
    have N7 := Lo.RgNew.onlyS (N6.out.only (Only.refl _ X6).drew) O7 (fun k hk => L7 k (by have := SZ.out; omega))
    have SL7 := O7.blk SL6.out (L7 _ (by omega))
    obtain ⟨W8, hW8⟩ : ∃ W8, W8 = setM w7.drew (w.heap.size + 1 + 1 + 1) one72 := ⟨_, rfl⟩
    have pt := put_235 (w.heap.size + 1 + 1 + 1) w7.drew s7.m1
    have s8 : St w sb cb hb db true one72 W8 := by rw [hW8]; exact (s7.no (Only.refl _ w7).drew).named one72
    have O8 : Only (· = w.heap.size + 3) w7 W8 := by rw [hW8]; exact (Only.refl _ w7).drew.trans (only_setM _ _ _)
    have A8 := O8.blk A7 (by omega)
    have D8 := O8.blk D7 (by omega)
    have N8 := Lo.RgNew.onlyS N7 O8 (fun k hk => by have := SZ.out; omega)
    have SL8 := O8.blk SL7 (by omega)
    rw [← hW8] at pt
    have a70 : w7.cell? ⟨W3.heap.size, 0, none⟩ = some (.int .i64 0) := cells_of A7 rfl
    have a71 : w7.cell? ⟨W3.heap.size, 1, none⟩ = some (.int .i64 0) := cells_of A7 rfl
    have p70 : w7.cell? ⟨w.heap.size + 1 + 1 + 1 + 1 + 1, 0, none⟩ = some (.map (some (w.heap.size + 1 + 1 + 1))) := cells_of s7.bp rfl
    have a80 : W8.cell? ⟨W3.heap.size, 0, none⟩ = some (.int .i64 0) := cells_of A8 rfl
    have a81 : W8.cell? ⟨W3.heap.size, 1, none⟩ = some (.int .i64 0) := cells_of A8 rfl
    have k80 : W8.cell? ⟨w.heap.size + 1, 0, none⟩ = some (.slice (some ⟨sb, 0, none⟩) 1 1) := cells_of s8.bs rfl
    have b80 : W8.cell? ⟨sb, 0, none⟩ = some (.slice (some ⟨cb, 0, none⟩) 1 1) := cells_of s8.fin.s1 rfl
    have q0 : W8.cell? ⟨cb, 0, none⟩ = some (.int .i64 1) := cells_of s8.fin.s2 rfl
    have q1 : W8.cell? ⟨cb, 1, none⟩ = some (.int .i64 0) := cells_of s8.fin.s2 rfl
    have q2 : W8.cell? ⟨cb, 2, none⟩ = some (.int .i64 0) := cells_of s8.fin.s2 rfl
    have q3 : W8.cell? ⟨cb, 3, none⟩ = some (.int .i64 1) := cells_of s8.fin.s2 rfl
    have q4 : W8.cell? ⟨cb, 4, none⟩ = some (.string ⟨#[99]⟩) := cells_of s8.fin.s2 rfl
    have q5 : W8.cell? ⟨cb, 5, none⟩ = some (.string ⟨#[]⟩) := cells_of s8.fin.s2 rfl
    have q6 : W8.cell? ⟨cb, 6, none⟩ = some (.slice none 0 0) := cells_of s8.fin.s2 rfl
    have q7 : W8.cell? ⟨cb, 7, none⟩ = some (.int .i64 0) := cells_of s8.fin.s2 rfl
    have q8 : W8.cell? ⟨cb, 8, none⟩ = some (.float .f64 0) := cells_of s8.fin.s2 rfl
    have s8b : St w sb cb hb db true one72 (W8.alloc (.cells #[.int .i64 0, .int .i64 0, .int .i64 0, .slice none 0 0, .int .u64 0, .int .i64 0, .int .i64 0, .int .i64 0, .int .i64 0, .int .i64 0, .bool false] 220)) := s8.no ((Only.refl _ W8).alloc _)
    have A8b := ((Only.refl (fun _ => False) W8).alloc (.cells #[.int .i64 0, .int .i64 0, .int .i64 0, .slice none 0 0, .int .u64 0, .int .i64 0, .int .i64 0, .int .i64 0, .int .i64 0, .int .i64 0, .bool false] 220)).blk A8 id
    have ab0 : (W8.alloc (.cells #[.int .i64 0, .int .i64 0, .int .i64 0, .slice none 0 0, .int .u64 0, .int .i64 0, .int .i64 0, .int .i64 0, .int .i64 0, .int .i64 0, .bool false] 220)).cell? ⟨W3.heap.size, 0, none⟩ = some (.int .i64 0) := cells_of A8b rfl
    have ab1 : (W8.alloc (.cells #[.int .i64 0, .int .i64 0, .int .i64 0, .slice none 0 0, .int .u64 0, .int .i64 0, .int .i64 0, .int .i64 0, .int .i64 0, .int .i64 0, .bool false] 220)).cell? ⟨W3.heap.size, 1, none⟩ = some (.int .i64 0) := cells_of A8b rfl
    have kb0 : (W8.alloc (.cells #[.int .i64 0, .int .i64 0, .int .i64 0, .slice none 0 0, .int .u64 0, .int .i64 0, .int .i64 0, .int .i64 0, .int .i64 0, .int .i64 0, .bool false] 220)).cell? ⟨w.heap.size + 1, 0, none⟩ = some (.slice (some ⟨sb, 0, none⟩) 1 1) := cells_of s8b.bs rfl
    have bb0 : (W8.alloc (.cells #[.int .i64 0, .int .i64 0, .int .i64 0, .slice none 0 0, .int .u64 0, .int .i64 0, .int .i64 0, .int .i64 0, .int .i64 0, .int .i64 0, .bool false] 220)).cell? ⟨sb, 0, none⟩ = some (.slice (some ⟨cb, 0, none⟩) 1 1) := cells_of s8b.fin.s1 rfl
    have qb0 : (W8.alloc (.cells #[.int .i64 0, .int .i64 0, .int .i64 0, .slice none 0 0, .int .u64 0, .int .i64 0, .int .i64 0, .int .i64 0, .int .i64 0, .int .i64 0, .bool false] 220)).cell? ⟨cb, 0, none⟩ = some (.int .i64 1) := cells_of s8b.fin.s2 rfl
    have qb1 : (W8.alloc (.cells #[.int .i64 0, .int .i64 0, .int .i64 0, .slice none 0 0, .int .u64 0, .int .i64 0, .int .i64 0, .int .i64 0, .int .i64 0, .int .i64 0, .bool false] 220)).cell? ⟨cb, 1, none⟩ = some (.int .i64 0) := cells_of s8b.fin.s2 rfl
    have qb2 : (W8.alloc (.cells #[.int .i64 0, .int .i64 0, .int .i64 0, .slice none 0 0, .int .u64 0, .int .i64 0, .int .i64 0, .int .i64 0, .int .i64 0, .int .i64 0, .bool false] 220)).cell? ⟨cb, 2, none⟩ = some (.int .i64 0) := cells_of s8b.fin.s2 rfl
    have qb3 : (W8.alloc (.cells #[.int .i64 0, .int .i64 0, .int .i64 0, .slice none 0 0, .int .u64 0, .int .i64 0, .int .i64 0, .int .i64 0, .int .i64 0, .int .i64 0, .bool false] 220)).cell? ⟨cb, 3, none⟩ = some (.int .i64 1) := cells_of s8b.fin.s2 rfl
    have qb4 : (W8.alloc (.cells #[.int .i64 0, .int .i64 0, .int .i64 0, .slice none 0 0, .int .u64 0, .int .i64 0, .int .i64 0, .int .i64 0, .int .i64 0, .int .i64 0, .bool false] 220)).cell? ⟨cb, 4, none⟩ = some (.string ⟨#[99]⟩) := cells_of s8b.fin.s2 rfl
    have qb5 : (W8.alloc (.cells #[.int .i64 0, .int .i64 0, .int .i64 0, .slice none 0 0, .int .u64 0, .int .i64 0, .int .i64 0, .int .i64 0, .int .i64 0, .int .i64 0, .bool false] 220)).cell? ⟨cb, 5, none⟩ = some (.string ⟨#[]⟩) := cells_of s8b.fin.s2 rfl
    have qb6 : (W8.alloc (.cells #[.int .i64 0, .int .i64 0, .int .i64 0, .slice none 0 0, .int .u64 0, .int .i64 0, .int .i64 0, .int .i64 0, .int .i64 0, .int .i64 0, .bool false] 220)).cell? ⟨cb, 6, none⟩ = some (.slice none 0 0) := cells_of s8b.fin.s2 rfl
    have qb7 : (W8.alloc (.cells #[.int .i64 0, .int .i64 0, .int .i64 0, .slice none 0 0, .int .u64 0, .int .i64 0, .int .i64 0, .int .i64 0, .int .i64 0, .int .i64 0, .bool false] 220)).cell? ⟨cb, 7, none⟩ = some (.int .i64 0) := cells_of s8b.fin.s2 rfl
    have qb8 : (W8.alloc (.cells #[.int .i64 0, .int .i64 0, .int .i64 0, .slice none 0 0, .int .u64 0, .int .i64 0, .int .i64 0, .int .i64 0, .int .i64 0, .int .i64 0, .bool false] 220)).cell? ⟨cb, 8, none⟩ = some (.float .f64 0) := cells_of s8b.fin.s2 rfl
    have K8 := Lib.hid (do_0 (w := W8.drew) (N8.only (Only.refl _ W8).drew) SL8)
    have S8 := Lib.hid s8; have HA8 := Lib.hid A8; have HD8 := Lib.hid D8
    have O8b : Only (fun _ => False) W8 (W8.alloc (.cells doneZ 220)).drew := ((Only.refl _ W8).alloc _).drew
    have K8b := Lib.hid (do_0 (w := (W8.alloc (.cells doneZ 220)).drew) (N8.only O8b) (O8b.blk SL8 id))
    have EB8 := Lib.hid (show (W8.alloc (.cells doneZ 220)).drew.heap[W8.heap.size]? = some (.cells doneZ 220 (0, 0)) from blk_new W8 _)
    have R3 : r < W8.heap.size ∧ mp < W8.heap.size ∧ w2.heap.size + 1 < W8.heap.size := by
      obtain ⟨cs, q, _⟩ := N8.blk
      exact ⟨blk_lt q, blk_lt N8.mapb, blk_lt SL8⟩
    clear O8b s8b A8b
    unfold callA at K8 K8b
    unfold doneZ at K8b EB8
    have R1 : w.heap.size + 6 ≤ r := RG.1
    have R2 : w.heap.size + 6 ≤ mp := RG.2
    clear d0 d1 d2 d3 d4 d5 d6 d7 d8 d9 d10 a0 a1 p0 lk K S6 HA6 HD6 HX6 O7 P7 s7 L7 A7 D7 N7 SL7 hW8 s8 O8 A8 D8 N8 SL8 N6 SL6
    go_wp2_with fail
    go_region
    all_goals
      go_wp2_with fail
      have HR3 := Lib.hid R3
      have hs2 : Hid (∀ w', Only (fun k => k = r ∨ k = mp ∨ k = w2.heap.size + 1) W8 w' → w'.cell? ⟨W3.heap.size, 0, none⟩ = some (.int .i64 0) ∧ w'.cell? ⟨W3.heap.size, 1, none⟩ = some (.int .i64 0) ∧ w'.cell? ⟨w.heap.size + 1, 0, none⟩ = some (.slice (some ⟨sb, 0, none⟩) 1 1) ∧ w'.cell? ⟨sb, 0, none⟩ = some (.slice (some ⟨cb, 0, none⟩) 1 1) ∧ w'.cell? ⟨cb, 0, none⟩ = some (.int .i64 1) ∧ w'.cell? ⟨cb, 1, none⟩ = some (.int .i64 0) ∧ w'.cell? ⟨cb, 2, none⟩ = some (.int .i64 0) ∧ w'.cell? ⟨cb, 3, none⟩ = some (.int .i64 1) ∧ w'.cell? ⟨cb, 4, none⟩ = some (.string ⟨#[99]⟩) ∧ w'.cell? ⟨cb, 5, none⟩ = some (.string ⟨#[]⟩) ∧ w'.cell? ⟨cb, 6, none⟩ = some (.slice none 0 0) ∧ w'.cell? ⟨cb, 7, none⟩ = some (.int .i64 0) ∧ w'.cell? ⟨cb, 8, none⟩ = some (.float .f64 0)) := Lib.hid fun w' O => by
        have L8 : ∀ k, k < w.heap.size + 6 → ¬ (k = r ∨ k = mp ∨ k = w2.heap.size + 1) := fun k hk => by omega
        have s9 := S8.out.next O (fun k hk => by omega)
        have a9 := O.blk HA8.out (by omega)
        exact ⟨cells_of a9 rfl, cells_of a9 rfl, cells_of s9.bs rfl, cells_of s9.fin.s1 rfl, cells_of s9.fin.s2 rfl, cells_of s9.fin.s2 rfl, cells_of s9.fin.s2 rfl, cells_of s9.fin.s2 rfl, cells_of s9.fin.s2 rfl, cells_of s9.fin.s2 rfl, cells_of s9.fin.s2 rfl, cells_of s9.fin.s2 rfl, cells_of s9.fin.s2 rfl⟩
      have N0 : Only (fun k => k = r ∨ k = mp ∨ k = w2.heap.size + 1) W8 W8.drew := (Only.refl _ W8).drew
      have ARI := Lib.hid (And.intro SZ2 (And.intro SZ3 (And.intro LT3 (And.intro LT5 (And.intro R1 (And.intro R2 (And.intro R3 RB)))))))
      clear SZ2 SZ3 LT3 LT5 R1 R2 R3 RB o20 o21 hmm hob RG a80 a81 k80 b80 ab0 ab1 kb0 bb0 q0 q1 q2 q3 q4 q5 q6 q7 q8 qb0 qb1 qb2 qb3 qb4 qb5 qb6 qb7 qb8
      go_cut [20] from 86 to 99 (fun v wx => Cut12 r mp (w2.heap.size + 1) W8 v wx)
      case first =>
        have NB : Only (fun k => k = r ∨ k = mp ∨ k = w2.heap.size + 1) W8 (W8.drew.alloc (.cells #[.int .i64 0, .int .i64 0, .int .i64 0, .slice none 0 0, .int .u64 0, .int .i64 0, .int .i64 0, .int .i64 0, .int .i64 0, .int .i64 0, .bool false] 220)) := N0.alloc _
        have NC : Only (fun k => k = r ∨ k = mp ∨ k = w2.heap.size + 1) W8 (W8.alloc (.cells #[.int .i64 0, .int .i64 0, .int .i64 0, .slice none 0 0, .int .u64 0, .int .i64 0, .int .i64 0, .int .i64 0, .int .i64 0, .int .i64 0, .bool false] 220)).drew := ((Only.refl _ W8).alloc _).drew
        go_region_held3 (fun w' => w'.cell? ⟨W3.heap.size, 0, none⟩ = some (.int .i64 0) ∧ w'.cell? ⟨W3.heap.size, 1, none⟩ = some (.int .i64 0) ∧ w'.cell? ⟨w.heap.size + 1, 0, none⟩ = some (.slice (some ⟨sb, 0, none⟩) 1 1) ∧ w'.cell? ⟨sb, 0, none⟩ = some (.slice (some ⟨cb, 0, none⟩) 1 1) ∧ w'.cell? ⟨cb, 0, none⟩ = some (.int .i64 1) ∧ w'.cell? ⟨cb, 1, none⟩ = some (.int .i64 0) ∧ w'.cell? ⟨cb, 2, none⟩ = some (.int .i64 0) ∧ w'.cell? ⟨cb, 3, none⟩ = some (.int .i64 1) ∧ w'.cell? ⟨cb, 4, none⟩ = some (.string ⟨#[99]⟩) ∧ w'.cell? ⟨cb, 5, none⟩ = some (.string ⟨#[]⟩) ∧ w'.cell? ⟨cb, 6, none⟩ = some (.slice none 0 0) ∧ w'.cell? ⟨cb, 7, none⟩ = some (.int .i64 0) ∧ w'.cell? ⟨cb, 8, none⟩ = some (.float .f64 0))
          ((go_split_ands; first | (with_reducible exact hs2.out _ N0) | (with_reducible exact hs2.out _ N9) | (with_reducible exact hs2.out _ NB) | (with_reducible exact hs2.out _ NC) | (with_reducible exact hs2.out _ (Only.alloc N9 _)) | (with_reducible exact hs2.out _ (chain11 N9 (.inl (Nat.le_refl _)) _ _ _ _ _ _ _ _ _ _ _)) | (with_reducible exact hs2.out _ (chain11 (Only.alloc N9 _) (.inl N9.size) _ _ _ _ _ _ _ _ _ _ _))))
          (first
            | (go_at_call 92; go_split_ands; (with_reducible refine K8.out.mono ?_); rintro e w9 ⟨rfl, O9⟩; have N9 := Only.trans N0 O9; clear O9; unfold doneZ)
            | (go_at_call 92; go_split_ands; (with_reducible refine K8b.out.mono ?_); rintro e w9 ⟨rfl, O9⟩; have N9 := NC.trans O9; have E9 := O9.blk EB8.out (by have := HR3.out; rintro (q | q | q) <;> omega); have y0 : w9.cell? ⟨W8.heap.size, 0, none⟩ = some (.int .i64 0) := cells_of E9 rfl; have f0 : w9.frozen? ⟨W8.heap.size, 0, none⟩ = false := blk_free E9 _; have y1 : w9.cell? ⟨W8.heap.size, 1, none⟩ = some (.int .i64 0) := cells_of E9 rfl; have f1 : w9.frozen? ⟨W8.heap.size, 1, none⟩ = false := blk_free E9 _; have y2 : w9.cell? ⟨W8.heap.size, 2, none⟩ = some (.int .i64 0) := cells_of E9 rfl; have f2 : w9.frozen? ⟨W8.heap.size, 2, none⟩ = false := blk_free E9 _; have y3 : w9.cell? ⟨W8.heap.size, 3, none⟩ = some (.slice none 0 0) := cells_of E9 rfl; have f3 : w9.frozen? ⟨W8.heap.size, 3, none⟩ = false := blk_free E9 _; have y4 : w9.cell? ⟨W8.heap.size, 4, none⟩ = some (.int .u64 0) := cells_of E9 rfl; have f4 : w9.frozen? ⟨W8.heap.size, 4, none⟩ = false := blk_free E9 _; have y5 : w9.cell? ⟨W8.heap.size, 5, none⟩ = some (.int .i64 0) := cells_of E9 rfl; have f5 : w9.frozen? ⟨W8.heap.size, 5, none⟩ = false := blk_free E9 _; have y6 : w9.cell? ⟨W8.heap.size, 6, none⟩ = some (.int .i64 0) := cells_of E9 rfl; have f6 : w9.frozen? ⟨W8.heap.size, 6, none⟩ = false := blk_free E9 _; have y7 : w9.cell? ⟨W8.heap.size, 7, none⟩ = some (.int .i64 0) := cells_of E9 rfl; have f7 : w9.frozen? ⟨W8.heap.size, 7, none⟩ = false := blk_free E9 _; have y8 : w9.cell? ⟨W8.heap.size, 8, none⟩ = some (.int .i64 0) := cells_of E9 rfl; have f8 : w9.frozen? ⟨W8.heap.size, 8, none⟩ = false := blk_free E9 _; have y9 : w9.cell? ⟨W8.heap.size, 9, none⟩ = some (.int .i64 0) := cells_of E9 rfl; have f9 : w9.frozen? ⟨W8.heap.size, 9, none⟩ = false := blk_free E9 _; have y10 : w9.cell? ⟨W8.heap.size, 10, none⟩ = some (.bool false) := cells_of E9 rfl; have f10 : w9.frozen? ⟨W8.heap.size, 10, none⟩ = false := blk_free E9 _; have EZ := Lib.hid E9; clear O9 E9; unfold doneZ))
        all_goals (go_wp2_with fail; go_meet)
        all_goals clear hs2 K8 K8b N0 NB NC S8 HA8 HD8 ARI HR3 EB8
        · refine ⟨w9.heap.size, by with_reducible rfl, ?_, ?_⟩
          · exact blk_new w9 _
          · exact N9.alloc _
        · refine ⟨W8.heap.size, by with_reducible rfl, ?_, ?_⟩
          · exact put11_blk EZ.out (.int .i64 0) (.int .i64 0) (.int .i64 0) (.slice none 0 0) (.int .u64 0) (.int .i64 0) (.int .i64 0) (.int .i64 0) (.int .i64 0) (.int .i64 0) (.bool false)
          · exact put11_onlyS N9 (.inl (Nat.le_refl _)) (.int .i64 0) (.int .i64 0) (.int .i64 0) (.slice none 0 0) (.int .u64 0) (.int .i64 0) (.int .i64 0) (.int .i64 0) (.int .i64 0) (.int .i64 0) (.bool false)
      case rest =>
        obtain ⟨eb, rfl, E1, E2⟩ := hcut
        obtain ⟨u1, u2, u3, u4, u5, u6, ⟨u7, u8, u9⟩, u10, u11⟩ := ARI.out
        have sc := S8.out.next E2 (fun k hk => by omega)
        have DC := E2.blk HD8.out (by rintro (q | q | q) <;> omega)
        have d0 : wc.cell? ⟨w5.heap.size, 0, none⟩ = some (.int .i64 0) := cells_of DC rfl
        have d1 : wc.cell? ⟨w5.heap.size, 1, none⟩ = some (.int .i64 0) := cells_of DC rfl
        have d2 : wc.cell? ⟨w5.heap.size, 2, none⟩ = some (.int .i64 0) := cells_of DC rfl
        have d3 : wc.cell? ⟨w5.heap.size, 3, none⟩ = some (.slice none 0 0) := cells_of DC rfl
        have d4 : wc.cell? ⟨w5.heap.size, 4, none⟩ = some (.int .u64 0) := cells_of DC rfl
        have d5 : wc.cell? ⟨w5.heap.size, 5, none⟩ = some (.int .i64 0) := cells_of DC rfl
        have d6 : wc.cell? ⟨w5.heap.size, 6, none⟩ = some (.int .i64 3) := cells_of DC rfl
        have d7 : wc.cell? ⟨w5.heap.size, 7, none⟩ = some (.int .i64 2) := cells_of DC rfl
        have d8 : wc.cell? ⟨w5.heap.size, 8, none⟩ = some (.int .i64 3) := cells_of DC rfl
        have d9 : wc.cell? ⟨w5.heap.size, 9, none⟩ = some (.int .i64 0) := cells_of DC rfl
        have d10 : wc.cell? ⟨w5.heap.size, 10, none⟩ = some (.bool true) := cells_of DC rfl
        have z0 : wc.cell? ⟨eb, 0, none⟩ = some (.int .i64 0) := cells_of E1 rfl
        have z1 : wc.cell? ⟨eb, 1, none⟩ = some (.int .i64 0) := cells_of E1 rfl
        have z2 : wc.cell? ⟨eb, 2, none⟩ = some (.int .i64 0) := cells_of E1 rfl
        have z3 : wc.cell? ⟨eb, 3, none⟩ = some (.slice none 0 0) := cells_of E1 rfl
        have z4 : wc.cell? ⟨eb, 4, none⟩ = some (.int .u64 0) := cells_of E1 rfl
        have z5 : wc.cell? ⟨eb, 5, none⟩ = some (.int .i64 0) := cells_of E1 rfl
        have z6 : wc.cell? ⟨eb, 6, none⟩ = some (.int .i64 0) := cells_of E1 rfl
        have z7 : wc.cell? ⟨eb, 7, none⟩ = some (.int .i64 0) := cells_of E1 rfl
        have z8 : wc.cell? ⟨eb, 8, none⟩ = some (.int .i64 0) := cells_of E1 rfl
        have z9 : wc.cell? ⟨eb, 9, none⟩ = some (.int .i64 0) := cells_of E1 rfl
        have z10 : wc.cell? ⟨eb, 10, none⟩ = some (.bool false) := cells_of E1 rfl
        have SC := Lib.hid sc
        clear sc DC E1 E2 u1 u2 u3 u4 u5 u6 u7 u8 u9 u10 u11 hs2 N0 K8 K8b EB8 HR3 S8 HA8 HD8
        go_wp2_with fail
        have KT := told_0 wc
        unfold doneZ doneA at KT
        refine KT.mono ?_
        clear KT
        rintro e w11 ⟨rfl, O11⟩
        have s11 := SC.out.no O11
        have j0 : w11.cell? ⟨w.heap.size + 1 + 1, 0, none⟩ = some (.slice (some ⟨hb, 0, none⟩) 1 1) := cells_of s11.bh rfl
        have j1 : w11.cell? ⟨hb, 0, none⟩ = some (.slice (some ⟨db, 0, none⟩) 1 1) := cells_of s11.fin.h1 rfl
        have g0 : w11.cell? ⟨db, 0, none⟩ = some (.int .i64 0) := cells_of s11.fin.h2 rfl
        have g1 : w11.cell? ⟨db, 1, none⟩ = some (.int .i64 0) := cells_of s11.fin.h2 rfl
        have g2 : w11.cell? ⟨db, 2, none⟩ = some (.int .i64 0) := cells_of s11.fin.h2 rfl
        have g3 : w11.cell? ⟨db, 3, none⟩ = some (.slice none 0 0) := cells_of s11.fin.h2 rfl
        have g4 : w11.cell? ⟨db, 4, none⟩ = some (.int .u64 0) := cells_of s11.fin.h2 rfl
        have g5 : w11.cell? ⟨db, 5, none⟩ = some (.int .i64 0) := cells_of s11.fin.h2 rfl
        have g6 : w11.cell? ⟨db, 6, none⟩ = some (.int .i64 3) := cells_of s11.fin.h2 rfl
        have g7 : w11.cell? ⟨db, 7, none⟩ = some (.int .i64 2) := cells_of s11.fin.h2 rfl
        have g8 : w11.cell? ⟨db, 8, none⟩ = some (.int .i64 3) := cells_of s11.fin.h2 rfl
        have g9 : w11.cell? ⟨db, 9, none⟩ = some (.int .i64 0) := cells_of s11.fin.h2 rfl
        have g10 : w11.cell? ⟨db, 10, none⟩ = some (.bool true) := cells_of s11.fin.h2 rfl
        have S11 := Lib.hid s11
        clear s11 O11 SC d0 d1 d2 d3 d4 d5 d6 d7 d8 d9 d10 z0 z1 z2 z3 z4 z5 z6 z7 z8 z9 z10
        go_wp2_with fail
        rw [rounds_succ]
        go_wp2_with fail
        refine wp_loop_rounds 2 ?_
        rw [rounds_succ]
        go_wp2_with fail
        refine wp_loop_rounds 2 ?_
        rw [rounds_succ]
        have O12 : Only (fun _ => False) w11 (w11.alloc (.cells #[.int .i64 0, .int .i64 0, .int .i64 0, .slice none 0 0, .int .u64 0, .int .i64 0, .int .i64 3, .int .i64 2, .int .i64 3, .int .i64 0, .bool true] 220)) := (Only.refl _ w11).alloc _
        have s12 := S11.out.no O12
        have i0 : (w11.alloc (.cells #[.int .i64 0, .int .i64 0, .int .i64 0, .slice none 0 0, .int .u64 0, .int .i64 0, .int .i64 3, .int .i64 2, .int .i64 3, .int .i64 0, .bool true] 220)).cell? ⟨w.heap.size + 1 + 1 + 1 + 1 + 1, 0, none⟩ = some (.map (some (w.heap.size + 1 + 1 + 1))) := cells_of s12.bp rfl
        have lk := look_235 (w.heap.size + 1 + 1 + 1) (w11.alloc (.cells #[.int .i64 0, .int .i64 0, .int .i64 0, .slice none 0 0, .int .u64 0, .int .i64 0, .int .i64 3, .int .i64 2, .int .i64 3, .int .i64 0, .bool true] 220)) s12.m1
        have S12 := Lib.hid s12.only
        clear s12 O12
        go_wp2_with fail
        rw [rounds_succ]
        go_wp2_with fail
        rw [rounds_succ]
        go_wp2_with fail
        go_ret2
        exact ⟨rfl, S12.out⟩
end Go.Proofs.YtlipngdfhpaodaaGreat.Lo
