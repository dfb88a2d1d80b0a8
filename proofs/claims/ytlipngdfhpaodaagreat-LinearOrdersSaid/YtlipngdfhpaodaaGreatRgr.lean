/- The walk of Register, at a new registry and the counter "c". -/
import Derived.Test.YtlipngdfhpaodaaGreatRgs
import Derived.Test.YtlipngdfhpaodaaGreatChk
import Derived.Test.YtlipngdfhpaodaaGreatNew3
import Derived.Test.YtlipngdfhpaodaaGreatDrainc
import Derived.Maps.OwnSet
import Derived.StillTailTactics
namespace Go.Proofs.YtlipngdfhpaodaaGreat
open Go.RowKit Go.Maps Go.MapKept Go.ChangeMaps Go.WideMaps
set_option maxRecDepth 1000000

theorem RgNew.only {base r sh ph mp pl : Nat} {s p c fr : Int} {w w' : World} (h : RgNew base r sh ph mp pl s p c fr w) (O : Only (fun _ => False) w w') : RgNew base r sh ph mp pl s p c fr w' :=
  ⟨h.rge, h.mge, h.pge, h.blk.only O (by simp), h.shr.only O (by simp) (by simp), O.blk h.pool (by simp), O.blk h.mapb (by simp)⟩
section
variable {s p c next serving : Int} {sh pl mp : Nat} {cells : Int} {all : Nat → Value} {many refused : Int}
theorem RF_next (x : Int) : (fun k => if k = 3 then Value.int .i64 x else RF s p c next serving sh pl mp cells all many refused k) = RF s p c x serving sh pl mp cells all many refused := by
  funext k; by_cases h : k = 3
  · subst h; rfl
  · rw [if_neg h]; unfold RF; simp only [h, if_false]
theorem RF_serving (x : Int) : (fun k => if k = 4 then Value.int .i64 x else RF s p c next serving sh pl mp cells all many refused k) = RF s p c next x sh pl mp cells all many refused := by
  funext k; by_cases h : k = 4
  · subst h; rfl
  · rw [if_neg h]; unfold RF; simp only [h, if_false]
theorem RF_cells (x : Int) : (fun k => if k = 7 then Value.int .i64 x else RF s p c next serving sh pl mp cells all many refused k) = RF s p c next serving sh pl mp x all many refused := by
  funext k; by_cases h : k = 7
  · subst h; rfl
  · rw [if_neg h]; unfold RF; simp only [h, if_false]
theorem RF_many (x : Int) : (fun k => if k = 265 then Value.int .i64 x else RF s p c next serving sh pl mp cells all many refused k) = RF s p c next serving sh pl mp cells all x refused := by
  funext k; by_cases h : k = 265
  · subst h; rfl
  · rw [if_neg h]; unfold RF; simp only [h, if_false]
theorem RF_mid (k : Nat) (h1 : 9 ≤ k) (h2 : k < 265) : RF s p c next serving sh pl mp cells all many refused k = all (k - 9) := by
  unfold RF
  rw [if_neg (by omega), if_neg (by omega), if_neg (by omega), if_neg (by omega), if_neg (by omega), if_neg (by omega), if_neg (by omega), if_neg (by omega), if_neg (by omega), if_pos h2]
theorem RF_all (i : Nat) (hi : i < 256) (v : Value) : (fun k => if k = 9 + i then v else RF s p c next serving sh pl mp cells all many refused k) = RF s p c next serving sh pl mp cells (fun j => if j = i then v else all j) many refused := by
  funext k
  by_cases h2 : 9 ≤ k ∧ k < 265
  · rw [RF_mid k h2.1 h2.2, RF_mid k h2.1 h2.2]
    by_cases h : k = 9 + i
    · rw [if_pos h]; show v = if k - 9 = i then v else all (k - 9); rw [if_pos (by omega)]
    · rw [if_neg h]; show all (k - 9) = if k - 9 = i then v else all (k - 9); rw [if_neg (by omega)]
  · rw [if_neg (by omega)]
    by_cases h3 : k < 9
    · have hk : k = 0 ∨ k = 1 ∨ k = 2 ∨ k = 3 ∨ k = 4 ∨ k = 5 ∨ k = 6 ∨ k = 7 ∨ k = 8 := by omega
      rcases hk with rfl | rfl | rfl | rfl | rfl | rfl | rfl | rfl | rfl <;> rfl
    · unfold RF
      simp only [show ¬ k = 0 by omega, show ¬ k = 1 by omega, show ¬ k = 2 by omega, show ¬ k = 3 by omega, show ¬ k = 4 by omega, show ¬ k = 5 by omega, show ¬ k = 6 by omega, show ¬ k = 7 by omega, show ¬ k = 8 by omega, show ¬ k < 265 by omega, if_false]
end
theorem Fb.ne {w : World} {b n : Nat} {t : TypeId} {F : Nat → Value} (h : Fb w b n t F) {k : Nat} {cs : Array Value} {t' : TypeId} {f : Nat × Nat} (q : w.heap[k]? = some (.cells cs t' f)) (ht : t' ≠ t) : k ≠ b := by
  obtain ⟨c2, h1, _⟩ := h
  exact put_ne q h1 ht
theorem Fb.nemap {w : World} {b n : Nat} {t : TypeId} {F : Nat → Value} (h : Fb w b n t F) {k : Nat} {es : Array MapEntry} {st : Nat} (q : w.heap[k]? = some (.map es st)) : k ≠ b := by
  obtain ⟨c2, h1, _⟩ := h
  intro e; subst e; rw [h1] at q; injection q with q; cases q
theorem own_low {base base' : Nat} {w : World} {e size n : Nat} {v : Value} {xs : List Value} (h : w.ownsRow base e size v n xs) (hb : base' ≤ base) : w.ownsRow base' e size v n xs := by
  refine ⟨h.1, ?_⟩
  rcases h.2 with ⟨r1, r2⟩ | ⟨g, cap, cur, rfl, r2, r3, r⟩
  · exact .inl ⟨r1, r2⟩
  · exact .inr ⟨g, cap, cur, rfl, Nat.le_trans hb r2, r3, r⟩
theorem SlabAt.low {base base' s c : Nat} {kind p : Int} {st wd : Nat} {u : Nat → Value} {L : Nat → Nat} {R : Nat → Nat → Nat} {V : Nat → Nat → Nat → Int} {w : World} (h : SlabAt base s c kind p st wd u L R V w) (hb : base' ≤ base) : SlabAt base' s c kind p st wd u L R V w :=
  ⟨Nat.le_trans hb h.sge, h.obj, h.l0, h.l1, Nat.le_trans hb h.held.cge, h.held.obj, fun b q => own_low (h.held.own b q) hb, h.held.wrd, fun b q i r => Nat.le_trans hb (h.held.rge b q i r), h.held.inj, h.held.heads⟩
theorem klaw : Keyed Tryz.prog 9 := string_keyed Tryz.underlying9
theorem kzero (w : World) : (zeroValue 3).run Tryz.prog w = .ok (.int .i64 0) w := by kernel_rfl
theorem map_empty {w : World} {mp : Nat} (h : w.heap[mp]? = some (.map #[] 0)) : w.ownsMap Tryz.prog 9 (plainElem (H := Unit) Tryz.prog 3) mp 0 (.map []) :=
  ⟨#[], 0, h, ⟨by simp, stamped_empty 0, by simp⟩, Nat.le_refl _, rfl⟩
theorem has_empty (kl : Lit) : Maps.has (H := Unit) (.map []) kl = false := rfl
/-- an instrument's block -/
def instB (s : Nat) (d : Value) (hi lo : Int) (N : Int) (S C m g : Nat) : Array Value := #[.int .i64 1, d, .string ⟨#[]⟩, .slice none 0 0, .pointer (some ⟨s, 0, none⟩), .int .i64 hi, .int .u64 lo, .slice none 0 0, .int .u64 N, .complex .f64 S C, .float .f64 m, .float .f64 g]
/-- what Register leaves -/
structure RgOne (base r sh ph mp pl ib s cb : Nat) (fr : Int) (u : Nat → Value) (L : Nat → Nat) (R : Nat → Nat → Nat) (V : Nat → Nat → Nat → Int) (w w' : World) : Prop where
  only : Only (fun k => k = r ∨ k = mp) w w'
  ige : w.heap.size ≤ ib
  blk : Fb w' r 267 176 (RF 1 1 100 1 1 sh pl mp 4 (fun j => if j = 0 then .pointer (some ⟨ib, 0, none⟩) else .pointer none) 1 0)
  shr : RecAt base sh ph 0 (fun _ => 0) 0 0 (fun k => if k = 1 then -9223372036854775808 else 0) w'
  pool : w'.heap[pl]? = some (.cells #[.int .i64 1, .int .u32 fr] 273 (0, 0))
  inst : w'.heap[ib]? = some (.cells (instB s (.string ⟨#[99]⟩) 0 0 0 0 0 0 0) 187 (0, 0))
  slab : SlabAt w.heap.size s cb 1 1 1 2 u L R V w'
  zero : ∀ b i k, b < 2 → i < 1 → k < 2 → V b i k = 0
def RegRes (base r sh ph mp pl : Nat) (fr : Int) (w : World) (e : Ending) (w' : World) : Prop := ∃ ib s cb u L R V, e = .returned (.tuple #[.int .i64 0, .int .i64 0]) ∧ RgOne base r sh ph mp pl ib s cb fr u L R V w w'
set_option maxHeartbeats 4000000 in
theorem reg_c {base r sh ph mp pl : Nat} {fr : Int} {w : World} (h : RgNew base r sh ph mp pl 1 1 100 fr w) :
    Calls Tryz.prog 20 #[.pointer (some ⟨r, 0, none⟩), .pointer none, descC] w (RegRes base r sh ph mp pl fr w) := by
  have hD := blk_new w (.cells #[.int .i64 1, .string ⟨#[99]⟩, .string ⟨#[]⟩, .slice none 0 0] 62)
  have hO := (Only.refl (fun _ => False) w).alloc (.cells #[.int .i64 1, .string ⟨#[99]⟩, .string ⟨#[]⟩, .slice none 0 0] 62)
  obtain ⟨W0, hW⟩ : ∃ W0, W0 = w.alloc (.cells #[.int .i64 1, .string ⟨#[99]⟩, .string ⟨#[]⟩, .slice none 0 0] 62) := ⟨_, rfl⟩
  rw [← hW] at hD hO
  have HD := Lib.hid hD; have HO := Lib.hid hO; have HW := Lib.hid hW
  have H0 := Lib.hid (h.only hO)
  have c0 : W0.cell? ⟨w.heap.size, 0, none⟩ = some (.int .i64 1) := by rw [blk_cell hD]; rfl
  have c1 : W0.cell? ⟨w.heap.size, 1, none⟩ = some (.string ⟨#[99]⟩) := by rw [blk_cell hD]; rfl
  have c2 : W0.cell? ⟨w.heap.size, 2, none⟩ = some (.string ⟨#[]⟩) := by rw [blk_cell hD]; rfl
  have c3 : W0.cell? ⟨w.heap.size, 3, none⟩ = some (.slice none 0 0) := by rw [blk_cell hD]; rfl
  clear h hD hO hW
  unfold descC
  go_enter_defers Tryz.func20, Tryz.ntmps20
  go_wp2_with fail
  rw [← HW.out]
  refine (check_c W0).mono ?_
  rintro e w1 ⟨rfl, hO1⟩
  have H1 := Lib.hid (H0.out.only hO1)
  have HD1 := Lib.hid (hO1.blk HD.out (by simp))
  have HO1 := Lib.hid (HO.out.trans hO1)
  clear hO1 c0 c1 c2 c3 H0 HD HO HW
  go_wp2_with fail
  refine (take_calls H1.out.blk 3 (by decide) 0 rfl rfl (by decide)).mono ?_
  rintro e w2 ⟨rfl, hO2, hF2⟩
  rw [show add64 0 1 = 1 by kernel_rfl, RF_next] at hF2
  have HF2 := Lib.hid hF2
  have R2 := Lib.hid (H1.out.shr.only hO2 (fun e => H1.out.blk.ne H1.out.shr.sobj (by decide) e) (fun e => H1.out.blk.ne H1.out.shr.pobj (by decide) e))
  have P2 := Lib.hid (hO2.blk H1.out.pool (fun e => H1.out.blk.ne H1.out.pool (by decide) e))
  have M2 := Lib.hid (hO2.blk H1.out.mapb (fun e => H1.out.blk.nemap H1.out.mapb e))
  have D2 := Lib.hid (hO2.blk HD1.out (fun e => H1.out.blk.ne HD1.out (by decide) e))
  have HO2 := Lib.hid ((HO1.out.mono (T := fun k => k = r) (fun _ _ q => q.elim)).trans hO2)
  have G := Lib.hid (And.intro H1.out.rge (And.intro H1.out.mge H1.out.pge))
  clear hO2 hF2 H1 HD1 HO1
  go_wp2_with fail
  refine (inst_0 HF2.out rfl).mono ?_
  rintro e w3 ⟨rfl, hS⟩
  have HF3 := Lib.hid (HF2.out.only (hS.only (fun _ => False)) (by simp))
  have R3 := Lib.hid (R2.out.only (hS.only (fun _ => False)) (by simp) (by simp))
  have P3 := Lib.hid ((hS.only (fun _ => False)).blk P2.out (by simp))
  have M3 := Lib.hid ((hS.only (fun _ => False)).blk M2.out (by simp))
  have D3 := Lib.hid ((hS.only (fun _ => False)).blk D2.out (by simp))
  have HO3 := Lib.hid (HO2.out.trans (hS.only _))
  clear hS HF2 R2 P2 M2 D2 HO2
  go_wp2_with fail
  refine (contains_nil _ _ _).mono ?_
  rintro e w4 ⟨rfl, hw⟩; rw [hw]; clear hw w4
  have c1 : w3.cell? ⟨w.heap.size, 1, none⟩ = some (.string ⟨#[99]⟩) := by rw [blk_cell D3.out]; rfl
  have c3 : w3.cell? ⟨w.heap.size, 3, none⟩ = some (.slice none 0 0) := by rw [blk_cell D3.out]; rfl
  go_wp2_with fail
  refine (print_nil _ _).mono ?_
  rintro e w4 ⟨rfl, hw⟩; rw [hw]; clear hw w4
  have r8 : w3.cell? ⟨r, 8, none⟩ = some (.map (some mp)) := by rw [HF3.out.cell (by decide)]; rfl
  have hown := Lib.hid (map_empty M3.out)
  have hk : keyOf Tryz.prog 9 (.string ⟨#[99]⟩) = some (.string [99]) := keyOf_string_mk Tryz.underlying9 (by decide)
  have hh := has_empty
  go_wp2_with (first | (at_lookup; refine wpList_lookup_own_ok_int _ rfl _ _ 170 rfl 9 3 .i64 klaw Tryz.underlying170 Tryz.underlying3 (kzero _) mp 0 _ rfl hown.out _ _ rfl hk ?_; intro c hat hwc) | fail)
  clear hat hwc
  have r7 : w3.cell? ⟨r, 7, none⟩ = some (.int .i64 0) := by rw [HF3.out.cell (by decide)]; rfl
  have r0 : w3.cell? ⟨r, 0, none⟩ = some (.int .i64 1) := by rw [HF3.out.cell (by decide)]; rfl
  have r1 : w3.cell? ⟨r, 1, none⟩ = some (.int .i64 1) := by rw [HF3.out.cell (by decide)]; rfl
  have r2 : w3.cell? ⟨r, 2, none⟩ = some (.int .i64 100) := by rw [HF3.out.cell (by decide)]; rfl
  have f7 : w3.frozen? ⟨r, 7, none⟩ = false := HF3.out.free _
  have c0 : w3.cell? ⟨w.heap.size, 0, none⟩ = some (.int .i64 1) := by rw [blk_cell D3.out]; rfl
  have c2 : w3.cell? ⟨w.heap.size, 2, none⟩ = some (.string ⟨#[]⟩) := by rw [blk_cell D3.out]; rfl
  have CC := Lib.hid (fun w => cells_calls 1 1 1 w)
  rw [show cellsN 1 1 1 = 4 by kernel_rfl] at CC
  go_quiet ((go_at_call 45; exact Calls.quiet_of_same (CC.out _)))
  go_wp2_with fail
  have HN := Lib.hid (fun w => new_1 1 1 w (by decide) 1 rfl)
  go_region_held3 (fun w' => w'.cell? ⟨w.heap.size, 0, none⟩ = some (.int .i64 1) ∧ w'.cell? ⟨r, 0, none⟩ = some (.int .i64 1) ∧ w'.cell? ⟨r, 1, none⟩ = some (.int .i64 1))
    ((first | (exact ⟨c0, r0, r1⟩) | (exact N4) | fail))
    ((go_at_call 11; refine (HN.out _).mono ?_; rintro e w4 ⟨s, cb, rfl, O4, u, L, R, V, hS, hV⟩; have HO4 := Lib.hid O4; have HS := Lib.hid hS; have HV := Lib.hid hV; have Q4 : Hid (Only (fun _ => False) w3 w4) := Lib.hid (((Only.refl (fun _ => False) w3).drewN _).drew.trans O4); have N4 : w4.cell? ⟨w.heap.size, 0, none⟩ = some (.int .i64 1) ∧ w4.cell? ⟨r, 0, none⟩ = some (.int .i64 1) ∧ w4.cell? ⟨r, 1, none⟩ = some (.int .i64 1) := ⟨by rw [blk_cell (O4.blk (w := _) D3.out (by simp))]; rfl, by rw [(HF3.out.only (w' := w4) (S := fun _ => False) ((Only.refl (fun _ => False) w3).drewN _ |>.drew |>.trans O4) (by simp)).cell (by decide)]; rfl, by rw [(HF3.out.only (w' := w4) (S := fun _ => False) ((Only.refl (fun _ => False) w3).drewN _ |>.drew |>.trans O4) (by simp)).cell (by decide)]; rfl⟩; clear O4 hS hV))
  have HF4 := Lib.hid (HF3.out.only Q4.out (by simp))
  have R4 := Lib.hid (R3.out.only Q4.out (by simp) (by simp))
  have P4 := Lib.hid (Q4.out.blk P3.out (by simp))
  have M4 := Lib.hid (Q4.out.blk M3.out (by simp))
  have D4 := Lib.hid (Q4.out.blk D3.out (by simp))
  have HO4' := Lib.hid (HO3.out.trans (Q4.out.mono (T := fun k => k = r) fun _ _ q => q.elim))
  have hS4 : SlabAt w.heap.size s cb 1 1 1 2 u L R V w4 := HS.out.low (by have := HO3.out.size; show w.heap.size ≤ _; simpa using this)
  have HS4 := Lib.hid hS4
  clear N4 HO4 HS HF3 R3 P3 M3 D3 HO3 hS4 c0 c1 c2 c3 r0 r1 r2 r7 r8 f7 hown Q4 CC HN
  have r7 : w4.cell? ⟨r, 7, none⟩ = some (.int .i64 0) := by rw [HF4.out.cell (by decide)]; rfl
  have r8 : w4.cell? ⟨r, 8, none⟩ = some (.map (some mp)) := by rw [HF4.out.cell (by decide)]; rfl
  have f7 : w4.frozen? ⟨r, 7, none⟩ = false := HF4.out.free _
  have ne1 : mp ≠ r := HF4.out.nemap M4.out
  have NE1 := Lib.hid ne1
  have hown5 := Lib.hid ((map_empty M4.out).setCell (a := ⟨r, 7, none⟩) ne1 (.int .i64 4))
  clear ne1
  go_wp2_with (first | (at_mapUpdate; refine wpList_mapUpdate_own _ rfl _ _ _ 170 rfl 9 3 klaw Tryz.underlying170 _ mp 0 _ rfl hown5.out (by decide) _ _ _ rfl rfl hk _ [] (plainElem_int Tryz.underlying3 (by decide)) ?_; intro w6 hown6 hg6) | fail)
  have O6 : Only (fun k => k = mp) (w4.setCell ⟨r, 7, none⟩ (.int .i64 4)) w6 := (Only.refl _ _).grown hg6 (fun k hk => .inr (by injection hk with hk; exact hk.symm))
  have hF6 : Fb w6 r 267 176 (RF 1 1 100 1 0 sh pl mp 4 (fun _ => .pointer none) 0 0) := by
    have h := (HF4.out.set 7 (.int .i64 4)).only O6 (fun e => NE1.out e.symm)
    rw [RF_cells] at h; exact h
  have O46 : Only (fun k => k = r ∨ k = mp) w4 w6 := ((Only.refl (fun k => k = r ∨ k = mp) w4).setCell (p := ⟨r, 7, none⟩) (.inr (.inl rfl)) (.int .i64 4)).trans (O6.mono fun _ _ q => .inr q)
  have kpt : ∀ (k : Nat) (cs : Array Value) (t' : TypeId) (f : Nat × Nat), t' ≠ 176 → w4.heap[k]? = some (.cells cs t' f) → w6.heap[k]? = some (.cells cs t' f) := fun k cs t' f ht q => O46.blk q (by
    rintro (e | e)
    · exact HF4.out.ne q ht e
    · subst e; rw [M4.out] at q; injection q with q; cases q)
  have R6 : RecAt base sh ph 0 (fun _ => 0) 0 0 (fun k => if k = 1 then -9223372036854775808 else 0) w6 := ⟨R4.out.sge, R4.out.pge, kpt _ _ _ _ (by decide) R4.out.sobj, kpt _ _ _ _ (by decide) R4.out.pobj⟩
  have P6 := kpt _ _ _ _ (by decide) P4.out
  have D6 := kpt _ _ _ _ (by decide) D4.out
  have S6 : SlabAt w.heap.size s cb 1 1 1 2 u L R V w6 := HS4.out.keepT (fun k cs f q => kpt k cs _ f (by decide) q) (fun k cs f q => kpt k cs _ f (by decide) q) (fun k cs f q => kpt k cs _ f (by decide) q) (fun k cs f q => kpt k cs _ f (by decide) q)
  have O6' : Only (fun k => k = r ∨ k = mp) w w6 := (HO4'.out.mono fun _ _ q => .inl q).trans O46
  have HF6 := Lib.hid hF6; have HR6 := Lib.hid R6; have HP6 := Lib.hid P6; have HD6 := Lib.hid D6; have HS6 := Lib.hid S6; have HO6 := Lib.hid O6'; have HM6 := Lib.hid hown6
  have c0 : w6.cell? ⟨w.heap.size, 0, none⟩ = some (.int .i64 1) := by rw [blk_cell D6]; rfl
  have c1 : w6.cell? ⟨w.heap.size, 1, none⟩ = some (.string ⟨#[99]⟩) := by rw [blk_cell D6]; rfl
  have c2 : w6.cell? ⟨w.heap.size, 2, none⟩ = some (.string ⟨#[]⟩) := by rw [blk_cell D6]; rfl
  have c3 : w6.cell? ⟨w.heap.size, 3, none⟩ = some (.slice none 0 0) := by rw [blk_cell D6]; rfl
  clear O6 hF6 O46 kpt R6 P6 D6 S6 O6' hown6 HF4 R4 P4 M4 D4 HO4' HS4 r7 r8 f7 hown5 hg6 NE1 hk hh
  refine wp_region_noPanic ?_
  go_region_law (first | (go_simp; go_at_call 68; refine (desc_nil 1 ⟨#[99]⟩ ⟨#[]⟩ _).mono ?_; rintro e w7 ⟨rfl, O7⟩; have Q7 : Hid (Only (fun _ => False) w6 w7) := Lib.hid ((Only.refl (fun _ => False) w6).drew.trans O7); have A7 : ∀ o, (w7.alloc o).cell? ⟨r, 9, none⟩ = some (.pointer none) := (fun o => by rw [(HF6.out.only (Q7.out.alloc o) (by simp)).cell (by decide)]; rfl); have B7 : ∀ o, (w7.alloc o).frozen? ⟨r, 9, none⟩ = false := (fun o => (HF6.out.only (Q7.out.alloc o) (by simp)).free _); clear O7))
  all_goals
    refine NoPanic.normal ?_
    go_wp2_with fail
    have O7 : Only (fun _ => False) w6 (w7.alloc (.cells (instB s (.string ⟨#[99]⟩) 0 0 0 0 0 0 0) 187)) := Q7.out.alloc _
    have n1 : r < w7.heap.size := (HF6.out.only Q7.out (by simp)).lt
    have hF8 : Fb ((w7.alloc (.cells (instB s (.string ⟨#[99]⟩) 0 0 0 0 0 0 0) 187)).setCell ⟨r, 9, none⟩ (.pointer (some ⟨w7.heap.size, 0, none⟩))) r 267 176 (RF 1 1 100 1 0 sh pl mp 4 (fun j => if j = 0 then .pointer (some ⟨w7.heap.size, 0, none⟩) else .pointer none) 0 0) := by
      have h := (HF6.out.only O7 (by simp)).set (9 + 0) (.pointer (some ⟨w7.heap.size, 0, none⟩))
      rw [RF_all 0 (by decide)] at h; exact h
    have I8 : ((w7.alloc (.cells (instB s (.string ⟨#[99]⟩) 0 0 0 0 0 0 0) 187)).setCell ⟨r, 9, none⟩ (.pointer (some ⟨w7.heap.size, 0, none⟩))).heap[w7.heap.size]? = some (.cells (instB s (.string ⟨#[99]⟩) 0 0 0 0 0 0 0) 187 (0, 0)) := blk_set_ne (blk_new w7 _) _ _ (by show w7.heap.size ≠ r; omega)
    have O68 : Only (fun k => k = r) w6 ((w7.alloc (.cells (instB s (.string ⟨#[99]⟩) 0 0 0 0 0 0 0) 187)).setCell ⟨r, 9, none⟩ (.pointer (some ⟨w7.heap.size, 0, none⟩))) := (O7.mono (T := fun k => k = r) fun _ _ q => q.elim).setCell (p := ⟨r, 9, none⟩) (.inr rfl) _
    have hib : w.heap.size ≤ w7.heap.size := Nat.le_trans HO6.out.size Q7.out.size
    have HF8 := Lib.hid hF8; have HI8 := Lib.hid I8; have HO68 := Lib.hid O68; have HIB := Lib.hid hib
    clear A7 B7 O7 n1 hF8 I8 O68 hib c0 c1 c2 c3
    unfold instB at *
    generalize (w7.alloc (.cells _ 187)).setCell ⟨r, 9, none⟩ (.pointer (some ⟨w7.heap.size, 0, none⟩)) = w8 at *
    have k8 : ∀ (k : Nat) (cs : Array Value) (t' : TypeId) (f : Nat × Nat), t' ≠ 176 → w6.heap[k]? = some (.cells cs t' f) → w8.heap[k]? = some (.cells cs t' f) := fun k cs t' f ht q => HO68.out.blk q (fun e => HF6.out.ne q ht e)
    have R8 : RecAt base sh ph 0 (fun _ => 0) 0 0 (fun k => if k = 1 then -9223372036854775808 else 0) w8 := ⟨HR6.out.sge, HR6.out.pge, k8 _ _ _ _ (by decide) HR6.out.sobj, k8 _ _ _ _ (by decide) HR6.out.pobj⟩
    have P8 := k8 _ _ _ _ (by decide) HP6.out
    have S8 : SlabAt w.heap.size s cb 1 1 1 2 u L R V w8 := HS6.out.keepT (fun k cs f q => k8 k cs _ f (by decide) q) (fun k cs f q => k8 k cs _ f (by decide) q) (fun k cs f q => k8 k cs _ f (by decide) q) (fun k cs f q => k8 k cs _ f (by decide) q)
    have O8 : Only (fun k => k = r ∨ k = mp) w w8 := HO6.out.trans (HO68.out.mono fun _ _ q => .inl q)
    have HR8 := Lib.hid R8; have HP8 := Lib.hid P8; have HS8 := Lib.hid S8; have HO8 := Lib.hid O8
    have c265 : w8.cell? ⟨r, 265, none⟩ = some (.int .i64 0) := by rw [HF8.out.cell (by decide)]; rfl
    have f265 : w8.frozen? ⟨r, 265, none⟩ = false := HF8.out.free _
    have AS := Lib.hid (astore ⟨r, 265, none⟩ 1 _ w8 c265 f265)
    clear k8 R8 P8 S8 O8 c265 f265 HO68 HO6 HR6 HP6 HS6 HF6 HD6
    refine AS.out.mono ?_
    rintro e w9 ⟨rfl, hw⟩
    have hF9 : Fb w9 r 267 176 (RF 1 1 100 1 0 sh pl mp 4 (fun j => if j = 0 then .pointer (some ⟨w7.heap.size, 0, none⟩) else .pointer none) 1 0) := by
      have h := HF8.out.set 265 (.int .i64 1)
      rw [RF_many] at h; rw [hw]; exact h
    have O89 : Only (fun k => k = r) w8 w9 := by rw [hw]; exact Only.set1 r w8 265 _
    have HF9 := Lib.hid hF9; have HO89 := Lib.hid O89
    clear hw hF9 O89 AS
    go_wp2_with fail
    refine leaves_cons (f := 60) (args := #[.pointer (some ⟨r, 3, none⟩), .pointer none]) (by simp) (by simp [go_sem]) ?_
    have GD := Lib.hid (give_deferred .returning HF9.out 3 (by decide) 0 rfl)
    refine GD.out.mono ?_
    rintro e u' w10 ⟨rfl, rfl, hw⟩
    have hF10 : Fb w10 r 267 176 (RF 1 1 100 1 1 sh pl mp 4 (fun j => if j = 0 then .pointer (some ⟨w7.heap.size, 0, none⟩) else .pointer none) 1 0) := by
      have h := HF9.out.set (3 + 1) (.int .i64 (add64 0 1))
      rw [RF_serving] at h; rw [hw]; rw [show add64 0 1 = 1 by kernel_rfl] at h ⊢; exact h
    have O810 : Only (fun k => k = r) w8 w10 := HO89.out.trans (by rw [hw]; exact Only.set1 r w9 4 _)
    have k9 : ∀ (k : Nat) (cs : Array Value) (t' : TypeId) (f : Nat × Nat), t' ≠ 176 → w8.heap[k]? = some (.cells cs t' f) → w10.heap[k]? = some (.cells cs t' f) := fun k cs t' f ht q => O810.blk q (fun e => HF8.out.ne q ht e)
    have hfin : RegRes base r sh ph mp pl fr w (.returned (.tuple #[.int .i64 0, .int .i64 0])) w10 :=
      ⟨w7.heap.size, s, cb, u, L, R, V, rfl, ⟨HO8.out.trans (O810.mono fun _ _ q => .inl q), HIB.out, hF10, ⟨HR8.out.sge, HR8.out.pge, k9 _ _ _ _ (by decide) HR8.out.sobj, k9 _ _ _ _ (by decide) HR8.out.pobj⟩, k9 _ _ _ _ (by decide) HP8.out, k9 _ _ _ _ (by decide) HI8.out,
        HS8.out.keepT (fun k cs f q => k9 k cs _ f (by decide) q) (fun k cs f q => k9 k cs _ f (by decide) q) (fun k cs f q => k9 k cs _ f (by decide) q) (fun k cs f q => k9 k cs _ f (by decide) q),
        fun b i k h1 h2 h3 => by rw [HV.out b i k h1 h2 h3 (.inl h1), first_1]⟩⟩
    exact ⟨_, results_tmp2 (t := 6) (u := 7) rfl _ _ _, hfin⟩
end Go.Proofs.YtlipngdfhpaodaaGreat
