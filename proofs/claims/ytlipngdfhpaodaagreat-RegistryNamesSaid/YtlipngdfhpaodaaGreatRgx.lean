/- The walk of Reset, at one counter. -/
import Derived.Test.YtlipngdfhpaodaaGreatRgp
import Derived.Deep.CutBlock
import Derived.Deep.DeepCutAuto
import Derived.Deep.RegionHeld3
namespace Go.Proofs.YtlipngdfhpaodaaGreat
open Go.RowKit
set_option maxRecDepth 1000000
theorem Fb.keep {w w' : World} {b n : Nat} {t : TypeId} {F : Nat → Value} (h : Fb w b n t F) (k : Keep t w w') : Fb w' b n t F := by
  obtain ⟨cs, h1, h2⟩ := h
  exact ⟨cs, k _ _ _ h1, h2⟩
theorem RecAt.keep {base sh ph : Nat} {act : Int} {rf : Nat → Int} {now start : Int} {en : Nat → Int} {w w' : World} (h : RecAt base sh ph act rf now start en w) (k1 : Keep 123 w w') (k2 : Keep 258 w w') : RecAt base sh ph act rf now start en w' :=
  ⟨h.sge, h.pge, k1 _ _ _ h.sobj, k2 _ _ _ h.pobj⟩
/-- only blocks of the types in T may have changed -/
def Sorts (T : TypeId → Prop) (w w' : World) : Prop := ∀ t, ¬ T t → Keep t w w'
theorem Sorts.of_only {T : TypeId → Prop} {S : Nat → Prop} {w w' : World} (O : Only S w w') (hS : ∀ k, S k → ∃ t, T t ∧ ∃ cs f, w.heap[k]? = some (.cells cs t f)) : Sorts T w w' := by
  intro t ht k cs f q
  refine O.blk q (fun hs => ?_)
  obtain ⟨t', h1, cs', f', h2⟩ := hS k hs
  rw [q] at h2; injection h2 with h2; injection h2 with _ h2 _
  subst h2; exact ht h1
theorem Sorts.none {T : TypeId → Prop} {w w' : World} (O : Only (fun _ => False) w w') : Sorts T w w' := Sorts.of_only O (fun _ h => h.elim)
theorem Sorts.fb {w w' : World} {b n : Nat} {t : TypeId} {F : Nat → Value} (h : Fb w b n t F) (O : Only (fun k => k = b) w w') : Sorts (fun x => x = t) w w' :=
  Sorts.of_only O (fun k e => by subst e; obtain ⟨cs, h1, _⟩ := h; exact ⟨t, rfl, cs, _, h1⟩)
theorem Sorts.slab {base s c : Nat} {kind p : Int} {st wd : Nat} {u : Nat → Value} {L : Nat → Nat} {R : Nat → Nat → Nat} {V : Nat → Nat → Nat → Int} {w w' : World} {T : TypeId → Prop} (k : Sorts T w w') (h : SlabAt base s c kind p st wd u L R V w) (h1 : ¬ T 130) (h2 : ¬ T 136) (h3 : ¬ T 140) (h4 : ¬ T 120) : SlabAt base s c kind p st wd u L R V w' :=
  h.keepT (k _ h1) (k _ h2) (k _ h3) (k _ h4)
/-- what Reset needs, and keeps -/
structure RgUp (B r sh ph mp pl ib s cb : Nat) (next serving : Int) (act : Int) (rf : Nat → Int) (now start : Int) (en : Nat → Int) (hi lo : Int) (u : Nat → Value) (L : Nat → Nat) (R : Nat → Nat → Nat) (V : Nat → Nat → Nat → Int) (w : World) : Prop where
  rge : B ≤ r
  ige : B ≤ ib
  blk : Fb w r 267 176 (RF 1 1 100 next serving sh pl mp 4 (fun j => if j = 0 then .pointer (some ⟨ib, 0, none⟩) else .pointer none) 1 0)
  shr : RecAt B sh ph act rf now start en w
  inst : w.heap[ib]? = some (.cells (instB s (.string ⟨#[99]⟩) hi lo 0 0 0 0 0) 187 (0, 0))
  slab : SlabAt B s cb 1 1 1 2 u L R V w
section
variable {B r sh ph mp pl ib s cb : Nat} {next serving : Int} {act : Int} {rf : Nat → Int} {now start : Int} {en : Nat → Int} {hi lo : Int} {u : Nat → Value} {L : Nat → Nat} {R : Nat → Nat → Nat} {V : Nat → Nat → Nat → Int} {w w' : World}
theorem RgUp.sorts (h : RgUp B r sh ph mp pl ib s cb next serving act rf now start en hi lo u L R V w) {T : TypeId → Prop} (k : Sorts T w w') (h1 : ¬ T 176) (h2 : ¬ T 123) (h3 : ¬ T 258) (h4 : ¬ T 187) (h5 : ¬ T 130) (h6 : ¬ T 136) (h7 : ¬ T 140) (h8 : ¬ T 120) : RgUp B r sh ph mp pl ib s cb next serving act rf now start en hi lo u L R V w' :=
  ⟨h.rge, h.ige, h.blk.keep (k _ h1), h.shr.keep (k _ h2) (k _ h3), k _ h4 _ _ _ h.inst, k.slab h.slab h5 h6 h7 h8⟩
theorem RgUp.only (h : RgUp B r sh ph mp pl ib s cb next serving act rf now start en hi lo u L R V w) (O : Only (fun _ => False) w w') : RgUp B r sh ph mp pl ib s cb next serving act rf now start en hi lo u L R V w' :=
  h.sorts (T := fun _ => False) (Sorts.none O) id id id id id id id id
theorem RgUp.reg {n2 s2 : Int} (h : RgUp B r sh ph mp pl ib s cb next serving act rf now start en hi lo u L R V w) (O : Only (fun k => k = r) w w') (hf : Fb w' r 267 176 (RF 1 1 100 n2 s2 sh pl mp 4 (fun j => if j = 0 then .pointer (some ⟨ib, 0, none⟩) else .pointer none) 1 0)) : RgUp B r sh ph mp pl ib s cb n2 s2 act rf now start en hi lo u L R V w' := by
  have k := Sorts.fb h.blk O
  exact ⟨h.rge, h.ige, hf, h.shr.keep (k _ (by decide)) (k _ (by decide)), k _ (by decide) _ _ _ h.inst, k.slab h.slab (by decide) (by decide) (by decide) (by decide)⟩
theorem RgUp.turned {act' : Int} {rf' : Nat → Int} {now' start' : Int} {en' : Nat → Int} (h : RgUp B r sh ph mp pl ib s cb next serving act rf now start en hi lo u L R V w) (O : Only (fun k => k = sh ∨ k = ph) w w') (hr : RecAt B sh ph act' rf' now' start' en' w') : RgUp B r sh ph mp pl ib s cb next serving act' rf' now' start' en' hi lo u L R V w' := by
  have k : Sorts (fun x => x = 123 ∨ x = 258) w w' := Sorts.of_only O (fun k e => by
    rcases e with e | e
    · subst e; exact ⟨123, .inl rfl, _, _, h.shr.sobj⟩
    · subst e; exact ⟨258, .inr rfl, _, _, h.shr.pobj⟩)
  exact ⟨h.rge, h.ige, h.blk.keep (k _ (by decide)), hr, k _ (by decide) _ _ _ h.inst, k.slab h.slab (by decide) (by decide) (by decide) (by decide)⟩
theorem RgUp.drained {V' : Nat → Nat → Nat → Int} (h : RgUp B r sh ph mp pl ib s cb next serving act rf now start en hi lo u L R V w) (O : Only (fun j => ∃ i', i' < 1 ∧ j = R 0 i') w w') (hs : SlabAt B s cb 1 1 1 2 u L R V' w') : RgUp B r sh ph mp pl ib s cb next serving act rf now start en hi lo u L R V' w' := by
  have k : Sorts (fun x => x = 120) w w' := Sorts.of_only O (fun k e => by
    obtain ⟨i', hi', e⟩ := e
    subst e
    obtain ⟨cs, q1, _⟩ := h.slab.held.wrd 0 (by decide) i' (by rw [h.slab.len (by decide)]; exact hi')
    exact ⟨120, rfl, _, _, q1⟩)
  exact ⟨h.rge, h.ige, h.blk.keep (k _ (by decide)), h.shr.keep (k _ (by decide)) (k _ (by decide)), k _ (by decide) _ _ _ h.inst, hs⟩
end
def ResetRes (B : Nat) (hi lo : Int) (w : World) (e : Ending) (w' : World) : Prop := ∃ v, e = .returned (snapv 1 v 0) ∧ Only (fun k => B ≤ k) w w' ∧ OneAt w' v (valL ⟨#[99]⟩ hi lo)
/-- a part laid into the counter -/
def putI (w : World) (ib : Nat) (lo : Int) : World := ((((((w.setCell ⟨ib, 5, none⟩ (.int .i64 0)).setCell ⟨ib, 6, none⟩ (.int .u64 lo)).setCell ⟨ib, 7, none⟩ (.slice none 0 0)).setCell ⟨ib, 8, none⟩ (.int .u64 0)).setCell ⟨ib, 9, none⟩ (.complex .f64 0 0)).setCell ⟨ib, 10, none⟩ (.float .f64 0)).setCell ⟨ib, 11, none⟩ (.float .f64 0)
theorem putI_only (w : World) (ib : Nat) (lo : Int) : Only (fun k => k = ib) w (putI w ib lo) :=
  (((((((Only.refl (fun k => k = ib) w).setCell (p := ⟨ib, 5, none⟩) (.inr rfl) _).setCell (p := ⟨ib, 6, none⟩) (.inr rfl) _).setCell (p := ⟨ib, 7, none⟩) (.inr rfl) _).setCell (p := ⟨ib, 8, none⟩) (.inr rfl) _).setCell (p := ⟨ib, 9, none⟩) (.inr rfl) _).setCell (p := ⟨ib, 10, none⟩) (.inr rfl) _).setCell (p := ⟨ib, 11, none⟩) (.inr rfl) _
theorem RgUp.put {B r sh ph mp pl ib s cb : Nat} {next serving : Int} {act : Int} {rf : Nat → Int} {now start : Int} {en : Nat → Int} {lo : Int} {u : Nat → Value} {L : Nat → Nat} {R : Nat → Nat → Nat} {V : Nat → Nat → Nat → Int} {w : World}
    (h : RgUp B r sh ph mp pl ib s cb next serving act rf now start en 0 0 u L R V w) : RgUp B r sh ph mp pl ib s cb next serving act rf now start en 0 lo u L R V (putI w ib lo) := by
  have O := putI_only w ib lo
  have hq : (putI w ib lo).heap[ib]? = some (.cells (instB s (.string ⟨#[99]⟩) 0 lo 0 0 0 0 0) 187 (0, 0)) := by
    have q := blk_set (blk_set (blk_set (blk_set (blk_set (blk_set (blk_set h.inst 5 (.int .i64 0)) 6 (.int .u64 lo)) 7 (.slice none 0 0)) 8 (.int .u64 0)) 9 (.complex .f64 0 0)) 10 (.float .f64 0)) 11 (.float .f64 0)
    simpa [instB, putI] using q
  generalize putI w ib lo = w' at *
  have k : Sorts (fun x => x = 187) w w' := Sorts.of_only O (fun k e => by subst e; exact ⟨187, rfl, _, _, h.inst⟩)
  exact ⟨h.rge, h.ige, h.blk.keep (k _ (by decide)), h.shr.keep (k _ (by decide)) (k _ (by decide)), hq, k.slab h.slab (by decide) (by decide) (by decide) (by decide)⟩
/-- what the second loop's round leaves -/
structure ResCut (B r sh ph mp pl ib s cb g6 tb : Nat) (act : Int) (rf : Nat → Int) (now start : Int) (en : Nat → Int) (lo : Int) (u : Nat → Value) (L : Nat → Nat) (R : Nat → Nat → Nat) (V : Nat → Nat → Nat → Int) (w wx : World) : Prop where
  up : RgUp B r sh ph mp pl ib s cb 3 2 act rf now start en 0 lo u L R V wx
  only : Only (fun k => B ≤ k) w wx
  res : wx.heap[tb]? = some (.cells #[.int .i64 0, .slice none 0 0, .int .u64 0] 69 (0, 0))
  part : ∀ j u, ([.int .i64 0, .int .u64 lo, .slice none 0 0, .int .u64 0, .complex .f64 0 0, .float .f64 0, .float .f64 0] : List Value)[j]? = some u → wx.cell? ⟨g6, j, none⟩ = some u
theorem ResCut.of {B r sh ph mp pl ib s cb g6 tb : Nat} {act : Int} {rf : Nat → Int} {now start : Int} {en : Nat → Int} {lo : Int} {u : Nat → Value} {L : Nat → Nat} {R : Nat → Nat → Nat} {V : Nat → Nat → Nat → Int} {w W8 w9 : World}
    (h : RgUp B r sh ph mp pl ib s cb 3 2 act rf now start en 0 0 u L R V W8) (HO : Only (fun k => B ≤ k) w W8) (HA : W8.heap[tb]? = some (.cells #[.int .i64 0, .slice none 0 0, .int .u64 0] 69 (0, 0)))
    (P : ∀ j u, ([.int .i64 0, .int .u64 lo, .slice none 0 0, .int .u64 0, .complex .f64 0 0, .float .f64 0, .float .f64 0] : List Value)[j]? = some u → W8.cell? ⟨g6, j, none⟩ = some u) (hg : g6 ≠ ib) (O : Only (fun _ => False) W8 w9) :
    ResCut B r sh ph mp pl ib s cb g6 tb act rf now start en lo u L R V w (putI w9 ib lo) := by
  have h9 := h.only O
  have Op := putI_only w9 ib lo
  refine ⟨h9.put, (HO.trans (O.mono fun _ _ q => q.elim)).trans (Op.mono fun k _ e => by subst e; exact h.ige), ?_, fun j u hu => ?_⟩
  · exact Op.blk (O.blk HA (by simp)) (fun e => put_ne HA h.inst (by decide) e)
  · have e := P j u hu
    have e9 : w9.cell? ⟨g6, j, none⟩ = some u := by rw [O.cellAt (cell_lt e) (by simp), e]
    rw [Op.cellAt (cell_lt e9) hg, e9]
set_option maxHeartbeats 4000000 in
theorem reset_1 {B r sh ph mp pl ib s cb : Nat} {en : Nat → Int} {u : Nat → Value} {L : Nat → Nat} {R : Nat → Nat → Nat} {V : Nat → Nat → Nat → Int} {w : World} {lo : Int} (hB : B ≤ w.heap.size)
    (h : RgUp B r sh ph mp pl ib s cb 2 2 0 (fun _ => 0) 0 1 en 0 0 u L R V w) (he : en 0 = 1) (hs : sumTo (V 0) 1 = (0, lo)) (hl : 0 ≤ lo ∧ lo ≤ 18446744073709551615) (hm : hiSum 0 0 0 lo = 0 ∧ ((loSum 0 lo : Nat) : Int) = lo) :
    Calls Tryz.prog 26 #[.pointer (some ⟨r, 0, none⟩), .pointer none] w (ResetRes B 0 lo w) := by
  have ks1 := run_stf
  have ks2 := run_stc
  have H := Lib.hid h; have HB := Lib.hid hB; have HE := Lib.hid he; have HS := Lib.hid hs; have HL := Lib.hid hl; have HM := Lib.hid hm
  clear h hB he hs hl hm
  go_enter_defers Tryz.func26, Tryz.ntmps26
  go_wp2_with fail
  have O0 : Only (fun _ => False) w (w.alloc (.cells #[.int .i64 0, .slice none 0 0, .int .u64 0] 69)) := (Only.refl _ w).alloc _
  have A0 := blk_new w (.cells #[.int .i64 0, .slice none 0 0, .int .u64 0] 69)
  generalize w.alloc (.cells #[.int .i64 0, .slice none 0 0, .int .u64 0] 69) = w0 at *
  have H0 := Lib.hid (H.out.only O0)
  have HO0 := Lib.hid (O0.mono (T := fun k => B ≤ k) fun _ _ q => q.elim)
  have HA0 := Lib.hid A0
  clear H O0 A0
  refine (take_calls H0.out.blk 3 (by decide) 2 rfl rfl (by decide)).mono ?_
  rintro e w1 ⟨rfl, hO1, hF1⟩
  rw [RF_next, show add64 2 1 = 3 by kernel_rfl] at hF1
  have H1 := Lib.hid (H0.out.reg hO1 hF1)
  have HO1 : Hid (Only (fun k => B ≤ k) w w1) := Lib.hid (HO0.out.trans (hO1.mono fun k _ e => by subst e; exact H0.out.rge))
  have HA1 := Lib.hid (hO1.blk HA0.out (fun e => H0.out.blk.ne HA0.out (by decide) e))
  clear hO1 hF1 H0 HO0 HA0
  have c5 : w1.cell? ⟨r, 5, none⟩ = some (.pointer (some ⟨sh, 0, none⟩)) := by rw [H1.out.blk.cell (by decide)]; rfl
  go_wp2_with fail
  refine (turn_0 H1.out.shr (by kernel_rfl) HE.out).mono ?_
  rintro e w2 ⟨rfl, hO2, hR2⟩
  have H2 := Lib.hid (H1.out.turned hO2 hR2)
  have HO2 : Hid (Only (fun k => B ≤ k) w w2) := Lib.hid (HO1.out.trans (hO2.mono fun k _ e => by
    rcases e with e | e
    · subst e; exact H1.out.shr.sge
    · subst e; exact H1.out.shr.pge))
  have HA2 := Lib.hid (hO2.blk HA1.out (by
    rintro (e | e)
    · exact put_ne HA1.out H1.out.shr.sobj (by decide) e
    · exact put_ne HA1.out H1.out.shr.pobj (by decide) e))
  clear hO2 hR2 H1 HO1 HA1 c5
  go_wp2_with fail
  refine (inst_1 H2.out.blk rfl).mono ?_
  rintro e w3 ⟨rfl, hS3⟩
  have H3 := Lib.hid (H2.out.only (hS3.only (fun _ => False)))
  have HO3 : Hid (Only (fun k => B ≤ k) w w3) := Lib.hid (HO2.out.trans (hS3.only _))
  have HA3 := Lib.hid ((hS3.only (fun _ => False)).blk HA2.out (by simp))
  clear hS3 H2 HO2 HA2
  have c9 : w3.cell? ⟨r, 9, none⟩ = some (.pointer (some ⟨ib, 0, none⟩)) := by rw [H3.out.blk.cell (by decide)]; rfl
  have d4 : w3.cell? ⟨ib, 4, none⟩ = some (.pointer (some ⟨s, 0, none⟩)) := by rw [blk_cell H3.out.inst]; rfl
  go_wp2_with fail
  refine wp_loop_rounds 2 ?_
  rw [rounds_succ]
  go_wp2_with fail
  refine (drainc_calls B s cb 1 1 u L R V w3 H3.out.slab (by decide) (by decide) 0 (by decide)).mono ?_
  intro e w4 hq
  unfold DraincRes at hq
  rw [HS.out] at hq
  obtain ⟨rfl, hO4, hS4⟩ := hq
  have H4 := Lib.hid (H3.out.drained hO4 hS4)
  have HO4 : Hid (Only (fun k => B ≤ k) w w4) := Lib.hid (HO3.out.trans (hO4.mono fun k _ e => by
    obtain ⟨i', hi', e⟩ := e
    subst e
    exact rge_at H3.out.slab (by decide) hi'))
  have HA4 := Lib.hid (hO4.blk HA3.out (by
    rintro ⟨i', hi', e⟩
    obtain ⟨cs, q1, _⟩ := H3.out.slab.held.wrd 0 (by decide) i' (by rw [H3.out.slab.len (by decide)]; exact hi')
    exact put_ne HA3.out q1 (by decide) e))
  clear hO4 hS4 H3 HO3 HA3 c9 d4
  unfold partc
  obtain ⟨i0, hi0, hz0, hs0, hb0⟩ := info_parts info109
  have hsz4 := HB.out
  go_wp2_with (first | (at_builtin; go_loud (refine wpList_append_kept _ rfl (.tmp 50) (.tmp 52) 197 rfl 109 i0 _ 7 80 Tryz.underlying197 hi0 hz0 hs0 hb0 rfl (by decide) w4.heap.size 0 (.slice none 0 0) [] (by simp [Act.eval]) (World.ownsRow_nil _ _ _ _) (by first | (simp; done) | (simp; omega)) ⟨w4.heap.size + 1, 0, none⟩ 1 1 [.int .i64 0, .int .u64 lo, .slice none 0 0, .int .u64 0, .complex .f64 0 0, .float .f64 0, .float .f64 0] (by simp [Act.eval]) rfl (news_of _ _ 109 (by simp) _ rfl) (by simp [Value.oneCell']) (by decide) (by unfold maxLen; omega) (by omega) ?_; intro v' w6 hgr hown; have N6 : Hid (Only (fun _ => False) w4 w6) := Lib.hid ((((Only.refl (fun _ => False) w4).alloc _).alloc _).grown hgr.grown (fun k hk => by cases hk)); obtain ⟨g6, cap6, hge6, rfl, hlt6, hc6⟩ := one_of (l := [.int .i64 0, .int .u64 lo, .slice none 0 0, .int .u64 0, .complex .f64 0 0, .float .f64 0, .float .f64 0]) hown; have HC6 := Lib.hid hc6; have HG6 := Lib.hid hge6; clear hgr hown hc6 hge6)) | fail)
  have H6 := Lib.hid (H4.out.only N6.out)
  have HO6 : Hid (Only (fun k => B ≤ k) w w6) := Lib.hid (HO4.out.trans (N6.out.mono fun _ _ q => q.elim))
  have HA6 := Lib.hid (N6.out.blk HA4.out (by simp))
  have LW := Lib.hid (And.intro (show w.heap.size < w4.heap.size from blk_lt HA4.out) (And.intro (blk_lt H4.out.shr.sobj) (And.intro (blk_lt H4.out.shr.pobj) (And.intro (blk_lt H4.out.inst) H4.out.blk.lt))))
  clear H4 HO4 HA4 N6 hsz4
  rw [rounds_succ]
  have c5 : w6.cell? ⟨r, 5, none⟩ = some (.pointer (some ⟨sh, 0, none⟩)) := by rw [H6.out.blk.cell (by decide)]; rfl
  go_wp2_with fail
  refine (refused_calls H6.out.shr 0 (by decide)).mono ?_
  rintro e w7 ⟨rfl, hw⟩
  have hR7 : RecAt B sh ph 1 (upd (fun _ => 0) 0 0) 1 (-9223372036854775808) (upd en 1 (-9223372036854775808)) w7 := by rw [hw]; exact H6.out.shr.setRef 0 (by decide) 0
  have hO7 : Only (fun k => k = sh ∨ k = ph) w6 w7 := by rw [hw]; exact (Only.set1 sh w6 2 _).mono fun _ _ e => .inl e
  have H7 := Lib.hid (H6.out.turned hO7 hR7)
  have HO7 : Hid (Only (fun k => B ≤ k) w w7) := Lib.hid (HO6.out.trans (hO7.mono fun k _ e => by
    rcases e with e | e
    · subst e; exact H6.out.shr.sge
    · subst e; exact H6.out.shr.pge))
  have HA7 := Lib.hid (hO7.blk HA6.out (by
    rintro (e | e)
    · exact put_ne HA6.out H6.out.shr.sobj (by decide) e
    · exact put_ne HA6.out H6.out.shr.pobj (by decide) e))
  rw [show IntKind.u64.wrap 0 = 0 by kernel_rfl]
  have P7 : Hid (∀ j u, ([.int .i64 0, .int .u64 lo, .slice none 0 0, .int .u64 0, .complex .f64 0 0, .float .f64 0, .float .f64 0] : List Value)[j]? = some u → w7.cell? ⟨g6, j, none⟩ = some u) := Lib.hid (fun j u hu => by
    have e := HC6.out j u hu
    have hlt := cell_lt e
    obtain ⟨_, l1, l2, _, _⟩ := LW.out
    have hg := HG6.out
    rw [hO7.cellAt hlt (by rintro (e | e) <;> omega), e])
  have HG7 := Lib.hid (Nat.lt_of_lt_of_le hlt6 hO7.size)
  clear hw hR7 hO7 H6 HO6 HA6 HC6 c5 hlt6
  have p0 := P7.out 0 _ rfl; have p1 := P7.out 1 _ rfl; have p2 := P7.out 2 _ rfl; have p3 := P7.out 3 _ rfl; have p4 := P7.out 4 _ rfl; have p5 := P7.out 5 _ rfl; have p6 := P7.out 6 _ rfl
  go_wp2_with fail
  refine wp_loop_rounds 2 ?_
  rw [rounds_succ]
  go_upto_block 3 with fail
  go_cut [13, 14] from 66 to 87 (fun _ _ wx => ResCut B r sh ph mp pl ib s cb g6 w.heap.size 1 (upd (fun _ => 0) 0 0) 1 (-9223372036854775808) (upd en 1 (-9223372036854775808)) lo u L R (clr 1 V 0 1 0) w wx)
  case rest =>
    have HC := Lib.hid hcut
    have t266 : wc.cell? ⟨r, 266, none⟩ = some (.int .u64 0) := by rw [hcut.up.blk.cell (by decide)]; rfl
    have f266 : wc.frozen? ⟨r, 266, none⟩ = false := hcut.up.blk.free _
    clear hcut
    go_wp2_with fail
    rw [rounds_succ]
    go_wp2_with fail
    have hF : Fb (wc.setCell ⟨r, 266, none⟩ (.int .u64 0)) r 267 176 (RF 1 1 100 3 2 sh pl mp 4 (fun j => if j = 0 then .pointer (some ⟨ib, 0, none⟩) else .pointer none) 1 0) :=
      (HC.out.up.blk.set 266 (.int .u64 0)).congr (fun k hk => by
        by_cases e : k = 266
        · subst e; rfl
        · simp [e])
    have OD := Only.set1 r wc 266 (.int .u64 0)
    have HD := Lib.hid (HC.out.up.reg OD hF)
    have HOD : Hid (Only (fun k => B ≤ k) w (wc.setCell ⟨r, 266, none⟩ (.int .u64 0))) := Lib.hid (HC.out.only.trans (OD.mono fun k _ e => by subst e; exact HC.out.up.rge))
    have HAD := Lib.hid (OD.blk HC.out.res (fun e => HC.out.up.blk.ne HC.out.res (by decide) e))
    have PD : Hid (∀ j u, ([.int .i64 0, .int .u64 lo, .slice none 0 0, .int .u64 0, .complex .f64 0 0, .float .f64 0, .float .f64 0] : List Value)[j]? = some u → (wc.setCell ⟨r, 266, none⟩ (.int .u64 0)).cell? ⟨g6, j, none⟩ = some u) := Lib.hid (fun j u hu => by
      have e := HC.out.part j u hu
      rw [OD.cellAt (cell_lt e) (by have := HG6.out; have := LW.out; omega), e])
    clear hF OD t266 f266 HC HO7 HA7 H7 P7 HG7 p0 p1 p2 p3 p4 p5 p6
    generalize wc.setCell ⟨r, 266, none⟩ (.int .u64 0) = wd at *
    refine (snap_1 (r := r) (ib := ib) (s := s) (g := g6) (cap := cap6) (d := ⟨#[99]⟩) (hi := 0) (lo := lo) (a := 0) (b := lo) (rf := 0) HD.out.blk rfl rfl HD.out.inst PD.out).mono ?_
    rintro e w8 ⟨v8, rfl, O8, g8, cap8, rfl, hc8⟩
    have n8 : Hid (g8 ≠ w.heap.size) := Lib.hid (fun e => by subst e; have := hc8 3 _ rfl; rw [blk_cell (O8.blk HAD.out (by simp))] at this; cases this)
    have HE8 := Lib.hid (HD.out.only O8)
    have HOE : Hid (Only (fun k => B ≤ k) w w8) := Lib.hid (HOD.out.trans (O8.mono fun _ _ q => q.elim))
    have HAE := Lib.hid (O8.blk HAD.out (by simp))
    have HV8 := Lib.hid hc8
    clear O8 hc8 HD HOD HAD PD
    have e0 := blk_cell HAE.out 0
    have e1 := blk_cell HAE.out 1
    have e2 := blk_cell HAE.out 2
    have f0 := blk_free HAE.out 0
    have f1 := blk_free HAE.out 1
    have f2 := blk_free HAE.out 2
    simp at e0 e1 e2
    unfold snapv
    go_wp2_with fail
    have hz9 := blk_set (blk_set (blk_set HAE.out 0 (.int .i64 1)) 1 (.slice (some ⟨g8, 0, none⟩) 1 cap8)) 2 (.int .u64 0)
    have O9 : Only (fun k => k = w.heap.size) w8 (((w8.setCell ⟨w.heap.size, 0, none⟩ (.int .i64 1)).setCell ⟨w.heap.size, 1, none⟩ (.slice (some ⟨g8, 0, none⟩) 1 cap8)).setCell ⟨w.heap.size, 2, none⟩ (.int .u64 0)) := (((Only.refl (fun k => k = w.heap.size) w8).setCell (p := ⟨w.heap.size, 0, none⟩) (.inr rfl) _).setCell (p := ⟨w.heap.size, 1, none⟩) (.inr rfl) _).setCell (p := ⟨w.heap.size, 2, none⟩) (.inr rfl) _
    generalize (((w8.setCell ⟨w.heap.size, 0, none⟩ (.int .i64 1)).setCell ⟨w.heap.size, 1, none⟩ (.slice (some ⟨g8, 0, none⟩) 1 cap8)).setCell ⟨w.heap.size, 2, none⟩ (.int .u64 0)) = w9 at *
    have hz : w9.heap[w.heap.size]? = some (.cells #[.int .i64 1, .slice (some ⟨g8, 0, none⟩) 1 cap8, .int .u64 0] 69 (0, 0)) := by simpa using hz9
    have HZ := Lib.hid hz
    have HF : Hid (Fb w9 r 267 176 (RF 1 1 100 3 2 sh pl mp 4 (fun j => if j = 0 then .pointer (some ⟨ib, 0, none⟩) else .pointer none) 1 0)) := Lib.hid (HE8.out.blk.only O9 (fun e => HE8.out.blk.ne HAE.out (by decide) e.symm))
    have HOF : Hid (Only (fun k => B ≤ k) w w9) := Lib.hid (HOE.out.trans (O9.mono fun k _ e => by subst e; exact HB.out))
    have HV9 : Hid (∀ j u, (valL ⟨#[99]⟩ 0 lo)[j]? = some u → w9.cell? ⟨g8, j, none⟩ = some u) := Lib.hid (fun j u hu => by
      have e := HV8.out j u hu
      rw [O9.cellAt (cell_lt e) n8.out, e])
    clear hz9 O9 hz HOE HAE HV8 e0 e1 e2 f0 f1 f2
    refine leaves_cons (f := 60) (args := #[.pointer (some ⟨r, 3, none⟩), .pointer none]) (by simp) (by simp [go_sem]) ?_
    have GD := Lib.hid (give_deferred .returning HF.out 3 (by decide) 2 rfl)
    refine GD.out.mono ?_
    rintro e u' w10 ⟨rfl, rfl, hw⟩
    have O10 : Only (fun k => k = r) w9 w10 := by rw [hw]; exact Only.set1 r w9 4 _
    have hz10 := O10.blk HZ.out (fun e => HF.out.ne HZ.out (by decide) e)
    have nr : g8 ≠ r := fun e' => by
      have q := HV9.out 3 _ rfl
      rw [e', HF.out.cell (by decide)] at q
      injection q with q; cases q
    have hfin : ResetRes B 0 lo w (.returned (snapv 1 (.slice (some ⟨g8, 0, none⟩) 1 cap8) 0)) w10 := ⟨_, rfl, HOF.out.trans (O10.mono fun k _ e => by subst e; exact HE8.out.rge), g8, cap8, rfl, fun j u hu => by
      have e := HV9.out j u hu
      rw [O10.cellAt (cell_lt e) nr, e]⟩
    refine ⟨_, ?_, hfin⟩
    have k0 := blk_cell hz10 0
    have k1 := blk_cell hz10 1
    have k2 := blk_cell hz10 2
    simp at k0 k1 k2
    simp [results, Tryz.results26, go_sem, k0, k1, k2, snapv]
    trace_state
  go_wp2_with fail
  obtain ⟨W8, hW⟩ : ∃ W8, W8 = w7.alloc (.cells #[.int .i64 0, .int .u64 lo, .slice none 0 0, .int .u64 0, .complex .f64 0 0, .float .f64 0, .float .f64 0] 109) := ⟨_, rfl⟩
  have O8 : Only (fun _ => False) w7 W8 := by rw [hW]; exact (Only.refl _ _).alloc _
  have R8 := Lib.hid (show W8.heap[w7.heap.size]? = some (.cells #[.int .i64 0, .int .u64 lo, .slice none 0 0, .int .u64 0, .complex .f64 0 0, .float .f64 0, .float .f64 0] 109 (0, 0)) by rw [hW]; exact blk_new _ _)
  rw [← hW]
  have H8 := Lib.hid (H7.out.only O8)
  have HO8 : Hid (Only (fun k => B ≤ k) w W8) := Lib.hid (HO7.out.trans (O8.mono fun _ _ q => q.elim))
  have HA8 := Lib.hid (O8.blk HA7.out (by simp))
  have P8 : Hid (∀ j u, ([.int .i64 0, .int .u64 lo, .slice none 0 0, .int .u64 0, .complex .f64 0 0, .float .f64 0, .float .f64 0] : List Value)[j]? = some u → W8.cell? ⟨g6, j, none⟩ = some u) := Lib.hid (fun j u hu => by rw [O8.cellAt HG7.out (by simp), P7.out j u hu])
  clear hW O8 H7 HO7 HA7 P7 HG7 p0 p1 p2 p3 p4 p5 p6
  have hs2 : Hid (∀ w', Only (fun _ => False) W8 w' → w'.cell? ⟨r, 9, none⟩ = some (.pointer (some ⟨ib, 0, none⟩)) ∧ w'.heap[ib]? = some (.cells (instB s (.string ⟨#[99]⟩) 0 0 0 0 0 0 0) 187 (0, 0)) ∧ w'.heap[w7.heap.size]? = some (.cells #[.int .i64 0, .int .u64 lo, .slice none 0 0, .int .u64 0, .complex .f64 0 0, .float .f64 0, .float .f64 0] 109 (0, 0))) := Lib.hid (fun w' O => ⟨by rw [(H8.out.only O).blk.cell (by decide)]; rfl, (H8.out.only O).inst, O.blk R8.out (by simp)⟩)
  have MC : ∀ w, Calls Tryz.prog 75 #[.agg #[.int .i64 0, .int .u64 0, .slice none 0 0, .int .u64 0, .complex .f64 0 0, .float .f64 0, .float .f64 0], .agg #[.int .i64 0, .int .u64 lo, .slice none 0 0, .int .u64 0, .complex .f64 0 0, .float .f64 0, .float .f64 0]] w fun e w' => e = .returned (.agg #[.int .i64 0, .int .u64 lo, .slice none 0 0, .int .u64 0, .complex .f64 0 0, .float .f64 0, .float .f64 0]) ∧ Only (fun _ => False) w w' := by
    intro w
    have := mergec_calls 0 0 0 lo w (by decide) HL.out.2
    rw [HM.out.1, HM.out.2] at this
    exact this
  have HMC := Lib.hid MC; clear MC
  obtain ⟨c9, hib, ht⟩ := hs2.out _ (Only.refl _ W8)
  have b0 := blk_cell hib 5; have b1 := blk_cell hib 6; have b2 := blk_cell hib 7; have b3 := blk_cell hib 8; have b4 := blk_cell hib 9; have b5 := blk_cell hib 10; have b6 := blk_cell hib 11
  have t0 := blk_cell ht 0; have t1 := blk_cell ht 1; have t2 := blk_cell ht 2; have t3 := blk_cell ht 3; have t4 := blk_cell ht 4; have t5 := blk_cell ht 5; have t6 := blk_cell ht 6
  simp [instB] at b0 b1 b2 b3 b4 b5 b6 t0 t1 t2 t3 t4 t5 t6
  clear hib ht
  refine wp_region_noPanic ?_
  go_region_law (first
    | (go_simp; go_at_call 75; refine (HMC.out _).mono ?_; rintro e w9 ⟨rfl, O9⟩; have N9 : Hid (Only (fun _ => False) W8 w9) := Lib.hid ((Only.refl (fun _ => False) W8).drew.trans O9); obtain ⟨c9, hib, ht⟩ := hs2.out _ N9.out; have f0 := blk_free hib 5; have f1 := blk_free hib 6; have f2 := blk_free hib 7; have f3 := blk_free hib 8; have f4 := blk_free hib 9; have f5 := blk_free hib 10; have f6 := blk_free hib 11; have b0 := blk_cell hib 5; have b1 := blk_cell hib 6; have b2 := blk_cell hib 7; have b3 := blk_cell hib 8; have b4 := blk_cell hib 9; have b5 := blk_cell hib 10; have b6 := blk_cell hib 11; simp [instB] at b0 b1 b2 b3 b4 b5 b6; have HI9 := Lib.hid hib; clear hib ht O9))
  all_goals
    refine NoPanic.normal ?_
    go_wp2_with fail
    go_meet
    exact ResCut.of H8.out HO8.out HA8.out P8.out (by have := HG6.out; have := LW.out; omega) N9.out
end Go.Proofs.YtlipngdfhpaodaaGreat
