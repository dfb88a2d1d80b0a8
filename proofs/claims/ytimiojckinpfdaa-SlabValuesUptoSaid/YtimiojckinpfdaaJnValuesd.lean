/- The walk of ranks.Merge at any lists. -/
import Derived.Test.YtimiojckinpfdaaRows
import Derived.Test.YtimiojckinpfdaaJnValuesc
namespace Go.Proofs.Ytimiojckinpfdaa
open Go.RowKit Srt

theorem u64_mod' (x : Int) : IntKind.u64.wrap x = x % 18446744073709551616 := by simp [IntKind.wrap, IntKind.signed, IntKind.bits]
structure MrIn (w : World) (g n : Nat) (s : Nat → Cn) (k m : Nat) (h : Nat → Cn) (v : Value) (wr : World) : Prop where
  kn : k ≤ n
  mle : m ≤ k
  own : wr.ownsRow w.heap.size 55 2 v m (cl h m)
  ne : ∀ b, v.ownBlock = some b → b ≠ g
  pre : Pre (win s 0 k) (win h 0 m)
  last : k = 0 ∨ (0 < k ∧ 0 < m ∧ (h (m - 1)).1 = (s (k - 1)).1)
  arr : Arr wr g n s
  only : Only (fun _ => False) w wr
def MR (w : World) (g n : Nat) (s : Nat → Cn) (v q : Value) (wr : World) : Prop := ∃ k m h, q = .int .i64 (k : Nat) ∧ MrIn w g n s k m h v wr
theorem arr_lt {w : World} {g n : Nat} {f : Nat → Cn} (h : Arr w g n f) : g < w.heap.size := by obtain ⟨X, h1, _⟩ := h; exact blk_lt h1
theorem mr_push {w wr wa w' : World} {g n k m : Nat} {s h : Nat → Cn} {v v' : Value} (H : MrIn w g n s k m h v wr) (hs : Sorted (win s 0 n)) (hb : ∀ i, i < n → (s i).2 < 18446744073709551616) (hk : k < n) (hne : k = 0 ∨ (s (k - 1)).1 ≠ (s k).1)
    (Oa : Only (fun _ => False) wr wa) (hg : Grew wa w' v v' (m * 2)) (ho : w'.ownsRow w.heap.size 55 2 v' (m + 1) (cl h m ++ [.int .i64 (s k).1, .int .u64 ((s k).2 : Nat)])) :
    MrIn w g n s (k + 1) (m + 1) (fun i => if i = m then s k else h i) v' w' := by
  have ha := H.arr.only Oa id
  refine ⟨hk, by have := H.mle; omega, ?_, fun b hb' => ?_, ?_, .inr ⟨by omega, by omega, ?_⟩, ?_, ?_⟩
  · rw [cl_snoc]
    have e1 : cl (fun i => if i = m then s k else h i) m = cl h m := cl_congr fun i hi => if_neg (by omega)
    rw [e1]
    have e2 : ci (fun i => if i = m then s k else h i) m = .int .i64 (s k).1 := by unfold ci; dsimp only; rw [if_pos rfl]
    have e3 : cn (fun i => if i = m then s k else h i) m = .int .u64 ((s k).2 : Nat) := by unfold cn; dsimp only; rw [if_pos rfl]
    rw [e2, e3]; exact ho
  · rcases hg.which with e | ⟨g', e, hge⟩
    · exact H.ne b (by rw [← e]; exact hb')
    · rw [e] at hb'; injection hb' with hb'
      have := arr_lt ha; omega
  · rw [win_snoc s (Nat.zero_le _), win_put]
    refine H.pre.push (hb k hk) fun x hx => ?_
    obtain ⟨i, _, hi, rfl⟩ := mem_win.1 hx
    rcases hne with e | e
    · omega
    · have h1 := sorted_le hs (Nat.zero_le i) (show i ≤ k - 1 by omega) (by omega)
      have h2 := sorted_le hs (Nat.zero_le (k - 1)) (show k - 1 ≤ k by omega) hk
      omega
  · rw [show m + 1 - 1 = m by omega, if_pos rfl, show k + 1 - 1 = k by omega]
  · obtain ⟨X, h1, h2⟩ := ha
    refine ⟨X, ?_, h2⟩
    rw [hg.grown.block g (blk_lt h1) (fun e => H.ne g e.symm rfl), h1]
  · refine (H.only.trans Oa).grown hg.grown fun b hb' => .inl ?_
    obtain ⟨q, _⟩ := own_tag H.own hb'
    exact q
theorem mr_add {w wr wa : World} {g n k m g' cap : Nat} {s h : Nat → Cn} (H : MrIn w g n s k m h (hv g' m cap) wr) (hk : k < n) (hk0 : 0 < k) (he : (s (k - 1)).1 = (s k).1)
    (Oa : Only (fun _ => False) wr wa) {z : Nat} (hz : z = ((h (m - 1)).2 + (s k).2) % 18446744073709551616) :
    MrIn w g n s (k + 1) m (fun i => if i = m - 1 then ((h (m - 1)).1, z) else h i) (hv g' m cap) (wa.setCell ⟨g', (m - 1) * 2 + 1, none⟩ (.int .u64 (z : Nat))) := by
  have ha := H.arr.only Oa id
  have hm : 0 < m := by rcases H.last with e | ⟨_, e, _⟩ <;> omega
  have hl : (h (m - 1)).1 = (s (k - 1)).1 := by rcases H.last with e | ⟨_, _, e⟩; omega; exact e
  have hgg : g' ≠ g := H.ne g' rfl
  have hgb : w.heap.size ≤ g' := (own_tag H.own rfl).1
  have hR : RowC wa g' m cap h := by
    rcases own_row H.own with ⟨e, _⟩ | ⟨g2, cap2, e, _, R⟩
    · simp [hv] at e
    · simp [hv] at e
      obtain ⟨e1, e2⟩ := e
      subst e1; subst e2
      exact R.only Oa id
  refine ⟨hk, by have := H.mle; omega, (hR.put2 (m - 1) z).own hgb, H.ne, ?_, .inr ⟨by omega, hm, ?_⟩, ?_, ?_⟩
  · rw [win_snoc s (Nat.zero_le _)]
    obtain ⟨q, rfl⟩ : ∃ q, m = q + 1 := ⟨m - 1, by omega⟩
    rw [show q + 1 - 1 = q by omega] at *
    rw [win_put, hz]
    have hp := H.pre
    rw [win_snoc h (Nat.zero_le _)] at hp
    exact hp.add (by rw [hl, he])
  · rw [if_pos rfl, show k + 1 - 1 = k by omega]
    show (h (m - 1)).1 = _
    rw [hl, he]
  · exact ha.only (Only.set1 g' wa _ _) (fun e => hgg e.symm)
  · exact (H.only.trans Oa).setCell (p := ⟨g', _, none⟩) (.inl hgb) _
theorem MrIn.drew {w : World} {g n k m : Nat} {s h : Nat → Cn} {v : Value} {wr : World} (H : MrIn w g n s k m h v wr) : MrIn w g n s k m h v wr.drew :=
  ⟨H.kn, H.mle, H.own, H.ne, H.pre, H.last, H.arr, H.only.drew⟩
theorem own_keep {w w' : World} {base e size n : Nat} {v : Value} {xs : List Value} (h : w.ownsRow base e size v n xs) (O : Only (fun _ => False) w w') : w'.ownsRow base e size v n xs :=
  own_block h fun g hg => by obtain ⟨_, cur, q⟩ := own_tag h hg; rw [O.blk q id, q]
theorem mr_row {w : World} {g n k m : Nat} {s h : Nat → Cn} {v : Value} {wr wa : World} (H : MrIn w g n s k m h v wr) (hm : 0 < k) (O : Only (fun _ => False) wr wa) : 0 < m ∧ ∃ g' cap, v = hv g' m cap ∧ RowC wa g' m cap h := by
  have hm' : 0 < m := by rcases H.last with e | ⟨_, e, _⟩ <;> omega
  refine ⟨hm', ?_⟩
  rcases own_row H.own with ⟨_, e⟩ | ⟨g2, cap2, e, _, R⟩
  · omega
  · exact ⟨g2, cap2, e, R.only O id⟩
theorem box_src (w : World) (x y : Value) : ∀ (ad : Addr) j u, some (⟨w.heap.size, 0, none⟩ : Addr) = some ad → [x, y][j]? = some u → (w.alloc (.cells #[x, y] 55)).cell? (ad.add j) = some u := by
  intro ad j u h hu
  injection h with h; subst h
  have hb := blk_new w (.cells #[x, y] 55)
  have ha : (⟨w.heap.size, 0, none⟩ : Addr).add j = ⟨w.heap.size, j, none⟩ := by unfold Addr.add; split <;> simp_all
  rw [ha, blk_cell hb]; simpa using hu
/-- what Merge answers: rising counts, none of them 0, whose sums are those of the two lists -/
def RkRes (w : World) (L : List Cn) (e : Ending) (w' : World) : Prop := ∃ v m h, e = .returned v ∧ Only (fun _ => False) w w' ∧ w'.ownsRow w.heap.size 55 2 v m (cl h m) ∧ Norm L (win h 0 m) ∧ m ≤ L.length
theorem rk_nil (w w' : World) (O : Only (fun _ => False) w w') : RkRes w [] (.returned (.slice none 0 0)) w' :=
  ⟨_, 0, fun _ => (0, 0), rfl, O, ⟨rfl, .inl ⟨rfl, rfl⟩⟩, norm_nil, Nat.le_refl _⟩
theorem rk_end {w w1 wr : World} {g n m : Nat} {s h : Nat → Cn} {v : Value} {L : List Cn} (H : MrIn w1 g n s n m h v wr) (O1 : Only (fun _ => False) w w1) (hp : (win s 0 n).Perm L) :
    (v = .slice none 0 0 → RkRes w L (.returned (.slice none 0 0)) wr) ∧
    (∀ g' cap, v = hv g' m cap → RowC wr g' m cap h ∧ ∀ e w', DelRes wr g' m cap h e w' → RkRes w L e w') := by
  have hlen : n = L.length := by rw [← hp.length_eq, win_len]; omega
  constructor
  · rintro rfl
    have hm : m = 0 := by
      rcases H.own.2 with ⟨_, e⟩ | ⟨_, _, _, e, _⟩
      · exact e
      · cases e
    subst hm
    refine ⟨_, 0, h, rfl, O1.trans H.only, ⟨rfl, .inl ⟨rfl, rfl⟩⟩, ?_, Nat.zero_le _⟩
    have := H.pre.norm
    rw [win_nil h (Nat.le_refl _)] at this ⊢
    exact this.of_perm hp.symm
  · rintro g' cap rfl
    have hgb : w1.heap.size ≤ g' := (own_tag H.own rfl).1
    rcases own_row H.own with ⟨e, _⟩ | ⟨g2, cap2, e, _, R⟩
    · simp [hv] at e
    · simp [hv] at e
      obtain ⟨e1, e2⟩ := e
      subst e1; subst e2
      refine ⟨R, fun e w' => ?_⟩
      rintro ⟨i, h2, rfl, hi, hw, R2, O2⟩
      refine ⟨_, i, h2, rfl, ?_, R2.own (Nat.le_trans O1.size hgb), ?_, by have := H.mle; omega⟩
      · exact (O1.trans H.only).seq2 O2 (by rintro j rfl; exact .inl (Nat.le_trans O1.size hgb))
      · rw [hw]; exact H.pre.norm.of_perm hp.symm
set_option maxRecDepth 100000 in
set_option maxHeartbeats 8000000 in
theorem rkmerge_calls (p1 p2 : Option Addr) (n1 n2 k1 k2 : Nat) (c1 c2 : Nat → Cn) (w : World) (hc1 : Cnts w p1 n1 c1) (hc2 : Cnts w p2 n2 c2) (e1 : p1 = none → n1 = 0) (e2 : p2 = none → n2 = 0) (hn : n1 + n2 ≤ 8796093022208)
    (hb1 : ∀ i, i < n1 → (c1 i).2 < 18446744073709551616) (hb2 : ∀ i, i < n2 → (c2 i).2 < 18446744073709551616) :
    Calls Try.prog 47 #[.slice p1 n1 k1, .slice p2 n2 k2] w (RkRes w (win c1 0 n1 ++ win c2 0 n2)) := by
  obtain ⟨i3, hi3, hz3, hs3, hb3⟩ := info_parts info55
  have d0 : (w.alloc (.cells #[.slice p1 n1 k1, .slice p2 n2 k2] 36)).cell? ⟨w.heap.size, 0, none⟩ = some (.slice p1 n1 k1) := by rw [blk_cell (blk_new _ _)]; rfl
  have d1 : (w.alloc (.cells #[.slice p1 n1 k1, .slice p2 n2 k2] 36)).cell? ⟨w.heap.size, 1, none⟩ = some (.slice p2 n2 k2) := by rw [blk_cell (blk_new _ _)]; rfl
  have O0 := (Only.refl (fun _ => False) w).alloc (.cells #[.slice p1 n1 k1, .slice p2 n2 k2] 36)
  have K := Lib.hid (concat_calls _ p1 p2 n1 n2 k1 k2 c1 c2 _ d0 d1 (hc1.only O0 (fun _ _ h => h)) (hc2.only O0 (fun _ _ h => h)) e1 e2 hn)
  have hw : win (cat c1 c2 n1) 0 (n1 + n2) = win c1 0 n1 ++ win c2 0 n2 := win_cat c1 c2 n1 n2
  have HB := Lib.hid (show ∀ x ∈ win c1 0 n1 ++ win c2 0 n2, x.2 < 18446744073709551616 by
    intro x hx
    rcases List.mem_append.1 hx with hx | hx
    · obtain ⟨k, _, hk, rfl⟩ := mem_win.1 hx; exact hb1 k hk
    · obtain ⟨k, _, hk, rfl⟩ := mem_win.1 hx; exact hb2 k hk)
  have HW := Lib.hid hw
  have HO0 := Lib.hid O0
  have hnn : n1 + n2 ≤ 9007199254740992 := by omega
  clear d0 d1 O0 hc1 hc2 e1 e2 hb1 hb2 hw
  generalize hL : win c1 0 n1 ++ win c2 0 n2 = L at *
  generalize hc : cat c1 c2 n1 = c at *
  clear hL hc
  generalize hnN : n1 + n2 = n at *
  clear hnN
  go_enter Try.func47, Try.ntmps47
  go_wp2_with fail
  refine K.out.mono ?_
  rintro e w1 ⟨v1, rfl, O1, R1⟩
  rcases own_row R1 with ⟨rfl, hn0⟩ | ⟨g, cap, rfl, hg, R⟩
  · have hL : L = [] := by rw [← HW.out, hn0]; rfl
    have X := Lib.hid (show ∀ w', Only (fun _ => False) w1 w' → RkRes w L (.returned (.slice none 0 0)) w' from fun w' O => by rw [hL]; exact rk_nil w w' ((HO0.out.trans O1).trans O))
    clear R1 O1 hL
    go_wp2_with fail
    refine (sort_nil _ _).mono ?_
    rintro e w2 ⟨rfl, hw⟩; rw [hw]; clear hw w2
    go_wp2_with fail
    refine wp_loop_rounds 1 ?_
    rw [rounds_succ]
    go_wp2_with fail
    refine (delete_nil _ _).mono ?_
    rintro e w2 ⟨rfl, hw⟩; rw [hw]; clear hw w2
    go_wp2_with fail
    go_ret
    exact X.out _ (Only.refl _ _)
  · have KS := Lib.hid (sort_calls g n cap c w1 hnn R.arr)
    have HO1 := Lib.hid O1
    have hgw : (w.alloc (.cells #[.slice p1 n1 k1, .slice p2 n2 k2] 36)).heap.size ≤ g := hg
    have HG := Lib.hid hgw
    clear R1 O1 R hg hgw K
    go_wp2_with fail
    refine KS.out.mono ?_
    rintro e w2 ⟨rfl, O2, s, A2, N2, S2⟩
    have O2' := (HO0.out.trans HO1.out).seq2 O2 (S := fun _ => False) (by rintro i rfl; have := HG.out; have := HO0.out.size; exact .inl (by omega))
    have P2 : (win s 0 n).Perm L := by rw [← HW.out]; exact N2.perm
    have B2 : ∀ i, i < n → (s i).2 < 18446744073709551616 := fun i hi => HB.out (s i) (P2.mem_iff.1 (mem_win.2 ⟨i, Nat.zero_le _, hi, rfl⟩))
    have HP := Lib.hid P2
    have HB2 := Lib.hid B2
    have HS := Lib.hid S2
    have HO2 := Lib.hid O2'
    have HA := Lib.hid A2
    clear O2 O2' P2 B2 S2 A2 N2 KS
    go_wp2_with fail
    go_loopw [6, 17] (fun v q wr => MR w2 g n s v q wr) (fun _ q _ => n - (intOf q).toNat)
    case atStart => exact ⟨0, 0, fun _ => (0, 0), rfl, Nat.zero_le _, Nat.le_refl _, ⟨rfl, .inl ⟨rfl, rfl⟩⟩, (by intro b hb; cases hb), pre_nil, .inl rfl, HA.out, Only.refl _ _⟩
    case round =>
      obtain ⟨k, m, h, rfl, H⟩ := hrel
      have hkn := H.kn
      have hmk := H.mle
      by_cases hlt : k < n
      · obtain ⟨d0, d1, d2, d3⟩ := H.arr.get hlt
        have hgl := arr_lt H.arr
        rcases hx : s k with ⟨u, y⟩
        rw [hx] at d0 d1
        dsimp only at d0 d1
        have HX := Lib.hid hx
        have HM := Lib.hid H
        clear hx d2 d3
        by_cases hk0 : k = 0
        · have kg : decide ((k : Int) > 0) = false := by simp; omega
          have kg2 : decide (0 < k) = false := by simp; omega
          have HNE := Lib.hid (show k = 0 ∨ (s (k - 1)).1 ≠ (s k).1 from .inl hk0)
          have hk00 : k ≤ 0 := by omega
          clear H hk0
          go_wp2_with fail
          go_quiet (fail)
          have hOa := (((Only.refl (fun _ => False) wr).alloc (.cells #[.int .i64 u, .int .u64 (y : Nat)] 55)).drewN nq)
          have hbx : ((wr.alloc (.cells #[.int .i64 u, .int .u64 (y : Nat)] 55)).drewN nq).heap[wr.heap.size]? = some (.cells #[.int .i64 u, .int .u64 (y : Nat)] 55) := blk_new wr _
          have f0 : ((wr.alloc (.cells #[.int .i64 u, .int .u64 (y : Nat)] 55)).drewN nq).cell? ⟨wr.heap.size, 0, none⟩ = some (.int .i64 u) := blk_cell hbx 0
          have f1 : ((wr.alloc (.cells #[.int .i64 u, .int .u64 (y : Nat)] 55)).drewN nq).cell? ⟨wr.heap.size, 1, none⟩ = some (.int .u64 (y : Nat)) := blk_cell hbx 1
          have HOa := Lib.hid hOa
          clear hOa hbx d0 d1
          generalize (wr.alloc (.cells #[.int .i64 u, .int .u64 (y : Nat)] 55)).drewN nq = wa at *

          go_wp2_with (at_builtin; go_loud (refine wpList_append_any _ rfl (.tmp 47) (.tmp 49) 36 rfl 55 i3 (.agg #[.int .i64 0, .int .u64 0]) 2 16 Try.underlying36 hi3 hz3 hs3 hb3 rfl (by decide) w2.heap.size m _ (cl h m) (by simp [Act.eval]) (own_keep HM.out.own (HOa.out.alloc _)) (by have := HM.out.only.size; have := HOa.out.size; simp; omega) (some ⟨wa.heap.size, 0, none⟩) 1 1 [.int .i64 u, .int .u64 (y : Nat)] (by simp [Act.eval]) (by simp) rfl (box_src wa _ _) (by simp [Value.oneCell']) (by unfold maxLen; omega) (by omega) ?_; intro v' w' hgr hown; have N := Lib.hid (show MR w2 g n s v' (.int .i64 ((k : Int) + 1)) w' from ⟨k + 1, m + 1, _, by go_num, mr_push HM.out HS.out HB2.out hlt HNE.out (HOa.out.alloc _) hgr (by rw [HX.out]; exact hown)⟩); clear hgr hown))
          go_roundw
          case rel => exact N.out
          case measure => simp [intOf]; omega
        · obtain ⟨q, hq⟩ : ∃ q, k = q + 1 := ⟨k - 1, by omega⟩
          have kg : decide ((k : Int) > 0) = true := by simp; omega
          have kg2 : decide (0 < k) = true := by simp; omega
          have kp : 0 < k := by omega
          have wq : IntKind.i64.wrap ((k : Int) - 1) = (q : Int) := i64_of q (by omega) (by omega)
          have hqn : q < n := by omega
          obtain ⟨d4, _, _, _⟩ := H.arr.get hqn
          have hqk : k - 1 = q := by omega
          by_cases he : (s q).1 = u
          · rw [he] at d4
            have HE := Lib.hid (show (s (k - 1)).1 = (s k).1 by rw [hqk, HX.out]; exact he)
            clear H hk0 hq hqk he
            go_wp2_with fail
            go_quiet (fail)
            have hOa := (((Only.refl (fun _ => False) wr).alloc (.cells #[.int .i64 u, .int .u64 (y : Nat)] 55)).drewN nq)
            have hbx : ((wr.alloc (.cells #[.int .i64 u, .int .u64 (y : Nat)] 55)).drewN nq).heap[wr.heap.size]? = some (.cells #[.int .i64 u, .int .u64 (y : Nat)] 55) := blk_new wr _
            have f0 : ((wr.alloc (.cells #[.int .i64 u, .int .u64 (y : Nat)] 55)).drewN nq).cell? ⟨wr.heap.size, 0, none⟩ = some (.int .i64 u) := blk_cell hbx 0
            have f1 : ((wr.alloc (.cells #[.int .i64 u, .int .u64 (y : Nat)] 55)).drewN nq).cell? ⟨wr.heap.size, 1, none⟩ = some (.int .u64 (y : Nat)) := blk_cell hbx 1
            have HOa := Lib.hid hOa
            clear hOa hbx d0 d1
            generalize (wr.alloc (.cells #[.int .i64 u, .int .u64 (y : Nat)] 55)).drewN nq = wa at *

            obtain ⟨hm0, g', cap', rfl, hR⟩ := mr_row HM.out kp HOa.out
            obtain ⟨t, ht⟩ : ∃ t, t = m - 1 := ⟨_, rfl⟩
            have wt : IntKind.i64.wrap ((m : Int) - 1) = (t : Int) := i64_of t (by omega) (by omega)
            have htm : t < m := by omega
            obtain ⟨_, r1, _, r3⟩ := hR.arr.get htm
            rcases hh : h t with ⟨a, b⟩
            rw [hh] at r1
            dsimp only at r1
            obtain ⟨z, hz⟩ : ∃ z, z = (b + y) % 18446744073709551616 := ⟨_, rfl⟩
            have wz : IntKind.u64.wrap ((b : Int) + y) = ((z : Nat) : Int) := by rw [u64_mod', hz]; omega
            have N := Lib.hid (show MR w2 g n s (hv g' m cap') (.int .i64 ((k : Int) + 1)) (wa.setCell ⟨g', t * 2 + 1, none⟩ (.int .u64 (z : Nat))).drew from ⟨k + 1, m, _, by go_num, MrIn.drew (by rw [ht]; exact mr_add HM.out hlt kp HE.out HOa.out (by rw [← ht, hh, HX.out]; exact hz))⟩)
            clear hz hh ht hR
            go_wp2_with fail
            go_region
            all_goals
              go_wp2_with fail
              exact ⟨N.out, by simp [intOf]; omega⟩
          · have kf : ((s q).1 == u) = false := by simp; exact he
            have HNE := Lib.hid (show k = 0 ∨ (s (k - 1)).1 ≠ (s k).1 from .inr (by rw [hqk, HX.out]; exact he))
            generalize (s q).1 = u2 at *
            clear H hk0 hq hqk he
            go_wp2_with fail
            go_quiet (fail)
            have hOa := (((Only.refl (fun _ => False) wr).alloc (.cells #[.int .i64 u, .int .u64 (y : Nat)] 55)).drewN nq)
            have hbx : ((wr.alloc (.cells #[.int .i64 u, .int .u64 (y : Nat)] 55)).drewN nq).heap[wr.heap.size]? = some (.cells #[.int .i64 u, .int .u64 (y : Nat)] 55) := blk_new wr _
            have f0 : ((wr.alloc (.cells #[.int .i64 u, .int .u64 (y : Nat)] 55)).drewN nq).cell? ⟨wr.heap.size, 0, none⟩ = some (.int .i64 u) := blk_cell hbx 0
            have f1 : ((wr.alloc (.cells #[.int .i64 u, .int .u64 (y : Nat)] 55)).drewN nq).cell? ⟨wr.heap.size, 1, none⟩ = some (.int .u64 (y : Nat)) := blk_cell hbx 1
            have HOa := Lib.hid hOa
            clear hOa hbx d0 d1
            generalize (wr.alloc (.cells #[.int .i64 u, .int .u64 (y : Nat)] 55)).drewN nq = wa at *

            go_wp2_with (at_builtin; go_loud (refine wpList_append_any _ rfl (.tmp 47) (.tmp 49) 36 rfl 55 i3 (.agg #[.int .i64 0, .int .u64 0]) 2 16 Try.underlying36 hi3 hz3 hs3 hb3 rfl (by decide) w2.heap.size m _ (cl h m) (by simp [Act.eval]) (own_keep HM.out.own (HOa.out.alloc _)) (by have := HM.out.only.size; have := HOa.out.size; simp; omega) (some ⟨wa.heap.size, 0, none⟩) 1 1 [.int .i64 u, .int .u64 (y : Nat)] (by simp [Act.eval]) (by simp) rfl (box_src wa _ _) (by simp [Value.oneCell']) (by unfold maxLen; omega) (by omega) ?_; intro v' w' hgr hown; have N := Lib.hid (show MR w2 g n s v' (.int .i64 ((k : Int) + 1)) w' from ⟨k + 1, m + 1, _, by go_num, mr_push HM.out HS.out HB2.out hlt HNE.out (HOa.out.alloc _) hgr (by rw [HX.out]; exact hown)⟩); clear hgr hown))
            go_roundw
            case rel => exact N.out
            case measure => simp [intOf]; omega
      · obtain rfl : k = n := by omega
        obtain ⟨q1, q2⟩ := rk_end H HO2.out HP.out
        rcases own_row H.own with ⟨rfl, _⟩ | ⟨g', cap', rfl, _, _⟩
        · have X := Lib.hid (q1 rfl)
          clear q1 q2 H
          go_wp2_with fail
          refine (delete_nil _ _).mono ?_
          rintro e w3 ⟨rfl, hw⟩; rw [hw]; clear hw w3
          go_wp2_with fail
          go_ret
          exact X.out
        · obtain ⟨R3, q3⟩ := q2 g' cap' rfl
          have X := Lib.hid q3
          have KD := Lib.hid (delete_calls g' m cap' h wr (by omega) R3)
          clear q1 q2 q3 H R3
          go_wp2_with fail
          refine KD.out.mono ?_
          intro e w3 hD
          have Y := Lib.hid (X.out _ _ hD)
          obtain ⟨i5, h5, he5, _⟩ := hD
          subst he5
          go_wp2_with fail
          go_ret
          exact Y.out
end Go.Proofs.Ytimiojckinpfdaa

/- The walk of the document's sorted. -/
namespace Go.Proofs.Ytimiojckinpfdaa
open Go.RowKit Srt

/-- what sorted answers -/
def SoRes (w : World) (n : Nat) (c : Nat → Cn) (e : Ending) (w' : World) : Prop := ∃ v h, e = .returned v ∧ Only (fun _ => False) w w' ∧ w'.ownsRow w.heap.size 55 2 v n (cl h n) ∧ (win h 0 n).Perm (win c 0 n) ∧ Sorted (win h 0 n)
/-- a part of a slice that is still to be taken -/
structure Rest (B n i : Nat) (f : Nat → Cn) (v : Value) (wr : World) : Prop where
  le : i ≤ n
  ex : ∃ p c, v = .slice p (n - i) c ∧ n - i ≤ c ∧ c ≤ maxLen ∧ Cnts wr p (n - i) (fun t => f (i + t)) ∧ (∀ a, p = some a → a.block < B) ∧ (p = none → n - i = 0)
theorem Rest.keep {B n i : Nat} {f : Nat → Cn} {v u u' : Value} {w w' : World} {m keep : Nat} {xs : List Value} (h : Rest B n i f v w) (hg : Grew w w' u u' keep) (ho : w.ownsRow B 55 2 u m xs) : Rest B n i f v w' := by
  obtain ⟨p, c, e, h1, h2, h3, h4, h5⟩ := h.ex
  refine ⟨h.le, p, c, e, h1, h2, fun t ht => ?_, h4, h5⟩
  obtain ⟨b, o, e2, q1, q2, q3⟩ := h3 t ht
  have hb := h4 _ e2
  have hne : some b ≠ u.ownBlock := fun he => by have := (own_tag ho he.symm).1; dsimp only at hb; omega
  have hblk := hg.grown.block b q1 hne
  exact ⟨b, o, e2, Nat.lt_of_lt_of_le q1 hg.grown.size, by rw [World.cell?_of_block (w := w) hblk, q2], by rw [World.cell?_of_block (w := w) hblk, q3]⟩
theorem Rest.only {B n i : Nat} {f : Nat → Cn} {v : Value} {w w' : World} (h : Rest B n i f v w) (O : Only (fun _ => False) w w') : Rest B n i f v w' := by
  obtain ⟨p, c, e, h1, h2, h3, h4, h5⟩ := h.ex
  exact ⟨h.le, p, c, e, h1, h2, h3.only O (fun _ _ h => h), h4, h5⟩
theorem Rest.of_own {w : World} {base B n : Nat} {f : Nat → Cn} {v : Value} (h : w.ownsRow base 55 2 v n (cl f n)) (hB : w.heap.size ≤ B) : Rest B n 0 f v w := by
  rcases own_row h with ⟨rfl, rfl⟩ | ⟨g, cap, rfl, _, R⟩
  · exact ⟨Nat.le_refl _, none, 0, rfl, Nat.le_refl _, Nat.zero_le _, fun t ht => (by omega), fun a ha => (by cases ha), fun _ => rfl⟩
  · obtain ⟨X, r1, r2, r3, r4, r5⟩ := R
    refine ⟨Nat.zero_le _, some ⟨g, 0, none⟩, cap, rfl, r3, r4, ?_, fun a ha => ?_, fun h => (by cases h)⟩
    · have := (show RowC w g n cap f from ⟨X, r1, r2, r3, r4, r5⟩).cnts (Nat.le_refl n)
      exact this.congr (fun i _ => by unfold ci; dsimp only; rw [Nat.zero_add]) (fun i _ => by unfold cn; dsimp only; rw [Nat.zero_add])
    · injection ha with ha; subst ha; have := blk_lt r1; dsimp only; omega
/-- two sorted rows are merged -/
structure SoIn (w : World) (B n1 n2 : Nat) (h1 h2 : Nat → Cn) (i j : Nat) (h : Nat → Cn) (a b v : Value) (wr : World) : Prop where
  ra : Rest B n1 i h1 a wr
  rb : Rest B n2 j h2 b wr
  own : wr.ownsRow B 55 2 v (i + j) (cl h (i + j))
  perm : (win h 0 (i + j)).Perm (win h1 0 i ++ win h2 0 j)
  srt : Sorted (win h 0 (i + j))
  ba : Below (win h 0 (i + j)) (win h1 i n1)
  bb : Below (win h 0 (i + j)) (win h2 j n2)
  only : Only (fun _ => False) w wr
  hB : B ≤ wr.heap.size
  hW : w.heap.size ≤ B
theorem cl_push (h : Nat → Cn) (m : Nat) (x : Cn) : cl (fun i => if i = m then x else h i) (m + 1) = cl h m ++ [.int .i64 x.1, .int .u64 (x.2 : Nat)] := by
  rw [cl_snoc]
  have e1 : cl (fun i => if i = m then x else h i) m = cl h m := cl_congr fun i hi => if_neg (by omega)
  have e2 : ci (fun i => if i = m then x else h i) m = .int .i64 x.1 := by unfold ci; dsimp only; rw [if_pos rfl]
  have e3 : cn (fun i => if i = m then x else h i) m = .int .u64 (x.2 : Nat) := by unfold cn; dsimp only; rw [if_pos rfl]
  rw [e1, e2, e3]
theorem so_left {w wr wa w' : World} {B n1 n2 i j : Nat} {h1 h2 h : Nat → Cn} {a b v v' a' : Value} (H : SoIn w B n1 n2 h1 h2 i j h a b v wr) (hs1 : Sorted (win h1 0 n1)) (hs2 : Sorted (win h2 0 n2)) (hi : i < n1) (_hj : j < n2) (hle : (h1 i).1 ≤ (h2 j).1)
    (Oa : Only (fun _ => False) wr wa) (hg : Grew wa w' v v' ((i + j) * 2)) (ho : w'.ownsRow B 55 2 v' (i + j + 1) (cl h (i + j) ++ [.int .i64 (h1 i).1, .int .u64 ((h1 i).2 : Nat)])) (hov : wa.ownsRow B 55 2 v (i + j) (cl h (i + j)))
    (ha' : ∀ w2, Rest B n1 i h1 a w2 → Rest B n1 (i + 1) h1 a' w2) :
    SoIn w B n1 n2 h1 h2 (i + 1) j (fun t => if t = i + j then h1 i else h t) a' b v' w' := by
  have e : i + 1 + j = i + j + 1 := by omega
  refine ⟨ha' _ ((H.ra.only Oa).keep hg hov), (H.rb.only Oa).keep hg hov, ?_, ?_, ?_, ?_, ?_, ?_, ?_, H.hW⟩
  · rw [e, cl_push]; exact ho
  · rw [e, win_put, win_snoc h1 (Nat.zero_le _), List.append_assoc]
    refine (H.perm.append_right _).trans ?_
    rw [List.append_assoc]
    exact List.Perm.append_left _ List.perm_append_comm
  · rw [e, win_put]
    refine sorted_app.2 ⟨H.srt, sorted_one _, fun x hx y hy => ?_⟩
    simp at hy; subst hy
    exact H.ba x hx _ (mem_win.2 ⟨i, Nat.le_refl _, hi, rfl⟩)
  · rw [e, win_put]
    refine below_app_l.2 ⟨fun x hx y hy => H.ba x hx y ?_, fun x hx y hy => ?_⟩
    · obtain ⟨t, q1, q2, rfl⟩ := mem_win.1 hy; exact mem_win.2 ⟨t, by omega, q2, rfl⟩
    · simp at hx; subst hx
      obtain ⟨t, q1, q2, rfl⟩ := mem_win.1 hy
      exact sorted_le hs1 (Nat.zero_le i) (by omega) q2
  · rw [e, win_put]
    refine below_app_l.2 ⟨H.bb, fun x hx y hy => ?_⟩
    simp at hx; subst hx
    obtain ⟨t, q1, q2, rfl⟩ := mem_win.1 hy
    have := sorted_le hs2 (Nat.zero_le j) q1 q2
    omega
  · exact (H.only.trans Oa).grown hg.grown fun k hk => .inl (by have := (own_tag hov hk).1; have := H.hW; omega)
  · exact Nat.le_trans H.hB (Nat.le_trans Oa.size hg.grown.size)
theorem so_right {w wr wa w' : World} {B n1 n2 i j : Nat} {h1 h2 h : Nat → Cn} {a b v v' b' : Value} (H : SoIn w B n1 n2 h1 h2 i j h a b v wr) (hs1 : Sorted (win h1 0 n1)) (hs2 : Sorted (win h2 0 n2)) (_hi : i < n1) (hj : j < n2) (hle : ¬ (h1 i).1 ≤ (h2 j).1)
    (Oa : Only (fun _ => False) wr wa) (hg : Grew wa w' v v' ((i + j) * 2)) (ho : w'.ownsRow B 55 2 v' (i + j + 1) (cl h (i + j) ++ [.int .i64 (h2 j).1, .int .u64 ((h2 j).2 : Nat)])) (hov : wa.ownsRow B 55 2 v (i + j) (cl h (i + j)))
    (hb' : ∀ w2, Rest B n2 j h2 b w2 → Rest B n2 (j + 1) h2 b' w2) :
    SoIn w B n1 n2 h1 h2 i (j + 1) (fun t => if t = i + j then h2 j else h t) a b' v' w' := by
  have e : i + (j + 1) = i + j + 1 := by omega
  refine ⟨(H.ra.only Oa).keep hg hov, hb' _ ((H.rb.only Oa).keep hg hov), ?_, ?_, ?_, ?_, ?_, ?_, ?_, H.hW⟩
  · rw [e, cl_push]; exact ho
  · rw [e, win_put, win_snoc h2 (Nat.zero_le _), ← List.append_assoc]
    exact H.perm.append_right _
  · rw [e, win_put]
    refine sorted_app.2 ⟨H.srt, sorted_one _, fun x hx y hy => ?_⟩
    simp at hy; subst hy
    exact H.bb x hx _ (mem_win.2 ⟨j, Nat.le_refl _, hj, rfl⟩)
  · rw [e, win_put]
    refine below_app_l.2 ⟨H.ba, fun x hx y hy => ?_⟩
    simp at hx; subst hx
    obtain ⟨t, q1, q2, rfl⟩ := mem_win.1 hy
    have := sorted_le hs1 (Nat.zero_le i) q1 q2
    omega
  · rw [e, win_put]
    refine below_app_l.2 ⟨fun x hx y hy => H.bb x hx y ?_, fun x hx y hy => ?_⟩
    · obtain ⟨t, q1, q2, rfl⟩ := mem_win.1 hy; exact mem_win.2 ⟨t, by omega, q2, rfl⟩
    · simp at hx; subst hx
      obtain ⟨t, q1, q2, rfl⟩ := mem_win.1 hy
      exact sorted_le hs2 (Nat.zero_le j) (by omega) q2
  · exact (H.only.trans Oa).grown hg.grown fun k hk => .inl (by have := (own_tag hov hk).1; have := H.hW; omega)
  · exact Nat.le_trans H.hB (Nat.le_trans Oa.size hg.grown.size)
/-- the first element is taken off -/
theorem Rest.next {B n i : Nat} {f : Nat → Cn} {p : Option Addr} {c : Nat} {b o : Nat} (hi : i < n) (hp : p = some ⟨b, o, none⟩) (w2 : World) (h : Rest B n i f (.slice p (n - i) c) w2) :
    Rest B n (i + 1) f (.slice (some (if c = 1 then ⟨b, o, none⟩ else ⟨b, o + 2, none⟩)) (n - i - 1) (c - 1)) w2 := by
  obtain ⟨p', c', e, h1, h2, h3, h4, h5⟩ := h.ex
  injection e with e1 e2 e3
  subst e1; subst e3; subst hp
  refine ⟨by omega, _, _, by rw [show n - (i + 1) = n - i - 1 by omega], by omega, by omega, fun t ht => ?_, fun a ha => ?_, fun h => (by cases h)⟩
  · obtain ⟨b', o', e, q1, q2, q3⟩ := h3 (t + 1) (by omega)
    injection e with e; injection e with e1 e2; subst e1; subst e2
    have hc : ¬ c = 1 := by omega
    rw [if_neg hc]
    refine ⟨b, o + 2, rfl, q1, ?_, ?_⟩
    · rw [show o + 2 + t * 2 = o + (t + 1) * 2 by omega, q2]; unfold ci; dsimp only; rw [show i + (t + 1) = i + 1 + t by omega]
    · rw [show o + 2 + t * 2 + 1 = o + (t + 1) * 2 + 1 by omega, q3]; unfold cn; dsimp only; rw [show i + (t + 1) = i + 1 + t by omega]
  · have := h4 _ rfl
    injection ha with ha; subst ha; split <;> exact this
/-- the merge's end -/
theorem so_end {w wr w1 w2 : World} {B n1 n2 i j : Nat} {h1 h2 h : Nat → Cn} {a b v v1 v2 : Value} (H : SoIn w B n1 n2 h1 h2 i j h a b v wr) (hs1 : Sorted (win h1 0 n1)) (hs2 : Sorted (win h2 0 n2)) (he : i = n1 ∨ j = n2)
    (g1 : Grew wr w1 v v1 ((i + j) * 2)) (r1 : w1.ownsRow B 55 2 v1 (i + j + (n1 - i)) (cl h (i + j) ++ cl (fun t => h1 (i + t)) (n1 - i)))
    (g2 : Grew w1 w2 v1 v2 ((i + j + (n1 - i)) * 2)) (r2 : w2.ownsRow B 55 2 v2 (i + j + (n1 - i) + (n2 - j)) (cl h (i + j) ++ cl (fun t => h1 (i + t)) (n1 - i) ++ cl (fun t => h2 (j + t)) (n2 - j))) :
    ∃ k, Only (fun _ => False) w w2 ∧ w2.ownsRow w.heap.size 55 2 v2 (n1 + n2) (cl k (n1 + n2)) ∧ (win k 0 (n1 + n2)).Perm (win h1 0 n1 ++ win h2 0 n2) ∧ Sorted (win k 0 (n1 + n2)) := by
  have hi := H.ra.le
  have hj := H.rb.le
  have e1 : i + j + (n1 - i) + (n2 - j) = n1 + n2 := by omega
  have c1 : cl h (i + j) ++ cl (fun t => h1 (i + t)) (n1 - i) ++ cl (fun t => h2 (j + t)) (n2 - j) = cl (cat (cat h (fun t => h1 (i + t)) (i + j)) (fun t => h2 (j + t)) (i + j + (n1 - i))) (i + j + (n1 - i) + (n2 - j)) := by rw [cl_cat, cl_cat]
  have w1e : win (fun t => h1 (i + t)) 0 (n1 - i) = win h1 i n1 := win_shift (by omega) fun k hk => by rw [Nat.zero_add]
  have w2e : win (fun t => h2 (j + t)) 0 (n2 - j) = win h2 j n2 := win_shift (by omega) fun k hk => by rw [Nat.zero_add]
  have c2 : win (cat (cat h (fun t => h1 (i + t)) (i + j)) (fun t => h2 (j + t)) (i + j + (n1 - i))) 0 (i + j + (n1 - i) + (n2 - j)) = win h 0 (i + j) ++ win h1 i n1 ++ win h2 j n2 := by
    rw [win_cat, win_cat, w1e, w2e]
  rw [c1, e1] at r2
  rw [e1] at c2
  have r2' : w2.ownsRow w.heap.size 55 2 v2 (n1 + n2) (cl (cat (cat h (fun t => h1 (i + t)) (i + j)) (fun t => h2 (j + t)) (i + j + (n1 - i))) (n1 + n2)) := by
    refine ⟨r2.1, ?_⟩
    rcases r2.2 with q | ⟨g, cap, cur, q1, q2, q3⟩
    · exact .inl q
    · exact .inr ⟨g, cap, cur, q1, Nat.le_trans H.hW q2, q3⟩
  refine ⟨_, ?_, r2', c2.symm ▸ ?_, c2.symm ▸ ?_⟩
  · have O1 := H.only.grown g1.grown (fun k hk => .inl (by have := (own_tag H.own hk).1; have := H.hW; omega))
    exact O1.grown g2.grown (fun k hk => .inl (by have := (own_tag r1 hk).1; have := H.hW; omega))
  · rw [win_app h1 (m := i) (Nat.zero_le _) hi, win_app h2 (m := j) (Nat.zero_le _) hj]
    refine ((H.perm.append_right _).append_right _).trans ?_
    simp only [List.append_assoc]
    refine List.Perm.append_left _ ?_
    rw [← List.append_assoc, ← List.append_assoc]
    exact List.Perm.append_right _ List.perm_append_comm
  · rw [List.append_assoc]
    refine sorted_app.2 ⟨H.srt, ?_, below_app_r.2 ⟨H.ba, H.bb⟩⟩
    rcases he with rfl | rfl
    · rw [win_nil h1 (Nat.le_refl _), List.nil_append]; exact sorted_part hs2 (Nat.zero_le _) (Nat.le_refl _)
    · rw [win_nil h2 (Nat.le_refl _), List.append_nil]; exact sorted_part hs1 (Nat.zero_le _) (Nat.le_refl _)
def SortAt (n : Nat) : Prop := ∀ (p : Option Addr) (cap : Nat) (c : Nat → Cn) (w : World), n ≤ cap → cap ≤ maxLen → Cnts w p n c → (p = none → n = 0) → Calls Try.prog 69 #[.slice p n cap] w (SoRes w n c)
theorem cnts_tail {w : World} {b o n m : Nat} {c : Nat → Cn} (h : Cnts w (some ⟨b, o, none⟩) n c) (hm : m ≤ n) : Cnts w (some ⟨b, o + m * 2, none⟩) (n - m) (fun t => c (m + t)) := by
  intro t ht
  obtain ⟨b', o', e, q1, q2, q3⟩ := h (m + t) (by omega)
  injection e with e; injection e with e1 e2; subst e1; subst e2
  exact ⟨b, o + m * 2, rfl, q1, by rw [show o + m * 2 + t * 2 = o + (m + t) * 2 by omega]; exact q2, by rw [show o + m * 2 + t * 2 + 1 = o + (m + t) * 2 + 1 by omega]; exact q3⟩
theorem so_start {w wa wb : World} {n1 n2 : Nat} {h1 h2 : Nat → Cn} {a b : Value} (O1 : Only (fun _ => False) w wa) (r1 : wa.ownsRow w.heap.size 55 2 a n1 (cl h1 n1)) (O2 : Only (fun _ => False) wa wb) (r2 : wb.ownsRow wa.heap.size 55 2 b n2 (cl h2 n2)) :
    SoIn w wb.heap.size n1 n2 h1 h2 0 0 (fun _ => (0, 0)) a b (.slice (some ⟨wb.heap.size, 0, none⟩) 0 0) (wb.alloc (.cells #[] 55)) := by
  have Oc := (Only.refl (fun _ => False) wb).alloc (.cells #[] 55)
  refine ⟨(Rest.of_own (own_keep r1 O2) (Nat.le_refl _)).only Oc, (Rest.of_own r2 (Nat.le_refl _)).only Oc, ⟨rfl, .inr ⟨wb.heap.size, 0, #[], rfl, Nat.le_refl _, blk_new _ _, Nat.le_refl _, Nat.zero_le _, rfl, rfl⟩⟩, List.Perm.refl _, sorted_nil, below_nil_l _, below_nil_l _, (O1.trans O2).trans Oc, Oc.size, (O1.trans O2).size⟩
def SoR (w : World) (B n1 n2 : Nat) (h1 h2 : Nat → Cn) (a b v : Value) (wr : World) : Prop := ∃ i j h, SoIn w B n1 n2 h1 h2 i j h a b v wr
def lenV : Value → Nat
  | .slice _ n _ => n
  | _ => 0
set_option maxRecDepth 100000 in
set_option maxHeartbeats 8000000 in
theorem sorted_step (n : Nat) (hn : n ≤ 8796093022208) (IH : ∀ m, m < n → SortAt m) : SortAt n := by
  intro p cap c w hnc hcm hc hnil
  obtain ⟨i3, hi3, hz3, hs3, hb3⟩ := info_parts info55
  have C := Lib.hid hc
  have NI := Lib.hid hnil
  have I := Lib.hid IH
  unfold maxLen at hcm
  clear hc hnil IH
  by_cases h2 : n < 2
  · have k1 : decide ((n : Int) < 2) = true := by simp; omega
    go_enter Try.func69, Try.ntmps69
    go_wp2_with (at_builtin; go_loud (refine wpList_append_any _ rfl (.const (.slice none 0 0)) (.tmp 9) 36 rfl 55 i3 (.agg #[.int .i64 0, .int .u64 0]) 2 16 Try.underlying36 hi3 hz3 hs3 hb3 rfl (by decide) w.heap.size 0 _ [] (by simp [Act.eval]) ⟨rfl, .inl ⟨rfl, rfl⟩⟩ (Nat.le_refl _) p n cap (cl c n) (by simp [Act.eval]) NI.out (cl_len _ _) (fun ad j u hp hj => cl_src C.out ad j u hp hj) (cl_one _ _) (by unfold maxLen; omega) (by omega) ?_; intro v' w' hgr hown; have N := Lib.hid (show SoRes w n c (.returned v') w' from ⟨v', c, rfl, (Only.refl _ w).grown hgr.grown (fun k hk => by cases hk), by simpa using hown, List.Perm.refl _, sorted_win.2 fun x y q1 q2 q3 => by omega⟩); clear hgr hown))
    go_ret
    exact N.out
  · have k1 : decide ((n : Int) < 2) = false := by simp; omega
    obtain ⟨n1, hn1⟩ : ∃ n1, n1 = n / 2 := ⟨_, rfl⟩
    obtain ⟨n2, hn2⟩ : ∃ n2, n2 = n - n1 := ⟨_, rfl⟩
    have hq : ((n : Int) / 2) = (n1 : Int) := by omega
    have hsum : n1 + n2 = n := by omega
    have l1 : n1 < n := by omega
    have l2 : n2 < n := by omega
    have l3 : n1 ≤ n := by omega
    have l4 : 0 < n1 := by omega
    have hne : ¬ cap = n1 := by omega
    obtain ⟨b, o, rfl, _⟩ := C.out 0 (by omega)
    have C1 : Cnts w (some ⟨b, o, none⟩) n1 c := fun t ht => C.out t (by omega)
    have K1 := Lib.hid (I.out n1 l1 (some ⟨b, o, none⟩) cap c w (by omega) hcm C1 (fun h => by cases h))
    have hs2 : n - n1 = n2 := hn2.symm
    clear C1 h2 hn1 hn2
    go_enter Try.func69, Try.ntmps69
    go_wp2_with fail
    refine K1.out.mono ?_
    rintro e wa ⟨va, ha, rfl, O1, r1, P1, S1⟩
    have C2 := cnts_tail (C.out.only O1 (fun _ _ h => h)) l3
    rw [hs2] at C2
    have K2 := Lib.hid (I.out n2 l2 (some ⟨b, o + n1 * 2, none⟩) (cap - n1) _ wa (by omega) (by unfold maxLen; omega) C2 (fun h => by cases h))
    have HO1 := Lib.hid O1
    have HR1 := Lib.hid r1
    have HP1 := Lib.hid P1
    have HS1 := Lib.hid S1
    clear C2 O1 r1 P1 S1 K1
    go_wp2_with fail
    refine K2.out.mono ?_
    rintro e wb ⟨vb, hb, rfl, O2, r2, P2, S2⟩
    have ST := Lib.hid (so_start HO1.out HR1.out O2 r2)
    have HP := Lib.hid (show (win ha 0 n1 ++ win hb 0 n2).Perm (win c 0 n) by
      rw [win_app c (m := n1) (Nat.zero_le _) l3]
      refine HP1.out.append (P2.trans ?_)
      rw [win_shift (f := fun t => c (n1 + t)) (g := c) (a := 0) (b := n2) (c := n1) (d := n) (by omega) (fun k hk => by rw [Nat.zero_add])])
    have HS2 := Lib.hid S2
    clear O2 r2 P2 S2 K2
    go_wp2_with fail
    go_loopw [3, 4, 5] (fun a b v wr => SoR w wb.heap.size n1 n2 ha hb a b v wr) (fun a b _ _ => lenV a + lenV b)
    case atStart => exact ⟨0, 0, _, ST.out⟩
    case round =>
      obtain ⟨i, j, h, H⟩ := hrel
      obtain ⟨pa, ca, rfl, a1, a2, a3, a4, a5⟩ := H.ra.ex
      obtain ⟨pb, cb, rfl, b1, b2, b3, b4, b5⟩ := H.rb.ex
      have hi := H.ra.le
      have hj := H.rb.le
      unfold maxLen at a2 b2
      obtain ⟨la, hla⟩ : ∃ la, la = n1 - i := ⟨_, rfl⟩
      obtain ⟨lb, hlb⟩ : ∃ lb, lb = n2 - j := ⟨_, rfl⟩
      have HM := Lib.hid H
      have A3 := Lib.hid a3
      have A5 := Lib.hid a5
      have B3 := Lib.hid b3
      have B5 := Lib.hid b5
      clear H a3 a4 a5 b3 b4 b5
      rw [← hla] at A3 A5 a1 ⊢
      rw [← hlb] at B3 B5 b1 ⊢
      have HLA := Lib.hid hla
      have HLB := Lib.hid hlb
      have hla1 : la ≤ n1 - i := by omega
      have hla2 : n1 - i ≤ la := by omega
      have hlb1 : lb ≤ n2 - j := by omega
      have hlb2 : n2 - j ≤ lb := by omega
      clear hla hlb
      by_cases hA : 0 < la
      · have kA : decide ((la : Int) > 0) = true := by simp; omega
        have kA2 : decide (0 < la) = true := by simp; omega
        by_cases hB : 0 < lb
        · have kB : decide ((lb : Int) > 0) = true := by simp; omega
          have kB2 : decide (0 < lb) = true := by simp; omega
          obtain ⟨ba, oa, rfl, qa, xa0, xa1⟩ := A3.out 0 hA
          obtain ⟨bb, ob, rfl, qb, xb0, xb1⟩ := B3.out 0 hB
          unfold ci at xa0 xb0
          unfold cn at xa1 xb1
          dsimp only at xa0 xa1 xb0 xb1
          simp only [Nat.add_zero, Nat.zero_mul] at xa0 xa1 xb0 xb1
          rcases hx : ha i with ⟨x1, x2⟩
          rcases hy : hb j with ⟨y1, y2⟩
          rw [hx] at xa0 xa1
          rw [hy] at xb0 xb1
          dsimp only at xa0 xa1 xb0 xb1
          have HX := Lib.hid hx
          have HY := Lib.hid hy
          clear hx hy
          by_cases hle : x1 ≤ y1
          · have kl : decide (x1 ≤ y1) = true := by simpa using hle
            have HLE := Lib.hid hle
            clear hle
            go_wp2_with fail
            go_quiet (fail)
            have HOa := Lib.hid ((Only.refl (fun _ => False) wr).drewN nq)
            have f0 : (wr.drewN nq).cell? ⟨ba, oa, none⟩ = some (.int .i64 x1) := xa0
            have f1 : (wr.drewN nq).cell? ⟨ba, oa + 1, none⟩ = some (.int .u64 (x2 : Nat)) := xa1
            clear xa0 xa1 xb0 xb1
            generalize wr.drewN nq = wx at *
            by_cases hc1 : ca = 1
            · subst hc1
              go_wp2_with (at_builtin; go_loud (refine wpList_append_any _ rfl (.tmp 41) (.tmp 45) 36 rfl 55 i3 (.agg #[.int .i64 0, .int .u64 0]) 2 16 Try.underlying36 hi3 hz3 hs3 hb3 rfl (by decide) wb.heap.size (i + j) _ (cl h (i + j)) (by simp [Act.eval]) (own_keep HM.out.own (HOa.out.alloc _)) (by have := HM.out.hB; have := HOa.out.size; simp; omega) (some ⟨wx.heap.size, 0, none⟩) 1 1 [.int .i64 x1, .int .u64 (x2 : Nat)] (by simp [Act.eval]) (by simp) rfl (box_src wx _ _) (by simp [Value.oneCell']) (by unfold maxLen; omega) (by omega) ?_; intro v' w' hgr hown; have N0 := so_left HM.out HS1.out HS2.out (by omega) (by omega) (by rw [HX.out, HY.out]; have := HLE.out; dsimp only; omega) (HOa.out.alloc _) hgr (by rw [HX.out]; exact hown) (own_keep HM.out.own (HOa.out.alloc _)) (fun w2 hr => Rest.next (by omega) rfl w2 hr); rw [← HLA.out, ← HLB.out, if_pos rfl, show la - 1 = 0 by omega] at N0; have N := Lib.hid (show SoR w wb.heap.size n1 n2 ha hb (.slice (some ⟨ba, oa, none⟩) 0 0) (.slice (some ⟨bb, ob, none⟩) lb cb) v' w' from ⟨i + 1, j, _, N0⟩); clear N0; clear hgr hown))
              go_roundw
              case rel => exact N.out
              case measure => simp [lenV]; omega
            · go_wp2_with (at_builtin; go_loud (refine wpList_append_any _ rfl (.tmp 41) (.tmp 45) 36 rfl 55 i3 (.agg #[.int .i64 0, .int .u64 0]) 2 16 Try.underlying36 hi3 hz3 hs3 hb3 rfl (by decide) wb.heap.size (i + j) _ (cl h (i + j)) (by simp [Act.eval]) (own_keep HM.out.own (HOa.out.alloc _)) (by have := HM.out.hB; have := HOa.out.size; simp; omega) (some ⟨wx.heap.size, 0, none⟩) 1 1 [.int .i64 x1, .int .u64 (x2 : Nat)] (by simp [Act.eval]) (by simp) rfl (box_src wx _ _) (by simp [Value.oneCell']) (by unfold maxLen; omega) (by omega) ?_; intro v' w' hgr hown; have N0 := so_left HM.out HS1.out HS2.out (by omega) (by omega) (by rw [HX.out, HY.out]; have := HLE.out; dsimp only; omega) (HOa.out.alloc _) hgr (by rw [HX.out]; exact hown) (own_keep HM.out.own (HOa.out.alloc _)) (fun w2 hr => Rest.next (by omega) rfl w2 hr); rw [← HLA.out, ← HLB.out, if_neg hc1] at N0; have N := Lib.hid (show SoR w wb.heap.size n1 n2 ha hb (.slice (some ⟨ba, oa + 2, none⟩) (la - 1) (ca - 1)) (.slice (some ⟨bb, ob, none⟩) lb cb) v' w' from ⟨i + 1, j, _, N0⟩); clear N0; clear hgr hown))
              go_roundw
              case rel => exact N.out
              case measure => simp [lenV]; omega
          · have kl : decide (x1 ≤ y1) = false := by simpa using hle
            have HLE := Lib.hid hle
            clear hle
            go_wp2_with fail
            go_quiet (fail)
            have HOa := Lib.hid ((Only.refl (fun _ => False) wr).drewN nq)
            have f0 : (wr.drewN nq).cell? ⟨bb, ob, none⟩ = some (.int .i64 y1) := xb0
            have f1 : (wr.drewN nq).cell? ⟨bb, ob + 1, none⟩ = some (.int .u64 (y2 : Nat)) := xb1
            clear xa0 xa1 xb0 xb1
            generalize wr.drewN nq = wx at *
            by_cases hc1 : cb = 1
            · subst hc1
              go_wp2_with (at_builtin; go_loud (refine wpList_append_any _ rfl (.tmp 49) (.tmp 53) 36 rfl 55 i3 (.agg #[.int .i64 0, .int .u64 0]) 2 16 Try.underlying36 hi3 hz3 hs3 hb3 rfl (by decide) wb.heap.size (i + j) _ (cl h (i + j)) (by simp [Act.eval]) (own_keep HM.out.own (HOa.out.alloc _)) (by have := HM.out.hB; have := HOa.out.size; simp; omega) (some ⟨wx.heap.size, 0, none⟩) 1 1 [.int .i64 y1, .int .u64 (y2 : Nat)] (by simp [Act.eval]) (by simp) rfl (box_src wx _ _) (by simp [Value.oneCell']) (by unfold maxLen; omega) (by omega) ?_; intro v' w' hgr hown; have N0 := so_right HM.out HS1.out HS2.out (by omega) (by omega) (by rw [HX.out, HY.out]; have := HLE.out; dsimp only; omega) (HOa.out.alloc _) hgr (by rw [HY.out]; exact hown) (own_keep HM.out.own (HOa.out.alloc _)) (fun w2 hr => Rest.next (by omega) rfl w2 hr); rw [← HLA.out, ← HLB.out, if_pos rfl, show lb - 1 = 0 by omega] at N0; have N := Lib.hid (show SoR w wb.heap.size n1 n2 ha hb (.slice (some ⟨ba, oa, none⟩) la ca) (.slice (some ⟨bb, ob, none⟩) 0 0) v' w' from ⟨i, j + 1, _, N0⟩); clear N0; clear hgr hown))
              go_roundw
              case rel => exact N.out
              case measure => simp [lenV]; omega
            · go_wp2_with (at_builtin; go_loud (refine wpList_append_any _ rfl (.tmp 49) (.tmp 53) 36 rfl 55 i3 (.agg #[.int .i64 0, .int .u64 0]) 2 16 Try.underlying36 hi3 hz3 hs3 hb3 rfl (by decide) wb.heap.size (i + j) _ (cl h (i + j)) (by simp [Act.eval]) (own_keep HM.out.own (HOa.out.alloc _)) (by have := HM.out.hB; have := HOa.out.size; simp; omega) (some ⟨wx.heap.size, 0, none⟩) 1 1 [.int .i64 y1, .int .u64 (y2 : Nat)] (by simp [Act.eval]) (by simp) rfl (box_src wx _ _) (by simp [Value.oneCell']) (by unfold maxLen; omega) (by omega) ?_; intro v' w' hgr hown; have N0 := so_right HM.out HS1.out HS2.out (by omega) (by omega) (by rw [HX.out, HY.out]; have := HLE.out; dsimp only; omega) (HOa.out.alloc _) hgr (by rw [HY.out]; exact hown) (own_keep HM.out.own (HOa.out.alloc _)) (fun w2 hr => Rest.next (by omega) rfl w2 hr); rw [← HLA.out, ← HLB.out, if_neg hc1] at N0; have N := Lib.hid (show SoR w wb.heap.size n1 n2 ha hb (.slice (some ⟨ba, oa, none⟩) la ca) (.slice (some ⟨bb, ob + 2, none⟩) (lb - 1) (cb - 1)) v' w' from ⟨i, j + 1, _, N0⟩); clear N0; clear hgr hown))
              go_roundw
              case rel => exact N.out
              case measure => simp [lenV]; omega
        · have kB : decide ((lb : Int) > 0) = false := by simp; omega
          have kB2 : decide (0 < lb) = false := by simp; omega
          have HE := Lib.hid (show i = n1 ∨ j = n2 from .inr (by omega))
          go_wp2_with (first | (at_builtin; go_loud (refine wpList_append_any _ rfl (.tmp 57) (.tmp 58) 36 rfl 55 i3 (.agg #[.int .i64 0, .int .u64 0]) 2 16 Try.underlying36 hi3 hz3 hs3 hb3 rfl (by decide) wb.heap.size (i + j) _ (cl h (i + j)) (by simp [Act.eval]) HM.out.own HM.out.hB pa la ca (cl (fun t => ha (i + t)) la) (by simp [Act.eval]) A5.out (cl_len _ _) (fun ad j u hp hj => cl_src A3.out ad j u hp hj) (cl_one _ _) (by unfold maxLen; omega) (by omega) ?_; intro v1 w1 hgr hown; have G1 := Lib.hid hgr; have U1 := Lib.hid hown; have R1 := Lib.hid (HM.out.rb.keep hgr HM.out.own); clear hgr hown)) | (at_builtin; go_loud (refine wpList_append_any _ rfl (.tmp 60) (.tmp 61) 36 rfl 55 i3 (.agg #[.int .i64 0, .int .u64 0]) 2 16 Try.underlying36 hi3 hz3 hs3 hb3 rfl (by decide) wb.heap.size (i + j + la) _ (cl h (i + j) ++ cl (fun t => ha (i + t)) la) (by simp [Act.eval]) U1.out (by have := HM.out.hB; have := G1.out.grown.size; omega) pb lb cb (cl (fun t => hb (j + t)) lb) (by simp [Act.eval]) B5.out (cl_len _ _) (fun ad j' u hp hj => cl_src (by obtain ⟨p', c', e, q1, q2, q3, q4, q5⟩ := R1.out.ex; injection e with e1 e2 e3; rw [e1, HLB.out]; exact q3) ad j' u hp hj) (cl_one _ _) (by unfold maxLen; omega) (by omega) ?_; intro v2 w2 hgr hown; have N := Lib.hid (by have U2 := hown; have G2 := hgr; rw [HLA.out] at G2 U2; rw [HLB.out] at U2; exact so_end HM.out HS1.out HS2.out HE.out G1.out (by have := U1.out; rw [HLA.out] at this; exact this) G2 U2); clear hgr hown)))
          obtain ⟨kf, z1, z2, z3, z4⟩ := N.out
          rw [hsum] at z2 z3 z4
          have Z := Lib.hid (show SoRes w n c (.returned v2) w2 from ⟨v2, kf, rfl, z1, z2, z3.trans HP.out, z4⟩)
          clear z1 z2 z3 z4
          go_ret
          exact Z.out
      · have kA : decide ((la : Int) > 0) = false := by simp; omega
        have kA2 : decide (0 < la) = false := by simp; omega
        have HE := Lib.hid (show i = n1 ∨ j = n2 from .inl (by omega))
        go_wp2_with (first | (at_builtin; go_loud (refine wpList_append_any _ rfl (.tmp 57) (.tmp 58) 36 rfl 55 i3 (.agg #[.int .i64 0, .int .u64 0]) 2 16 Try.underlying36 hi3 hz3 hs3 hb3 rfl (by decide) wb.heap.size (i + j) _ (cl h (i + j)) (by simp [Act.eval]) HM.out.own HM.out.hB pa la ca (cl (fun t => ha (i + t)) la) (by simp [Act.eval]) A5.out (cl_len _ _) (fun ad j u hp hj => cl_src A3.out ad j u hp hj) (cl_one _ _) (by unfold maxLen; omega) (by omega) ?_; intro v1 w1 hgr hown; have G1 := Lib.hid hgr; have U1 := Lib.hid hown; have R1 := Lib.hid (HM.out.rb.keep hgr HM.out.own); clear hgr hown)) | (at_builtin; go_loud (refine wpList_append_any _ rfl (.tmp 60) (.tmp 61) 36 rfl 55 i3 (.agg #[.int .i64 0, .int .u64 0]) 2 16 Try.underlying36 hi3 hz3 hs3 hb3 rfl (by decide) wb.heap.size (i + j + la) _ (cl h (i + j) ++ cl (fun t => ha (i + t)) la) (by simp [Act.eval]) U1.out (by have := HM.out.hB; have := G1.out.grown.size; omega) pb lb cb (cl (fun t => hb (j + t)) lb) (by simp [Act.eval]) B5.out (cl_len _ _) (fun ad j' u hp hj => cl_src (by obtain ⟨p', c', e, q1, q2, q3, q4, q5⟩ := R1.out.ex; injection e with e1 e2 e3; rw [e1, HLB.out]; exact q3) ad j' u hp hj) (cl_one _ _) (by unfold maxLen; omega) (by omega) ?_; intro v2 w2 hgr hown; have N := Lib.hid (by have U2 := hown; have G2 := hgr; rw [HLA.out] at G2 U2; rw [HLB.out] at U2; exact so_end HM.out HS1.out HS2.out HE.out G1.out (by have := U1.out; rw [HLA.out] at this; exact this) G2 U2); clear hgr hown)))
        obtain ⟨kf, z1, z2, z3, z4⟩ := N.out
        rw [hsum] at z2 z3 z4
        have Z := Lib.hid (show SoRes w n c (.returned v2) w2 from ⟨v2, kf, rfl, z1, z2, z3.trans HP.out, z4⟩)
        clear z1 z2 z3 z4
        go_ret
        exact Z.out
theorem sorted_all : ∀ k n, n ≤ k → n ≤ 8796093022208 → SortAt n
  | 0, n, h, hn => sorted_step n hn fun m hm => by omega
  | k + 1, n, h, hn => sorted_step n hn fun m hm => sorted_all k m (by omega) (by omega)
theorem sorted_calls (p : Option Addr) (n cap : Nat) (c : Nat → Cn) (w : World) (hn : n ≤ 8796093022208) (h1 : n ≤ cap) (h2 : cap ≤ maxLen) (hc : Cnts w p n c) (hnil : p = none → n = 0) : Calls Try.prog 69 #[.slice p n cap] w (SoRes w n c) :=
  sorted_all n n (Nat.le_refl _) hn p cap c w h1 h2 hc hnil
end Go.Proofs.Ytimiojckinpfdaa

/- The walk of the document's Merge of counts. -/
namespace Go.Proofs.Ytimiojckinpfdaa
open Go.RowKit Srt

theorem own_slice {w : World} {n base : Nat} {v : Value} {f : Nat → Cn} (h : w.ownsRow base 55 2 v n (cl f n)) : ∃ p cap, v = .slice p n cap ∧ n ≤ cap ∧ cap ≤ maxLen ∧ Cnts w p n f ∧ (p = none → n = 0) ∧ (∀ a, p = some a → v.ownBlock = some a.block ∧ base ≤ a.block ∧ a.block < w.heap.size) := by
  rcases own_row h with ⟨rfl, rfl⟩ | ⟨g, cap, rfl, hb, R⟩
  · exact ⟨none, 0, rfl, Nat.le_refl _, Nat.zero_le _, fun t ht => by omega, fun _ => rfl, fun a ha => (by cases ha)⟩
  · obtain ⟨X, r1, r2, r3, r4, r5⟩ := R
    refine ⟨some ⟨g, 0, none⟩, cap, rfl, r3, r4, (show RowC w g n cap f from ⟨X, r1, r2, r3, r4, r5⟩).cnts (Nat.le_refl _), fun h => (by cases h), fun a ha => ?_⟩
    injection ha with ha; subst ha
    exact ⟨rfl, hb, blk_lt r1⟩
theorem sumN_snoc (s : Nat → Cn) {k j : Nat} (h : k ≤ j) : sumN (win s k (j + 1)) = sumN (win s k j) + (s j).2 := by
  rw [win_snoc s h, sumN_app]; simp [sumN]
def md (n : Nat) : Nat := n % 18446744073709551616
/-- a row of one index is being counted -/
structure GrIn (w1 wI : World) (bx n : Nat) (s : Nat → Cn) (k j : Nat) (key : Int) : Prop where
  kj : k ≤ j
  jn : j ≤ n
  all : ∀ t, k ≤ t → t < j → (s t).1 = key
  blk : wI.heap[bx]? = some (.cells #[.int .i64 key, .int .u64 (md (sumN (win s k j)) : Nat)] 55 (0, 0))
  only : Only (· = bx) w1 wI
def GrR (w1 : World) (bx n : Nat) (s : Nat → Cn) (k : Nat) (key : Int) (v : Value) (wI : World) : Prop := ∃ j : Nat, v = .int .i64 j ∧ GrIn w1 wI bx n s k j key
theorem gr_start {wr : World} {n k : Nat} {s : Nat → Cn} {key : Int} (h : k < n) : GrIn (wr.alloc (.cells #[.int .i64 key, .int .u64 0] 55)) (wr.alloc (.cells #[.int .i64 key, .int .u64 0] 55)) wr.heap.size n s k k key :=
  ⟨Nat.le_refl _, by omega, fun t h1 h2 => by omega, by rw [win_nil s (Nat.le_refl _)]; exact blk_new _ _, Only.refl _ _⟩
theorem gr_next {w1 wI wJ : World} {bx n k j : Nat} {s : Nat → Cn} {key : Int} {z : Nat} (H : GrIn w1 wI bx n s k j key) (hj : j < n) (he : (s j).1 = key) (hO : Still wI wJ) (hz : z = (md (sumN (win s k j)) + (s j).2) % 18446744073709551616) :
    GrIn w1 (wJ.setCell ⟨bx, 1, none⟩ (.int .u64 (z : Nat))).drew bx n s k (j + 1) key := by
  refine ⟨by have := H.kj; omega, hj, fun t h1 h2 => ?_, ?_, ?_⟩
  · by_cases e : t = j
    · rw [e]; exact he
    · exact H.all t h1 (by omega)
  · have hb := H.blk
    rw [← hO.heap] at hb
    have := blk_set hb 1 (.int .u64 (z : Nat))
    have e : z = md (sumN (win s k (j + 1))) := by rw [sumN_snoc s H.kj, hz]; unfold md; omega
    rw [← e]
    exact this
  · exact ((H.only.trans (hO.only _)).setCell (p := ⟨bx, 1, none⟩) (.inr rfl) _).drew
/-- what is told so far -/
structure MgIn (w : World) (n : Nat) (s : Nat → Cn) (ps : Option Addr) (k m : Nat) (h : Nat → Cn) (v : Value) (wr : World) : Prop where
  kn : k ≤ n
  mle : m ≤ k
  own : wr.ownsRow w.heap.size 55 2 v m (cl h m)
  norm : Norm (win s 0 k) (win h 0 m)
  step : k = 0 ∨ k = n ∨ (s (k - 1)).1 < (s k).1
  src : Cnts wr ps n s
  pb : ∀ a, ps = some a → a.block < w.heap.size
  only : Only (fun _ => False) w wr
def MgR (w : World) (n : Nat) (s : Nat → Cn) (ps : Option Addr) (v q : Value) (wr : World) : Prop := ∃ k m h, q = .int .i64 (k : Nat) ∧ MgIn w n s ps k m h v wr
/-- behind a row of one index: nothing is told, or one count more -/
theorem mg_group {w wr wI : World} {n k j m : Nat} {s h : Nat → Cn} {ps : Option Addr} {v : Value} {key : Int} (H : MgIn w n s ps k m h v wr) (hk : k < n) (hkey : key = (s k).1) (hs : Sorted (win s 0 n))
    (G : GrIn (wr.alloc (.cells #[.int .i64 key, .int .u64 0] 55)) wI wr.heap.size n s k j key) (hend : j = n ∨ (s j).1 ≠ key) :
    k < j ∧ Norm (win s 0 j) (if md (sumN (win s k j)) = 0 then win h 0 m else win h 0 m ++ [(key, md (sumN (win s k j)))]) ∧ (j = 0 ∨ j = n ∨ (s (j - 1)).1 < (s j).1) ∧ Only (fun _ => False) w wI ∧ Cnts wI ps n s ∧ wI.ownsRow w.heap.size 55 2 v m (cl h m) := by
  have hkj : k < j := by
    rcases Nat.lt_or_eq_of_le G.kj with q | q
    · exact q
    · rcases hend with e | e
      · omega
      · exact absurd (by rw [← q]; exact hkey.symm) e
  have hO : Only (fun _ => False) wr wI := ((Only.refl _ wr).alloc _).seq2 G.only (by rintro i rfl; exact .inl (Nat.le_refl _))
  have hblk : ∀ g o, wr.heap[g]? = some o → wI.heap[g]? = some o := fun g o hg => by
    have h1 := blk_alloc hg (.cells #[.int .i64 key, .int .u64 0] 55)
    exact G.only.blk h1 (by have := blk_lt hg; omega)
  refine ⟨hkj, ?_, ?_, H.only.trans hO, H.src.only hO (fun _ _ h => h), own_keep H.own hO⟩
  · rw [win_app s (m := k) (Nat.zero_le _) G.kj]
    refine H.norm.group (k := key) ?_ ?_ rfl
    · intro x hx
      obtain ⟨t, q1, q2, rfl⟩ := mem_win.1 hx
      exact G.all t q1 q2
    · intro x hx
      obtain ⟨t, q1, q2, rfl⟩ := mem_win.1 hx
      rcases H.step with e | e | e
      · omega
      · omega
      · have := sorted_le hs (Nat.zero_le t) (show t ≤ k - 1 by omega) (by omega)
        omega
  · rcases hend with e | e
    · exact .inr (.inl e)
    · refine .inr ?_
      rcases Nat.lt_or_eq_of_le G.jn with q | q
      · right
        have h1 := G.all (j - 1) (by omega) (by omega)
        have h2 := sorted_le hs (Nat.zero_le (j - 1)) (show j - 1 ≤ j by omega) q
        omega
      · exact .inl q
theorem md_lt (n : Nat) : md n < 18446744073709551616 := Nat.mod_lt _ (by omega)
theorem GrIn.still {w1 wI wJ : World} {bx n k j : Nat} {s : Nat → Cn} {key : Int} (H : GrIn w1 wI bx n s k j key) (hO : Still wI wJ) : GrIn w1 wJ bx n s k j key :=
  ⟨H.kj, H.jn, H.all, by rw [hO.heap]; exact H.blk, H.only.trans (hO.only _)⟩
theorem gr_src {wr wI : World} {n k j : Nat} {s : Nat → Cn} {key : Int} {ps : Option Addr} (G : GrIn (wr.alloc (.cells #[.int .i64 key, .int .u64 0] 55)) wI wr.heap.size n s k j key) (h : Cnts wr ps n s) : Cnts wI ps n s :=
  h.only (((Only.refl (fun _ => False) wr).alloc _).seq2 G.only (by rintro i rfl; exact .inl (Nat.le_refl _))) (fun _ _ h => h)
set_option maxRecDepth 100000 in
set_option maxHeartbeats 8000000 in
theorem rmer5_calls (p1 p2 : Option Addr) (n1 n2 k1 k2 : Nat) (c1 c2 : Nat → Cn) (w : World) (hc1 : Cnts w p1 n1 c1) (hc2 : Cnts w p2 n2 c2) (e1 : p1 = none → n1 = 0) (e2 : p2 = none → n2 = 0) (hn : n1 + n2 ≤ 8796093022208) :
    Calls Try.prog 43 #[.slice p1 n1 k1, .slice p2 n2 k2] w (RkRes w (win c1 0 n1 ++ win c2 0 n2)) := by
  obtain ⟨i3, hi3, hz3, hs3, hb3⟩ := info_parts info55
  have C1 := Lib.hid hc1
  have C2 := Lib.hid hc2
  have E1 := Lib.hid e1
  have E2 := Lib.hid e2
  clear hc1 hc2 e1 e2
  go_enter Try.func43, Try.ntmps43
  go_wp2_with (first | (at_builtin; refine wpList_append_any _ rfl (.const (.slice none 0 0)) (.tmp 9) 36 rfl 55 i3 (.agg #[.int .i64 0, .int .u64 0]) 2 16 Try.underlying36 hi3 hz3 hs3 hb3 rfl (by decide) w.heap.size 0 _ [] (by simp [Act.eval]) ⟨rfl, .inl ⟨rfl, rfl⟩⟩ (Nat.le_refl _) p1 n1 k1 (cl c1 n1) (by simp [Act.eval]) E1.out (cl_len _ _) (fun ad j u hp hj => cl_src C1.out ad j u hp hj) (cl_one _ _) (by unfold maxLen; omega) (by omega) ?_; intro v1 w1 hgr hown; have U1 := Lib.hid (show w1.ownsRow w.heap.size 55 2 v1 n1 (cl c1 n1) by simpa using hown); have X1 := Lib.hid ((Only.refl (fun _ => False) w).grown hgr.grown (fun k hk => by cases hk)); clear hgr hown) | (at_builtin; refine wpList_append_any _ rfl (.tmp 11) (.tmp 12) 36 rfl 55 i3 (.agg #[.int .i64 0, .int .u64 0]) 2 16 Try.underlying36 hi3 hz3 hs3 hb3 rfl (by decide) w.heap.size n1 _ (cl c1 n1) (by simp [Act.eval]) U1.out X1.out.size p2 n2 k2 (cl c2 n2) (by simp [Act.eval]) E2.out (cl_len _ _) (fun ad j u hp hj => cl_src (C2.out.only X1.out (fun _ _ h => h)) ad j u hp hj) (cl_one _ _) (by unfold maxLen; omega) (by omega) ?_; intro v2 w2 hgr hown; have X2 := Lib.hid (own_only X1.out U1.out (Nat.le_refl _) hgr); obtain ⟨ps, cap, rfl, h1, h2, h3, h4, h5⟩ := own_slice (show w2.ownsRow w.heap.size 55 2 v2 (n1 + n2) (cl (cat c1 c2 n1) (n1 + n2)) by rw [cl_cat]; exact hown); have KS := Lib.hid (sorted_calls ps (n1 + n2) cap (cat c1 c2 n1) w2 hn h1 h2 h3 h4); clear h1 h2 h3 h4 h5; clear hgr hown))
  refine KS.out.mono ?_
  rintro e w3 ⟨v3, s, rfl, O3, r3, P3, S3⟩
  obtain ⟨ps5, cap5, rfl, g1, g2, g3, g4, g5⟩ := own_slice r3
  have PB := Lib.hid (show ∀ a, ps5 = some a → a.block < w3.heap.size from fun a ha => (g5 a ha).2.2)
  have HP := Lib.hid (show (win s 0 (n1 + n2)).Perm (win c1 0 n1 ++ win c2 0 n2) by rw [← win_cat]; exact P3)
  have HS := Lib.hid S3
  have HC := Lib.hid g3
  have HO3 := Lib.hid (X2.out.trans O3)
  have HB := Lib.hid (show ∀ L : List Cn, L.length = n1 + n2 → True from fun _ _ => trivial)
  have hlen : (win c1 0 n1 ++ win c2 0 n2).length = n1 + n2 := by rw [List.length_append, win_len, win_len]; omega
  generalize win c1 0 n1 ++ win c2 0 n2 = L at *
  clear O3 r3 P3 S3 g1 g2 g3 g4 g5 KS HB
  generalize hnn : n1 + n2 = n at *
  have HLEN := Lib.hid hlen
  clear hlen hnn
  go_wp2_with fail
  go_loopw [6, 7] (fun v q wr => MgR w3 n s ps5 v q wr) (fun _ q _ => n - (intOf q).toNat)
  case atStart => exact ⟨0, 0, fun _ => (0, 0), rfl, Nat.zero_le _, Nat.le_refl _, ⟨rfl, .inr ⟨w3.heap.size, 0, #[], rfl, Nat.le_refl _, blk_new _ _, Nat.le_refl _, Nat.zero_le _, rfl, rfl⟩⟩, norm_nil, .inl rfl, HC.out.only ((Only.refl (fun _ => False) w3).alloc _) (fun _ _ h => h), PB.out, (Only.refl _ _).alloc _⟩
  case round =>
    rename World => wo
    obtain ⟨k, m, h, rfl, H⟩ := hrel
    have hkn := H.kn
    have HM := Lib.hid H
    by_cases hlt : k < n
    · obtain ⟨b, o, ep, q1, x0, x1⟩ := H.src k hlt
      subst ep
      unfold ci at x0
      obtain ⟨key, hkey⟩ : ∃ key, key = (s k).1 := ⟨_, rfl⟩
      rw [← hkey] at x0
      have HK := Lib.hid hkey
      clear H hkey x1
      go_wp2_with fail
      go_loopw [7] (fun v wx => GrR (wo.alloc (.cells #[.int .i64 key, .int .u64 0] 55)) wo.heap.size n s k key v wx) (fun v _ => n - (intOf v).toNat)
      case atStart => exact ⟨k, rfl, gr_start hlt⟩
      case round =>
        obtain ⟨j, rfl, G⟩ := hrel
        have hjn := G.jn
        have hkj := G.kj
        have HG := Lib.hid G
        have y0 := blk_cell G.blk 0
        have y1 := blk_cell G.blk 1
        have y2 := blk_free G.blk 0
        have y3 := blk_free G.blk 1
        obtain ⟨z0, hz0⟩ : ∃ z, z = md (sumN (win s k j)) := ⟨_, rfl⟩
        rw [← hz0] at y1
        have HZ0 := Lib.hid hz0
        have y0' : wr.cell? ⟨wo.heap.size, 0, none⟩ = some (.int .i64 key) := y0
        have y1' : wr.cell? ⟨wo.heap.size, 1, none⟩ = some (.int .u64 (z0 : Nat)) := y1
        clear y0 y1 hz0
        by_cases hjl : j < n
        · obtain ⟨b2, o2, ep, q1, x0, x1⟩ := (gr_src G HM.out.src) j hjl
          injection ep with ep; injection ep with ep1 ep2
          subst ep1; subst ep2
          unfold ci at x0
          unfold cn at x1
          rcases hx : s j with ⟨u, y⟩
          rw [hx] at x0 x1
          dsimp only at x0 x1
          have HX := Lib.hid hx
          clear hx G
          by_cases he : u = key
          · subst he
            go_wp2_with fail
            go_quiet (fail)
            have HO := Lib.hid ((Still.refl wr).drewN nq)
            have x1' : (wr.drewN nq).cell? ⟨b, o + j * 2 + 1, none⟩ = some (.int .u64 (y : Nat)) := x1
            have y1'' : (wr.drewN nq).cell? ⟨wo.heap.size, 1, none⟩ = some (.int .u64 (z0 : Nat)) := y1'
            have y3' : (wr.drewN nq).frozen? ⟨wo.heap.size, 1, none⟩ = false := y3
            clear x0 x1 y0' y1' y2 y3
            generalize wr.drewN nq = wJ at *
            obtain ⟨z, hz⟩ : ∃ z, z = (z0 + y) % 18446744073709551616 := ⟨_, rfl⟩
            have wz : IntKind.u64.wrap ((z0 : Int) + y) = ((z : Nat) : Int) := by rw [u64_mod', hz]; omega
            have N := Lib.hid (show GrR (wo.alloc (.cells #[.int .i64 u, .int .u64 0] 55)) wo.heap.size n s k u (.int .i64 ((j : Int) + 1)) (wJ.setCell ⟨wo.heap.size, 1, none⟩ (.int .u64 (z : Nat))).drew from ⟨j + 1, by go_num, gr_next HG.out hjl (by rw [HX.out]) HO.out (by rw [← HZ0.out, HX.out]; exact hz)⟩)
            clear hz
            go_wp2_with fail
            go_region
            all_goals
              go_wp2_with fail
              exact ⟨N.out, by simp [intOf]; omega⟩
          · have kf : (u == key) = false := by simpa using he
            have HE := Lib.hid (show j = n ∨ (s j).1 ≠ key from .inr (by rw [HX.out]; exact he))
            clear he
            go_wp2_with fail
            go_quiet (fail)
            have GI := HG.out.still ((Still.refl wr).drewN nq)
            obtain ⟨Q1, Q2, q3, q4, q5, q6⟩ := mg_group HM.out hlt HK.out HS.out GI HE.out
            have Q0 := GI.jn
            have Q3 := Lib.hid q3
            have Q4 := Lib.hid q4
            have Q5 := Lib.hid q5
            have Q6 := Lib.hid q6
            have f0 := blk_cell GI.blk 0
            have f1 := blk_cell GI.blk 1
            have mle := HM.out.mle
            obtain ⟨z, hz⟩ : ∃ z, z = md (sumN (win s k j)) := ⟨_, rfl⟩
            have HZ := Lib.hid hz.symm
            rw [← hz] at Q2 f1
            have f0' : (wr.drewN nq).cell? ⟨wo.heap.size, 0, none⟩ = some (.int .i64 key) := f0
            have f1' : (wr.drewN nq).cell? ⟨wo.heap.size, 1, none⟩ = some (.int .u64 (z : Nat)) := f1
            clear GI q3 q4 q5 q6 hz f0 f1 y0' y1' y2 y3
            generalize wr.drewN nq = wJ at *
            by_cases hz0 : z = 0
            · have kz : ((z : Int) != 0) = false := by rw [hz0]; rfl
              have kz2 : ((z : Int) == 0) = true := by rw [hz0]; rfl
              have kz3 : (z == 0) = true := by rw [hz0]; rfl
              rw [if_pos hz0] at Q2
              have N := Lib.hid (show MgR w3 n s (some ⟨b, o, none⟩) _ (.int .i64 (j : Nat)) wJ from ⟨j, m, h, rfl, ⟨Q0, by omega, Q6.out, Q2, Q3.out, Q5.out, PB.out, Q4.out⟩⟩)
              clear Q2 hz0
              go_wp2_with fail
              go_roundw
              case rel => exact N.out
              case measure => simp [intOf]; omega
            · have kz : ((z : Int) != 0) = true := by simp; exact hz0
              have kz2 : ((z : Int) == 0) = false := by simp; exact hz0
              have kz3 : (z == 0) = false := by simp; exact hz0
              rw [if_neg hz0] at Q2
              have Q2' := Q2
              clear Q2
              go_wp2_with (at_builtin; refine wpList_append_any _ rfl (.tmp 54) (.tmp 56) 36 rfl 55 i3 (.agg #[.int .i64 0, .int .u64 0]) 2 16 Try.underlying36 hi3 hz3 hs3 hb3 rfl (by decide) w3.heap.size m _ (cl h m) (by simp [Act.eval]) (own_keep Q6.out ((Only.refl _ _).alloc _)) (by have := Q4.out.size; simp; omega) (some ⟨wJ.heap.size, 0, none⟩) 1 1 [.int .i64 key, .int .u64 (z : Nat)] (by simp [Act.eval]) (by simp) rfl (box_src wJ _ _) (by simp [Value.oneCell']) (by unfold maxLen; omega) (by omega) ?_; intro v' w' hgr hown; have N := Lib.hid (show MgR w3 n s (some ⟨b, o, none⟩) v' (.int .i64 (j : Nat)) w' from ⟨j, m + 1, _, rfl, ⟨Q0, by omega, by rw [cl_push (x := (key, z))]; exact hown, by rw [win_put]; exact Q2', Q3.out, (Q5.out.only ((Only.refl (fun _ => False) wJ).alloc _) (fun _ _ h => h)).only (S := fun k => u6.ownBlock = some k) ⟨hgr.grown.os, hgr.grown.tape, hgr.grown.output, hgr.grown.size, fun k hk hne => hgr.grown.block k hk (fun e => hne e.symm)⟩ (fun a ha hb => by have h1 := (own_tag Q6.out hb).1; have h2 := PB.out a ha; omega), PB.out, own_only (Q4.out.trans ((Only.refl _ _).alloc _)) (own_keep Q6.out ((Only.refl _ _).alloc _)) (Nat.le_refl _) hgr⟩⟩); clear hgr hown)
              go_roundw
              case rel => exact N.out
              case measure => simp [intOf]; omega
        · have kf : decide ((j : Int) < n) = false := by simp; omega
          have kf2 : decide (j < n) = false := by simp; omega
          have HE := Lib.hid (show j = n ∨ (s j).1 ≠ key from .inl (by omega))
          clear G
          go_wp2_with fail
          go_quiet (fail)
          have GI := HG.out.still ((Still.refl wr).drewN nq)
          obtain ⟨Q1, Q2, q3, q4, q5, q6⟩ := mg_group HM.out hlt HK.out HS.out GI HE.out
          have Q0 := GI.jn
          have Q3 := Lib.hid q3
          have Q4 := Lib.hid q4
          have Q5 := Lib.hid q5
          have Q6 := Lib.hid q6
          have f0 := blk_cell GI.blk 0
          have f1 := blk_cell GI.blk 1
          have mle := HM.out.mle
          obtain ⟨z, hz⟩ : ∃ z, z = md (sumN (win s k j)) := ⟨_, rfl⟩
          have HZ := Lib.hid hz.symm
          rw [← hz] at Q2 f1
          have f0' : (wr.drewN nq).cell? ⟨wo.heap.size, 0, none⟩ = some (.int .i64 key) := f0
          have f1' : (wr.drewN nq).cell? ⟨wo.heap.size, 1, none⟩ = some (.int .u64 (z : Nat)) := f1
          clear GI q3 q4 q5 q6 hz f0 f1 y0' y1' y2 y3
          generalize wr.drewN nq = wJ at *
          by_cases hz0 : z = 0
          · have kz : ((z : Int) != 0) = false := by rw [hz0]; rfl
            have kz2 : ((z : Int) == 0) = true := by rw [hz0]; rfl
            have kz3 : (z == 0) = true := by rw [hz0]; rfl
            rw [if_pos hz0] at Q2
            have N := Lib.hid (show MgR w3 n s (some ⟨b, o, none⟩) _ (.int .i64 (j : Nat)) wJ from ⟨j, m, h, rfl, ⟨Q0, by omega, Q6.out, Q2, Q3.out, Q5.out, PB.out, Q4.out⟩⟩)
            clear Q2 hz0
            go_wp2_with fail
            go_roundw
            case rel => exact N.out
            case measure => simp [intOf]; omega
          · have kz : ((z : Int) != 0) = true := by simp; exact hz0
            have kz2 : ((z : Int) == 0) = false := by simp; exact hz0
            have kz3 : (z == 0) = false := by simp; exact hz0
            rw [if_neg hz0] at Q2
            have Q2' := Q2
            clear Q2
            go_wp2_with (at_builtin; refine wpList_append_any _ rfl (.tmp 54) (.tmp 56) 36 rfl 55 i3 (.agg #[.int .i64 0, .int .u64 0]) 2 16 Try.underlying36 hi3 hz3 hs3 hb3 rfl (by decide) w3.heap.size m _ (cl h m) (by simp [Act.eval]) (own_keep Q6.out ((Only.refl _ _).alloc _)) (by have := Q4.out.size; simp; omega) (some ⟨wJ.heap.size, 0, none⟩) 1 1 [.int .i64 key, .int .u64 (z : Nat)] (by simp [Act.eval]) (by simp) rfl (box_src wJ _ _) (by simp [Value.oneCell']) (by unfold maxLen; omega) (by omega) ?_; intro v' w' hgr hown; have N := Lib.hid (show MgR w3 n s (some ⟨b, o, none⟩) v' (.int .i64 (j : Nat)) w' from ⟨j, m + 1, _, rfl, ⟨Q0, by omega, by rw [cl_push (x := (key, z))]; exact hown, by rw [win_put]; exact Q2', Q3.out, (Q5.out.only ((Only.refl (fun _ => False) wJ).alloc _) (fun _ _ h => h)).only (S := fun k => u6.ownBlock = some k) ⟨hgr.grown.os, hgr.grown.tape, hgr.grown.output, hgr.grown.size, fun k hk hne => hgr.grown.block k hk (fun e => hne e.symm)⟩ (fun a ha hb => by have h1 := (own_tag Q6.out hb).1; have h2 := PB.out a ha; omega), PB.out, own_only (Q4.out.trans ((Only.refl _ _).alloc _)) (own_keep Q6.out ((Only.refl _ _).alloc _)) (Nat.le_refl _) hgr⟩⟩); clear hgr hown)
            go_roundw
            case rel => exact N.out
            case measure => simp [intOf]; omega
    · obtain rfl : k = n := by omega
      obtain ⟨_, cap6, e6, _⟩ := own_slice H.own
      have X := Lib.hid (show RkRes w L (.returned _) wo from ⟨_, m, h, rfl, HO3.out.trans H.only, (show wo.ownsRow w.heap.size 55 2 _ m (cl h m) from ⟨H.own.1, by
        rcases H.own.2 with q | ⟨g, cap, cur, q1, q2, q3⟩
        · exact .inl q
        · exact .inr ⟨g, cap, cur, q1, Nat.le_trans HO3.out.size q2, q3⟩⟩), H.norm.of_perm HP.out.symm, by rw [HLEN.out]; exact H.mle⟩)
      clear H
      go_wp2_with fail
      go_ret
      exact X.out
end Go.Proofs.Ytimiojckinpfdaa

/- The walk of real.Compare. -/
namespace Go.Proofs.Ytimiojckinpfdaa
open Go.RowKit

def fnan (x : Nat) : Bool := Ieee.double.order x x != some .eq
def flt (x y : Nat) : Bool := Ieee.double.order x y == some .lt
def fgt (x y : Nat) : Bool := Ieee.double.order x y == some .gt
theorem run_fneq (x : Nat) (w : World) : Sem.run Try.prog (binOp .neq 40 (.float .f64 x) (.float .f64 x)) w = .ok (.bool (fnan x)) w := by
  simp [binOp, Op.floatCmp, FloatKind.format, fnan]
theorem run_flt (x y : Nat) (w : World) : Sem.run Try.prog (binOp .lss 40 (.float .f64 x) (.float .f64 y)) w = .ok (.bool (flt x y)) w := by
  simp [binOp, Op.floatCmp, FloatKind.format, flt]
theorem run_fgt (x y : Nat) (w : World) : Sem.run Try.prog (binOp .gtr 40 (.float .f64 x) (.float .f64 y)) w = .ok (.bool (fgt x y)) w := by
  simp [binOp, Op.floatCmp, FloatKind.format, fgt]
theorem isnan_calls (x : Nat) (w : World) : Calls Try.prog 80 #[.float .f64 x] w fun e w' => e = .returned (.bool (fnan x)) ∧ w' = w := by
  have k := run_fneq x
  go_enter Try.func80, Try.ntmps80
  go_wp2_with fail
  go_ret
  exact ⟨rfl, rfl⟩
def fsg (x : Nat) : Bool := decide (wrap64 (x : Int) < 0)
theorem signbit_calls (x : Nat) (w : World) : Calls Try.prog 81 #[.float .f64 x] w fun e w' => e = .returned (.bool (fsg x)) ∧ w' = w := by
  have k := run_tobits x
  go_enter Try.func81, Try.ntmps81
  go_wp2_with fail
  go_ret
  exact ⟨rfl, rfl⟩
def cmpB (p q l g sa sb : Bool) : Int := if p && q then 0 else if p || l then -1 else if q || g then 1 else if sa == sb then 0 else if sa then -1 else 1
/-- how two floats stand -/
def fcmp (x y : Nat) : Int := cmpB (fnan x) (fnan y) (flt x y) (fgt x y) (fsg x) (fsg y)
set_option maxRecDepth 100000 in
set_option maxHeartbeats 4000000 in
theorem compare_calls (x y : Nat) (w : World) : Calls Try.prog 49 #[.float .f64 x, .float .f64 y] w fun e w' => e = .returned (.int .i64 (fcmp x y)) ∧ w' = w := by
  have K1 := Lib.hid (fun w => isnan_calls x w)
  have K2 := Lib.hid (fun w => isnan_calls y w)
  have K3 := Lib.hid (fun w => signbit_calls x w)
  have K4 := Lib.hid (fun w => signbit_calls y w)
  unfold fcmp
  have k1 : (FloatKind.f64.format.order x y == some Ordering.lt) = flt x y := rfl
  have k2 : (FloatKind.f64.format.order x y == some Ordering.gt) = fgt x y := rfl
  generalize fnan x = p at *
  generalize fnan y = q at *
  generalize flt x y = l at *
  generalize fgt x y = g at *
  generalize fsg x = sa at *
  generalize fsg y = sb at *
  go_enter Try.func49, Try.ntmps49
  go_wp2_with fail
  refine (K1.out _).mono ?_
  rintro e w1 ⟨rfl, rfl⟩
  go_wp2_with fail
  refine (K2.out _).mono ?_
  rintro e w1 ⟨rfl, rfl⟩
  cases p <;> cases q <;> cases l <;> cases g <;> cases sa <;> cases sb <;> (go_wp2_with (first | (refine (K3.out _).mono ?_; rintro e w1 ⟨rfl, rfl⟩) | (refine (K4.out _).mono ?_; rintro e w1 ⟨rfl, rfl⟩)); go_ret; exact ⟨rfl, rfl⟩)
end Go.Proofs.Ytimiojckinpfdaa
