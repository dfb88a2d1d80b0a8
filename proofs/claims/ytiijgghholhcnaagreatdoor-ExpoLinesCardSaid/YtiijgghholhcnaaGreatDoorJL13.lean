/- label.Print at any labels. -/
import Derived.Test.YtiijgghholhcnaaGreatDoorJL06
import Derived.Test.YtiijgghholhcnaaGreatDoorJL10
import Derived.Test.YtiijgghholhcnaaGreatDoorJL12
import Derived.Deep.Cut
import Derived.Deep.CutRange
import Derived.Deep.CutBlock
import Derived.Deep.DeepCutAuto
namespace Go.Proofs.YtiijgghholhcnaaGreatDoor
open Go.RowKit
set_option maxRecDepth 1000000
/-- labels as text -/
def labsT (L : Lb) : Nat → List UInt8
  | 0 => []
  | k + 1 => labsT L k ++ [if k = 0 then 123 else 44] ++ (L k).1 ++ [61, 34] ++ (L k).2.flatMap (esc 3 vx vS 3) ++ [34]
def labT (nm : List UInt8) (L : Lb) (n : Nat) : List UInt8 := if n = 0 then nm else nm ++ labsT L n ++ [125]
theorem vesc_eq (b : UInt8) : esc 3 vx vS 3 b = if b = 92 then [92, 92] else if b = 34 then [92, 34] else if b = 10 then [92, 110] else [b] := rfl
theorem vesc_le (b : UInt8) : (esc 3 vx vS 3 b).length ≤ 2 := by
  rw [vesc_eq]
  split
  · decide
  · split
    · decide
    · split
      · decide
      · simp
theorem vflat_le : ∀ s : List UInt8, (s.flatMap (esc 3 vx vS 3)).length ≤ 2 * s.length
  | [] => by simp
  | b :: s => by
    rw [List.flatMap_cons, List.length_append, List.length_cons]
    have h1 := vesc_le b
    have h2 := vflat_le s
    omega
theorem labsT_le (L : Lb) (n : Nat) (h : ∀ i, i < n → (L i).1.length ≤ 64 ∧ (L i).2.length ≤ 1024) : ∀ k, k ≤ n → (labsT L k).length ≤ k * 2116
  | 0, _ => by simp [labsT]
  | k + 1, hk => by
    have h1 := labsT_le L n h k (by omega)
    have h2 := h k (by omega)
    have h3 := vflat_le (L k).2
    simp only [labsT, List.length_append, List.length_cons, List.length_nil]
    omega
theorem Rp.range {w w' : World} {B q r n c : Nat} {x : Nat → UInt8} {S : Nat → List UInt8} {T : Nat → Prop} (h : Rp w B q r n c x S) (O : Only T w w') (hT : ∀ b, B ≤ b → b < w.heap.size → ¬ T b) : Rp w' B q r n c x S := by
  have hq := hT q h.qB h.ql
  have hr := hT r h.rB h.rl
  refine ⟨(O.cellAt h.ql hq _).trans h.v, fun i hi => (O.cellAt h.rl hr _).trans (h.row i hi), fun b hb => (O.cellAt h.ql hq _).trans (h.nil b hb), fun j hj => ?_, h.qB, h.rB, Nat.lt_of_lt_of_le h.ql O.size, Nat.lt_of_lt_of_le h.rl O.size⟩
  obtain ⟨g, k, h1, h2, h3⟩ := h.hit j hj
  exact ⟨g, k, (O.cellAt h.ql hq _).trans h1, h2.only O (hT g h3 h2.1), h3⟩
set_option maxHeartbeats 4000000 in
theorem replace_at (B b q r c n : Nat) (x : Nat → UInt8) (S : Nat → List UInt8) (s : List UInt8) (w : World) (hn2 : n ≤ 1000) (h1 : w.heap[b]? = some (.cells #[.int .u32 1, .int .i32 0, .int .u32 0, .iface 193 (.pointer (some ⟨q, 0, none⟩)), .slice none 0 0] 110 (0, 0))) (h2 : Rp w B q r n c x S)
    (hge : ∀ k, k < n → 1 ≤ (S k).length) (hle : ∀ k, k < n → (S k).length ≤ 1000) (hinj : ∀ i j, i < n → j < n → x i = x j → i = j) (hs : s.length ≤ 100000000000) :
    Calls Tryz.prog 36 #[.pointer (some ⟨b, 0, none⟩), .string ⟨s.toArray⟩] w fun e w' => e = .returned (.string ⟨(s.flatMap (esc n x S n)).toArray⟩) ∧ Only (fun _ => False) w w' := by
  have HD := Lib.hid (do_done b w (by rw [blk_cell h1]; rfl))
  have HF := Lib.hid (rep_calls B q r n c x S s w hn2 h2 hle hge hinj hs)
  have mr := meth_rep
  have c3 : w.cell? ⟨b, 3, none⟩ = some (.iface 193 (.pointer (some ⟨q, 0, none⟩))) := by rw [blk_cell h1]; rfl
  clear h1 h2 hge hle hinj
  go_enter Tryz.func36, Tryz.ntmps36
  go_wp2_with fail
  refine HD.out.mono ?_
  rintro e w1 ⟨rfl, hw⟩; rw [hw]; clear hw w1
  go_wp2_with fail
  refine HF.out.mono ?_
  rintro e w2 ⟨rfl, hO⟩
  have HO := Lib.hid hO; clear hO
  go_wp2_with fail
  go_ret
  exact ⟨rfl, HO.out⟩
/-- the replacer beside the builder: not yet built, or built -/
def Rq (w : World) (sb b : Nat) (v : Value) : Prop :=
  b < sb ∧ ((∃ s2 c, Rn w b s2 3 6 c vx vS ∧ s2 < sb) ∨
    ∃ wr B0 q r c, w.heap[b]? = some (.cells #[.int .u32 1, .int .i32 0, .int .u32 0, .iface 193 (.pointer (some ⟨q, 0, none⟩)), .slice none 0 0] 110 (0, 0)) ∧ Rp wr B0 q r 3 c vx vS ∧ Only (fun k => ¬ (B0 ≤ k ∧ k < wr.heap.size)) wr w ∧ sb < B0 ∧ ∀ k, v.ownBlock = some k → k < B0 ∨ wr.heap.size ≤ k)
theorem Rq.wrote {w w' : World} {sb b : Nat} {v v' : Value} {l : List UInt8} (h : Rq w sb b v) (hB : Bd w sb v l) (hw : Wrote w sb v v' w') : Rq w' sb b v' := by
  obtain ⟨h0, h⟩ := h
  have hne : ∀ k, k < sb → ¬ (k = sb ∨ v.ownBlock = some k) := by
    rintro k hk (e | e)
    · omega
    · have := (hB.own.lt k e).1; omega
  refine ⟨h0, ?_⟩
  rcases h with ⟨s2, c, h1, h2⟩ | ⟨wr, B0, q, r, c, h1, h2, h3, h4, h5⟩
  · exact .inl ⟨s2, c, ⟨hw.only.blk h1.blk (hne b h0), h1.old.only hw.only (hne s2 h2), h1.ne⟩, h2⟩
  · refine .inr ⟨wr, B0, q, r, c, hw.only.blk h1 (hne b h0), h2, h3.trans (hw.only.mono (fun k _ hk => ?_)), h4, fun k hk => ?_⟩
    · rintro ⟨g1, g2⟩
      rcases hk with e | e
      · omega
      · rcases h5 k e with q | q <;> omega
    · rcases hw.which with e | ⟨g, e, hg⟩
      · exact h5 k (by rw [← e]; exact hk)
      · rw [e] at hk; injection hk with hk; subst hk
        exact .inr (Nat.le_trans h3.size hg)
theorem Rq.still {w w' : World} {sb b : Nat} {v : Value} (h : Rq w sb b v) (O : Only (fun _ => False) w w') : Rq w' sb b v := by
  obtain ⟨h0, h⟩ := h
  refine ⟨h0, ?_⟩
  rcases h with ⟨s2, c, h1, h2⟩ | ⟨wr, B0, q, r, c, h1, h2, h3, h4, h5⟩
  · exact .inl ⟨s2, c, ⟨O.blk h1.blk (fun e => e), h1.old.only O (fun e => e), h1.ne⟩, h2⟩
  · exact .inr ⟨wr, B0, q, r, c, O.blk h1 (fun e => e), h2, h3.trans (O.mono (fun _ _ e => e.elim)), h4, h5⟩
theorem rq_replace (s : List UInt8) (sb b : Nat) (v : Value) (l : List UInt8) (w : World) (h : Rq w sb b v) (hB : Bd w sb v l) (hs : s.length ≤ 100000000000) :
    Calls Tryz.prog 36 #[.pointer (some ⟨b, 0, none⟩), .string ⟨s.toArray⟩] w fun e w' => e = .returned (.string ⟨(s.flatMap (esc 3 vx vS 3)).toArray⟩) ∧ Rq w' sb b v ∧ Bd w' sb v l ∧ Only (fun k => k = b) w w' := by
  have v1 : ∀ k, k < 3 → (vS k).length ≠ 1 := fun k hk => by rw [vS_len k hk]; omega
  have v2 : ∀ k, k < 3 → 1 ≤ (vS k).length := fun k hk => by rw [vS_len k hk]; omega
  have v3 : ∀ k, k < 3 → (vS k).length ≤ 1000 := fun k hk => by rw [vS_len k hk]; omega
  obtain ⟨h0, h⟩ := h
  have hown : ∀ k, v.ownBlock = some k → k ≠ b := fun k hk e => by have := (hB.own.lt k hk).1; omega
  rcases h with ⟨s2, c, h1, h2⟩ | ⟨wr, B0, q, r, c, h1, h2, h3, h4, h5⟩
  · refine (replace_calls b s2 3 6 c vx vS s w rfl (by omega) (by omega) h1 v1 v2 v3 vx_inj hs).mono ?_
    rintro e w' ⟨rfl, q, r, c', g1, g2, g3⟩
    refine ⟨rfl, ⟨h0, .inr ⟨w', w.heap.size, q, r, c', g1, g2, Only.refl _ _, hB.le, fun k hk => .inl (hB.own.lt k hk).2⟩⟩, hB.only g3 (fun e => by omega) (fun k hk e => hown k hk e), g3⟩
  · have hR := h2.range h3 (fun k g1 g2 e => e ⟨g1, g2⟩)
    refine (replace_at B0 b q r c 3 vx vS s w (by omega) h1 hR v2 v3 vx_inj hs).mono ?_
    rintro e w' ⟨rfl, O⟩
    exact ⟨rfl, (show Rq w sb b v from ⟨h0, .inr ⟨wr, B0, q, r, c, h1, h2, h3, h4, h5⟩⟩).still O, hB.still O, O.mono (fun _ _ e => e.elim)⟩
/-- between the labels -/
structure LpS (w0 : World) (sb b : Nat) (v : Value) (l : List UInt8) (w : World) : Prop where
  bd : Bd w sb v l
  rq : Rq w sb b v
  only : Only (fun _ => False) w0 w
  hsb : w0.heap.size ≤ b
theorem LpS.next {w0 w w' : World} {sb b : Nat} {v v' : Value} {l l' : List UInt8} (h : LpS w0 sb b v l w) (hb : Bd w' sb v' l') (hw : Wrote w sb v v' w') : LpS w0 sb b v' l' w' :=
  ⟨hb, h.rq.wrote h.bd hw, h.only.seq2 hw.only (fun i hi => .inl (by
    have h1 := h.rq.1
    have h2 := h.hsb
    rcases hi with e | e
    · omega
    · have := (h.bd.own.lt i e).1; omega)), h.hsb⟩
theorem LpS.still {w0 w w' : World} {sb b : Nat} {v : Value} {l : List UInt8} (h : LpS w0 sb b v l w) (O : Only (fun _ => False) w w') : LpS w0 sb b v l w' := ⟨h.bd.still O, h.rq.still O, h.only.trans O, h.hsb⟩
/-- a block that was just laid: not the builder's, not the replacer's -/
theorem LpS.fresh {w0 w w' : World} {sb b : Nat} {v : Value} {l : List UInt8} (h : LpS w0 sb b v l w) {o : Obj} (_hk : w'.heap[w.heap.size]? = some o) : w.heap.size ≠ sb ∧ v.ownBlock ≠ some w.heap.size ∧ w.heap.size ≠ b := by
  have h1 := h.bd.le
  have h2 := h.rq.1
  refine ⟨by omega, fun e => ?_, by omega⟩
  have := (h.bd.own.lt _ e).2; omega
def LpR (w0 : World) (sb b n : Nat) (nm : List UInt8) (L : Lb) (v19 : Value) (w : World) : Prop :=
  ∃ (i : Nat) (v : Value), v19 = .int .i64 (i : Int) ∧ i ≤ n ∧ LpS w0 sb b v (nm ++ labsT L i) w
set_option maxHeartbeats 4000000 in
theorem lprint_calls (nm : List UInt8) (lp : Option Addr) (n c : Nat) (L : Lb) (w : World) (hn : 1 ≤ n) (hn2 : n ≤ 17) (hL : Lbs w lp n L) (hl : nm.length ≤ 1000) (hs : ∀ i, i < n → (L i).1.length ≤ 64 ∧ (L i).2.length ≤ 1024) :
    Calls Tryz.prog 112 #[.string ⟨nm.toArray⟩, .slice lp n c] w fun e w' => e = .returned (.string ⟨(labT nm L n).toArray⟩) ∧ Only (fun _ => False) w w' := by
  have HN := Lib.hid (fun sb cap w h => new_calls 3 6 sb cap vx vS w rfl (by omega) (by omega) h)
  have HL := Lib.hid hL
  have HS := Lib.hid hs
  have HT : Hid (labT nm L n = nm ++ labsT L n ++ [125]) := Lib.hid (by unfold labT; rw [if_neg (by omega)])
  have t0 : ((n : Int) == 0) = false := by simp; omega
  have HLE := Lib.hid (labsT_le L n hs)
  clear hL hs
  go_enter Tryz.func112, Tryz.ntmps112
  go_wp2_with fail
  have hO := (Only.refl (fun _ => False) w).alloc (.cells #[.string ⟨#[92]⟩, .string ⟨#[92, 92]⟩, .string ⟨#[34]⟩, .string ⟨#[92, 34]⟩, .string ⟨#[10]⟩, .string ⟨#[92, 110]⟩] 9)
  refine (HN.out _ _ _ (vold_of (blk_new w _))).mono ?_
  rintro e w1 ⟨b, s2, c2, rfl, hR, hO1, hb1⟩
  have hb2 : Hid (w.heap.size ≤ b) := Lib.hid (Nat.le_trans hO.size hb1)
  have hO2 := Lib.hid (hO.trans hO1)
  have HRn := Lib.hid hR
  clear hO1 hR hO hb1 HN
  go_wp2_with fail
  refine (bd_first w1 nm _ rfl (by omega)).mono ?_
  rintro e w2 ⟨⟨r, rfl⟩, v, hB, hO3⟩
  have hL2 : Hid (LpS w w1.heap.size b v (nm ++ labsT L 0) w2) := Lib.hid ⟨by rw [labsT, List.append_nil]; exact hB, ⟨blk_lt HRn.out.blk, .inl ⟨s2, c2, ⟨hO3.blk HRn.out.blk (fun e => e), HRn.out.old.only hO3 (fun e => e), HRn.out.ne⟩, HRn.out.old.lt⟩⟩, hO2.out.trans hO3, hb2.out⟩
  clear hB hO3 HRn hO2 hb2
  generalize w1.heap.size = sb at *
  go_wp2_with fail
  go_loopw [19] (fun v19 wr => LpR w sb b n nm L v19 wr) (fun v19 _ => n - (intOf v19).toNat)
  case atStart => exact ⟨0, v, rfl, Nat.zero_le _, hL2.out⟩
  case round =>
    obtain ⟨i, v, rfl, hi, hS⟩ := hrel
    have hQ := Lib.hid hS; clear hS hL2
    by_cases h : i < n
    · have t1 : decide ((i : Int) < (n : Int)) = true := decide_eq_true (by omega)
      obtain ⟨bl, o, hlp, g2, g3, g4⟩ := (HL.out.still hQ.out.only).at' i h
      subst hlp
      have hle := HLE.out i (by omega)
      have hse := HS.out i h
      have hvl := vflat_le (L i).2
      have HB1 : Hid ((nm ++ labsT L i).length ≤ 100000) := Lib.hid (by rw [List.length_append]; have : i * 2116 ≤ 17 * 2116 := Nat.mul_le_mul_right _ (by omega); omega)
      have HSE := Lib.hid hse
      have HVL := Lib.hid hvl
      have HLS : Hid (nm ++ labsT L (i + 1) = nm ++ labsT L i ++ [if i = 0 then 123 else 44] ++ (L i).1 ++ [61, 34] ++ (L i).2.flatMap (esc 3 vx vS 3) ++ [34]) := Lib.hid (by simp only [labsT, List.append_assoc])
      clear hle hse hvl
      generalize nm ++ labsT L i = T at *
      generalize hLT : nm ++ labsT L (i + 1) = T' at *
      have HLT := Lib.hid hLT; clear hLT
      go_upto_region 9 with fail
      have hkb := blk_new wr (.cells #[.string ⟨(L i).1.toArray⟩, .string ⟨(L i).2.toArray⟩] 47)
      have O7 := (Only.refl (fun _ => False) wr).alloc (.cells #[.string ⟨(L i).1.toArray⟩, .string ⟨(L i).2.toArray⟩] 47)
      have hN := hQ.out.fresh hkb
      have hQ7 := Lib.hid (hQ.out.still O7)
      generalize wr.alloc (.cells #[.string ⟨(L i).1.toArray⟩, .string ⟨(L i).2.toArray⟩] 47) = w7 at *
      have HK7 := Lib.hid hkb
      have HN := Lib.hid hN
      clear hkb O7 hQ g2 g3 g4 hN
      generalize wr.heap.size = kb at *
      go_upto_if 25 with fail
      go_cut [] from 25 to 27 (fun wx => ∃ v', LpS w sb b v' (T ++ [if i = 0 then 123 else 44]) wx ∧ wx.heap[kb]? = some (.cells #[.string ⟨(L i).1.toArray⟩, .string ⟨(L i).2.toArray⟩] 47) ∧ kb ≠ sb ∧ v'.ownBlock ≠ some kb ∧ kb ≠ b)
      case first =>
        have HW7 := Lib.hid (show ∀ v' wx, Wrote w7 sb v v' wx → wx.heap[kb]? = some (.cells #[.string ⟨(L i).1.toArray⟩, .string ⟨(L i).2.toArray⟩] 47) ∧ v'.ownBlock ≠ some kb from fun v' wx hw => ⟨hw.only.blk HK7.out (by
          rintro (e | e)
          · exact HN.out.1 e
          · exact HN.out.2.1 e), fun e => by
          rcases hw.which with q | ⟨g, q, hg⟩
          · exact HN.out.2.1 (by rw [← q]; exact e)
          · rw [q] at e; cases e; exact absurd (blk_lt HK7.out) (by omega)⟩)
        by_cases h0 : i = 0
        · have t2 : ((i : Int) == 0) = true := by simp; omega
          rw [if_pos h0] at HLS
          have HIF : Hid ([if i = 0 then (123 : UInt8) else 44] = [123]) := Lib.hid (by rw [if_pos h0])
          have K := Lib.hid (bd_byte sb v T 123 w7 hQ7.out.bd (by have := HB1.out; omega))
          clear h0
          go_wp2_with fail
          refine K.out.mono ?_
          rintro e w8 ⟨⟨r, rfl⟩, v', hb, hw⟩
          have HH := Lib.hid (And.intro (hQ7.out.next hb hw) (HW7.out v' w8 hw))
          clear hb hw
          go_wp2_with fail
          go_meet
          exact ⟨v', by rw [HIF.out]; exact HH.out.1, HH.out.2.1, HN.out.1, HH.out.2.2, HN.out.2.2⟩
        · have t2 : ((i : Int) == 0) = false := by simp; omega
          rw [if_neg h0] at HLS
          have HIF : Hid ([if i = 0 then (123 : UInt8) else 44] = [44]) := Lib.hid (by rw [if_neg h0])
          have K := Lib.hid (bd_byte sb v T 44 w7 hQ7.out.bd (by have := HB1.out; omega))
          clear h0
          go_wp2_with fail
          refine K.out.mono ?_
          rintro e w8 ⟨⟨r, rfl⟩, v', hb, hw⟩
          have HH := Lib.hid (And.intro (hQ7.out.next hb hw) (HW7.out v' w8 hw))
          clear hb hw
          go_wp2_with fail
          go_meet
          exact ⟨v', by rw [HIF.out]; exact HH.out.1, HH.out.2.1, HN.out.1, HH.out.2.2, HN.out.2.2⟩
      case rest =>
        clear hQ7 HK7 HN
        obtain ⟨v1, hQ, hk, hn1, hn2, hn3⟩ := hcut
        generalize hY : (if i = 0 then (123 : UInt8) else 44) = y at *
        clear hY
        have HQ1 := Lib.hid hQ
        have HKS : Hid (∀ v' wx, Wrote wc sb v1 v' wx → wx.heap[kb]? = some (.cells #[.string ⟨(L i).1.toArray⟩, .string ⟨(L i).2.toArray⟩] 47) ∧ v'.ownBlock ≠ some kb) := Lib.hid (fun v' wx hw => ⟨hw.only.blk hk (by
          rintro (e | e)
          · exact hn1 e
          · exact hn2 e), fun e => by
          rcases hw.which with q | ⟨g, q, hg⟩
          · exact hn2 (by rw [← q]; exact e)
          · rw [q] at e; cases e; exact absurd (blk_lt hk) (by omega)⟩)
        have HN := Lib.hid (And.intro hn1 hn3)
        have c0 : wc.cell? ⟨kb, 0, none⟩ = some (.string ⟨(L i).1.toArray⟩) := by rw [blk_cell hk]; rfl
        have KA := Lib.hid (bd_string sb v1 (T ++ [y]) (L i).1 wc hQ.bd (by have := HB1.out; have := HSE.out; simp; omega))
        clear hQ hk hn1 hn2 hn3
        go_wp2_with fail
        refine KA.out.mono ?_
        rintro e w8 ⟨⟨r, rfl⟩, v2, hb, hw⟩
        have HQ2 := Lib.hid (HQ1.out.next hb hw)
        have HW2 := Lib.hid hw
        have hk2 := (HKS.out v2 w8 hw)
        have HK2 := Lib.hid hk2
        have c1 : w8.cell? ⟨kb, 1, none⟩ = some (.string ⟨(L i).2.toArray⟩) := by rw [blk_cell hk2.1]; rfl
        have KB := Lib.hid (bd_string sb v2 (T ++ [y] ++ (L i).1) [61, 34] w8 hb (by have := HB1.out; have := HSE.out; simp; omega))
        clear hb hw hk2 KA HQ1 HKS c0
        go_wp2_with fail
        refine KB.out.mono ?_
        rintro e w9 ⟨⟨r9, rfl⟩, v3, hb, hw⟩
        have HQ3 := Lib.hid (HQ2.out.next hb hw)
        have hk3 : w9.heap[kb]? = some (.cells #[.string ⟨(L i).1.toArray⟩, .string ⟨(L i).2.toArray⟩] 47) ∧ v3.ownBlock ≠ some kb := ⟨hw.only.blk HK2.out.1 (by
          rintro (e | e)
          · exact HN.out.1 e
          · exact HK2.out.2 e), fun e => by
          rcases hw.which with q | ⟨g, q, hg⟩
          · exact HK2.out.2 (by rw [← q]; exact e)
          · rw [q] at e; cases e; exact absurd (blk_lt HK2.out.1) (by omega)⟩
        have c2 : w9.cell? ⟨kb, 1, none⟩ = some (.string ⟨(L i).2.toArray⟩) := by rw [blk_cell hk3.1]; rfl
        have KC := Lib.hid (rq_replace (L i).2 sb b v3 (T ++ [y] ++ (L i).1 ++ [61, 34]) w9 HQ3.out.rq hb (by have := HSE.out; omega))
        have HB3 := Lib.hid hb
        clear hb hw hk3 KB HQ2 HK2 HW2 c1
        go_wp2_with fail
        refine KC.out.mono ?_
        rintro e w10 ⟨rfl, hrq, hb, hO⟩
        have HQ4 : Hid (LpS w sb b v3 (T ++ [y] ++ (L i).1 ++ [61, 34]) w10) := Lib.hid ⟨hb, hrq, HQ3.out.only.seq2 hO (fun j hj => .inl (by have := HQ3.out.hsb; omega)), HQ3.out.hsb⟩
        have KD := Lib.hid (bd_string sb v3 (T ++ [y] ++ (L i).1 ++ [61, 34]) ((L i).2.flatMap (esc 3 vx vS 3)) w10 hb (by have := HB1.out; have := HSE.out; have := HVL.out; simp only [List.length_append, List.length_cons, List.length_nil]; omega))
        clear hrq hb hO KC HQ3 HB3 c2
        go_wp2_with fail
        refine KD.out.mono ?_
        rintro e w11 ⟨⟨r11, rfl⟩, v4, hb, hw⟩
        have HQ5 := Lib.hid (HQ4.out.next hb hw)
        have KE := Lib.hid (bd_byte sb v4 _ 34 w11 hb (by have := HB1.out; have := HSE.out; have := HVL.out; simp only [List.length_append, List.length_cons, List.length_nil]; omega))
        clear hb hw KD HQ4
        go_wp2_with fail
        refine KE.out.mono ?_
        rintro e w12 ⟨⟨r12, rfl⟩, v5, hb, hw⟩
        have HQ6 := Lib.hid (HQ5.out.next hb hw)
        clear hb hw KE HQ5
        go_wp2_with fail
        go_roundw
        case rel => exact ⟨i + 1, v5, by go_num, by omega, by rw [HLT.out, HLS.out]; exact HQ6.out⟩
        case measure => (simp only [intOf]; omega)
    · obtain rfl : i = n := by omega
      have t1 : decide ((i : Int) < (i : Int)) = false := decide_eq_false (by omega)
      have hle := HLE.out i (Nat.le_refl _)
      have KA := Lib.hid (bd_byte sb v _ 125 wr hQ.out.bd (by rw [List.length_append]; have : i * 2116 ≤ 17 * 2116 := Nat.mul_le_mul_right _ (by omega); omega))
      clear hle
      go_wp2_with fail
      refine KA.out.mono ?_
      rintro e w8 ⟨⟨r, rfl⟩, v1, hb, hw⟩
      have HQ1 := Lib.hid (hQ.out.next hb hw)
      have KB := Lib.hid (bd_done w sb v1 _ w8 hb (by simp) HQ1.out.only (by have := HQ1.out.hsb; have := HQ1.out.rq.1; omega))
      clear hb hw KA hQ
      go_wp2_with fail
      refine KB.out.mono ?_
      rintro e w9 ⟨rfl, hO⟩
      have HO := Lib.hid hO
      clear hO KB HQ1
      go_wp2_with fail
      go_ret
      refine ⟨?_, HO.out⟩
      rw [HT.out, List.append_assoc]
      rfl
end Go.Proofs.YtiijgghholhcnaaGreatDoor
