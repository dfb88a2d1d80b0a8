/- The walk of PairKeeps. -/
import Derived.Test.YtgcjhdcplmfjbaaDoes2
namespace Go.Proofs.Ytgcjhdcplmfjbaa
open Go.RowKit Flt

theorem run_store_float (P : Program) (w : World) (a : Addr) (k : FloatKind) (b : Nat) (m : Mode) : (store a (.float k b) m).run P w = stored P w a (.float k b) m := run_store P w a _ m rfl
attribute [local go_sem] run_store_float

theorem info22 : (Try.prog.info? 22).map (fun i => (i.zero, i.size, i.bytes)) = some (some (.int .u64 0), 1, 8) := by kernel_rfl
def low (x : Nat) : Nat := x / 2 * 2
theorem low_lt {x : Nat} (h : x < 18446744073709551616) : low x < 18446744073709551616 := by unfold low; omega
theorem low_bits (x : Nat) (h : x < 18446744073709551616) : bits BinOp.andNot IntKind.u64 (x : Int) 1 = ((low x : Nat) : Int) := by
  have h1 := u64_andNot_nat x 1 h (by omega)
  rw [show (18446744073709551615 - 1 : Nat) = 18446744073709551614 from rfl] at h1
  have h2 : x &&& 18446744073709551614 = low x := by
    apply Nat.eq_of_testBit_eq
    intro i
    rw [Nat.testBit_and]
    unfold low
    rw [show x / 2 * 2 = (x / 2) * 2 ^ 1 from rfl, Nat.testBit_mul_two_pow]
    cases i with
    | zero => simp
    | succ i =>
      have e1 : (x / 2).testBit (i + 1 - 1) = x.testBit (i + 1) := by rw [Nat.add_sub_cancel, Nat.testBit_div_two]
      rw [e1]
      by_cases hi : i < 63
      · have : (18446744073709551614 : Nat).testBit (i + 1) = true := by
          have e : (18446744073709551614 : Nat) = 2 ^ 64 - (1 + 1) := rfl
          rw [e, Nat.testBit_two_pow_sub_succ (by decide)]
          have : Nat.testBit 1 (i + 1) = false := by simp [Nat.testBit_succ]
          simp [this]; omega
        simp [this]
      · have : x.testBit (i + 1) = false := Nat.testBit_lt_two_pow (Nat.lt_of_lt_of_le h (by
          have : 2 ^ 64 ≤ 2 ^ (i + 1) := Nat.pow_le_pow_right (by omega) (by omega)
          simpa using this))
        simp [this]
  rw [h2] at h1; exact h1

def ext2 (us : Nat → Nat) (len : Nat) : Nat → Nat := fun j => if j < len then us j else if j = len then 4619567317775286272 else 4620693217682128896
theorem fvals_congr {f g : Nat → Nat} {n : Nat} (h : ∀ j, j < n → f j = g j) : fvals f n = fvals g n :=
  List.map_congr_left fun j hj => by rw [h j (by simpa using hj)]
theorem fvals_ext (us : Nat → Nat) (len : Nat) : fvals us len ++ [.float .f64 4619567317775286272, .float .f64 4620693217682128896] = fvals (ext2 us len) (len + 2) := by
  have e1 : fvals us len = fvals (ext2 us len) len := fvals_congr fun j hj => by unfold ext2; rw [if_pos hj]
  rw [← fvals_succ, ← fvals_succ, ← e1]
  have a : ext2 us len len = 4619567317775286272 := by unfold ext2; simp
  have b : ext2 us len (len + 1) = 4620693217682128896 := by unfold ext2; rw [if_neg (by omega), if_neg (by omega)]
  rw [a, b]; simp
def updN (e : Nat → Nat) (i v : Nat) : Nat → Nat := fun j => if j = i then v else e j
theorem fvals_set (e : Nat → Nat) (n i v : Nat) : (fvals e n).set i (.float .f64 v) = fvals (updN e i v) n := by
  apply List.ext_getElem?
  intro j
  by_cases hj : j = i
  · subst hj
    by_cases hn : j < n
    · simp [fvals, hn, updN]
    · simp [fvals, hn]
  · rw [List.getElem?_set_ne (by omega)]
    by_cases hn : j < n
    · simp [fvals, hn, updN, hj]
    · simp [fvals, hn]
def uvals (o : Nat → Nat) (k : Nat) : List Value := (List.range k).map fun j => Value.int .u64 (o j : Nat)
theorem uvals_succ (us : Nat → Nat) (k : Nat) : uvals us k ++ [Value.int .u64 (us k : Nat)] = uvals us (k + 1) := by
  simp [uvals, List.range_succ]

theorem row_floats {B : Nat} {w : World} {g n cap len : Nat} {e us : Nat → Nat} (h : w.ownsRow B 33 1 (.slice (some ⟨g, 0, none⟩) n cap) n (fvals e n)) (hl : len ≤ n) (he : ∀ j, j < len → e j = us j) (hu : ∀ j, j < len → us j < 18446744073709551616) : Floats w (some ⟨g, 0, none⟩) len us :=
  ⟨fun j hj => ⟨g, 0, rfl, (h.lt g rfl).2, by
    rw [Nat.zero_add, World.ownsRow.cellAt h j (by omega)]
    have : j < n := by omega
    simp [fvals, this, he j hj], hu j hj⟩⟩
theorem row_words {B : Nat} {w : World} {v : Value} {n : Nat} {o : Nat → Nat} (h : w.ownsRow B 22 1 v n (uvals o n)) (hu : ∀ j, j < n → o j < 18446744073709551616) : ∃ a cap, v = .slice a n cap ∧ Words w a n o := by
  rcases h.2 with ⟨rfl, rfl⟩ | ⟨g, cap, cur, rfl, hb, hblk, _⟩
  · exact ⟨none, 0, rfl, ⟨by omega⟩⟩
  · refine ⟨_, cap, rfl, ⟨fun j hj => ⟨g, 0, rfl, blk_lt hblk, ?_, hu j hj⟩⟩⟩
    rw [Nat.zero_add, World.ownsRow.cellAt h j (by omega)]
    simp [uvals, hj]

theorem fvals_at (f : Nat → Nat) (n j : Nat) (h : j < n) (x : Nat) (e : f j = x) : (fvals f n)[j]? = some (.float .f64 x) := by
  simp [fvals, h, e]
theorem uvals_at (f : Nat → Nat) (n j : Nat) (h : j < n) : (uvals f n)[j]? = some (.int .u64 (f j : Nat)) := by
  simp [uvals, h]
theorem own_block {B : Nat} {w : World} {v : Value} {n : Nat} {t : TypeId} {xs : List Value} (h : w.ownsRow B t 1 v n xs) (hn : 0 < n) : ∃ g cap, v = .slice (some ⟨g, 0, none⟩) n cap ∧ B ≤ g ∧ n ≤ cap ∧ cap ≤ maxLen := by
  rcases h.2 with ⟨_, h0⟩ | ⟨g, cap, cur, rfl, hb, _, h1, h2, _⟩
  · omega
  · exact ⟨g, cap, rfl, hb, h1, h2⟩
theorem news_new (w : World) (cs : Array Value) (t : TypeId) : ∀ j u, cs.toList[j]? = some u → (w.alloc (.cells cs t)).cell? ((⟨w.heap.size, 0, none⟩ : Addr).add j) = some u := by
  intro j u h
  rw [Addr.add_lit, Nat.zero_add, blk_cell (blk_new w _)]
  simpa using h
structure KR (w : World) (us : Nat → Nat) (len g cap : Nat) (k : Nat) (e : Nat → Nat) (ov : Value) (wr : World) : Prop where
  only : Only (fun _ => False) w wr
  row : wr.ownsRow w.heap.size 33 1 (.slice (some ⟨g, 0, none⟩) (len + 2) cap) (len + 2) (fvals e (len + 2))
  done : ∀ j, j < k → e j = low (us (len - 1 - j))
  other : wr.ownsRow w.heap.size 22 1 ov k (uvals (fun j => low (us (len - 1 - j))) k)
  apart : ov.ownBlock ≠ some g
def KL (w : World) (us : Nat → Nat) (len g cap : Nat) (ov i : Value) (wr : World) : Prop :=
  ∃ (k : Nat) (e : Nat → Nat), k ≤ len ∧ i = .int .i64 k ∧ KR w us len g cap k e ov wr

theorem KR.step {w wr w2 : World} {us : Nat → Nat} {len g cap k : Nat} {e : Nat → Nat} {ov ov' : Value} (h : KR w us len g cap k e ov wr) (hg : w.heap.size ≤ g) (_hk : k < len) (hgr : Grew (wr.alloc (.cells #[.int .u64 (low (us (len - 1 - k)) : Nat)] 22)) w2 ov ov' k)
    (ho : w2.ownsRow w.heap.size 22 1 ov' (k + 1) (uvals (fun j => low (us (len - 1 - j))) k ++ [.int .u64 (low (us (len - 1 - k)) : Nat)])) :
    KR w us len g cap (k + 1) (updN e k (low (us (len - 1 - k)))) ov' (w2.setCell ⟨g, k, none⟩ (.float .f64 (low (us (len - 1 - k))))) ∧ w2.ownsRow w.heap.size 33 1 (.slice (some ⟨g, 0, none⟩) (len + 2) cap) (len + 2) (fvals e (len + 2)) ∧ ov'.ownBlock ≠ some g := by
  have hrow := World.ownsRow.kept (h.row.alloc (.cells #[.int .u64 (low (us (len - 1 - k)) : Nat)] 22)) hgr.grown (.inr (fun q => h.apart q.symm))
  have hap : ov'.ownBlock ≠ some g := by
    rcases hgr.which with q | ⟨g2, q1, q2⟩
    · rw [q]; exact h.apart
    · rw [q1]
      have := (h.row.lt g rfl).2
      intro q; cases q
      simp at q2; omega
  refine ⟨⟨((h.only.alloc _).grown hgr.grown (fun b hb => .inl (h.other.lt b hb).1)).setCell (.inl hg) _, ?_, ?_, ?_, hap⟩, hrow, hap⟩
  · rw [← fvals_set]; exact (hrow.stored k _).1
  · intro j hj
    unfold updN
    by_cases e' : j = k
    · rw [if_pos e', e']
    · rw [if_neg e']; exact h.done j (by omega)
  · rw [uvals_succ (fun j => low (us (len - 1 - j)))] at ho
    exact ownsRow_setCell_other ho hap _

theorem eq7 : (FloatKind.f64.format.order 4619567317775286272 4619567317775286272 == some Ordering.eq) = true := by decide +kernel
theorem eq8 : (FloatKind.f64.format.order 4620693217682128896 4620693217682128896 == some Ordering.eq) = true := by decide +kernel
theorem ne7 : (FloatKind.f64.format.order 4619567317775286272 4619567317775286272 != some Ordering.eq) = false := by decide +kernel
theorem ne8 : (FloatKind.f64.format.order 4620693217682128896 4620693217682128896 != some Ordering.eq) = false := by decide +kernel

set_option maxRecDepth 100000 in
set_option maxHeartbeats 8000000 in
theorem keeps_any (a : Option Addr) (len cap : Nat) (us : Nat → Nat) (w : World) (hlen : (len + 2) * 8 ≤ 140737488355328) (hw : Words w a len us) :
    Calls Try.prog 6 #[.slice a len cap] w fun e w' => e = .returned (.bool true) ∧ Only (fun _ => False) w w' := by
  obtain ⟨i3, hi3, hz3, hs3, hb3⟩ := info_parts info33
  obtain ⟨i2, hi2, hz2, hs2, hb2⟩ := info_parts info22
  have hu : Hid (∀ j, j < len → us j < 18446744073709551616) := fun j hj => by obtain ⟨_, _, _, _, _, h⟩ := hw.at_ j hj; exact h
  have hw' := Lib.hid hw
  clear hw
  have k1 := run_tobits
  have k2 := run_frombits
  go_enter Try.func6, Try.ntmps6
  go_wp2_with fail
  refine (floats_any a len cap us _ (by omega) hw'.out).mono ?_
  rintro e w1 ⟨fv, rfl, O1, own1⟩
  have hsz1 := O1.size
  go_wp2_with (at_builtin; refine wpList_append_kept _ rfl _ _ 36 rfl 33 i3 (.float .f64 0) 1 8 Try.underlying36 hi3 hz3 hs3 hb3 rfl (by decide) w.heap.size _ _ _ rfl (own1.alloc _) ?c1 ⟨w1.heap.size, 0, none⟩ 2 2 [.float .f64 4619567317775286272, .float .f64 4620693217682128896] rfl rfl ?c2 ?c3 ?c4 ?c5 ?c6 ?_)
  case c1 => simp; omega
  case c2 => exact news_new w1 #[.float .f64 4619567317775286272, .float .f64 4620693217682128896] 33
  case c3 => simp [Value.oneCell']
  case c4 => omega
  case c5 => unfold maxLen; omega
  case c6 => omega
  intro v' w2 hgrew hown2
  rw [fvals_ext] at hown2
  have O2 := (O1.alloc (.cells #[.float .f64 4619567317775286272, .float .f64 4620693217682128896] 33)).grown hgrew.grown (fun g hg => .inl (own1.lt g hg).1)
  clear own1 hgrew O1
  obtain ⟨g, gc, rfl, hg1, hg2, hg3⟩ : ∃ g gc, v' = .slice (some ⟨g, 0, none⟩) (len + 2) gc ∧ len + 2 ≤ gc ∧ gc ≤ maxLen ∧ w.heap.size ≤ g := by
    rcases hown2.2 with ⟨_, h⟩ | ⟨g, gc, cur, rfl, hb, _, h1, h2, _⟩
    · omega
    · exact ⟨g, gc, rfl, h1, h2, hb⟩
  unfold maxLen at hg2
  have hrow := Lib.hid hown2
  have hfl := Lib.hid (row_floats (len := len) (us := us) hown2 (by omega) (fun j hj => by unfold ext2; rw [if_pos hj]) hu.out)
  clear hown2
  go_wp2_with fail
  refine (pof_any _ len gc us _ (by omega) hfl.out).mono ?_
  rintro e w3 ⟨m, rfl, hm1, hm2, S3⟩
  have hm1' := Lib.hid hm1
  have hm2' := Lib.hid hm2
  have hrow3 := Lib.hid (World.ownsRow.kept hrow.out (S3.grown none) (by simp [Value.ownBlock]))
  have O3 := O2.trans (S3.only _)
  clear hm1 hm2 S3 O2 hrow hfl
  go_wp2_with fail
  go_loopw [6] (fun i wr => ∃ k : Nat, k ≤ len ∧ i = .int .i64 k ∧ Still w3 wr) (fun i _ => len - (intOf i).toNat)
  case atStart => exact ⟨0, Nat.zero_le _, rfl, Still.refl _⟩
  case round =>
    obtain ⟨k, hk, rfl, hst⟩ := hrel
    by_cases hlt : k < len
    · obtain ⟨p, o, rfl, hp, hc, hul⟩ := hw'.out.at_ k hlt
      have hc1 : w3.cell? ⟨g, k, none⟩ = some (.float .f64 (us k)) := by
        rw [World.ownsRow.cellAt hrow3.out k (by omega)]
        have : k < len + 2 := by omega
        simp [fvals, this, ext2, hlt]
      have hc2 : w3.cell? ⟨p, o + k, none⟩ = some (.int .u64 (us k : Nat)) := (O3.cellAt hp (by simp) (o + k)).trans hc
      rw [← hst.cell] at hc1 hc2
      have g1 : ((us k : Int) != (us k : Int)) = false := by simp
      clear hc hul
      go_wp2_with fail
      go_quiet (fail)
      go_wp2_with fail
      go_roundw
      case rel => exact ⟨k + 1, by omega, by go_num, hst.drewN _⟩
      case measure => simp [intOf]; omega
    · obtain rfl : k = len := by omega
      have hc7 : w3.cell? ⟨g, k, none⟩ = some (.float .f64 4619567317775286272) := by
        rw [World.ownsRow.cellAt hrow3.out k (by omega)]; exact fvals_at _ _ _ (by omega) _ (by unfold ext2; rw [if_neg (by omega), if_pos rfl])
      have hc8 : w3.cell? ⟨g, k + 1, none⟩ = some (.float .f64 4620693217682128896) := by
        rw [World.ownsRow.cellAt hrow3.out (k + 1) (by omega)]; exact fvals_at _ _ _ (by omega) _ (by unfold ext2; rw [if_neg (by omega), if_neg (by omega)])
      rw [← hst.cell] at hc7 hc8
      have hrow4 := Lib.hid (World.ownsRow.kept hrow3.out (hst.grown none) (by simp [Value.ownBlock]))
      have O4 := O3.trans (hst.only _)
      have q1 := eq7
      have q2 := eq8
      have q3 := ne7
      have q4 := ne8
      clear hst O3 hrow3
      go_wp2_with fail
      refine (rof_any a k cap us _ (by omega) (hw'.out.kept O4 (by simp))).mono ?_
      rintro e w5 ⟨rfl, O5⟩
      go_wp2_with fail
      refine (lawsame_any m (rof us k) _ hm2'.out (rof_ok us k) hm1'.out).mono ?_
      rintro e w6 ⟨rfl, O6⟩
      have O456 := (O4.trans O5).trans O6
      have hrow6 := Lib.hid (World.ownsRow.kept (World.ownsRow.kept hrow4.out (row := none) ⟨O5.os, O5.tape, O5.output, O5.size, fun i hi _ => O5.block i hi (by simp)⟩ (by simp [Value.ownBlock])) (row := none) ⟨O6.os, O6.tape, O6.output, O6.size, fun i hi _ => O6.block i hi (by simp)⟩ (by simp [Value.ownBlock]))
      clear q1 q2 q3 q4 hc7 hc8 O4 O5 O6 hrow4
      go_wp2_with fail
      have hst0 : Hid (KR w us k g gc 0 (ext2 us k) (.slice (some ⟨w6.heap.size, 0, none⟩) 0 0) (w6.alloc (.cells #[] 22))) :=
        ⟨O456.alloc _, hrow6.out.alloc _, by omega, World.ownsRow_lit _ #[] 0 O456.size (Nat.zero_le _) rfl, by have := (hrow6.out.lt g rfl).2; simp [Value.ownBlock]; omega⟩
      clear O456 hrow6
      go_loopw [7, 8] (fun ov i wr => KL w us k g gc ov i wr) (fun _ i _ => k - (intOf i).toNat)
      case atStart => exact ⟨0, _, Nat.zero_le _, rfl, hst0.out⟩
      case round =>
        obtain ⟨l, e, hl, rfl, hR⟩ := hrel
        by_cases hlt2 : l < k
        · obtain ⟨p, o, rfl, hp, hc, hul⟩ := hw'.out.at_ (k - 1 - l) (by omega)
          have hc2 := (hR.only.cellAt hp (by simp) (o + (k - 1 - l))).trans hc
          have hlb := low_bits (us (k - 1 - l)) hul
          have hadd : o + (k - 1 - l) = o + (k - 1 - l) := rfl
          have hR' := Lib.hid hR
          have hsz : w.heap.size ≤ wr.heap.size := hR.only.size
          clear hR hc hul hadd
          go_wp2_with (at_builtin; refine wpList_append_kept _ rfl _ _ 25 rfl 22 i2 (.int .u64 0) 1 8 Try.underlying25 hi2 hz2 hs2 hb2 rfl (by decide) w.heap.size _ _ _ rfl (hR'.out.other.alloc _) ?c1 ⟨wr.heap.size, 0, none⟩ 1 1 [.int .u64 (low (us (k - 1 - l)) : Nat)] rfl rfl ?c2 ?c3 ?c4 ?c5 ?c6 ?_)
          case c1 => simp; omega
          case c2 => exact cell_one_new _ _ _
          case c3 => simp [Value.oneCell']
          case c4 => omega
          case c5 => unfold maxLen; omega
          case c6 => omega
          intro ov' w8 hgrew hown8
          obtain ⟨hnx, hrow8, hap8⟩ := hR'.out.step hg3 hlt2 (by simpa using hgrew) hown8
          obtain ⟨g2, oc, rfl, hg21, hg22, hg23⟩ := own_block hown8 (by omega)
          have hco : w8.cell? ⟨g2, l, none⟩ = some (.int .u64 (low (us (k - 1 - l)) : Nat)) := by
            rw [World.ownsRow.cellAt hown8 l (by omega), uvals_succ (fun j => low (us (k - 1 - j)))]
            exact uvals_at _ _ _ (by omega)
          have hcf : w8.cell? ⟨g, l, none⟩ = some (.float .f64 (e l)) := by
            rw [World.ownsRow.cellAt hrow8 l (by omega)]
            exact fvals_at _ _ _ (by omega) _ rfl
          have hz := hrow8.frozenAt l
          have hnx' := Lib.hid hnx
          unfold maxLen at hg23
          clear hnx hrow8 hap8 hown8 hgrew hlb
          go_wp2_with fail
          go_roundw
          case rel => exact ⟨l + 1, _, by omega, by go_num, hnx'.out⟩
          case measure => simp [intOf]; omega
        · obtain rfl : l = k := by omega
          have hR' := Lib.hid hR
          clear hR
          go_wp2_with fail
          have hul : Hid (∀ j, j < l → low (us (l - 1 - j)) < 18446744073709551616) := fun j hj => low_lt (hu.out _ (by omega))
          refine (pof_any _ l gc (fun j => low (us (l - 1 - j))) _ (by omega) (row_floats hR'.out.row (by omega) hR'.out.done hul.out)).mono ?_
          rintro e7 w7 ⟨m7, rfl, hm71, hm72, S7⟩
          obtain ⟨oa, oc, rfl, hwo⟩ := row_words (World.ownsRow.kept hR'.out.other (S7.grown none) (by cases h : u7.ownBlock <;> simp)) hul.out
          have hwo' := Lib.hid hwo
          have hm71' := Lib.hid hm71
          have hm72' := Lib.hid hm72
          have O7 := hR'.out.only.trans (S7.only _)
          clear hm71 hm72 hwo S7
          go_wp2_with fail
          refine (rof_any oa l oc _ _ (by omega) hwo'.out).mono ?_
          rintro e8 w8 ⟨rfl, O8⟩
          go_wp2_with fail
          refine (lawsame_any m7 (rof (fun j => low (us (l - 1 - j))) l) _ hm72'.out (rof_ok _ l) hm71'.out).mono ?_
          rintro e9 w9 ⟨rfl, O9⟩
          go_wp2_with fail
          refine (fixed_any _).mono ?_
          rintro e10 w10 ⟨rfl, O10⟩
          go_wp2_with fail
          go_ret
          exact ⟨rfl, ((O7.trans O8).trans O9).trans O10⟩
end Go.Proofs.Ytgcjhdcplmfjbaa
