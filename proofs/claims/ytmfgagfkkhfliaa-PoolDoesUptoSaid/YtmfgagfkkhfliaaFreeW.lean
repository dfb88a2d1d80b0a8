/- The walk of the law's 'free': Free twice, against the reference's; what comes out is its owner's. -/
import Derived.Test.YtmfgagfkkhfliaaLawFree
namespace Go.Proofs.Ytmfgagfkkhfliaa
open Go.RowKit

theorem rep_get {n j : Nat} {u : Value} (h : j < n) : (List.replicate n u)[j]? = some u := by simp [h]

def AU (w : World) (B n : Nat) (ax ay : Option Addr) (u v i : Value) (wr : World) : Prop := ∃ k : Nat, k ≤ 20 ∧ i = .int .i64 k ∧ Half w wr B n ax ay u v k k
def CH (n : Nat) (a i : Value) : Prop := ∃ k : Nat, k ≤ n + 20 ∧ i = .int .i64 k ∧ a = .bool true

theorem own_only {B : Nat} {w w' : World} {v : Value} {l : List Nat} (h : Own B w v l) (ho : Only (fun _ => False) w w') : Own B w' v l :=
  World.ownsRow.kept h ⟨ho.os, ho.tape, ho.output, ho.size, fun k hk _ => ho.block k hk (by simp)⟩ (row := none) (by cases v.ownBlock <;> simp)

set_option maxRecDepth 100000 in
set_option maxHeartbeats 4000000 in
theorem free_any (pb rb tb n F : Nat) (T : Nat → Bool) (w : World) (hp : PoolAt w pb n F) (hF : F < 65536) (hn : n ≤ 16) (hr : RefAt w rb tb n T) (hs : ∀ j, j < n → F.testBit j = !T j) :
    Calls Try.prog 14 #[.pointer (some ⟨pb, 0, none⟩), .pointer (some ⟨rb, 0, none⟩)] w fun e w' => e = .returned (.bool true) ∧ Only (fun _ => False) w w' := by
  obtain ⟨i3, hi3, hz3, hs3, hb3⟩ := info_parts info3
  have hsel := Lib.hid (sel_congr F.testBit (fun j => !T j) n hs); clear hs
  have hls := sel_le (fun j => !T j) n
  go_enter Try.func14, Try.ntmps14
  go_wp2_with fail
  refine (rfree_any rb tb n T _ hr hn).mono ?_
  rintro e w1 ⟨wv, rfl, O1, own1⟩
  go_wp2_with fail
  refine (pfree_any pb n F _ (O1.blk hp (by simp)) hF hn).mono ?_
  rintro e w2 ⟨xv, rfl, O2, own2⟩
  go_wp2_with fail
  refine (pfree_any pb n F _ ((O1.trans O2).blk hp (by simp)) hF hn).mono ?_
  rintro e w3 ⟨yv, rfl, O3, own3⟩
  clear hp hr
  rw [hsel.out] at own2 own3
  generalize hL : sel (fun j => !T j) n = L at own1 own2 own3 hls
  clear hL hsel
  have own1' := own_only (own_only own1 O2) O3
  have own2' := own_only own2 O3
  have hap : Hid (∀ g h, xv.ownBlock = some g → yv.ownBlock = some h → g < h) := fun g h e1 e2 => by
    have q1 := (own2.lt g e1).2
    have q2 := (own3.lt h e2).1
    omega
  have hB : w1.heap.size ≤ w3.heap.size := Nat.le_trans O2.size O3.size
  have hB2 : w1.heap.size ≤ w2.heap.size := O2.size
  have O123 := (O1.trans O2).trans O3
  have hbase := O1.size
  clear own1 own2 O1 O2 O3
  go_wp2_with fail
  refine (same_any _ _ w3 xv wv L (by omega) own2' own1').mono ?_
  rintro e w4 ⟨rfl, S4⟩
  go_wp2_with fail
  refine (same_any _ _ w4 yv wv L (by omega) (own_only own3 (S4.only _)) (own_only own1' (S4.only _))).mono ?_
  rintro e w5 ⟨rfl, S5⟩
  have S45 := S4.trans S5
  have hx0 := own_only own2' (S45.only _)
  have hy0 := own_only own3 (S45.only _)
  have O5 := O123.trans (S45.only _)
  have hB5 : w1.heap.size ≤ w5.heap.size := by rw [S45.heap]; exact hB
  clear own1' own2' own3 S4 S5 S45 O123
  obtain ⟨ax, cx, rfl, hc1, hc2, hax⟩ := own_form hx0
  obtain ⟨ay, cy, rfl, hd1, hd2, hay⟩ := own_form hy0
  have hax' := Lib.hid hax; clear hax
  have hay' := Lib.hid hay; clear hay
  unfold maxLen at hc2 hd2
  have hvl : (vals L).length = L.length := by simp [vals]
  have h2 : Two w w5 w1.heap.size L.length ax ay cx cy (vals L) (vals L) := by
    refine ⟨O5, hbase, hB5, hx0, ?_, fun g h e1 e2 => Nat.ne_of_lt (hap.out g h (by rw [e1]; rfl) (by rw [e2]; rfl))⟩
    refine ⟨hy0.1, ?_⟩
    rcases hy0.2 with q | ⟨g, cap, cur, hv, hg, r⟩
    · exact .inl q
    · exact .inr ⟨g, cap, cur, hv, by omega, r⟩
  have hnum := Lib.hid hvl
  clear hvl hap hx0 hy0 O5
  generalize hm : L.length = m at *
  clear hm
  have h2' := Lib.hid h2; clear h2
  go_wp2_with fail
  -- loop 1
  go_loopw [10] (fun i wr => A1 w w1.heap.size m ax ay cx cy (vals L) i wr) (fun i _ => m - (intOf i).toNat)
  case atStart => exact ⟨0, _, Nat.zero_le _, rfl, h2'.out, fun j hj => by omega⟩
  case round =>
    obtain ⟨k, xs, hk, rfl, hT, hdone⟩ := hrel
    have hdone' := Lib.hid hdone; clear hdone
    by_cases hlt : k < m
    · obtain ⟨g, rfl, hg⟩ := hax'.out k hlt
      have hxl : xs.length = m := by have := hT.x.1; omega
      have hc : wr.cell? ⟨g, k, none⟩ = some xs[k] := by rw [own_cell hT.x k hlt]; simp
      have hz := hT.x.frozenAt k
      have hnx := Lib.hid (hT.setx hg k (num (-1)))
      have hnd : Hid (∀ j, j < k + 1 → (xs.set k (num (-1)))[j]? = some (num (-1))) := by
        intro j hj
        by_cases e : j = k
        · subst e; rw [List.getElem?_set_self (by omega)]
        · rw [List.getElem?_set_ne (by omega)]; exact hdone'.out j (by omega)
      generalize xs[k] = old at hc
      have hxl' := Lib.hid hxl
      clear hT hxl
      go_wp2_with fail
      go_roundw
      case rel => exact ⟨k + 1, _, by omega, by go_num, hnx.out, hnd.out⟩
      case measure => simp [intOf]; omega
    · obtain rfl : k = m := by omega
      have hT' := Lib.hid hT; clear hT
      go_wp2_with fail
      -- loop 2
      go_loopw [11] (fun i wr' => A2 w w1.heap.size k ax ay cx cy xs i wr') (fun i _ => k - (intOf i).toNat)
      case atStart => exact ⟨0, _, Nat.zero_le _, rfl, hT'.out, fun j hj => by omega⟩
      case round =>
        obtain ⟨l, ys, hl, rfl, hU, hdn⟩ := hrel
        have hdn' := Lib.hid hdn; clear hdn
        by_cases hlt2 : l < k
        · obtain ⟨g, rfl, hg⟩ := hay'.out l hlt2
          have hg2 : w1.heap.size ≤ g := by omega
          have hyl : ys.length = k := by have := hU.y.1; omega
          have hc : wr.cell? ⟨g, l, none⟩ = some ys[l] := by rw [own_cell hU.y l hlt2]; simp
          have hz := hU.y.frozenAt l
          have hnx := Lib.hid (hU.sety hg2 l (num (-2)))
          have hnd : Hid (∀ j, j < l + 1 → (ys.set l (num (-2)))[j]? = some (num (-2))) := by
            intro j hj
            by_cases e : j = l
            · subst e; rw [List.getElem?_set_self (by omega)]
            · rw [List.getElem?_set_ne (by omega)]; exact hdn'.out j (by omega)
          generalize ys[l] = old at hc
          have hyl' := Lib.hid hyl
          clear hU hyl
          go_wp2_with fail
          go_roundw
          case rel => exact ⟨l + 1, _, by omega, by go_num, hnx.out, hnd.out⟩
          case measure => simp [intOf]; omega
        · obtain rfl : l = k := by omega
          have hH := Lib.hid (hU.half hdone'.out hdn'.out)
          clear hU
          go_wp2_with fail
          go_loopw [12, 13, 14] (fun u v i wr => AU w w1.heap.size l ax ay u v i wr) (fun _ _ i _ => 20 - (intOf i).toNat)
          case atStart => exact ⟨0, by omega, rfl, hH.out⟩
          case round =>
            obtain ⟨j, hj, rfl, hG⟩ := hrel
            by_cases hlt3 : j < 20
            · have hG1 := Lib.hid (hG.alloc (.cells #[num (-1)] 3)); 
              have hsz0 := hG.size
              clear hG
              go_wp2_with (at_builtin; refine wpList_append_kept _ rfl (.tmp 53) (.tmp 54) 22 rfl 3 i3 (.int .i64 0) 1 8 Try.underlying22 hi3 hz3 hs3 hb3 rfl (by decide) w1.heap.size _ _ _ rfl hG1.out.hu ?c1 ⟨wr.heap.size, 0, none⟩ 1 1 [num (-1)] rfl rfl ?c2 ?c3 ?c4 ?c5 ?c6 ?_)
              case c1 => simp; omega
              case c2 => exact cell_one_new _ _ _
              case c3 => simp [num, Value.oneCell']
              case c4 => omega
              case c5 => unfold maxLen; omega
              case c6 => omega
              intro u' w6 hgrew hown6
              have hG2 := hG1.out.growu hgrew hown6
              have hG3 := Lib.hid (hG2.alloc (.cells #[num (-2)] 3))
              have hsz1 := hG2.size
              clear hG1 hG2 hgrew hown6
              go_wp2_with (at_builtin; refine wpList_append_kept _ rfl (.tmp 56) (.tmp 57) 22 rfl 3 i3 (.int .i64 0) 1 8 Try.underlying22 hi3 hz3 hs3 hb3 rfl (by decide) w1.heap.size _ _ _ rfl hG3.out.hv ?c1 ⟨w6.heap.size, 0, none⟩ 1 1 [num (-2)] rfl rfl ?c2 ?c3 ?c4 ?c5 ?c6 ?_)
              case c1 => simp; omega
              case c2 => exact cell_one_new _ _ _
              case c3 => simp [num, Value.oneCell']
              case c4 => omega
              case c5 => unfold maxLen; omega
              case c6 => omega
              intro v' w7 hgrew hown7
              have hG4 := Lib.hid (hG3.out.growv hgrew hown7)
              clear hG3 hgrew hown7
              go_wp2_with fail
              go_roundw
              case rel => exact ⟨j + 1, by omega, by go_num, hG4.out⟩
              case measure => simp [intOf]; omega
            · obtain rfl : j = 20 := by omega
              have hG1 := Lib.hid hG; clear hG
              go_wp2_with fail
              have hu0 := hG1.out.hu
              obtain ⟨au, cu, rfl, _, hcu, hau⟩ := own_form hu0
              have hv0 := hG1.out.hv
              obtain ⟨av, cv, rfl, _, hcv, hav⟩ := own_form hv0
              have hau' := Lib.hid hau; clear hau
              have hav' := Lib.hid hav; clear hav
              have hu0' := Lib.hid hu0; clear hu0
              have hv0' := Lib.hid hv0; clear hv0
              unfold maxLen at hcu hcv
              go_loop [8, 15] (fun a i => CH l a i) (fun _ i => l + 20 - (intOf i).toNat)
              case atStart => exact ⟨0, by omega, rfl, rfl⟩
              case round =>
                obtain ⟨k, hk, rfl, rfl⟩ := hrel
                by_cases hlt4 : k < l + 20
                · obtain ⟨g, rfl, _⟩ := hau'.out k hlt4
                  have hc : wr.cell? ⟨g, k, none⟩ = some (.int .i64 (-1)) := by rw [own_cell hu0'.out k hlt4, rep_get hlt4]; rfl
                  by_cases hlt5 : k < l
                  · obtain ⟨g5, rfl, _⟩ := hax'.out k hlt5
                    have hc5 : wr.cell? ⟨g5, k, none⟩ = some (.int .i64 (-1)) := (hG1.out.hx g5 rfl).2 k hlt5
                    go_wp2_with fail
                    go_round
                    case rel => exact ⟨k + 1, by omega, by go_num, rfl⟩
                    case measure => simp [intOf]; omega
                  · go_wp2_with fail
                    go_round
                    case rel => exact ⟨k + 1, by omega, by go_num, rfl⟩
                    case measure => simp [intOf]; omega
                · go_wp2_with fail
                  go_loop [9, 16] (fun a i => CH l a i) (fun _ i => l + 20 - (intOf i).toNat)
                  case atStart => exact ⟨0, by omega, rfl, rfl⟩
                  case round =>
                    obtain ⟨k2, hk2, rfl, rfl⟩ := hrel
                    by_cases hlt4 : k2 < l + 20
                    · obtain ⟨g, rfl, _⟩ := hav'.out k2 hlt4
                      have hc : wr.cell? ⟨g, k2, none⟩ = some (.int .i64 (-2)) := by rw [own_cell hv0'.out k2 hlt4, rep_get hlt4]; rfl
                      by_cases hlt5 : k2 < l
                      · obtain ⟨g5, rfl, _⟩ := hay'.out k2 hlt5
                        have hc5 : wr.cell? ⟨g5, k2, none⟩ = some (.int .i64 (-2)) := (hG1.out.hy g5 rfl).2 k2 hlt5
                        go_wp2_with fail
                        go_round
                        case rel => exact ⟨k2 + 1, by omega, by go_num, rfl⟩
                        case measure => simp [intOf]; omega
                      · go_wp2_with fail
                        go_round
                        case rel => exact ⟨k2 + 1, by omega, by go_num, rfl⟩
                        case measure => simp [intOf]; omega
                    · go_wp2_with fail
                      go_ret
                      exact ⟨rfl, hG1.out.only⟩
end Go.Proofs.Ytmfgagfkkhfliaa
