/- The walk of the order of calls; what the sort needs. -/
import Derived.Test.YtlipngdfhpaodaaGreatJla
import Derived.Test.YtlipngdfhpaodaaGreatLho
namespace Go.Proofs.YtlipngdfhpaodaaGreat.Lo
open Go.RowKit Srt

/-- the box of the history, and nothing of what came in has changed -/
structure HB (W : World) (hb : Nat) (a : Option Addr) (m cp : Nat) (x : Int) (g : Nat) (w : World) : Prop where
  ge : W.heap.size ≤ g
  ne : hb ≠ g
  box : w.heap[hb]? = some (.cells #[.slice a m cp, .int .i64 x] 90 (0, 0))
  only : Only (fun k => W.heap.size ≤ k) W w
theorem HB.keep {W : World} {hb : Nat} {a : Option Addr} {m cp : Nat} {x : Int} {g : Nat} {w w' : World} (h : HB W hb a m cp x g w) (O : Only (· = g) w w') : HB W hb a m cp x g w' :=
  ⟨h.ge, h.ne, O.blk h.box h.ne, h.only.trans (O.mono fun k _ e => by subst e; exact h.ge)⟩
set_option maxHeartbeats 2000000 in
set_option maxRecDepth 100000 in
theorem cmp_at {W : World} {hb : Nat} {a : Option Addr} {m cp : Nat} {x : Int} {L : Nat → Nat} {D : Nat → Nat → Dn} (hs : Hs W a m L D) {g : Nat} {w : World} (hH : HB W hb a m cp x g w) {t n t' n' : Nat} (h1 : t < m) (h2 : n < L t) (h3 : t' < m) (h4 : n' < L t') (hp : 0 < ptf D t n) (hp' : 0 < ptf D t' n') :
    Calls Tryz.prog 86 #[.agg #[.int .i64 (t : Nat), .int .i64 (n : Nat)], .agg #[.int .i64 (t' : Nat), .int .i64 (n' : Nat)], .pointer (some ⟨hb, 0, none⟩)] w fun e w' => e = .returned (.int .i64 (ptf D t n - ptf D t' n')) ∧ Only (fun _ => False) w w' := by
  obtain ⟨b, o, A, c1, rfl, q1, q2, q3, q4⟩ := hs.row t h1
  obtain ⟨b', o', A', c1', e, q1', q2', q3', q4'⟩ := hs.row t' h3
  injection e with e
  injection e with e1 e2
  subst e1; subst e2
  obtain ⟨bi, oi, rfl, r1, r2⟩ := q4 n h2
  obtain ⟨bi', oi', rfl, r1', r2'⟩ := q4' n' h4
  have v7 : W.cell? ⟨bi, oi + n * 11 + 7, none⟩ = some (.int .i64 (ptf D t n)) := r2 7 (by decide)
  have v7' : W.cell? ⟨bi', oi' + n' * 11 + 7, none⟩ = some (.int .i64 (ptf D t' n')) := r2' 7 (by decide)
  have d2 : -9223372036854775808 ≤ ptf D t n ∧ ptf D t n ≤ 9223372036854775807 := hs.pt t n h1 h2
  have d3 : -9223372036854775808 ≤ ptf D t' n' ∧ ptf D t' n' ≤ 9223372036854775807 := hs.pt t' n' h3 h4
  have hml := hs.len
  have O := hH.only
  have hx := hH.box
  obtain ⟨W0, hW⟩ : ∃ W0, W0 = (w.alloc (.cells #[.int .i64 (t : Nat), .int .i64 (n : Nat)] 72)).alloc (.cells #[.int .i64 (t' : Nat), .int .i64 (n' : Nat)] 72) := ⟨_, rfl⟩
  have O0 : Only (fun _ => False) w W0 := by rw [hW]; exact ((Only.refl (fun _ => False) w).alloc _).alloc _
  have s1 : (w.alloc (.cells #[.int .i64 (t : Nat), .int .i64 (n : Nat)] 72)).heap.size = w.heap.size + 1 := by simp
  have u0 : W0.heap[w.heap.size]? = some (.cells #[.int .i64 (t : Nat), .int .i64 (n : Nat)] 72 (0, 0)) := by rw [hW]; exact blk_alloc (blk_new _ _) _
  have u1 : W0.heap[w.heap.size + 1]? = some (.cells #[.int .i64 (t' : Nat), .int .i64 (n' : Nat)] 72 (0, 0)) := by rw [hW, ← s1]; exact blk_new _ _
  have O2 : Only (fun k => W.heap.size ≤ k) W W0 := O.trans (O0.mono fun _ _ q => q.elim)
  rw [← O2.cellAt q1 (by omega)] at q2 q2'
  rw [← O2.cellAt r1 (by omega)] at v7
  rw [← O2.cellAt r1' (by omega)] at v7'
  have cb : W0.cell? ⟨hb, 0, none⟩ = some (.slice (some ⟨b, o, none⟩) m cp) := by rw [blk_cell (O0.blk hx id)]; rfl
  have x0 : W0.cell? ⟨w.heap.size, 0, none⟩ = some (.int .i64 (t : Nat)) := by rw [blk_cell u0]; rfl
  have x1 : W0.cell? ⟨w.heap.size, 1, none⟩ = some (.int .i64 (n : Nat)) := by rw [blk_cell u0]; rfl
  have y0 : W0.cell? ⟨w.heap.size + 1, 0, none⟩ = some (.int .i64 (t' : Nat)) := by rw [blk_cell u1]; rfl
  have y1 : W0.cell? ⟨w.heap.size + 1, 1, none⟩ = some (.int .i64 (n' : Nat)) := by rw [blk_cell u1]; rfl
  have wsub : IntKind.i64.wrap (ptf D t n - ptf D t' n') = ptf D t n - ptf D t' n' := by rw [IntKind.wrap_i64]; omega
  have O' := Lib.hid O0
  have HW := Lib.hid hW
  clear hW O0 u0 u1 O2 s1
  clear hs hH O hx q4 q4' r2 r2' d2 d3 hp hp'
  generalize ptf D t n = P at *
  generalize ptf D t' n' = P' at *
  go_enter Tryz.func86, Tryz.ntmps86
  go_wp2_with fail
  rw [← HW.out]
  go_region
  all_goals
    go_wp2_with fail
    go_ret
    exact ⟨rfl, O'.out.drew⟩
/-- the sort's premises at a history -/
def ho (W : World) (hb : Nat) (a : Option Addr) (m cp : Nat) (x : Int) (L : Nat → Nat) (D : Nat → Nat → Dn) (hs : Hs W a m L D) (sz : Nat) (hT : tots L m < 4294967296) : Ho where
  hb := hb
  M := (coll (ptf D) L m).length
  sz := sz
  T := Tf (coll (ptf D) L m)
  N := Nf (coll (ptf D) L m)
  P := Pf (ptf D) (coll (ptf D) L m)
  H := fun g w => HB W hb a m cp x g w
  lt := by have := coll_len (ptf D) L m; omega
  keep := fun h O => h.keep O
  cmp := fun g i j w h hi hj => by
    obtain ⟨a1, a2, a3⟩ := mem_coll (at_mem hi)
    obtain ⟨b1, b2, b3⟩ := mem_coll (at_mem hj)
    exact cmp_at hs h a1 a2 b1 b2 a3 b3
end Go.Proofs.YtlipngdfhpaodaaGreat.Lo
