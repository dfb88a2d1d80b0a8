/- Lists of lists of lists of words that came in. -/
import Derived.Test.YtgcjhdcplmfjbaaBgw7
import Derived.Test.YtgcjhdcplmfjbaaRowk
import Derived.Test.YtgcjhdcplmfjbaaBulk
import Derived.Deep.Slices
namespace Go.Proofs.Ytgcjhdcplmfjbaa.rowb
open Go.ChangeShapes Go.WideShapes Go.ChangeAt Go.RowKit Go.Joins Go.Deep Bg rowk

theorem cells52 : Try.prog.cellsOf 52 = 1 := by kernel_rfl
theorem cells25 : Try.prog.cellsOf 25 = 1 := by kernel_rfl
theorem pick {α : Type} [Inhabited α] {m : Nat} {P : Nat → α → Prop} (h : ∀ i, i < m → ∃ x, P i x) : ∃ F : Nat → α, ∀ i, i < m → P i (F i) := by
  have : ∀ i, ∃ x, i < m → P i x := fun i => by
    by_cases q : i < m
    · obtain ⟨x, hx⟩ := h i q
      exact ⟨x, fun _ => hx⟩
    · exact ⟨default, fun e => absurd e q⟩
  exact Classical.skolem.1 this
theorem sum_bulk {H : Type} {D : Nat → DataW H} {len : Nat → Nat} : ∀ {m}, (∀ i, i < m → len i + 1 ≤ Rows.uptoBulk (D i)) → T1 len m ≤ Rows.uptoBulkAll ((List.range m).map D)
  | 0, _ => Nat.zero_le _
  | m + 1, h => by
    have h1 := sum_bulk (D := D) (len := len) (m := m) (fun i hi => h i (by omega))
    have h2 := h m (by omega)
    rw [List.range_succ, List.map_append, bulks.append]
    show T1 len m + (1 + len m) ≤ _
    simp only [List.map_cons, List.map_nil, Rows.uptoBulkAll]
    omega
section
variable {H : Type} {enc : TypeId × Value → H} {w : World} {base : Nat} {held : Bool}
theorem open1 {fuel : Nat} {v : Value} {x : DataW H × List MemPlace} (h : DataW.trod enc Try.prog w base (fun _ => true) held fuel 25 [v] = some x) :
    ∃ a l c us, v = .slice a l c ∧ Words w a l us ∧ l + 1 ≤ Rows.uptoBulk x.1 := by
  rcases open_ints Try.underlying25 Try.underlying22 (by kernel_rfl) h with ⟨hcs, hx⟩ | ⟨xa, l, cp, zs, hcs, _, hl, hm, hz, hx, hcell, hwz⟩
  · injection hcs with e _
    subst e
    exact ⟨none, 0, 0, fun _ => 0, rfl, ⟨fun j hj => by omega⟩, bulks.one_le _⟩
  · injection hcs with e _
    subst e
    have hz' : zs.length = cp := by simpa using hz
    refine ⟨_, l, cp, _, rfl, words_of hl hz' hcell hwz, ?_⟩
    rw [hx]
    have h3 := bulks.slice_le (lits (H := H) IntKind.u64 (List.take l zs)) (lits IntKind.u64 (List.drop l zs))
    simp only [lits, List.length_map, List.length_take, List.length_drop] at h3
    simp only [lits]
    omega
theorem one_val {a : Addr} {i : Nat} {cs' : List Value} (hc : w.cells? base (a.add (i * 1)) 1 = some cs') : ∃ u, cs' = [u] ∧ w.cell? (a.add i) = some u := by
  obtain ⟨_, hcl, hat⟩ := World.cells?_some hc
  have h0 := hat 0 (by omega)
  obtain ⟨u, rfl⟩ : ∃ u, cs' = [u] := by
    match cs', hcl with
    | [u], _ => exact ⟨u, rfl⟩
  rw [Nat.mul_one] at h0
  have e : (a.add i).add 0 = a.add i := by unfold Addr.add; simp
  rw [e] at h0
  exact ⟨u, rfl, by simpa using h0⟩
theorem no_spot {a : Addr} {cs' : List Value} (hc : w.cells? base (a.add (0 * 1)) 1 = some cs') : a.spot = none := by
  obtain ⟨u, _, h⟩ := one_val hc
  exact spot_none h
theorem one_cell {a : Addr} {i : Nat} {cs' : List Value} (hsp : a.spot = none) (hc : w.cells? base (a.add (i * 1)) 1 = some cs') : ∃ u b o, cs' = [u] ∧ a = ⟨b, o, none⟩ ∧ b < w.heap.size ∧ w.cell? ⟨b, o + i, none⟩ = some u := by
  obtain ⟨u, rfl, h1⟩ := one_val hc
  have h2 := add_at hsp h1
  exact ⟨u, a.block, a.off, rfl, by cases a; simp_all, World.block_lt_of_cell? w ⟨a.block, a.off + i, none⟩ h2, h2⟩
theorem open2 {fuel : Nat} {v : Value} {x : DataW H × List MemPlace} (h : DataW.trod enc Try.prog w base (fun _ => true) held fuel 52 [v] = some x) :
    ∃ a m c len f, v = .slice a m c ∧ Gl w a m len f ∧ T1 len m + 1 ≤ Rows.uptoBulk x.1 := by
  rcases open_slice Try.underlying52 h with ⟨hcs, hx⟩ | ⟨a, l, cap, m, n, D, Pl, hcs, hb, hl, hm, hmm, hx, hi⟩
  · injection hcs with e _
    subst e
    exact ⟨none, 0, 0, fun _ => 0, fun _ _ => 0, rfl, fun k hk => by omega, bulks.one_le _⟩
  · injection hcs with e _
    subst e
    rw [cells25] at hi
    have hlm : l ≤ m := by simp at hmm; omega
    have key : ∀ i, i < l → ∃ q : Nat × (Nat → Nat), q.1 + 1 ≤ Rows.uptoBulk (D i) ∧ ∃ b o r c, (some a : Option Addr) = some ⟨b, o, none⟩ ∧ b < w.heap.size ∧ w.cell? ⟨b, o + i, none⟩ = some (.slice r q.1 c) ∧ Words w r q.1 q.2 := fun i hil => by
      obtain ⟨c0, hc0, _⟩ := hi 0 (by omega)
      obtain ⟨cs', hc, ht'⟩ := hi i (by omega)
      obtain ⟨u, b, o, rfl, rfl, h1, h2⟩ := one_cell (no_spot hc0) hc
      obtain ⟨r, l1, c1, us, rfl, hw, hbk⟩ := open1 ht'
      exact ⟨(l1, us), hbk, b, o, r, c1, rfl, h1, h2, hw⟩
    obtain ⟨F, hF⟩ := pick key
    refine ⟨some a, l, cap, fun i => (F i).1, fun i => (F i).2, rfl, fun i hil => (hF i hil).2, ?_⟩
    have h1 := sum_bulk (D := D) (len := fun i => (F i).1) (m := l) (fun i hil => (hF i hil).1)
    subst hx
    dsimp only
    have h2 := bulks.slice_elems ((List.range l).map D) ((List.range (m - l)).map fun j => D (l + j))
    omega
theorem open3 {fuel : Nat} {v : Value} {x : DataW H × List MemPlace} (h : DataW.trod enc Try.prog w base (fun _ => true) held fuel 45 [v] = some x) :
    ∃ a n c m len f, v = .slice a n c ∧ Gs w a n m len f ∧ T2 m len n + 1 ≤ Rows.uptoBulk x.1 := by
  rcases open_slice Try.underlying45 h with ⟨hcs, hx⟩ | ⟨a, l, cap, m, n, D, Pl, hcs, hb, hl, hm, hmm, hx, hi⟩
  · injection hcs with e _
    subst e
    exact ⟨none, 0, 0, fun _ => 0, fun _ _ => 0, fun _ _ _ => 0, rfl, fun k hk => by omega, bulks.one_le _⟩
  · injection hcs with e _
    subst e
    rw [cells52] at hi
    have hlm : l ≤ m := by simp at hmm; omega
    have key : ∀ i, i < l → ∃ q : Nat × (Nat → Nat) × (Nat → Nat → Nat), T1 q.2.1 q.1 + 1 ≤ Rows.uptoBulk (D i) ∧ ∃ b o r c, (some a : Option Addr) = some ⟨b, o, none⟩ ∧ b < w.heap.size ∧ w.cell? ⟨b, o + i, none⟩ = some (.slice r q.1 c) ∧ Gl w r q.1 q.2.1 q.2.2 := fun i hil => by
      obtain ⟨c0, hc0, _⟩ := hi 0 (by omega)
      obtain ⟨cs', hc, ht'⟩ := hi i (by omega)
      obtain ⟨u, b, o, rfl, rfl, h1, h2⟩ := one_cell (no_spot hc0) hc
      obtain ⟨r, l1, c1, len, f, rfl, hw, hbk⟩ := open2 ht'
      exact ⟨(l1, len, f), hbk, b, o, r, c1, rfl, h1, h2, hw⟩
    obtain ⟨F, hF⟩ := pick key
    refine ⟨some a, l, cap, fun i => (F i).1, fun i => (F i).2.1, fun i => (F i).2.2, rfl, fun i hil => (hF i hil).2, ?_⟩
    have h1 := sum_bulk (D := D) (len := fun i => T1 (F i).2.1 (F i).1) (m := l) (fun i hil => (hF i hil).1)
    have h3 : ∀ k, T1 (fun i => T1 (F i).2.1 (F i).1) k = T2 (fun i => (F i).1) (fun i => (F i).2.1) k := fun k => by
      induction k with
      | zero => rfl
      | succ k ih => show T1 _ k + (1 + T1 _ _) = T2 _ _ k + (1 + T1 _ _); rw [ih]
    rw [h3] at h1
    subst hx
    dsimp only
    have h2 := bulks.slice_elems ((List.range l).map D) ((List.range (m - l)).map fun j => D (l + j))
    omega
end
end Go.Proofs.Ytgcjhdcplmfjbaa.rowb
