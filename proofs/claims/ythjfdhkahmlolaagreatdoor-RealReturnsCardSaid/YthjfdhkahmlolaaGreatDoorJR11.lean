/- What the pinned table pow10Tab gives the walks. -/
import Derived.Test.YthjfdhkahmlolaaGreatDoorJR10
import Derived.Test.YthjfdhkahmlolaaGreatDoorJR08
namespace Go.Proofs.YthjfdhkahmlolaaGreatDoor
open Go.RowKit
set_option maxRecDepth 100000
theorem cells194 : Tryz.prog.cellsOf 194 = 2 := by kernel_rfl
theorem cells195 : Tryz.prog.cellsOf 195 = 1392 := by kernel_rfl
theorem tab_of {W : World} {l : List (String × DataW Unit)} {ps : List MemPlace} (h : DataW.LaidVars Tryz.prog W l ps) (hm : ("internal/strconv.pow10Tab", Rows.laid_internal_strconv_pow10Tab) ∈ l) : Tab W := by
  obtain ⟨g, t, cs, fuel, p, hg, ht, hv, hd⟩ := laid_at h _ _ hm
  obtain rfl := Option.some.inj (gl13.symm.trans hg)
  obtain rfl := Option.some.inj (t13.symm.trans ht)
  obtain ⟨xs, m, rfl, hx, hlen, hn, hel⟩ := DataW.trod_array Tryz.underlying195 hd
  have c24 : Tryz.prog.cellsOf 24 = 1 := by kernel_rfl
  have hmap : xs.map (·.1) = Go.Pinned.pow10Rows.map fun x => (DataW.agg [.lit (.int .u64 x.1), .lit (.int .u64 x.2)] : DataW Unit) := by
    have := congrArg Prod.fst hx
    simp only [Rows.laid_internal_strconv_pow10Tab, Go.Pinned.pow10Tab, DataW.agg.injEq] at this
    exact this.symm
  refine ⟨fun i hi => ?_⟩
  have e := hel i hi
  have hxi : i < xs.length := by omega
  have hpi : i < Go.Pinned.pow10Rows.length := by rw [rows_len]; exact hi
  rw [cells194, List.getElem?_eq_getElem hxi] at e
  have hy : (xs[i]).1 = DataW.agg [.lit (.int .u64 (Go.Pinned.pow10Rows[i]).1), .lit (.int .u64 (Go.Pinned.pow10Rows[i]).2)] := by
    have := congrArg (·[i]?) hmap
    simp only [List.getElem?_map, List.getElem?_eq_getElem hxi, List.getElem?_eq_getElem hpi, Option.map_some, Option.some.injEq] at this
    exact this
  obtain ⟨ys, n, rfl, hyx, hylen, hyn, hyel⟩ := DataW.trod_struct Tryz.underlying194 e
  have h0 := hyel 0 _ rfl
  have h1 := hyel 1 _ rfl
  generalize hcs : (cs.toList.drop (i * 2)).take 2 = cc at *
  change DataW.trod _ Tryz.prog W 0 _ false n 24 ((cc.drop 0).take (Tryz.prog.cellsOf 24)) = _ at h0
  change DataW.trod _ Tryz.prog W 0 _ false n 24 ((cc.drop 1).take (Tryz.prog.cellsOf 24)) = _ at h1
  rw [c24] at h0 h1
  rw [cells194] at hylen
  match cc, hylen, ys, hyn with
  | [a, b], _, [x0, x1], _ =>
    rw [hyx] at hy
    simp only [DataW.agg.injEq, List.map_cons, List.map_nil, List.cons.injEq] at hy
    obtain ⟨k0, e0, f0, _⟩ := DataW.trod_int Tryz.underlying24 (show DataW.trod _ Tryz.prog W 0 _ false n 24 _ = some x0 from h0)
    obtain ⟨k1, e1, f1, _⟩ := DataW.trod_int Tryz.underlying24 (show DataW.trod _ Tryz.prog W 0 _ false n 24 _ = some x1 from h1)
    have q0 : k0 = (Go.Pinned.pow10Rows[i]).1 := by have := hy.1; rw [f0] at this; simpa using this
    have q1 : k1 = (Go.Pinned.pow10Rows[i]).2 := by have := hy.2.1; rw [f1] at this; simpa using this
    simp at e0 e1
    rw [e0, e1, q0, q1] at hcs
    refine ⟨Go.Pinned.pow10Rows[i], List.getElem?_eq_getElem hpi, ?_, ?_⟩
    · have v := World.var?_cell hg hv (i * 2)
      have c : cs.toList[i * 2]? = some (.int .u64 (Go.Pinned.pow10Rows[i]).1) := by
        have := congrArg (·[0]?) hcs
        simpa [List.getElem?_take, List.getElem?_drop] using this
      rw [v]; simpa using c
    · have v := World.var?_cell hg hv (i * 2 + 1)
      have c : cs.toList[i * 2 + 1]? = some (.int .u64 (Go.Pinned.pow10Rows[i]).2) := by
        have := congrArg (·[1]?) hcs
        simpa [List.getElem?_take, List.getElem?_drop] using this
      rw [v]; simpa using c
end Go.Proofs.YthjfdhkahmlolaaGreatDoor

/- What readFloat makes of a text's digits, as a plain function. -/
namespace Go.Proofs.YthjfdhkahmlolaaGreatDoor
/-- the bytes of a text as numbers -/
def bl (s : ByteArray) : List Nat := s.data.toList.map UInt8.toNat
theorem bl_size (s : ByteArray) : s.size = (bl s).length := by unfold bl; rw [List.length_map]; rfl
theorem bl_at {s : ByteArray} {pre r : List Nat} {c : Nat} (h : bl s = pre ++ c :: r) (hj : pre.length < s.size) : (s[pre.length]'hj).toNat = c := by
  have h1 : (bl s)[pre.length]? = some c := by rw [h]; simp
  unfold bl at h1
  rw [List.getElem?_map] at h1
  have h2 : s.data.toList[pre.length]? = some (s[pre.length]'hj) := by
    rw [List.getElem?_eq_getElem (by simpa using hj)]
    rfl
  rw [h2] at h1
  simpa using h1
theorem bl_lt {s : ByteArray} {c : Nat} (h : c ∈ bl s) : c < 256 := by
  unfold bl at h
  obtain ⟨x, _, rfl⟩ := List.mem_map.1 h
  exact x.toNat_lt
structure St where
  m : Nat
  nd : Nat
  nM : Nat
  dp : Int
  dot : Bool
  dig : Bool
  tr : Bool
  und : Bool
def St.zero : St := ⟨0, 0, 0, 0, false, false, false, false⟩
def St.put (s : St) (c : Nat) : Option St :=
  if c = 95 then some { s with und := true }
  else if c = 46 then (if s.dot then none else some { s with dot := true, dp := s.nd })
  else if 48 ≤ c ∧ c ≤ 57 then
    (if c = 48 ∧ s.nd = 0 then some { s with dig := true, dp := s.dp - 1 }
     else if s.nM < 19 then some { s with dig := true, nd := s.nd + 1, m := s.m * 10 + (c - 48), nM := s.nM + 1 }
     else some { s with dig := true, nd := s.nd + 1, tr := s.tr || c != 48 })
  else none
def scan : St → List Nat → St × List Nat
  | s, [] => (s, [])
  | s, c :: r => match s.put c with
    | none => (s, c :: r)
    | some s' => scan s' r
def St.ok (s : St) (n : Nat) : Prop := s.m < 10 ^ s.nM ∧ s.nM ≤ 19 ∧ s.nM ≤ s.nd ∧ s.nd ≤ n ∧ -(n : Int) ≤ s.dp ∧ s.dp ≤ n
theorem St.zero_ok : St.zero.ok 0 := by unfold St.ok St.zero; simp
/-- the loop's variables -/
def RI (l : List Nat) (i0 : Nat) (tot : St × List Nat) (w : World) (v1 v4 v6 v8 v12 v13 v14 v15 v16 : Value) (wr : World) : Prop :=
  ∃ (pre rest : List Nat) (st : St), l = pre ++ rest ∧ i0 ≤ pre.length ∧ scan st rest = tot ∧ st.ok pre.length ∧ v1 = .int .u64 (st.m : Int) ∧ v4 = .bool st.tr ∧ v6 = .int .i64 ((pre.length : Nat) : Int) ∧ v8 = .bool st.und ∧ v12 = .bool st.dot ∧ v13 = .bool st.dig ∧ v14 = .int .i64 (st.nd : Int) ∧ v15 = .int .i64 (st.nM : Int) ∧ v16 = .int .i64 st.dp ∧ wr = w
theorem St.put_ok {s s2 : St} {c n : Nat} (h : s.ok n) (hp : s.put c = some s2) : s2.ok (n + 1) := by
  obtain ⟨a1, a2, a3, a4, a5, a6⟩ := h
  unfold St.put at hp
  unfold St.ok
  by_cases h1 : c = 95
  · rw [if_pos h1] at hp; cases hp; exact ⟨a1, a2, a3, by simp only; omega, by simp only; omega, by simp only; omega⟩
  rw [if_neg h1] at hp
  by_cases h2 : c = 46
  · rw [if_pos h2] at hp
    cases hd : s.dot
    · rw [hd] at hp; cases hp; exact ⟨a1, a2, a3, by simp only; omega, by simp only; omega, by simp only; omega⟩
    · rw [hd] at hp; cases hp
  rw [if_neg h2] at hp
  by_cases h3 : 48 ≤ c ∧ c ≤ 57
  · rw [if_pos h3] at hp
    by_cases h4 : c = 48 ∧ s.nd = 0
    · rw [if_pos h4] at hp; cases hp; exact ⟨a1, a2, a3, by simp only; omega, by simp only; omega, by simp only; omega⟩
    · rw [if_neg h4] at hp
      by_cases h5 : s.nM < 19
      · rw [if_pos h5] at hp; cases hp
        refine ⟨?_, by simp only; omega, by simp only; omega, by simp only; omega, by simp only; omega, by simp only; omega⟩
        simp only
        rw [Nat.pow_succ]
        omega
      · rw [if_neg h5] at hp; cases hp; exact ⟨a1, a2, by simp only; omega, by simp only; omega, by simp only; omega, by simp only; omega⟩
  · rw [if_neg h3] at hp; cases hp
theorem St.lt18 {s : St} {n : Nat} (h : s.ok n) : s.m < 10000000000000000000 ∧ (s.nM < 19 → s.m < 1000000000000000000) := by
  obtain ⟨a1, a2, _⟩ := h
  refine ⟨Nat.lt_of_lt_of_le a1 (Nat.le_trans (Nat.pow_le_pow_right (by decide) a2) (by decide)), fun h => Nat.lt_of_lt_of_le a1 (Nat.le_trans (Nat.pow_le_pow_right (by decide) (show s.nM ≤ 18 by omega)) (by decide))⟩
theorem RI.next {l : List Nat} {i0 : Nat} {tot : St × List Nat} {w : World} {pre r : List Nat} {c : Nat} {st st2 : St} {v1 v4 v6 v8 v12 v13 v14 v15 v16 : Value} (hl : l = pre ++ c :: r) (hi : i0 ≤ pre.length) (hsc : scan st (c :: r) = tot) (hok : st.ok pre.length) (hp : st.put c = some st2)
    (h1 : v1 = .int .u64 (st2.m : Int)) (h4 : v4 = .bool st2.tr) (h6 : v6 = .int .i64 ((pre.length : Int) + 1)) (h8 : v8 = .bool st2.und) (h12 : v12 = .bool st2.dot) (h13 : v13 = .bool st2.dig) (h14 : v14 = .int .i64 (st2.nd : Int)) (h15 : v15 = .int .i64 (st2.nM : Int)) (h16 : v16 = .int .i64 st2.dp) : RI l i0 tot w v1 v4 v6 v8 v12 v13 v14 v15 v16 w := by
  refine ⟨pre ++ [c], r, st2, by rw [hl]; simp, by simp; omega, ?_, ?_, h1, h4, ?_, h8, h12, h13, h14, h15, h16, rfl⟩
  · have h9 : scan st (c :: r) = scan st2 r := by rw [scan, hp]
    rw [← hsc, h9]
  · rw [show (pre ++ [c]).length = pre.length + 1 by simp]; exact St.put_ok hok hp
  · rw [h6, show (pre ++ [c]).length = pre.length + 1 by simp]; rfl
theorem scan_nil {st st' : St} {c : Nat} {r : List Nat} (h : scan st (c :: r) = (st', [])) : ∃ st2, st.put c = some st2 := by
  cases hp : st.put c with
  | none => unfold scan at h; rw [hp] at h; cases h
  | some st2 => exact ⟨st2, rfl⟩
/-- the four ways of one more byte -/
theorem St.put_cases {st st2 : St} {c : Nat} (h : st.put c = some st2) :
    (c = 95 ∧ st2 = { st with und := true }) ∨ (c = 46 ∧ st.dot = false ∧ st2 = { st with dot := true, dp := st.nd }) ∨
    (48 ≤ c ∧ c ≤ 57 ∧ ((c = 48 ∧ st.nd = 0 ∧ st2 = { st with dig := true, dp := st.dp - 1 }) ∨
      (¬ (c = 48 ∧ st.nd = 0) ∧ st.nM < 19 ∧ st2 = { st with dig := true, nd := st.nd + 1, m := st.m * 10 + (c - 48), nM := st.nM + 1 }) ∨
      (¬ (c = 48 ∧ st.nd = 0) ∧ 19 ≤ st.nM ∧ st2 = { st with dig := true, nd := st.nd + 1, tr := st.tr || c != 48 }))) := by
  unfold St.put at h
  by_cases h1 : c = 95
  · rw [if_pos h1] at h; cases h; exact .inl ⟨h1, rfl⟩
  rw [if_neg h1] at h
  by_cases h2 : c = 46
  · rw [if_pos h2] at h
    cases hd : st.dot
    · rw [hd] at h; cases h; exact .inr (.inl ⟨h2, rfl, rfl⟩)
    · rw [hd] at h; cases h
  rw [if_neg h2] at h
  by_cases h3 : 48 ≤ c ∧ c ≤ 57
  · rw [if_pos h3] at h
    refine .inr (.inr ⟨h3.1, h3.2, ?_⟩)
    by_cases h4 : c = 48 ∧ st.nd = 0
    · rw [if_pos h4] at h; cases h; exact .inl ⟨h4.1, h4.2, rfl⟩
    · rw [if_neg h4] at h
      by_cases h5 : st.nM < 19
      · rw [if_pos h5] at h; cases h; exact .inr (.inl ⟨h4, h5, rfl⟩)
      · rw [if_neg h5] at h; cases h; exact .inr (.inr ⟨h4, by omega, rfl⟩)
  · rw [if_neg h3] at h; cases h
theorem St.zero_ok1 : St.zero.ok 1 := by unfold St.ok St.zero; simp
theorem scan_stop {st st' : St} {c : Nat} {r es : List Nat} (h : scan st (c :: r) = (st', 101 :: es)) : (∃ st2, st.put c = some st2) ∨ (c = 101 ∧ r = es ∧ st = st') := by
  cases hp : st.put c with
  | none =>
    unfold scan at h
    rw [hp] at h
    injection h with h1 h2
    injection h2 with h3 h4
    exact .inr ⟨h3, h4, h1⟩
  | some st2 => exact .inl ⟨st2, rfl⟩
/-- the number that digits tell -/
def decStep (e d : Nat) : Nat := e * 10 + (d - 48)
def dv (e : Nat) (l : List Nat) : Nat := l.foldl decStep e
theorem dv_nil (e : Nat) : dv e [] = e := rfl
theorem dv_cons (e d : Nat) (r : List Nat) : dv e (d :: r) = dv (e * 10 + (d - 48)) r := by unfold dv; rw [List.foldl_cons, decStep]
theorem dv_ge (l : List Nat) : ∀ e : Nat, e ≤ dv e l := by
  induction l with
  | nil => intro e; exact Nat.le_refl e
  | cons d r ih => intro e; rw [dv_cons]; exact Nat.le_trans (by omega) (ih _)
/-- the exponent's loop -/
def EI (l : List Nat) (E : Nat) (w : World) (v6 v8 v19 : Value) (wr : World) : Prop :=
  ∃ (pre rest : List Nat) (e : Nat), l = pre ++ rest ∧ (∀ d ∈ rest, 48 ≤ d ∧ d ≤ 57) ∧ dv e rest = E ∧ v6 = .int .i64 ((pre.length : Nat) : Int) ∧ v8 = .bool false ∧ v19 = .int .i64 (e : Int) ∧ wr = w
theorem EI.next {l : List Nat} {E : Nat} {w : World} {pre r : List Nat} {d e : Nat} {v6 v8 v19 : Value} (hl : l = pre ++ d :: r) (hd : ∀ x ∈ d :: r, 48 ≤ x ∧ x ≤ 57) (he : dv e (d :: r) = E) (h6 : v6 = .int .i64 ((pre.length : Int) + 1)) (h8 : v8 = .bool false) (h19 : v19 = .int .i64 ((e * 10 + (d - 48) : Nat) : Int)) : EI l E w v6 v8 v19 w :=
  ⟨pre ++ [d], r, e * 10 + (d - 48), by rw [hl]; simp, fun x hx => hd x (List.mem_cons_of_mem _ hx), by rw [← he, dv_cons], by rw [h6, show (pre ++ [d]).length = pre.length + 1 by simp]; rfl, h8, h19, rfl⟩
end Go.Proofs.YthjfdhkahmlolaaGreatDoor
