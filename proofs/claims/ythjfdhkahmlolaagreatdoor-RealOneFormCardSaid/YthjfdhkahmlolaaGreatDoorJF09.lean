/- What the pinned table pow10Tab gives the walks. -/
import Derived.Test.YthjfdhkahmlolaaGreatDoorJF08
import Derived.Test.YthjfdhkahmlolaaGreatDoorJF02
namespace Go.Proofs.YthjfdhkahmlolaaGreatDoor
open Go.RowKit
set_option maxRecDepth 100000
theorem cells194 : Tryz.prog.cellsOf 194 = 2 := by kernel_rfl
theorem cells195 : Tryz.prog.cellsOf 195 = 1392 := by kernel_rfl
theorem tab_of {W : World} {l : List (String × DataW Unit)} {ps : List MemPlace} (h : DataW.LaidVars Tryz.prog W l ps) (hm : ("internal/strconv.pow10Tab", Rows.laid_internal_strconv_pow10Tab) ∈ l) : Tab W := by
  obtain ⟨g, t, cs, fuel, p, hg, ht, hv, hd⟩ := laid_at h _ _ hm
  obtain rfl := Option.some.inj (gl13.symm.trans hg)
  obtain rfl := Option.some.inj (t13.symm.trans ht)
  obtain ⟨xs, m, rfl, hx, hlen, hn, hel⟩ := DataW.trod_array Tryz.underlying195 hd
  have c24 : Tryz.prog.cellsOf 24 = 1 := by kernel_rfl
  have hmap : xs.map (·.1) = Go.Pinned.pow10Rows.map fun x => (DataW.agg [.lit (.int .u64 x.1), .lit (.int .u64 x.2)] : DataW Unit) := by
    have := congrArg Prod.fst hx
    simp only [Rows.laid_internal_strconv_pow10Tab, Go.Pinned.pow10Tab, DataW.agg.injEq] at this
    exact this.symm
  refine ⟨fun i hi => ?_⟩
  have e := hel i hi
  have hxi : i < xs.length := by omega
  have hpi : i < Go.Pinned.pow10Rows.length := by rw [rows_len]; exact hi
  rw [cells194, List.getElem?_eq_getElem hxi] at e
  have hy : (xs[i]).1 = DataW.agg [.lit (.int .u64 (Go.Pinned.pow10Rows[i]).1), .lit (.int .u64 (Go.Pinned.pow10Rows[i]).2)] := by
    have := congrArg (·[i]?) hmap
    simp only [List.getElem?_map, List.getElem?_eq_getElem hxi, List.getElem?_eq_getElem hpi, Option.map_some, Option.some.injEq] at this
    exact this
  obtain ⟨ys, n, rfl, hyx, hylen, hyn, hyel⟩ := DataW.trod_struct Tryz.underlying194 e
  have h0 := hyel 0 _ rfl
  have h1 := hyel 1 _ rfl
  generalize hcs : (cs.toList.drop (i * 2)).take 2 = cc at *
  change DataW.trod _ Tryz.prog W 0 _ false n 24 ((cc.drop 0).take (Tryz.prog.cellsOf 24)) = _ at h0
  change DataW.trod _ Tryz.prog W 0 _ false n 24 ((cc.drop 1).take (Tryz.prog.cellsOf 24)) = _ at h1
  rw [c24] at h0 h1
  rw [cells194] at hylen
  match cc, hylen, ys, hyn with
  | [a, b], _, [x0, x1], _ =>
    rw [hyx] at hy
    simp only [DataW.agg.injEq, List.map_cons, List.map_nil, List.cons.injEq] at hy
    obtain ⟨k0, e0, f0, _⟩ := DataW.trod_int Tryz.underlying24 (show DataW.trod _ Tryz.prog W 0 _ false n 24 _ = some x0 from h0)
    obtain ⟨k1, e1, f1, _⟩ := DataW.trod_int Tryz.underlying24 (show DataW.trod _ Tryz.prog W 0 _ false n 24 _ = some x1 from h1)
    have q0 : k0 = (Go.Pinned.pow10Rows[i]).1 := by have := hy.1; rw [f0] at this; simpa using this
    have q1 : k1 = (Go.Pinned.pow10Rows[i]).2 := by have := hy.2.1; rw [f1] at this; simpa using this
    simp at e0 e1
    rw [e0, e1, q0, q1] at hcs
    refine ⟨Go.Pinned.pow10Rows[i], List.getElem?_eq_getElem hpi, ?_, ?_⟩
    · have v := World.var?_cell hg hv (i * 2)
      have c : cs.toList[i * 2]? = some (.int .u64 (Go.Pinned.pow10Rows[i]).1) := by
        have := congrArg (·[0]?) hcs
        simpa [List.getElem?_take, List.getElem?_drop] using this
      rw [v]; simpa using c
    · have v := World.var?_cell hg hv (i * 2 + 1)
      have c : cs.toList[i * 2 + 1]? = some (.int .u64 (Go.Pinned.pow10Rows[i]).2) := by
        have := congrArg (·[1]?) hcs
        simpa [List.getElem?_take, List.getElem?_drop] using this
      rw [v]; simpa using c
end Go.Proofs.YthjfdhkahmlolaaGreatDoor

/- What the laid table float64pow10 gives: all 23 powers. -/
namespace Go.Proofs.YthjfdhkahmlolaaGreatDoor
open Go.RowKit
set_option maxRecDepth 100000
def P10 : List Nat := [4607182418800017408, 4621819117588971520, 4636737291354636288, 4652007308841189376, 4666723172467343360, 4681608360884174848, 4696837146684686336, 4711630319722168320, 4726483295884279808, 4741671816366391296, 4756540486875873280, 4771362005757984768, 4786511204640096256, 4801453603149578240, 4816244402031689728, 4831355200913801216, 4846369599423283200, 4861130398305394688, 4876203697187506176, 4891288408196988160, 4906019910204099648, 4921056587992461136, 4936209963552724370]
theorem P10_len : P10.length = 23 := rfl
def p10 (k : Nat) : Nat := (P10[k]?).getD 0
theorem laid_p10 : (Rows.laid_internal_strconv_float64pow10 : DataW Unit) = .slice (P10.map fun n => .lit (.float .f64 n)) [] := rfl
theorem powall_of {W : World} {l : List (String × DataW Unit)} {ps : List MemPlace} (h : DataW.LaidVars Tryz.prog W l ps) (hm : ("internal/strconv.float64pow10", Rows.laid_internal_strconv_float64pow10) ∈ l) :
    ∃ (b o : Nat), W.cell? ⟨12, 0, none⟩ = some (.slice (some ⟨b, o, none⟩) 23 23) ∧ ∀ k, k < 23 → W.cell? ⟨b, o + k, none⟩ = some (.float .f64 (p10 k)) := by
  obtain ⟨g, t, cs, fuel, p, hg, ht, hv, hd⟩ := laid_at h _ _ hm
  obtain rfl := Option.some.inj (gl12.symm.trans hg)
  obtain rfl := Option.some.inj (t12.symm.trans ht)
  have c25 : Tryz.prog.cellsOf 25 = 1 := by kernel_rfl
  have v0 := World.var?_cell hg hv 0
  rcases DataW.trod_slice Tryz.underlying191 hd with ⟨_, hx⟩ | ⟨a, len, cap, elems, rest, m, rfl, hc, hx, _, hlc, _, hlen, hel, hsp, _⟩
  · simp [Rows.laid_internal_strconv_float64pow10] at hx
  · have hl : len = 23 := by
      have := congrArg Prod.fst hx
      simp only [Rows.laid_internal_strconv_float64pow10, DataW.slice.injEq] at this
      have h2 := congrArg List.length this.1
      simp only [List.length_map] at h2
      rw [← hlen, ← h2]; rfl
    have hr : rest = [] := by
      have := congrArg Prod.fst hx
      simp only [Rows.laid_internal_strconv_float64pow10, DataW.slice.injEq] at this
      simpa using this.2.symm
    have hcap : cap = 23 := by
      have := (hsp rfl).1
      rw [hr] at this
      simp at this
      omega
    subst hl hcap
    have one : ∀ (x : Addr) (v : Value), W.cells? 0 x 1 = some [v] → W.cell? x = some v := fun x v hx => by
      have e0 : x.add 0 = x := by unfold Addr.add; simp
      unfold World.cells? at hx
      rw [if_pos (Nat.zero_le _)] at hx
      simp only [List.range_succ, List.range_zero, List.nil_append, List.mapM_cons, List.mapM_nil, e0] at hx
      cases hu : W.cell? x with
      | none => rw [hu] at hx; cases hx
      | some u => rw [hu] at hx; injection hx with hx; injection hx with hx; rw [hx]
    have hcell : ∀ k, k < 23 → W.cell? (a.add k) = some (.float .f64 (p10 k)) := fun k hk => by
      have e1 := hel k hk
      have hx1 : (elems.map (·.1))[k]? = some (DataW.lit (.float .f64 (p10 k))) := by
        have := congrArg Prod.fst hx
        simp only [DataW.slice.injEq, laid_p10] at this
        rw [← this.1, List.getElem?_map]
        have hp : P10[k]? = some (p10 k) := by
          unfold p10
          rw [List.getElem?_eq_getElem (by rw [P10_len]; exact hk)]; rfl
        rw [hp]; rfl
      rw [c25, Nat.mul_one] at e1
      simp only [List.getElem?_map, Option.map_eq_some_iff] at hx1
      obtain ⟨y, hy, hy1⟩ := hx1
      rw [hy, Option.bind_eq_some_iff] at e1
      obtain ⟨vs, hcells, htr⟩ := e1
      obtain ⟨n, rfl, hyy⟩ := trod_flt Tryz.underlying25 htr
      have hn : n = p10 k := by rw [hyy] at hy1; simpa using hy1
      subst hn
      exact one _ _ hcells
    have hs' : a.spot = none := by
      have z0 := hel 0 (by decide)
      rw [c25, List.getElem?_eq_getElem (by omega), Option.bind_eq_some_iff] at z0
      obtain ⟨us, hu, hv⟩ := z0
      obtain ⟨n, rfl, _⟩ := trod_flt Tryz.underlying25 hv
      have := one _ _ hu
      exact spot_none (x := a) (by have e0 : a.add (0 * 1) = a := by { unfold Addr.add; simp }; rw [e0] at this; exact this)
    obtain ⟨b, o, s⟩ := a
    simp only at hs'
    subst hs'
    refine ⟨b, o, ?_, ?_⟩
    · obtain ⟨l1⟩ := cs
      simp only at hc
      subst hc
      simpa using v0
    · intro k hk
      have h := hcell k hk
      have ha : (⟨b, o, none⟩ : Addr).add k = ⟨b, o + k, none⟩ := by unfold Addr.add; split <;> simp_all
      rw [ha] at h; exact h
end Go.Proofs.YthjfdhkahmlolaaGreatDoor

/- Unrounded scaling, plainly: when it is exact; certificates by neighbouring fractions. -/
namespace Go.Proofs.YthjfdhkahmlolaaGreatDoor.Usc

/-- num / den, the last bit set too if it is not whole -/
def unr (num den : Nat) : Nat := (num / den) ||| (if num % den = 0 then 0 else 1)

theorem far_id1 (x y la lb ra rb : Int) (hd : ra * lb = la * rb + 1) : x = (ra * x - rb * y) * lb - (la * x - lb * y) * rb := by grind
theorem far_id2 (x y a M la lb ra rb : Int) (hd : ra * lb = la * rb + 1) : x * a - y * M = (ra * x - rb * y) * (lb * a - la * M) + (la * x - lb * y) * (ra * M - rb * a) := by grind

theorem mul_np {i b : Int} (h : i ≤ 0) (hb : 0 ≤ b) : i * b ≤ 0 := by
  have := Int.mul_le_mul_of_nonneg_right h hb; simpa using this
theorem mul_nn {i b : Int} (h : 0 ≤ i) (hb : 0 ≤ b) : 0 ≤ i * b := Int.mul_nonneg h hb
theorem mul_ge {i b : Int} (h : 1 ≤ i) (hb : 0 ≤ b) : b ≤ i * b := by
  have := Int.mul_le_mul_of_nonneg_right h hb; simpa using this

/-- what lies below: x a - y M, where y is the whole part -/
theorem far_low {x y a M la lb ra rb : Int} (hd : ra * lb = la * rb + 1) (hx : 0 < x) (hxl : x < lb + rb) (hL : 0 ≤ lb * a - la * M) (hR : 0 < ra * M - rb * a) (hlb : 0 ≤ lb) (hrb : 0 ≤ rb) (hN : 0 ≤ x * a - y * M) :
    ∃ i j : Int, 1 ≤ i ∧ 0 ≤ j ∧ x = i * lb - j * rb ∧ x * a - y * M = i * (lb * a - la * M) + j * (ra * M - rb * a) := by
  have e1 := far_id1 x y la lb ra rb hd
  have e2 := far_id2 x y a M la lb ra rb hd
  refine ⟨ra * x - rb * y, la * x - lb * y, ?_, ?_, e1, e2⟩
  · generalize ra * x - rb * y = i at *
    generalize la * x - lb * y = j at *
    generalize lb * a - la * M = L at *
    generalize ra * M - rb * a = R at *
    rcases Int.lt_or_le i 1 with hi | hi
    · exfalso
      have h1 := mul_np (i := i) (b := lb) (by omega) hlb
      have h2 := mul_np (i := i) (b := L) (by omega) hL
      rcases Int.lt_or_le j 0 with hj | hj
      · have h3 := mul_ge (i := -j) (b := R) (by omega) (by omega)
        rw [Int.neg_mul] at h3
        omega
      · have h3 := mul_nn hj hrb
        omega
    · exact hi
  · generalize ra * x - rb * y = i at *
    generalize la * x - lb * y = j at *
    generalize lb * a - la * M = L at *
    generalize ra * M - rb * a = R at *
    rcases Int.lt_or_le j 0 with hj | hj
    · exfalso
      have h4 := mul_ge (i := -j) (b := rb) (by omega) hrb
      rw [Int.neg_mul] at h4
      rcases Int.lt_or_le i 1 with hi | hi
      · have h2 := mul_np (i := i) (b := L) (by omega) hL
        have h3 := mul_ge (i := -j) (b := R) (by omega) (by omega)
        rw [Int.neg_mul] at h3
        omega
      · have h5 := mul_ge hi hlb
        omega
    · exact hj
/-- what lies above: y' M - x a -/
theorem far_up {x y a M la lb ra rb : Int} (hd : ra * lb = la * rb + 1) (hx : 0 < x) (hxl : x < lb + rb) (hL : 0 ≤ lb * a - la * M) (hR : 0 < ra * M - rb * a) (hlb : 0 ≤ lb) (hrb : 0 ≤ rb) (hN : 0 < y * M - x * a) :
    x * (ra * M - rb * a) ≤ (y * M - x * a) * rb := by
  have e1 := far_id1 x y la lb ra rb hd
  have e2 := far_id2 x y a M la lb ra rb hd
  have key : ∀ i j L R N : Int, 0 ≤ L → 0 < R → x = i * lb - j * rb → N = -(i * L + j * R) → 0 < N → x * R ≤ N * rb := by
    intro i j L R N hL hR e1 e2 hN
    have hj : j ≤ -1 := by
      rcases Int.lt_or_le (-1) j with hj | hj
      · exfalso
        have h3 := mul_nn (i := j) (b := R) (by omega) (by omega)
        rcases Int.lt_or_le i 1 with hi | hi
        · have h1 := mul_np (i := i) (b := lb) (by omega) hlb
          have h2 := mul_nn (i := j) (b := rb) (by omega) hrb
          omega
        · have h1 := mul_nn (i := i) (b := L) (by omega) hL
          omega
      · exact hj
    have hi : i ≤ 0 := by
      rcases Int.lt_or_le 0 i with hi | hi
      · exfalso
        have h1 := mul_ge (i := i) (b := lb) (by omega) hlb
        have h2 := mul_ge (i := -j) (b := rb) (by omega) hrb
        rw [Int.neg_mul] at h2
        omega
      · exact hi
    -- x <= -j rb ; N >= -j R
    have h1 := mul_np hi hlb
    have h2 := mul_np hi hL
    have h3 : x ≤ (-j) * rb := by rw [Int.neg_mul]; omega
    have h4 : (-j) * R ≤ N := by rw [Int.neg_mul]; omega
    have h5 := Int.mul_le_mul_of_nonneg_right h3 (Int.le_of_lt hR)
    have h6 := Int.mul_le_mul_of_nonneg_right h4 hrb
    have h7 : (-j) * rb * R = (-j) * R * rb := by grind
    omega
  exact key (ra * x - rb * y) (la * x - lb * y) _ _ _ hL hR e1 (by omega) hN
end Go.Proofs.YthjfdhkahmlolaaGreatDoor.Usc
