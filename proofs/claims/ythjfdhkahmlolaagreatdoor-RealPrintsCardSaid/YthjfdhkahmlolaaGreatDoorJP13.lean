/- What the pinned table pow10Tab gives the walks. -/
import Derived.Test.YthjfdhkahmlolaaGreatDoorJP12
import Derived.Test.YthjfdhkahmlolaaGreatDoorJP06
import Derived.Deep.DeepCutAuto
import Derived.Deep.CutRange
import Derived.IntWalk
namespace Go.Proofs.YthjfdhkahmlolaaGreatDoor
open Go.RowKit
set_option maxRecDepth 100000
theorem cells194 : Tryz.prog.cellsOf 194 = 2 := by kernel_rfl
theorem cells195 : Tryz.prog.cellsOf 195 = 1392 := by kernel_rfl
theorem tab_of {W : World} {l : List (String × DataW Unit)} {ps : List MemPlace} (h : DataW.LaidVars Tryz.prog W l ps) (hm : ("internal/strconv.pow10Tab", Rows.laid_internal_strconv_pow10Tab) ∈ l) : Tab W := by
  obtain ⟨g, t, cs, fuel, p, hg, ht, hv, hd⟩ := laid_at h _ _ hm
  obtain rfl := Option.some.inj (gl13.symm.trans hg)
  obtain rfl := Option.some.inj (t13.symm.trans ht)
  obtain ⟨xs, m, rfl, hx, hlen, hn, hel⟩ := DataW.trod_array Tryz.underlying195 hd
  have c24 : Tryz.prog.cellsOf 24 = 1 := by kernel_rfl
  have hmap : xs.map (·.1) = Go.Pinned.pow10Rows.map fun x => (DataW.agg [.lit (.int .u64 x.1), .lit (.int .u64 x.2)] : DataW Unit) := by
    have := congrArg Prod.fst hx
    simp only [Rows.laid_internal_strconv_pow10Tab, Go.Pinned.pow10Tab, DataW.agg.injEq] at this
    exact this.symm
  refine ⟨fun i hi => ?_⟩
  have e := hel i hi
  have hxi : i < xs.length := by omega
  have hpi : i < Go.Pinned.pow10Rows.length := by rw [rows_len]; exact hi
  rw [cells194, List.getElem?_eq_getElem hxi] at e
  have hy : (xs[i]).1 = DataW.agg [.lit (.int .u64 (Go.Pinned.pow10Rows[i]).1), .lit (.int .u64 (Go.Pinned.pow10Rows[i]).2)] := by
    have := congrArg (·[i]?) hmap
    simp only [List.getElem?_map, List.getElem?_eq_getElem hxi, List.getElem?_eq_getElem hpi, Option.map_some, Option.some.injEq] at this
    exact this
  obtain ⟨ys, n, rfl, hyx, hylen, hyn, hyel⟩ := DataW.trod_struct Tryz.underlying194 e
  have h0 := hyel 0 _ rfl
  have h1 := hyel 1 _ rfl
  generalize hcs : (cs.toList.drop (i * 2)).take 2 = cc at *
  change DataW.trod _ Tryz.prog W 0 _ false n 24 ((cc.drop 0).take (Tryz.prog.cellsOf 24)) = _ at h0
  change DataW.trod _ Tryz.prog W 0 _ false n 24 ((cc.drop 1).take (Tryz.prog.cellsOf 24)) = _ at h1
  rw [c24] at h0 h1
  rw [cells194] at hylen
  match cc, hylen, ys, hyn with
  | [a, b], _, [x0, x1], _ =>
    rw [hyx] at hy
    simp only [DataW.agg.injEq, List.map_cons, List.map_nil, List.cons.injEq] at hy
    obtain ⟨k0, e0, f0, _⟩ := DataW.trod_int Tryz.underlying24 (show DataW.trod _ Tryz.prog W 0 _ false n 24 _ = some x0 from h0)
    obtain ⟨k1, e1, f1, _⟩ := DataW.trod_int Tryz.underlying24 (show DataW.trod _ Tryz.prog W 0 _ false n 24 _ = some x1 from h1)
    have q0 : k0 = (Go.Pinned.pow10Rows[i]).1 := by have := hy.1; rw [f0] at this; simpa using this
    have q1 : k1 = (Go.Pinned.pow10Rows[i]).2 := by have := hy.2.1; rw [f1] at this; simpa using this
    simp at e0 e1
    rw [e0, e1, q0, q1] at hcs
    refine ⟨Go.Pinned.pow10Rows[i], List.getElem?_eq_getElem hpi, ?_, ?_⟩
    · have v := World.var?_cell hg hv (i * 2)
      have c : cs.toList[i * 2]? = some (.int .u64 (Go.Pinned.pow10Rows[i]).1) := by
        have := congrArg (·[0]?) hcs
        simpa [List.getElem?_take, List.getElem?_drop] using this
      rw [v]; simpa using c
    · have v := World.var?_cell hg hv (i * 2 + 1)
      have c : cs.toList[i * 2 + 1]? = some (.int .u64 (Go.Pinned.pow10Rows[i]).2) := by
        have := congrArg (·[1]?) hcs
        simpa [List.getElem?_take, List.getElem?_drop] using this
      rw [v]; simpa using c
end Go.Proofs.YthjfdhkahmlolaaGreatDoor

/- The reference's whole numbers: rows of uint32, lowest first; trim. -/
namespace Go.Proofs.YthjfdhkahmlolaaGreatDoor
open Go.RowKit
set_option maxRecDepth 100000
/-- the number that the first n limbs tell -/
def nn (f : Nat → Nat) : Nat → Nat
  | 0 => 0
  | k + 1 => nn f k + f k * 4294967296 ^ k
theorem nn_succ (f : Nat → Nat) (k : Nat) : nn f (k + 1) = nn f k + f k * 4294967296 ^ k := rfl
theorem nn_congr {f g : Nat → Nat} : ∀ {n : Nat}, (∀ i, i < n → f i = g i) → nn f n = nn g n
  | 0, _ => rfl
  | n + 1, e => by rw [nn_succ, nn_succ, nn_congr (n := n) (fun i hi => e i (by omega)), e n (by omega)]
theorem nn_lt {f : Nat → Nat} : ∀ {n : Nat}, (∀ i, i < n → f i < 4294967296) → nn f n < 4294967296 ^ n
  | 0, _ => by simp [nn]
  | n + 1, h => by
    have h1 := nn_lt (n := n) (fun i hi => h i (by omega))
    have h2 := h n (by omega)
    have h3 : (f n + 1) * 4294967296 ^ n ≤ 4294967296 * 4294967296 ^ n := Nat.mul_le_mul_right _ (by omega)
    rw [nn_succ, Nat.pow_succ]
    rw [Nat.add_mul, Nat.one_mul] at h3
    omega
/-- limbs in memory -/
structure Lm (w : World) (v : Value) (f : Nat → Nat) (n : Nat) : Prop where
  val : ∃ p cap, v = .slice p n cap ∧ n ≤ cap ∧ (0 < n → ∃ g, p = some ⟨g, 0, none⟩ ∧ ∀ i, i < n → w.cell? ⟨g, i, none⟩ = some (.int .u32 (f i : Int)))
  lt : ∀ i, i < n → f i < 4294967296
  most : n ≤ 9000
/-- a whole number in memory -/
def Nt (w : World) (v : Value) (a : Nat) : Prop := ∃ f n, Lm w v f n ∧ a = nn f n ∧ (0 < n → f (n - 1) ≠ 0)
theorem cell_keep {S : Nat → Prop} {w w' : World} {b o : Nat} {v : Value} (h : w.cell? ⟨b, o, none⟩ = some v) (O : Only S w w') (hs : ¬ S b) : w'.cell? ⟨b, o, none⟩ = some v := by
  have h3 : b < w.heap.size := World.block_lt_of_cell? w ⟨b, o, none⟩ h
  rw [O.cellAt h3 hs]; exact h
theorem Lm.still {w w' : World} {v : Value} {f : Nat → Nat} {n : Nat} (h : Lm w v f n) (O : Only (fun _ => False) w w') : Lm w' v f n := by
  obtain ⟨⟨p, cap, h1, hcap, h2⟩, h3, h4⟩ := h
  exact ⟨⟨p, cap, h1, hcap, fun hn => by obtain ⟨g, e, hc⟩ := h2 hn; exact ⟨g, e, fun i hi => cell_keep (hc i hi) O id⟩⟩, h3, h4⟩
theorem Nt.still {w w' : World} {v : Value} {a : Nat} (h : Nt w v a) (O : Only (fun _ => False) w w') : Nt w' v a := by
  obtain ⟨f, n, h1, h2⟩ := h
  exact ⟨f, n, h1.still O, h2⟩
/-- how long a number is -/
theorem nn_ge {f : Nat → Nat} {n : Nat} (h0 : 0 < n) (hl : f (n - 1) ≠ 0) : 4294967296 ^ (n - 1) ≤ nn f n := by
  obtain ⟨k, rfl⟩ : ∃ k, n = k + 1 := ⟨n - 1, by omega⟩
  rw [nn_succ, Nat.add_sub_cancel]
  rw [Nat.add_sub_cancel] at hl
  have : 1 * 4294967296 ^ k ≤ f k * 4294967296 ^ k := Nat.mul_le_mul_right _ (by omega)
  omega
/-- a row's length -/
def slN : Value → Nat
  | .slice _ k _ => k
  | _ => 0
/-- what trim tells -/
def TrimN (f : Nat → Nat) (n : Nat) (w : World) (e : Ending) (w' : World) : Prop := (∃ v, e = .returned v ∧ Nt w v (nn f n)) ∧ w' = w
def TrR (w0 : World) (p : Option Addr) (cap : Nat) (f : Nat → Nat) (n : Nat) (v : Value) (w : World) : Prop := ∃ k, v = .slice p k cap ∧ k ≤ n ∧ nn f k = nn f n ∧ w = w0
set_option maxHeartbeats 1000000 in
theorem trimn_calls {w : World} {v : Value} {f : Nat → Nat} {n : Nat} (h : Lm w v f n) : Calls Tryz.prog 115 #[v] w (TrimN f n w) := by
  obtain ⟨⟨p, cap, rfl, hcap, hc⟩, hl, hm⟩ := h
  have HC := Lib.hid hc; have HL := Lib.hid hl
  clear hc hl
  go_enter Tryz.func115, Tryz.ntmps115
  go_wp2_with fail
  go_loopw [0] (fun v wr => TrR w p cap f n v wr) (fun v _ => slN v)
  case atStart => exact ⟨n, rfl, Nat.le_refl _, rfl, rfl⟩
  case round =>
    obtain ⟨k, rfl, hk, he, hwr⟩ := hrel
    subst wr
    by_cases hk0 : k = 0
    · subst hk0
      go_wp2_with fail
      go_ret
      exact ⟨⟨_, rfl, f, 0, ⟨⟨p, cap, rfl, Nat.zero_le _, fun h => absurd h (by omega)⟩, fun i hi => absurd hi (by omega), by omega⟩, he.symm, fun h => absurd h (by omega)⟩, rfl⟩
    · obtain ⟨g, rfl, hc⟩ := HC.out (by omega)
      obtain ⟨j, rfl⟩ : ∃ j, k = j + 1 := ⟨k - 1, by omega⟩
      have cj := hc j (by omega)
      have HE := Lib.hid he; have HCC := Lib.hid hc
      clear he hc
      by_cases hz : f j = 0
      · rw [hz] at cj
        have HZ := Lib.hid hz; clear hz
        go_wp2_with fail
        exact ⟨⟨j, rfl, by omega, by rw [← HE.out, nn_succ, HZ.out, Nat.zero_mul, Nat.add_zero], rfl⟩, by simp only [slN]; omega⟩
      · have t1 : ((f j : Int) == 0) = false := by rw [beq_eq_false_iff_ne]; omega
        go_wp2_with fail
        go_ret
        exact ⟨⟨_, rfl, f, j + 1, ⟨⟨_, cap, rfl, by omega, fun _ => ⟨g, rfl, fun i hi => HCC.out i (by omega)⟩⟩, fun i hi => HL.out i (by omega), by omega⟩, HE.out.symm, fun _ => by rw [Nat.add_sub_cancel]; exact hz⟩, rfl⟩
end Go.Proofs.YthjfdhkahmlolaaGreatDoor
