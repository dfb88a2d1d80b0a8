/- What the pinned table pow10Tab gives the walks. -/
import Derived.Test.YthjfdhkahmlolaaGreatDoorLay
namespace Go.Proofs.YthjfdhkahmlolaaGreatDoor
open Go.RowKit
set_option maxRecDepth 100000
theorem cells194 : Tryz.prog.cellsOf 194 = 2 := by kernel_rfl
theorem cells195 : Tryz.prog.cellsOf 195 = 1392 := by kernel_rfl
theorem tab_of {W : World} {l : List (String × DataW Unit)} {ps : List MemPlace} (h : DataW.LaidVars Tryz.prog W l ps) (hm : ("internal/strconv.pow10Tab", Rows.laid_internal_strconv_pow10Tab) ∈ l) : Tab W := by
  obtain ⟨g, t, cs, fuel, p, hg, ht, hv, hd⟩ := laid_at h _ _ hm
  obtain rfl := Option.some.inj (gl13.symm.trans hg)
  obtain rfl := Option.some.inj (t13.symm.trans ht)
  obtain ⟨xs, m, rfl, hx, hlen, hn, hel⟩ := DataW.trod_array Tryz.underlying195 hd
  have c24 : Tryz.prog.cellsOf 24 = 1 := by kernel_rfl
  have hmap : xs.map (·.1) = Go.Pinned.pow10Rows.map fun x => (DataW.agg [.lit (.int .u64 x.1), .lit (.int .u64 x.2)] : DataW Unit) := by
    have := congrArg Prod.fst hx
    simp only [Rows.laid_internal_strconv_pow10Tab, Go.Pinned.pow10Tab, DataW.agg.injEq] at this
    exact this.symm
  refine ⟨fun i hi => ?_⟩
  have e := hel i hi
  have hxi : i < xs.length := by omega
  have hpi : i < Go.Pinned.pow10Rows.length := by rw [rows_len]; exact hi
  rw [cells194, List.getElem?_eq_getElem hxi] at e
  have hy : (xs[i]).1 = DataW.agg [.lit (.int .u64 (Go.Pinned.pow10Rows[i]).1), .lit (.int .u64 (Go.Pinned.pow10Rows[i]).2)] := by
    have := congrArg (·[i]?) hmap
    simp only [List.getElem?_map, List.getElem?_eq_getElem hxi, List.getElem?_eq_getElem hpi, Option.map_some, Option.some.injEq] at this
    exact this
  obtain ⟨ys, n, rfl, hyx, hylen, hyn, hyel⟩ := DataW.trod_struct Tryz.underlying194 e
  have h0 := hyel 0 _ rfl
  have h1 := hyel 1 _ rfl
  generalize hcs : (cs.toList.drop (i * 2)).take 2 = cc at *
  change DataW.trod _ Tryz.prog W 0 _ false n 24 ((cc.drop 0).take (Tryz.prog.cellsOf 24)) = _ at h0
  change DataW.trod _ Tryz.prog W 0 _ false n 24 ((cc.drop 1).take (Tryz.prog.cellsOf 24)) = _ at h1
  rw [c24] at h0 h1
  rw [cells194] at hylen
  match cc, hylen, ys, hyn with
  | [a, b], _, [x0, x1], _ =>
    rw [hyx] at hy
    simp only [DataW.agg.injEq, List.map_cons, List.map_nil, List.cons.injEq] at hy
    obtain ⟨k0, e0, f0, _⟩ := DataW.trod_int Tryz.underlying24 (show DataW.trod _ Tryz.prog W 0 _ false n 24 _ = some x0 from h0)
    obtain ⟨k1, e1, f1, _⟩ := DataW.trod_int Tryz.underlying24 (show DataW.trod _ Tryz.prog W 0 _ false n 24 _ = some x1 from h1)
    have q0 : k0 = (Go.Pinned.pow10Rows[i]).1 := by have := hy.1; rw [f0] at this; simpa using this
    have q1 : k1 = (Go.Pinned.pow10Rows[i]).2 := by have := hy.2.1; rw [f1] at this; simpa using this
    simp at e0 e1
    rw [e0, e1, q0, q1] at hcs
    refine ⟨Go.Pinned.pow10Rows[i], List.getElem?_eq_getElem hpi, ?_, ?_⟩
    · have v := World.var?_cell hg hv (i * 2)
      have c : cs.toList[i * 2]? = some (.int .u64 (Go.Pinned.pow10Rows[i]).1) := by
        have := congrArg (·[0]?) hcs
        simpa [List.getElem?_take, List.getElem?_drop] using this
      rw [v]; simpa using c
    · have v := World.var?_cell hg hv (i * 2 + 1)
      have c : cs.toList[i * 2 + 1]? = some (.int .u64 (Go.Pinned.pow10Rows[i]).2) := by
        have := congrArg (·[1]?) hcs
        simpa [List.getElem?_take, List.getElem?_drop] using this
      rw [v]; simpa using c
end Go.Proofs.YthjfdhkahmlolaaGreatDoor
