/-
  DERIVED: THE SHELF's CONTRACTS AT THIS DUMP, IN PLAIN WORDS (tools/lay-plain.mjs out of 'TryzShelfk.lean', which tools/lay-shelf.mjs wrote): THE SAME DECLARATIONS UNDER THE SAME NAMES: 'import', 'namespace', 'open', 'def', 'theorem' AND NOTHING ELSE: no command of the shelf's: FOR A HAND-IN. Each laying: the table of numbers ('.._ren') and one theorem, a field a fact of the dump's own or the kernel's comparison; each contract: ONE APPLICATION.
-/
import Derived.Shelf.Strconv.ToError
import Derived.Shelf.Strconv.ToErrorRange
import Derived.Shelf.LaysC
import Derived.Test.YthjfdhkahmlolaaGreatDoorProg
import Derived.Test.YthjfdhkahmlolaaGreatDoorJF24
namespace Go.Proofs
open Go.Shelf
def Tryz.laysC245_ren : Go.Shelf.Ren := ⟨fun | 245 => 43 | 279 => 61 | 280 => 62 | 281 => 63 | 282 => 64 | 316 => 89 | 171 => 38 | 205 => 90 | 243 => 57 | 246 => 80 | 283 => 112 | 284 => 99 | 285 => 113 | 286 => 114 | 129 => 96 | 317 => 100 | 318 => 140 | 319 => 151 | 320 => 152 | 337 => 161 | 338 => 162 | n => n, fun | 9 => 9 | 3 => 3 | 75 => 49 | 167 => 83 | 4 => 4 | 168 => 84 | 210 => 112 | 37 => 67 | 0 => 0 | 127 => 93 | 145 => 164 | 143 => 162 | 2 => 2 | 171 => 122 | 53 => 24 | 5 => 5 | 173 => 139 | 212 => 177 | 51 => 94 | 20 => 20 | 213 => 183 | 46 => 74 | 232 => 118 | 233 => 202 | 80 => 73 | n => n, fun | 15 => 1 | 16 => 2 | 17 => 9 | 18 => 15 | 19 => 16 | n => n⟩
theorem Tryz.laysC245 : Go.Proofs.LaysC.n245 Tryz.prog Tryz.laysC245_ren := {
  mixed := by kernel_rfl
  f129 := Tryz.func96.trans (congrArg some (by kernel_rfl))
  f171 := Tryz.func38.trans (congrArg some (by kernel_rfl))
  f205 := Tryz.func90.trans (congrArg some (by kernel_rfl))
  f243 := Tryz.func57.trans (congrArg some (by kernel_rfl))
  f245 := Tryz.func43.trans (congrArg some (by kernel_rfl))
  f246 := Tryz.func80.trans (congrArg some (by kernel_rfl))
  f279 := Tryz.func61.trans (congrArg some (by kernel_rfl))
  f280 := Tryz.func62.trans (congrArg some (by kernel_rfl))
  f281 := Tryz.func63.trans (congrArg some (by kernel_rfl))
  f282 := Tryz.func64.trans (congrArg some (by kernel_rfl))
  f283 := Tryz.func112.trans (congrArg some (by kernel_rfl))
  f284 := Tryz.func99.trans (congrArg some (by kernel_rfl))
  f285 := Tryz.func113.trans (congrArg some (by kernel_rfl))
  f286 := Tryz.func114.trans (congrArg some (by kernel_rfl))
  f316 := Tryz.func89.trans (congrArg some (by kernel_rfl))
  f317 := Tryz.func100.trans (congrArg some (by kernel_rfl))
  f318 := Tryz.func140.trans (congrArg some (by kernel_rfl))
  f319 := Tryz.func151.trans (congrArg some (by kernel_rfl))
  f320 := Tryz.func152.trans (congrArg some (by kernel_rfl))
  f337 := Tryz.func161.trans (congrArg some (by kernel_rfl))
  f338 := Tryz.func162.trans (congrArg some (by kernel_rfl))
  t0 := Tryz.underlying0
  a0 := Tryz.isAgg0
  z0 := Tryz.sizeOf0
  v0 := Tryz.zeroValue0
  t2 := Tryz.underlying2
  a2 := Tryz.isAgg2
  z2 := Tryz.sizeOf2
  v2 := Tryz.zeroValue2
  t3 := Tryz.underlying3
  a3 := Tryz.isAgg3
  z3 := Tryz.sizeOf3
  v3 := Tryz.zeroValue3
  t4 := Tryz.underlying4
  a4 := Tryz.isAgg4
  z4 := Tryz.sizeOf4
  v4 := Tryz.zeroValue4
  t5 := Tryz.underlying5
  a5 := Tryz.isAgg5
  z5 := Tryz.sizeOf5
  v5 := Tryz.zeroValue5
  t9 := Tryz.underlying9
  a9 := Tryz.isAgg9
  z9 := Tryz.sizeOf9
  v9 := Tryz.zeroValue9
  t20 := Tryz.underlying20
  a20 := Tryz.isAgg20
  z20 := Tryz.sizeOf20
  v20 := Tryz.zeroValue20
  t37 := Tryz.underlying67
  a37 := Tryz.isAgg67
  z37 := Tryz.sizeOf67
  v37 := Tryz.zeroValue67
  t46 := Tryz.underlying74
  a46 := Tryz.isAgg74
  z46 := Tryz.sizeOf74
  v46 := Tryz.zeroValue74
  t51 := Tryz.underlying94
  a51 := Tryz.isAgg94
  z51 := Tryz.sizeOf94
  v51 := Tryz.zeroValue94
  t53 := Tryz.underlying24
  a53 := Tryz.isAgg24
  z53 := Tryz.sizeOf24
  v53 := Tryz.zeroValue24
  t75 := Tryz.underlying49
  a75 := Tryz.isAgg49
  z75 := Tryz.sizeOf49
  v75 := Tryz.zeroValue49
  t127 := Tryz.underlying93
  a127 := Tryz.isAgg93
  z127 := Tryz.sizeOf93
  v127 := Tryz.zeroValue93
  t143 := Tryz.underlying162
  a143 := Tryz.isAgg162
  z143 := Tryz.sizeOf162
  v143 := Tryz.zeroValue162
  t145 := Tryz.underlying164
  a145 := Tryz.isAgg164
  z145 := Tryz.sizeOf164
  v145 := Tryz.zeroValue164
  t167 := Tryz.underlying83
  a167 := Tryz.isAgg83
  z167 := Tryz.sizeOf83
  v167 := Tryz.zeroValue83
  t168 := Tryz.underlying84
  a168 := Tryz.isAgg84
  z168 := Tryz.sizeOf84
  v168 := Tryz.zeroValue84
  t171 := Tryz.underlying122
  a171 := Tryz.isAgg122
  z171 := Tryz.sizeOf122
  v171 := Tryz.zeroValue122
  t173 := Tryz.underlying139
  a173 := Tryz.isAgg139
  z173 := Tryz.sizeOf139
  v173 := Tryz.zeroValue139
  t210 := Tryz.underlying112
  a210 := Tryz.isAgg112
  z210 := Tryz.sizeOf112
  v210 := Tryz.zeroValue112
  t212 := Tryz.underlying177
  a212 := Tryz.isAgg177
  z212 := Tryz.sizeOf177
  v212 := Tryz.zeroValue177
  t213 := Tryz.underlying183
  a213 := Tryz.isAgg183
  z213 := Tryz.sizeOf183
  t232 := Tryz.underlying118
  a232 := Tryz.isAgg118
  z232 := Tryz.sizeOf118
  v232 := Tryz.zeroValue118
  t233 := Tryz.underlying202
  a233 := Tryz.isAgg202
  z233 := Tryz.sizeOf202
  v233 := Tryz.zeroValue202
  g15 := by kernel_rfl
  g16 := by kernel_rfl
  g17 := by kernel_rfl
  g18 := by kernel_rfl
  g19 := by kernel_rfl
  t80 := Tryz.underlying73
  a80 := Tryz.isAgg73
  z80 := Tryz.sizeOf73
  v80 := Tryz.zeroValue73
  i0 := by kernel_rfl
  i2 := by kernel_rfl
  i3 := by kernel_rfl
  i4 := by kernel_rfl
  i5 := by kernel_rfl
  i9 := by kernel_rfl
  i20 := by kernel_rfl
  i37 := by kernel_rfl
  i46 := by kernel_rfl
  i51 := by kernel_rfl
  i53 := by kernel_rfl
  i75 := by kernel_rfl
  i80 := by kernel_rfl
  i127 := by kernel_rfl
  i143 := by kernel_rfl
  i145 := by kernel_rfl
  i167 := by kernel_rfl
  i168 := by kernel_rfl
  i171 := by kernel_rfl
  i173 := by kernel_rfl
  i210 := by kernel_rfl
  i212 := by kernel_rfl
  i232 := by kernel_rfl
  i233 := by kernel_rfl
  m15 := by kernel_rfl
  m16 := by kernel_rfl
  m17 := by kernel_rfl
  m18 := by kernel_rfl
  m19 := by kernel_rfl
  c0 := by kernel_rfl
  c2 := by kernel_rfl
  c3 := by kernel_rfl
  c4 := by kernel_rfl
  c5 := by kernel_rfl
  c9 := by kernel_rfl
  c20 := by kernel_rfl
  c37 := by kernel_rfl
  c46 := by kernel_rfl
  c51 := by kernel_rfl
  c53 := by kernel_rfl
  c75 := by kernel_rfl
  c80 := by kernel_rfl
  c127 := by kernel_rfl
  c143 := by kernel_rfl
  c145 := by kernel_rfl
  c167 := by kernel_rfl
  c168 := by kernel_rfl
  c171 := by kernel_rfl
  c173 := by kernel_rfl
  c210 := by kernel_rfl
  c212 := by kernel_rfl
  c213 := by kernel_rfl
  c232 := by kernel_rfl
  c233 := by kernel_rfl }
open Go.RowKit in
/-- strconv.toError, at the inner package's ErrSyntax: 'syntaxError(fn, s)' as an error: A *NumError IN A NEW BLOCK. (LAID: no walk: one application.) -/
theorem Tryz.strconv_toError_syntax (fn s : ByteArray) (base bits : Int) (ev : Value) (w : World) (hlim : s.size ≤ 281474976710656) (hv : w.cell? ⟨1, 0, none⟩ = some ev) (hev : ev = .nilIface ∨ ∃ te pe, ev = .iface te pe) :
    Calls Tryz.prog 43 #[.string fn, .string s, .int .i64 base, .int .i64 bits, .iface 83 (.int .i64 2)] w fun e w' => ∃ N, e = .returned (.iface 84 (.pointer (some ⟨N, 0, none⟩))) ∧ w.heap.size ≤ N ∧ w'.heap[N]? = some (.cells #[.string fn, .string s, ev] 112 (0, 0)) ∧ Below w.heap.size w w' := Any.strconv_toError_syntax Tryz.laysC245 fn s base bits ev w hlim hv hev
open Go.RowKit in
/-- strconv.toError, at the inner package's ErrRange: 'rangeError(fn, s)' as an error: A *NumError IN A NEW BLOCK. (LAID: no walk: one application.) -/
theorem Tryz.strconv_toError_range (fn s : ByteArray) (base bits : Int) (ev : Value) (w : World) (hlim : s.size ≤ 281474976710656) (hv : w.cell? ⟨2, 0, none⟩ = some ev) (hev : ev = .nilIface ∨ ∃ te pe, ev = .iface te pe) :
    Calls Tryz.prog 43 #[.string fn, .string s, .int .i64 base, .int .i64 bits, .iface 83 (.int .i64 1)] w fun e w' => ∃ N, e = .returned (.iface 84 (.pointer (some ⟨N, 0, none⟩))) ∧ w.heap.size ≤ N ∧ w'.heap[N]? = some (.cells #[.string fn, .string s, ev] 112 (0, 0)) ∧ Below w.heap.size w w' := Any.strconv_toError_range Tryz.laysC245 fn s base bits ev w hlim hv hev
end Go.Proofs

/- A float less itself. -/
namespace Go.Proofs.YthjfdhkahmlolaaGreatDoor.Pq
open Go.RowKit Flt
theorem flip_nan {x : Nat} (hx : x < 18446744073709551616) : Flt.nan (Flt.flip x) = Flt.nan x := by unfold Flt.nan; rw [mag_flip x hx]
theorem cut_nan (x y t : Nat) : Flt.nan ((Question.nanBits .f64 x y).cut t) = true ∧ (Question.nanBits .f64 x y).cut t < 18446744073709551616 := by
  have e : (Question.nanBits .f64 x y).cut t = (t % 2) * 9223372036854775808 + 9218868437227405312 + 1 + (t / 2) % 4503599627370495 := rfl
  rw [e]
  unfold Flt.nan mag
  rw [decide_eq_true_iff]
  have hr : t / 2 % 4503599627370495 < 4503599627370495 := Nat.mod_lt _ (by omega)
  generalize t / 2 % 4503599627370495 = r at *
  rcases (show t % 2 = 0 ∨ t % 2 = 1 by omega) with q | q <;> rw [q] <;> omega
theorem read_flip (y : Nat) (hy : y < 18446744073709551616) : (D.read y).opposite = D.read (Flt.flip y) ∨ Flt.nan y = true := by
  cases hn : Flt.nan y
  · left
    have hm : mag y ≤ 9218868437227405312 := by unfold Flt.nan at hn; simpa using hn
    by_cases h : mag y < 9218868437227405312
    · rw [read_fin y h, read_fin (Flt.flip y) (by rw [mag_flip y hy]; exact h), mag_flip y hy, neg_flip y hy]; rfl
    · rw [read_inf y (by omega), read_inf (Flt.flip y) (by rw [mag_flip y hy]; omega), neg_flip y hy]; rfl
  · exact .inr rfl
theorem sub_eq (x y : Nat) (hy : y < 18446744073709551616) : D.sub x y = D.add x (Flt.flip y) := by
  rcases read_flip y hy with h | h
  · unfold Ieee.Format.sub Ieee.Format.add; rw [h]
  · rw [add_nan x (Flt.flip y) (.inr (by rw [flip_nan hy]; exact h))]
    obtain ⟨s, t, e⟩ := read_nan y h
    unfold Ieee.Format.sub
    rw [e, sum_comm]; rfl
theorem sub_self_fin (x : Nat) (hx : x < 18446744073709551616) (h : mag x < 9218868437227405312) : D.sub x x = some 0 := by
  rw [sub_eq x x hx]
  have hm := mag_flip x hx
  have hn := neg_flip x hx
  have h1 := radd_diff x (Flt.flip x) h (by rw [hm]; exact Nat.le_refl _) (by rw [hn]; cases neg x <;> decide)
  rw [hm, Int.sub_self, show (0 : Int).toNat = 0 from rfl, stk_zero, if_pos rfl] at h1
  unfold radd at h1
  cases h2 : D.add x (Flt.flip x) with
  | none => rw [h2] at h1; exact absurd h1 (by decide)
  | some r => rw [h2] at h1; rw [show r = 0 from h1]
theorem sub_self_inf (x : Nat) (hx : x < 18446744073709551616) (h : mag x = 9218868437227405312) : D.sub x x = none := by
  rw [sub_eq x x hx, add_inf_inf x (Flt.flip x) h (by rw [mag_flip x hx]; exact h), neg_flip x hx, if_neg (by cases neg x <;> decide)]
end Go.Proofs.YthjfdhkahmlolaaGreatDoor.Pq
namespace Go.Proofs.YthjfdhkahmlolaaGreatDoor
open Go.RowKit
theorem run_fsub_fin (x : Nat) (hx : x < 18446744073709551616) (h : x % 9223372036854775808 < 9218868437227405312) (w : World) : Sem.run Tryz.prog (binOp .sub 25 (.float .f64 x) (.float .f64 x)) w = .ok (.float .f64 0) w := by
  have h2 : Ieee.double.sub x x = some 0 := Pq.sub_self_fin x hx h
  simp [binOp, Op.floatArith, FloatKind.format, h2]
theorem run_fsub_inf (x : Nat) (hx : x < 18446744073709551616) (h : x % 9223372036854775808 = 9218868437227405312) (w : World) : ∃ v, Pq.Flt.nan v = true ∧ Sem.run Tryz.prog (binOp .sub 25 (.float .f64 x) (.float .f64 x)) w = .ok (.float .f64 v) w.drew := by
  have h2 : Ieee.double.sub x x = none := Pq.sub_self_inf x hx h
  refine ⟨(Question.nanBits .f64 x x).cut (w.tape w.drawn (Question.nanBits .f64 x x)), (Pq.cut_nan x x _).1, ?_⟩
  simp [binOp, Op.floatArith, FloatKind.format, h2, choose]
  rfl
end Go.Proofs.YthjfdhkahmlolaaGreatDoor
