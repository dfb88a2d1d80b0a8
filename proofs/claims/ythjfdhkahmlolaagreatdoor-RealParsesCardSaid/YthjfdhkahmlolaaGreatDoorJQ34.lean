/- The reference's whole numbers: rows of uint32, lowest first; trim. -/
import Derived.Test.YthjfdhkahmlolaaGreatDoorJQ04
import Derived.Deep.DeepCutAuto
import Derived.Deep.CutRange
import Derived.IntWalk
namespace Go.Proofs.YthjfdhkahmlolaaGreatDoor
open Go.RowKit
set_option maxRecDepth 100000
/-- the number that the first n limbs tell -/
def nn (f : Nat → Nat) : Nat → Nat
  | 0 => 0
  | k + 1 => nn f k + f k * 4294967296 ^ k
theorem nn_succ (f : Nat → Nat) (k : Nat) : nn f (k + 1) = nn f k + f k * 4294967296 ^ k := rfl
theorem nn_congr {f g : Nat → Nat} : ∀ {n : Nat}, (∀ i, i < n → f i = g i) → nn f n = nn g n
  | 0, _ => rfl
  | n + 1, e => by rw [nn_succ, nn_succ, nn_congr (n := n) (fun i hi => e i (by omega)), e n (by omega)]
theorem nn_lt {f : Nat → Nat} : ∀ {n : Nat}, (∀ i, i < n → f i < 4294967296) → nn f n < 4294967296 ^ n
  | 0, _ => by simp [nn]
  | n + 1, h => by
    have h1 := nn_lt (n := n) (fun i hi => h i (by omega))
    have h2 := h n (by omega)
    have h3 : (f n + 1) * 4294967296 ^ n ≤ 4294967296 * 4294967296 ^ n := Nat.mul_le_mul_right _ (by omega)
    rw [nn_succ, Nat.pow_succ]
    rw [Nat.add_mul, Nat.one_mul] at h3
    omega
/-- limbs in memory -/
structure Lm (w : World) (v : Value) (f : Nat → Nat) (n : Nat) : Prop where
  val : ∃ p cap, v = .slice p n cap ∧ n ≤ cap ∧ (0 < n → ∃ g, p = some ⟨g, 0, none⟩ ∧ ∀ i, i < n → w.cell? ⟨g, i, none⟩ = some (.int .u32 (f i : Int)))
  lt : ∀ i, i < n → f i < 4294967296
  most : n ≤ 9000
/-- a whole number in memory -/
def Nt (w : World) (v : Value) (a : Nat) : Prop := ∃ f n, Lm w v f n ∧ a = nn f n ∧ (0 < n → f (n - 1) ≠ 0)
theorem cell_keep {S : Nat → Prop} {w w' : World} {b o : Nat} {v : Value} (h : w.cell? ⟨b, o, none⟩ = some v) (O : Only S w w') (hs : ¬ S b) : w'.cell? ⟨b, o, none⟩ = some v := by
  have h3 : b < w.heap.size := World.block_lt_of_cell? w ⟨b, o, none⟩ h
  rw [O.cellAt h3 hs]; exact h
theorem Lm.still {w w' : World} {v : Value} {f : Nat → Nat} {n : Nat} (h : Lm w v f n) (O : Only (fun _ => False) w w') : Lm w' v f n := by
  obtain ⟨⟨p, cap, h1, hcap, h2⟩, h3, h4⟩ := h
  exact ⟨⟨p, cap, h1, hcap, fun hn => by obtain ⟨g, e, hc⟩ := h2 hn; exact ⟨g, e, fun i hi => cell_keep (hc i hi) O id⟩⟩, h3, h4⟩
theorem Nt.still {w w' : World} {v : Value} {a : Nat} (h : Nt w v a) (O : Only (fun _ => False) w w') : Nt w' v a := by
  obtain ⟨f, n, h1, h2⟩ := h
  exact ⟨f, n, h1.still O, h2⟩
/-- how long a number is -/
theorem nn_ge {f : Nat → Nat} {n : Nat} (h0 : 0 < n) (hl : f (n - 1) ≠ 0) : 4294967296 ^ (n - 1) ≤ nn f n := by
  obtain ⟨k, rfl⟩ : ∃ k, n = k + 1 := ⟨n - 1, by omega⟩
  rw [nn_succ, Nat.add_sub_cancel]
  rw [Nat.add_sub_cancel] at hl
  have : 1 * 4294967296 ^ k ≤ f k * 4294967296 ^ k := Nat.mul_le_mul_right _ (by omega)
  omega
/-- a row's length -/
def slN : Value → Nat
  | .slice _ k _ => k
  | _ => 0
/-- what trim tells -/
def TrimN (f : Nat → Nat) (n : Nat) (w : World) (e : Ending) (w' : World) : Prop := (∃ v, e = .returned v ∧ Nt w v (nn f n)) ∧ w' = w
def TrR (w0 : World) (p : Option Addr) (cap : Nat) (f : Nat → Nat) (n : Nat) (v : Value) (w : World) : Prop := ∃ k, v = .slice p k cap ∧ k ≤ n ∧ nn f k = nn f n ∧ w = w0
set_option maxHeartbeats 1000000 in
theorem trimn_calls {w : World} {v : Value} {f : Nat → Nat} {n : Nat} (h : Lm w v f n) : Calls Tryz.prog 115 #[v] w (TrimN f n w) := by
  obtain ⟨⟨p, cap, rfl, hcap, hc⟩, hl, hm⟩ := h
  have HC := Lib.hid hc; have HL := Lib.hid hl
  clear hc hl
  go_enter Tryz.func115, Tryz.ntmps115
  go_wp2_with fail
  go_loopw [0] (fun v wr => TrR w p cap f n v wr) (fun v _ => slN v)
  case atStart => exact ⟨n, rfl, Nat.le_refl _, rfl, rfl⟩
  case round =>
    obtain ⟨k, rfl, hk, he, hwr⟩ := hrel
    subst wr
    by_cases hk0 : k = 0
    · subst hk0
      go_wp2_with fail
      go_ret
      exact ⟨⟨_, rfl, f, 0, ⟨⟨p, cap, rfl, Nat.zero_le _, fun h => absurd h (by omega)⟩, fun i hi => absurd hi (by omega), by omega⟩, he.symm, fun h => absurd h (by omega)⟩, rfl⟩
    · obtain ⟨g, rfl, hc⟩ := HC.out (by omega)
      obtain ⟨j, rfl⟩ : ∃ j, k = j + 1 := ⟨k - 1, by omega⟩
      have cj := hc j (by omega)
      have HE := Lib.hid he; have HCC := Lib.hid hc
      clear he hc
      by_cases hz : f j = 0
      · rw [hz] at cj
        have HZ := Lib.hid hz; clear hz
        go_wp2_with fail
        exact ⟨⟨j, rfl, by omega, by rw [← HE.out, nn_succ, HZ.out, Nat.zero_mul, Nat.add_zero], rfl⟩, by simp only [slN]; omega⟩
      · have t1 : ((f j : Int) == 0) = false := by rw [beq_eq_false_iff_ne]; omega
        go_wp2_with fail
        go_ret
        exact ⟨⟨_, rfl, f, j + 1, ⟨⟨_, cap, rfl, by omega, fun _ => ⟨g, rfl, fun i hi => HCC.out i (by omega)⟩⟩, fun i hi => HL.out i (by omega), by omega⟩, HE.out.symm, fun _ => by rw [Nat.add_sub_cancel]; exact hz⟩, rfl⟩
end Go.Proofs.YthjfdhkahmlolaaGreatDoor

/- Rows of uint32 of a call's own that grow; of, times. -/
namespace Go.Proofs.YthjfdhkahmlolaaGreatDoor
open Go.RowKit
set_option maxRecDepth 100000
/-- a new row that has grown to l -/
structure An (w0 : World) (v : Value) (l : List Value) (wr : World) : Prop where
  only : Only (fun _ => False) w0 wr
  own : wr.ownsRow w0.heap.size 94 1 v l.length l
theorem own_base {w : World} {base e size n : Nat} {v : Value} {xs : List Value} (h : w.ownsRow base e size v n xs) {k : Nat} (hk : v.ownBlock = some k) : base ≤ k := by
  rcases h.2 with ⟨rfl, _⟩ | ⟨g, cap, cur, rfl, e2, _⟩
  · cases hk
  · cases hk; exact e2
theorem An.alloc {w0 : World} {v : Value} {l : List Value} {wr : World} (h : An w0 v l wr) (o : Obj) : An w0 v l (wr.alloc o) := ⟨h.only.alloc o, h.own.alloc o⟩
theorem An.next {w0 : World} {v v' : Value} {l news : List Value} {wr w' : World} {k m : Nat} (h : An w0 v l wr) (hg : Grew wr w' v v' k) (hm : news.length = m) (ho : w'.ownsRow w0.heap.size 94 1 v' (l.length + m) (l ++ news)) : An w0 v' (l ++ news) w' :=
  ⟨h.only.grown hg.grown (fun k hk => .inl (own_base h.own hk)), by rw [List.length_append, hm]; exact ho⟩
theorem hi94 : Tryz.prog.info? 94 = some Tryz.t94 := by kernel_rfl
theorem hz94 : Tryz.t94.zero = some (.int .u32 0) := by kernel_rfl
theorem hs94 : Tryz.t94.size = 1 := by kernel_rfl
theorem hb94 : Tryz.t94.bytes = 4 := by kernel_rfl
theorem wp_anS {ops : Array Oper} {rest : List Oper} {o : Oper} {a : Act} {Q : Exit → Act → World → Prop} {w0 : World} {v : Value} {l : List Value} {wr : World}
    (H : An w0 v l wr) (hg : o.guard = none) (s x : Operand) (hop : o.op = Op.call { callee := Callee.builtin Builtin.append, args := #[s, x], argTypes := #[101, 101] })
    (hs : a.eval s = v) (ad : Addr) (m c : Nat) (news : List Value) (hx : a.eval x = .slice (some ad) m c) (hn : news.length = m) (hc : ∀ j u, news[j]? = some u → wr.cell? (ad.add j) = some u) (h1c : ∀ u ∈ news, u.oneCell' = true)
    (hm : 0 < m) (hl : l.length ≤ 1000000) (hm1 : m ≤ 1000000)
    (hK : ∀ v' w', An w0 v' (l ++ news) w' → wpList Tryz.prog ops Q rest (a.put o.dst v') w') : wpList Tryz.prog ops Q (o :: rest) a wr := by
  refine wpList_append_kept wr hg s x 101 hop 94 Tryz.t94 (.int .u32 0) 1 4 Tryz.underlying101 hi94 hz94 hs94 hb94 rfl (by decide) w0.heap.size l.length v l hs H.own H.only.size ad m c news hx (by omega) hc h1c hm (by unfold maxLen; omega) (by omega) ?_
  intro v' w' hgr ho
  exact hK v' w' (H.next hgr hn ho)
theorem box_cells94 (w : World) (c : Array Value) (t : TypeId) : ∀ j u, c.toList[j]? = some u → (w.alloc (.cells c t)).cell? ((⟨w.heap.size, 0, none⟩ : Addr).add j) = some u := box_cells w c t
theorem wp_an {ops : Array Oper} {rest : List Oper} {o : Oper} {a : Act} {Q : Exit → Act → World → Prop} {w0 : World} {v : Value} {l : List Value} {wr : World}
    (H : An w0 v l wr) (hg : o.guard = none) (s x : Operand) (hop : o.op = Op.call { callee := Callee.builtin Builtin.append, args := #[s, x], argTypes := #[101, 101] })
    (c : Array Value) (m : Nat) (hs : a.eval s = v) (hx : a.eval x = .slice (some ⟨wr.heap.size, 0, none⟩) m m) (hn : c.toList.length = m) (h1c : ∀ u ∈ c.toList, u.oneCell' = true)
    (hm : 0 < m) (hl : l.length ≤ 1000000) (hm1 : m ≤ 1000000)
    (hK : ∀ v' w', An w0 v' (l ++ c.toList) w' → wpList Tryz.prog ops Q rest (a.put o.dst v') w') : wpList Tryz.prog ops Q (o :: rest) a (wr.alloc (.cells c 94)) :=
  wp_anS (H.alloc _) hg s x hop hs ⟨wr.heap.size, 0, none⟩ m m c.toList hx hn (box_cells94 wr c 94) h1c hm hl hm1 hK
/-- the limbs as values -/
def lmL (o : Nat → Nat) (n : Nat) : List Value := (List.range n).map fun t => .int .u32 (o t : Int)
theorem lmL_len (o : Nat → Nat) (n : Nat) : (lmL o n).length = n := by simp [lmL]
theorem lmL_succ (o : Nat → Nat) (n x : Nat) : lmL (fun t => if t = n then x else o t) (n + 1) = lmL o n ++ [.int .u32 (x : Int)] := by
  unfold lmL
  rw [List.range_succ, List.map_append, List.map_cons, List.map_nil]
  congr 1
  · refine List.map_congr_left fun t ht => ?_
    have := List.mem_range.1 ht
    simp only [if_neg (show ¬ t = n by omega)]
  · simp
theorem An.lm {w0 : World} {v : Value} {o : Nat → Nat} {n : Nat} {wr : World} (h : An w0 v (lmL o n) wr) (hl : ∀ i, i < n → o i < 4294967296) (hn : n ≤ 9000) : Lm wr v o n := by
  have hlen := lmL_len o n
  refine ⟨?_, hl, hn⟩
  rcases h.own.2 with ⟨rfl, e0⟩ | ⟨g, cap, cur, rfl, e2, e3, e4, e5, e6, e7⟩
  · rw [hlen] at e0; subst e0
    exact ⟨none, 0, rfl, Nat.le_refl _, fun h => absurd h (by omega)⟩
  · rw [hlen] at e4 e7 ⊢
    refine ⟨_, cap, rfl, e4, fun _ => ⟨g, rfl, fun i hi => ?_⟩⟩
    rw [blk_cell e3]
    have h1 : (cur.toList.take (n * 1))[i]? = some (.int .u32 (o i : Int)) := by
      rw [e7]; simp [lmL, hi]
    rw [Nat.mul_one, List.getElem?_take] at h1
    rw [if_pos hi] at h1
    rw [← Array.getElem?_toList]; exact h1
theorem An.start (w : World) : An w (.slice (some ⟨w.heap.size, 0, none⟩) 0 0) [] (w.alloc (.cells #[] 94)) :=
  ⟨(Only.refl _ w).alloc _, rfl, .inr ⟨w.heap.size, 0, #[], rfl, Nat.le_refl _, blk_new w _, Nat.le_refl _, by unfold maxLen; omega, rfl, rfl⟩⟩
def NtPost (a : Nat) (w : World) (e : Ending) (w' : World) : Prop := ∃ v, e = .returned v ∧ Nt w' v a ∧ Only (fun _ => False) w w'
theorem lm_two (w : World) (x : Nat) (hx : x < 18446744073709551616) : Lm (w.alloc (.cells #[.int .u32 ((x : Int) % 4294967296), .int .u32 ((x : Int) / 4294967296)] 94)) (.slice (some ⟨w.heap.size, 0, none⟩) 2 2) (fun t => if t = 0 then x % 4294967296 else x / 4294967296) 2 := by
  refine ⟨⟨_, 2, rfl, Nat.le_refl _, fun _ => ⟨_, rfl, fun i hi => ?_⟩⟩, fun i hi => ?_, by omega⟩
  · rw [blk_cell (blk_new w _)]
    match i, hi with
    | 0, _ => simp
    | 1, _ => simp
  · split <;> omega
set_option maxHeartbeats 1000000 in
theorem of_calls (x : Nat) (w : World) (hx : x < 18446744073709551616) : Calls Tryz.prog 81 #[.int .u64 x] w (NtPost x w) := by
  have L := Lib.hid (lm_two w x hx)
  have e : nn (fun t => if t = 0 then x % 4294967296 else x / 4294967296) 2 = x := by
    simp only [nn, if_pos, Nat.pow_zero, Nat.mul_one, Nat.pow_one, if_neg (show ¬ (1 : Nat) = 0 by decide)]
    omega
  have HE := Lib.hid e; clear e
  go_enter Tryz.func81, Tryz.ntmps81
  go_wp2_with fail
  refine (trimn_calls L.out).mono ?_
  rintro en w1 ⟨⟨v, rfl, hv⟩, hw⟩; rw [hw]; clear hw w1
  rw [HE.out] at hv
  have HV := Lib.hid hv; clear hv
  go_wp2_with fail
  go_ret
  exact ⟨v, rfl, HV.out, (Only.refl _ w).alloc _⟩
/-- the bound of all numbers here -/
def bigE : Nat := 90000
@[irreducible] def Big : Nat := 2 ^ bigE
theorem Big_eq : ∃ e : Nat, e = 90000 ∧ Big = 2 ^ e := ⟨bigE, rfl, by unfold Big; rfl⟩
theorem lt_Big {x k : Nat} (h : x < 2 ^ k) (hk : k ≤ 90000) : x < Big := by
  obtain ⟨e, h1, h2⟩ := Big_eq
  rw [h2]
  exact Nat.lt_of_lt_of_le h (Nat.pow_le_pow_right (by decide) (by omega))
theorem Big_lt {x k : Nat} (h : x < Big) (hx : 2 ^ k ≤ x) : k ≤ 90000 := by
  obtain ⟨e, h1, h2⟩ := Big_eq
  rw [h2] at h
  have h3 : 2 ^ k < 2 ^ e := by omega
  have := (Nat.pow_lt_pow_iff_right (a := 2) (by decide)).1 h3
  omega
theorem two32 (k : Nat) : 4294967296 ^ k = 2 ^ (32 * k) := by
  rw [show (4294967296 : Nat) = 2 ^ 32 by decide, ← Nat.pow_mul]
theorem len_Big {f : Nat → Nat} {n : Nat} (h : nn f n < Big) (hl : 0 < n → f (n - 1) ≠ 0) : n ≤ 3000 := by
  rcases Nat.lt_or_ge 3000 n with hn | hn
  · exfalso
    have h1 := nn_ge (f := f) (n := n) (by omega) (hl (by omega))
    rw [two32] at h1
    have := Big_lt h h1
    omega
  · exact hn
/-- the loop of times -/
def TmR (w0 : World) (f : Nat → Nat) (n m : Nat) (v5 v6 v7 : Value) (w : World) : Prop :=
  ∃ (i c : Nat) (o : Nat → Nat), v7 = .int .i64 (i : Int) ∧ v6 = .int .u64 (c : Int) ∧ i ≤ n ∧ c < 4294967296 ∧ (∀ t, t < i → o t < 4294967296) ∧ nn o i + c * 4294967296 ^ i = nn f i * m ∧ An w0 v5 (lmL o i) w
theorem tm_step {o f : Nat → Nat} {i c x m : Nat} (he : nn o i + c * 4294967296 ^ i = nn f i * m) (hx : x = c + f i * m) :
    nn (fun t => if t = i then x % 4294967296 else o t) (i + 1) + (x / 4294967296) * 4294967296 ^ (i + 1) = nn f (i + 1) * m := by
  have e1 : nn (fun t => if t = i then x % 4294967296 else o t) i = nn o i := nn_congr fun t ht => by simp only [if_neg (show ¬ t = i by omega)]
  rw [nn_succ, nn_succ, e1]
  simp only [if_true]
  have e2 := Nat.mod_add_div x 4294967296
  have e3 : x % 4294967296 * 4294967296 ^ i + x / 4294967296 * 4294967296 ^ (i + 1) = x * 4294967296 ^ i := by
    conv => rhs; rw [← e2]
    rw [Nat.pow_succ, Nat.add_mul]
    congr 1
    rw [Nat.mul_comm (4294967296 ^ i), Nat.mul_comm 4294967296 (x / 4294967296), Nat.mul_assoc]
  rw [Nat.add_assoc, e3, hx, Nat.add_mul, Nat.add_mul, ← he, Nat.mul_right_comm (f i), ← Nat.add_assoc]
theorem tm_end {o : Nat → Nat} {n c y : Nat} (he : nn o n + c * 4294967296 ^ n = y) : nn (fun t => if t = n then c else o t) (n + 1) = y := by
  rw [nn_succ]
  simp only [if_true]
  rw [nn_congr (g := o) (fun t ht => by simp only [if_neg (show ¬ t = n by omega)]), he]
set_option maxHeartbeats 4000000 in
theorem times_calls (v : Value) (a m : Nat) (w : World) (hv : Nt w v a) (hm : m < 4294967296) (ha : a < Big) : Calls Tryz.prog 86 #[v, .int .u32 m] w (NtPost (a * m) w) := by
  obtain ⟨f, n, ⟨⟨p, cap, rfl, hcap, hc⟩, hl, h4⟩, rfl, hlast⟩ := hv
  have hn : n ≤ 3000 := len_Big ha hlast
  have HC := Lib.hid hc; have HL := Lib.hid hl
  clear hc hl ha hlast
  go_enter Tryz.func86, Tryz.ntmps86
  go_wp2_with fail
  go_loopw [5, 6, 7] (fun v5 v6 v7 wr => TmR w f n m v5 v6 v7 wr) (fun _ _ v7 _ => n - (intOf v7).toNat)
  case atStart => exact ⟨0, 0, fun _ => 0, rfl, rfl, Nat.zero_le _, by decide, fun t h => absurd h (by omega), by simp [nn], An.start w⟩
  case round =>
    obtain ⟨i, c, o, rfl, rfl, hi, hcl, ho, he, hA⟩ := hrel
    by_cases hin : i < n
    · obtain ⟨g, rfl, hcc⟩ := HC.out (by omega)
      have ci := cell_keep (hcc i hin) hA.only id
      have hfi := HL.out i hin
      have HE := Lib.hid he; have HO := Lib.hid ho; have HA := Lib.hid hA
      clear he ho hcc hA
      obtain ⟨x, hx⟩ : ∃ x, x = f i * m := ⟨_, rfl⟩
      have hxb : x ≤ 4294967295 * 4294967295 := by rw [hx]; exact Nat.mul_le_mul (by omega) (by omega)
      have e1 : IntKind.u64.wrap ((f i : Int) * (m : Int)) = (x : Int) := by
        rw [show ((f i : Int) * (m : Int)) = (x : Int) by rw [hx]; push_cast; rfl]
        exact wrap_u64 (by omega) (by omega)
      have HX := Lib.hid hx; clear hx
      obtain ⟨y, hy⟩ : ∃ y, y = c + x := ⟨_, rfl⟩
      have e2 : IntKind.u64.wrap ((c : Int) + (x : Int)) = (y : Int) := by
        rw [show ((c : Int) + (x : Int)) = (y : Int) by rw [hy]; push_cast; rfl]
        exact wrap_u64 (by omega) (by omega)
      have hyb : y / 4294967296 < 4294967296 := by omega
      have HY := Lib.hid hy; clear hy
      go_wp2_with (at_builtin; (refine wp_an HA.out rfl _ _ rfl _ 1 (by simp [Act.eval]) (by simp [Act.eval]) rfl (by simp [Value.oneCell']) (by decide) (by rw [lmL_len]; omega) (by decide) ?_; intro v4 w4 hA'; have HA4 := Lib.hid hA'; clear hA'))
      have HAo := HA4.out
      rw [show (#[Value.int IntKind.u32 ((y : Int) % 4294967296)] : Array Value).toList = [Value.int IntKind.u32 ((y % 4294967296 : Nat) : Int)] by rw [show ((y : Int) % 4294967296) = ((y % 4294967296 : Nat) : Int) by omega], ← lmL_succ] at HAo
      refine ⟨⟨i + 1, y / 4294967296, _, congrArg (Value.int .i64) (by omega), congrArg (Value.int .u64) (by omega), by omega, hyb, fun t ht => ?_, tm_step HE.out (by rw [HY.out, HX.out]), HAo⟩, by simp only [intOf]; omega⟩
      by_cases e : t = i
      · simp only [if_pos e]; omega
      · simp only [if_neg e]; exact HO.out t (by omega)
    · obtain rfl : i = n := by omega
      have HE := Lib.hid he; have HO := Lib.hid ho; have HA := Lib.hid hA
      clear he ho hA
      go_wp2_with (first | fail | (at_builtin; (refine wp_an HA.out rfl _ _ rfl _ 1 (by simp [Act.eval]) (by simp [Act.eval]) rfl (by simp [Value.oneCell']) (by decide) (by rw [lmL_len]; omega) (by decide) ?_; intro v4 w4 hA'; have HA4 := Lib.hid hA'; clear hA')))
      have HAo := HA4.out
      rw [← lmL_succ] at HAo
      have hL := HAo.lm (fun t ht => by
        by_cases e : t = i
        · simp only [if_pos e]; omega
        · simp only [if_neg e]; exact HO.out t (by omega)) (by omega)
      have HT := Lib.hid (tm_end HE.out)
      have HON := Lib.hid HAo.only
      clear HAo HA4
      refine (trimn_calls hL).mono ?_
      rintro en w1 ⟨⟨v, rfl, hv⟩, hw⟩; rw [hw]; clear hw w1 hL
      rw [HT.out] at hv
      have HV := Lib.hid hv; clear hv
      go_wp2_with fail
      go_ret
      exact ⟨v, rfl, HV.out, HON.out⟩
end Go.Proofs.YthjfdhkahmlolaaGreatDoor
