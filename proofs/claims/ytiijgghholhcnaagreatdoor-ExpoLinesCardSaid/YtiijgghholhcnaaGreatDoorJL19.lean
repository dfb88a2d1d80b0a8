/- The walk of setDigits. -/
import Derived.Test.YtiijgghholhcnaaGreatDoorJL18
import Derived.Test.YtiijgghholhcnaaGreatDoorJL03
import Derived.Test.YtiijgghholhcnaaGreatDoorJL04
import Derived.StillTailTactics
namespace Go.Proofs.YtiijgghholhcnaaGreatDoor.Re
open Go.RowKit

theorem heap_mapBlock (w : World) (b k : Nat) (f : Array Value → Array Value) (h : k ≠ b) : (Go.Sort.mapBlock w b f).heap[k]? = w.heap[k]? := by
  simp [Go.Sort.mapBlock, Array.getElem?_modify, Ne.symm h]
theorem only_putRow {α : Type} [Inhabited α] (enc : α → Value) (w : World) (b off n : Nat) (d : Array α) : Only (· = b) w ((Go.Sort.putRow enc w b off d).drewN n) := by
  have h : Only (· = b) w (Go.Sort.putRow enc w b off d) := ⟨rfl, rfl, rfl, by simp [Go.Sort.putRow, Go.Sort.mapBlock], fun k _ h => heap_mapBlock w b k (Go.Sort.putCells enc off d) h⟩
  exact h.drewN n

/-- the bytes at a row -/
def Bytes (w : World) (b : Nat) (n : Nat) (f : Nat → UInt8) : Prop := ∀ t, t < n → w.cell? ⟨b, t, none⟩ = some (.int .u8 ((f t).toNat : Int)) ∧ w.frozen? ⟨b, t, none⟩ = false
theorem Bytes.cells {w w' : World} {b n : Nat} {f : Nat → UInt8} (h : Bytes w b n f) (hk : w'.heap[b]? = w.heap[b]?) : Bytes w' b n f := fun t ht => by
  obtain ⟨h1, h2⟩ := h t ht
  refine ⟨(World.cell?_of_block hk).trans h1, ?_⟩
  rw [← h2]; simp only [World.frozen?, hk]
theorem dg_zero (u j : Nat) : Lib.dg u j = 48 ↔ u / 10 ^ j % 10 = 0 := by
  unfold Lib.dg
  have h : u / 10 ^ j % 10 < 10 := Nat.mod_lt _ (by omega)
  constructor
  · intro e
    have := congrArg UInt8.toNat e
    simp at this
    omega
  · intro e; rw [e]; rfl
theorem dvd_next (u k : Nat) (h : 10 ^ k ∣ u) (h0 : u / 10 ^ k % 10 = 0) : 10 ^ (k + 1) ∣ u := by
  obtain ⟨c, rfl⟩ := h
  have hp : 0 < 10 ^ k := Nat.pow_pos (by omega)
  rw [Nat.mul_div_cancel_left _ hp] at h0
  rw [Nat.pow_succ]
  exact Nat.mul_dvd_mul_left _ (Nat.dvd_of_mod_eq_zero h0)

set_option maxRecDepth 100000 in
set_option maxHeartbeats 4000000 in
theorem digits_calls (b nd u : Nat) (p : Int) (f : Nat → UInt8) (w : World) (hB : Bytes w b 32 f) (hu : 1 ≤ u) (hu10 : u < 10 ^ nd) (hu64 : u < 18446744073709551616) (hn : nd ≤ 32) (hp : -5000 ≤ p ∧ p ≤ 5000) :
    Calls Tryz.prog 234 #[.slice (some ⟨b, 0, none⟩) 32 32, .int .u64 u, .int .i64 p, .int .i64 nd] w fun e w' =>
      (∃ k, k < nd ∧ e = .returned (.tuple #[.int .i64 ((nd : Int) + p), .int .i64 (((nd - k : Nat)) : Int)]) ∧ 10 ^ k ∣ u ∧ u / 10 ^ k % 10 ≠ 0) ∧ Only (· = b) w w' ∧ Bytes w' b nd (fun t => Lib.dg u (nd - 1 - t)) := by
  obtain ⟨d, hd⟩ : ∃ d : Array UInt8, d = ((List.range nd).map f).toArray := ⟨_, rfl⟩
  have hds : d.size = nd := by rw [hd]; simp
  have hH : Go.Sort.Holds (fun (b : UInt8) => Value.int .u8 (b.toNat : Int)) w b 0 d := fun j hj => by
    have h1 := hB j (by omega)
    rw [Nat.zero_add]
    refine ⟨?_, h1.2⟩
    rw [h1.1, getElem!_pos d j hj]
    subst hd
    simp
  have hF := Lib.hid (fun w2 h2 => Tryz.internal_strconv_formatBase10 b 0 32 u d w2 h2 (by rw [hds]; exact hu10) hu64 (by omega))
  rw [hds] at hF
  have HH := Lib.hid hH
  have HU := Lib.hid (And.intro hu10 hu64)
  clear hB hd hH hu10 hu64
  have hn0 : nd ≠ 0 := by rintro rfl; have := HU.out.1; simp at this; omega
  go_enter Tryz.func234, Tryz.ntmps234
  go_wp2_with fail
  refine (hF.out _ HH.out).mono ?_
  rintro en w1 ⟨rfl, n, v', dk, hw1, hI⟩
  have O1 : Hid (Only (· = b) w w1) := Lib.hid (by rw [hw1]; exact only_putRow _ _ _ _ _ _)
  have B1 : Hid (Bytes w1 b nd (fun t => Lib.dg u (nd - 1 - t))) := Lib.hid (fun t ht => by
    have hs : dk.size = d.size := hI.size.trans hds.symm
    have h1 := Go.Sort.cell?_putRow (fun b : UInt8 => Value.int .u8 (b.toNat : Int)) w b 0 d dk HH.out hs t (by omega)
    have h2 := (Go.Sort.holds_putRow (fun b : UInt8 => Value.int .u8 (b.toNat : Int)) w b 0 d dk HH.out hs t (by rw [hI.size]; exact ht)).2
    rw [Nat.zero_add] at h1 h2
    rw [hI.done t (Nat.zero_le _) ht] at h1
    rw [hw1]
    exact ⟨h1, h2⟩)
  clear hF HH hI hw1 hds
  go_wp2_with fail

  go_loopw [3] (fun i wr => ∃ k : Nat, k < nd ∧ i = .int .i64 ((nd - k : Nat) : Int) ∧ 10 ^ k ∣ u ∧ Still w1 wr) (fun i _ => (intOf i).toNat)
  case atStart => exact ⟨0, by omega, rfl, by simp, Still.refl _⟩
  case round =>
    obtain ⟨k, hk, rfl, hdv, hst⟩ := hrel
    have hdg := dg_zero u k
    obtain ⟨hc, hfr⟩ := B1.out (nd - k - 1) (by omega)
    have hc' := (hst.cell ⟨b, nd - k - 1, none⟩).trans hc
    have hs : nd - 1 - (nd - k - 1) = k := by omega
    simp only [hs] at hc'
    clear hc hfr
    have HDV := Lib.hid hdv; clear hdv
    have HST := Lib.hid hst; clear hst
    have HDG := Lib.hid hdg; clear hdg
    have hm : ((nd - k : Nat) : Int) = (nd : Int) - k := by omega
    generalize Lib.dg u k = x at *
    go_wp2_with fail
    · have he : ((x.toNat : Int) == 48) = true := by assumption
      have hx : x = 48 := by
        have h1 : (x.toNat : Int) = 48 := by simpa using he
        apply UInt8.toNat_inj.mp; show x.toNat = 48; omega
      have hnx := dvd_next u k HDV.out (HDG.out.mp hx)
      have hlt : k + 1 < nd := by
        have h1 : 10 ^ (k + 1) ≤ u := Nat.le_of_dvd (by omega) hnx
        exact (Nat.pow_lt_pow_iff_right (by omega)).mp (Nat.lt_of_le_of_lt h1 HU.out.1)
      refine ⟨⟨k + 1, hlt, by congr 1; omega, hnx, HST.out⟩, ?_⟩
      simp only [intOf]
      omega
    · have he : ((x.toNat : Int) == 48) = false := by assumption
      have hx : x ≠ 48 := by
        rintro rfl
        simp at he
      go_ret2
      exact ⟨⟨k, hk, rfl, HDV.out, fun h => hx (HDG.out.mpr h)⟩, O1.out.trans (HST.out.only _), B1.out.cells (by rw [HST.out.heap])⟩
end Go.Proofs.YtiijgghholhcnaaGreatDoor.Re

/- Bytes that are appended to a row of the caller's. -/
namespace Go.Proofs.YtiijgghholhcnaaGreatDoor.Re
open Go.RowKit

structure Ap (w0 : World) (B : Nat) (d0 v : Value) (l : List Value) (wr : World) : Prop where
  only : Only (fun k => d0.ownBlock = some k) w0 wr
  own : wr.ownsRow B 5 1 v l.length l
  which : v.ownBlock = d0.ownBlock ∨ ∃ g, v.ownBlock = some g ∧ w0.heap.size ≤ g
theorem own_keepS {S : Nat → Prop} {w w' : World} {base e size n : Nat} {v : Value} {xs : List Value} (h : w.ownsRow base e size v n xs) (O : Only S w w') (hS : ∀ k, v.ownBlock = some k → ¬ S k) : w'.ownsRow base e size v n xs := by
  refine ⟨h.1, ?_⟩
  rcases h.2 with h | ⟨g, cap, cur, e1, e2, e3, r⟩
  · exact .inl h
  · exact .inr ⟨g, cap, cur, e1, e2, O.blk e3 (hS g (by rw [e1]; rfl)), r⟩
theorem Ap.start {w0 : World} {B : Nat} {d0 : Value} (h : w0.ownsRow B 5 1 d0 0 []) : Ap w0 B d0 d0 [] w0 := ⟨Only.refl _ _, h, .inl rfl⟩
theorem Ap.alloc {w0 : World} {B : Nat} {d0 v : Value} {l : List Value} {wr : World} (h : Ap w0 B d0 v l wr) (o : Obj) : Ap w0 B d0 v l (wr.alloc o) :=
  ⟨h.only.alloc o, h.own.alloc o, h.which⟩
theorem Ap.drew {w0 : World} {B : Nat} {d0 v : Value} {l : List Value} {wr : World} (h : Ap w0 B d0 v l wr) : Ap w0 B d0 v l wr.drew :=
  ⟨h.only.drew, h.own, h.which⟩
theorem Ap.next {w0 : World} {B : Nat} {d0 v v' : Value} {l news : List Value} {wr w' : World} {k m : Nat} (h : Ap w0 B d0 v l wr) (hg : Grew wr w' v v' k) (hm : news.length = m) (ho : w'.ownsRow B 5 1 v' (l.length + m) (l ++ news)) : Ap w0 B d0 v' (l ++ news) w' := by
  refine ⟨h.only.grown hg.grown (fun k hk => ?_), by rw [List.length_append, hm]; exact ho, ?_⟩
  · rcases h.which with e | ⟨g, e, hl⟩
    · exact .inr (by rw [← e, hk])
    · rw [e] at hk; cases hk; exact .inl hl
  · rcases hg.which with e | ⟨g, e, hl⟩
    · rw [e]; exact h.which
    · exact .inr ⟨g, e, Nat.le_trans h.only.size hl⟩

theorem box_cells (w : World) (c : Array Value) (t : TypeId) : ∀ j u, c.toList[j]? = some u → (w.alloc (.cells c t)).cell? ((⟨w.heap.size, 0, none⟩ : Addr).add j) = some u := by
  intro j u hu
  have hb := blk_new w (.cells c t)
  have ha : (⟨w.heap.size, 0, none⟩ : Addr).add j = ⟨w.heap.size, j, none⟩ := by unfold Addr.add; split <;> simp_all
  rw [ha, blk_cell hb]; simpa using hu

theorem hi5 : Tryz.prog.info? 5 = some Tryz.t5 := by kernel_rfl
theorem hz5 : Tryz.t5.zero = some (.int .u8 0) := by kernel_rfl
theorem hs5 : Tryz.t5.size = 1 := by kernel_rfl
theorem hb5 : Tryz.t5.bytes = 1 := by kernel_rfl

theorem wp_appS {ops : Array Oper} {rest : List Oper} {o : Oper} {a : Act} {Q : Exit → Act → World → Prop} {w0 : World} {B : Nat} {d0 v : Value} {l : List Value} {wr : World}
    (H : Ap w0 B d0 v l wr) (hB : B ≤ w0.heap.size) (hg : o.guard = none) (s x : Operand) (hop : o.op = Op.call { callee := Callee.builtin Builtin.append, args := #[s, x], argTypes := #[27, 27] })
    (hs : a.eval s = v) (ad : Addr) (m c : Nat) (news : List Value) (hx : a.eval x = .slice (some ad) m c) (hn : news.length = m) (hc : ∀ j u, news[j]? = some u → wr.cell? (ad.add j) = some u) (h1c : ∀ u ∈ news, u.oneCell' = true)
    (hm : 0 < m) (hl : l.length ≤ 1000000) (hm1 : m ≤ 1000000)
    (hK : ∀ v' w', Ap w0 B d0 v' (l ++ news) w' → wpList Tryz.prog ops Q rest (a.put o.dst v') w') : wpList Tryz.prog ops Q (o :: rest) a wr := by
  refine wpList_append_kept wr hg s x 27 hop 5 Tryz.t5 (.int .u8 0) 1 1 Tryz.underlying27 hi5 hz5 hs5 hb5 rfl (by decide) B l.length v l hs H.own (Nat.le_trans hB H.only.size) ad m c news hx (by omega) hc h1c hm (by unfold maxLen; omega) (by omega) ?_
  intro v' w' hgr ho
  exact hK v' w' (H.next hgr hn ho)
theorem wp_app {ops : Array Oper} {rest : List Oper} {o : Oper} {a : Act} {Q : Exit → Act → World → Prop} {w0 : World} {B : Nat} {d0 v : Value} {l : List Value} {wr : World}
    (H : Ap w0 B d0 v l wr) (hB : B ≤ w0.heap.size) (hg : o.guard = none) (s x : Operand) (hop : o.op = Op.call { callee := Callee.builtin Builtin.append, args := #[s, x], argTypes := #[27, 27] })
    (c : Array Value) (m : Nat) (hs : a.eval s = v) (hx : a.eval x = .slice (some ⟨wr.heap.size, 0, none⟩) m m) (hn : c.toList.length = m) (h1c : ∀ u ∈ c.toList, u.oneCell' = true)
    (hm : 0 < m) (hl : l.length ≤ 1000000) (hm1 : m ≤ 1000000)
    (hK : ∀ v' w', Ap w0 B d0 v' (l ++ c.toList) w' → wpList Tryz.prog ops Q rest (a.put o.dst v') w') : wpList Tryz.prog ops Q (o :: rest) a (wr.alloc (.cells c 5)) :=
  wp_appS (H.alloc _) hB hg s x hop hs ⟨wr.heap.size, 0, none⟩ m m c.toList hx hn (box_cells wr c 5) h1c hm hl hm1 hK
end Go.Proofs.YtiijgghholhcnaaGreatDoor.Re

/- The walk of fmtEFG at 'e' and one digit. -/
namespace Go.Proofs.YtiijgghholhcnaaGreatDoor.Re
open Go.RowKit
def by8 (x : Nat) : Value := .int .u8 (x : Int)
set_option maxRecDepth 100000 in
set_option maxHeartbeats 4000000 in
theorem efg_one (B b : Nat) (d0 : Value) (x : UInt8) (dp : Int) (w : World) (hB : B ≤ w.heap.size) (ho : w.ownsRow B 5 1 d0 0 []) (hx : w.cell? ⟨b, 0, none⟩ = some (.int .u8 (x.toNat : Int))) (he : -98 ≤ dp ∧ dp ≤ 100) :
    Calls Tryz.prog 232 #[d0, .bool false, .slice (some ⟨b, 0, none⟩) 32 32, .int .i64 dp, .int .i64 1, .int .i64 0, .int .u8 101, .bool true] w fun e w' =>
      ∃ v l, e = .returned v ∧ Ap w B d0 v l w' ∧ l = [.int .u8 (x.toNat : Int), .int .u8 101, .int .u8 (if dp - 1 < 0 then 45 else 43), .int .u8 (48 + (if dp - 1 < 0 then 1 - dp else dp - 1) / 10), .int .u8 (48 + (if dp - 1 < 0 then 1 - dp else dp - 1) % 10)] := by
  have HA0 := Lib.hid (Ap.start ho)
  have HB := Lib.hid hB
  have HX := hx
  clear hB ho hx
  go_enter Tryz.func232, Tryz.ntmps232
  go_wp2_with (at_builtin; go_loud (first | (exfalso; omega) | (refine wp_app HA3.out HB.out rfl _ _ rfl _ 2 (by simp [Act.eval]) (by simp [Act.eval]) rfl (by simp [Value.oneCell']) (by decide) (by simp) (by decide) ?_; intro v4 w4 hA'; have HA4 := Lib.hid hA'; clear hA') | (refine wp_app HA2.out HB.out rfl _ _ rfl _ 1 (by simp [Act.eval]) (by simp [Act.eval]) rfl (by simp [Value.oneCell']) (by decide) (by simp) (by decide) ?_; intro v3 w3 hA'; have HA3 := Lib.hid hA'; clear hA') | (refine wp_app HA1.out HB.out rfl _ _ rfl _ 1 (by simp [Act.eval]) (by simp [Act.eval]) rfl (by simp [Value.oneCell']) (by decide) (by simp) (by decide) ?_; intro v2 w2 hA'; have HA2 := Lib.hid hA'; clear hA') | (refine wp_app HA0.out HB.out rfl _ _ rfl _ 1 (by simp [Act.eval]) (by simp [Act.eval]) rfl (by simp [Value.oneCell']) (by decide) (by simp) (by decide) ?_; intro v1 w1 hA'; have HA1 := Lib.hid hA'; clear hA')))
  all_goals (
    have H4 := HA4.out
    clear HA0 HA1 HA2 HA3 HA4
    simp only [List.nil_append, List.cons_append, List.append_nil] at H4
    go_ret
    refine ⟨_, rfl, ?_⟩
    first
      | exact H4
      | (have e1 : -((dp - 1).tdiv 10) = (1 - dp) / 10 := by rw [← Int.neg_tdiv, Int.tdiv_eq_ediv_of_nonneg (by omega)]; congr 1; omega
         have e2 : -((dp - 1).tmod 10) = (1 - dp) % 10 := by rw [← Int.neg_tmod, Int.tmod_eq_emod_of_nonneg (by omega)]; congr 1; omega
         have e3 : wrap64 ((1 - dp) / 10) = (1 - dp) / 10 := by unfold wrap64; omega
         have e4 : ((1 - dp) / 10 + 48) % 256 = 48 + (1 - dp) / 10 := by omega
         have e5 : ((1 - dp) % 10 + 48) % 256 = 48 + (1 - dp) % 10 := by omega
         simp only [e1, e2, e3, e4, e5] at H4
         exact H4)
      | (have e1 : -(dp - 1) + 48 = 48 + (1 - dp) % 10 := by omega
         have e2 : 48 + (1 - dp) / 10 = 48 := by omega
         rw [e1] at H4; rw [e2]
         exact H4)
      | (have e1 : dp - 1 + 48 = 48 + (dp - 1) % 10 := by omega
         have e2 : 48 + (dp - 1) / 10 = 48 := by omega
         rw [e1] at H4; rw [e2]
         exact H4)
      | (rw [Int.add_comm ((dp - 1) / 10), Int.add_comm ((dp - 1) % 10)] at H4
         exact H4))
end Go.Proofs.YtiijgghholhcnaaGreatDoor.Re

/- ftoa64 at three floats (printed by gen_fta.py). -/
namespace Go.Proofs.YtiijgghholhcnaaGreatDoor.Re
open Go.RowKit
theorem run_fbits (x : Nat) (w : World) : Sem.run Tryz.prog (callFunc 229 #[.float .f64 x]) w = .ok (.value (.int .u64 (x : Nat))) w := by kernel_rfl
def Tab2 (w : World) : Prop := Lib.TabIs Tryz.prog w "internal/strconv.uint64pow10" .u64 Lib.pow10Tab
theorem gl9 : Tryz.prog.globalNamed "internal/strconv.uint64pow10" = some 2 := by kernel_rfl
theorem Tab2.still {S : Nat → Prop} {w w' : World} (h : Tab2 w) (O : Only S w w') (hs : ¬ S 2) : Tab2 w' := by
  unfold Tab2 Lib.TabIs World.var? at *
  rw [gl9] at *
  simp only [Option.bind_some] at *
  cases hc : w.heap[2]? with
  | none => rw [hc] at h; cases h
  | some o => rw [O.blk hc hs]; rw [hc] at h; exact h
theorem Ap.after {w w2 w' : World} {B : Nat} {d0 v : Value} {l : List Value} {S : Nat → Prop} (O : Only S w w2) (hS : ∀ k, k < w.heap.size → ¬ S k) (h : Ap w2 B d0 v l w') : Ap w B d0 v l w' :=
  ⟨(show Only (fun k => d0.ownBlock = some k) w w2 from O.mono (fun k hk hs => (hS k hk hs).elim)).seq2 h.only (fun i hi => .inr hi), h.own, by
    rcases h.which with e | ⟨g, e, hl⟩
    · exact .inl e
    · exact .inr ⟨g, e, Nat.le_trans O.size hl⟩⟩
theorem fifteen : ∀ k, k < 16 → 10 ^ k ∣ 1000000000000000 → 1000000000000000 / 10 ^ k % 10 ≠ 0 → k = 15 := by decide +kernel
theorem dg_first : Lib.dg 1000000000000000 (16 - 1 - 0) = 49 := by decide +kernel
def zeros32 : Array Value := #[.int .u8 0, .int .u8 0, .int .u8 0, .int .u8 0, .int .u8 0, .int .u8 0, .int .u8 0, .int .u8 0, .int .u8 0, .int .u8 0, .int .u8 0, .int .u8 0, .int .u8 0, .int .u8 0, .int .u8 0, .int .u8 0, .int .u8 0, .int .u8 0, .int .u8 0, .int .u8 0, .int .u8 0, .int .u8 0, .int .u8 0, .int .u8 0, .int .u8 0, .int .u8 0, .int .u8 0, .int .u8 0, .int .u8 0, .int .u8 0, .int .u8 0, .int .u8 0]
theorem zeros32_at (j : Nat) (h : j < 32) : zeros32[j]? = some (.int .u8 0) := by
  have : zeros32 = Array.replicate 32 (.int .u8 0) := by rfl
  rw [this, Array.getElem?_replicate, if_pos h]
set_option maxRecDepth 100000
set_option maxHeartbeats 4000000 in
theorem ftoa_tenth (B : Nat) (d0 : Value) (w : World) (hT : Tab w) (hU : Tab2 w) (hB : B ≤ w.heap.size) (ho : w.ownsRow B 5 1 d0 0 []) : Calls Tryz.prog 207 #[d0, .float .f64 4591870180066957722, .int .u8 101, .int .i64 (-1)] w fun e w' => ∃ v, e = .returned v ∧ Ap w B d0 v [.int .u8 49, .int .u8 101, .int .u8 45, .int .u8 48, .int .u8 49] w' := by
  have HT := Lib.hid hT; have HU := Lib.hid hU; have HO := Lib.hid ho; have HB := Lib.hid hB
  clear hT hU ho hB
  have hf := run_fbits 4591870180066957722
  have a1 : bits BinOp.and IntKind.i64 1019 2047 = 1019 := by decide +kernel
  have a2 : bits BinOp.and IntKind.u64 4591870180066957722 4503599627370495 = 2702159776422298 := by decide +kernel
  have a3 : bits BinOp.or IntKind.u64 2702159776422298 4503599627370496 = 7205759403792794 := by decide +kernel
  go_enter Tryz.func207, Tryz.ntmps207
  go_wp2_with fail
  go_quiet (fail)
  go_wp2_with fail
  refine (Tryz.bits_Len64 7205759403792794 _ (by decide) (by decide)).mono ?_
  rintro en w1 ⟨rfl, hw⟩; rw [hw]; clear hw w1
  rw [show Lib.bitLen (7205759403792794 : Int).toNat = 53 by decide +kernel]
  go_wp2_with fail
  have hd0 : ∀ k, d0.ownBlock = some k → k < w.heap.size := fun k hk => (HO.out.lt k hk).2
  have OA : ∀ n, Only (fun _ => False) w ((w.drewN n).alloc (.cells zeros32 228)) := fun n => ((Only.refl _ w).drewN n).alloc _
  have BA : ∀ n, ((w.drewN n).alloc (.cells zeros32 228)).heap[w.heap.size]? = some (.cells zeros32 228 (0, 0)) := fun n => blk_new (w.drewN n) _
  have HOA := Lib.hid OA; have HBA := Lib.hid BA
  clear OA BA
  refine (sf_normal 14757395258967642112 (-67) _ (HT.out.still (HOA.out _) id) ok_tenth.1 (by decide)).mono ?_
  rintro en w2 ⟨rfl, O2⟩
  have O2' := (HOA.out _).trans O2
  have B2 := O2.blk (HBA.out _) id
  have HO2 := Lib.hid O2'; have HB2 := Lib.hid B2
  clear O2 O2' B2 HOA HBA
  rw [ok_tenth.2.1, ok_tenth.2.2]
  go_wp2_with fail
  have ND := Lib.hid (fun n => Tryz.internal_strconv_numDigits 1000000000000000 (by decide) (by decide) (w2.drewN n) (HU.out.still (HO2.out.drewN n) id))
  rw [show ((Lib.nDigits 1000000000000000 : Nat) : Int) = 16 by decide +kernel] at ND
  have DC := Lib.hid (fun n => digits_calls w.heap.size 16 1000000000000000 (-16) (fun _ => 0) (w2.drewN n) (fun t ht => ⟨(blk_cell (w := w2.drewN n) HB2.out t).trans (zeros32_at t ht), blk_free (w := w2.drewN n) HB2.out t⟩) (by decide) (by decide) (by decide) (by decide) (by decide))
  clear HB2
  go_region_law (first
    | (go_simp; go_at_call 109; refine (ND.out 1).mono ?_; rintro en w3 ⟨rfl, hw⟩; rw [hw]; clear hw w3)
    | (go_simp; go_at_call 234; refine (DC.out 1).mono ?_; rintro en w4 ⟨⟨k, hk, rfl, hdv, hne⟩, O4, B4⟩; obtain rfl := fifteen k hk hdv hne; have HO4 := Lib.hid ((HO2.out.drewN 1).seq2 (S := fun _ => False) O4 (fun i hi => .inl (by rw [hi]; exact Nat.le_refl _))); have HB4 := Lib.hid (B4 0 (by decide)).1; clear hk hdv hne O4 B4 DC ND))
  go_wp2_with fail
  have hx := HB4.out
  rw [dg_first] at hx
  refine (efg_one B w.heap.size d0 49 (0) w4 (Nat.le_trans HB.out HO4.out.size) (own_keepS HO.out HO4.out (fun _ _ h => h)) hx (by decide)).mono ?_
  rintro en w5 ⟨v, l, rfl, hA, hl⟩
  have hA' := Lib.hid (hA.after HO4.out (fun _ _ h => h))
  have HL := Lib.hid hl
  clear hx hA hl
  go_wp2_with fail
  go_ret
  refine ⟨_, rfl, ?_⟩
  have h := hA'.out
  rw [HL.out] at h
  exact h
set_option maxHeartbeats 4000000 in
theorem ftoa_one (B : Nat) (d0 : Value) (w : World) (hT : Tab w) (hU : Tab2 w) (hB : B ≤ w.heap.size) (ho : w.ownsRow B 5 1 d0 0 []) : Calls Tryz.prog 207 #[d0, .float .f64 4607182418800017408, .int .u8 101, .int .i64 (-1)] w fun e w' => ∃ v, e = .returned v ∧ Ap w B d0 v [.int .u8 49, .int .u8 101, .int .u8 43, .int .u8 48, .int .u8 48] w' := by
  have HT := Lib.hid hT; have HU := Lib.hid hU; have HO := Lib.hid ho; have HB := Lib.hid hB
  clear hT hU ho hB
  have hf := run_fbits 4607182418800017408
  have a1 : bits BinOp.and IntKind.i64 1023 2047 = 1023 := by decide +kernel
  have a2 : bits BinOp.and IntKind.u64 4607182418800017408 4503599627370495 = 0 := by decide +kernel
  have a3 : bits BinOp.or IntKind.u64 0 4503599627370496 = 4503599627370496 := by decide +kernel
  go_enter Tryz.func207, Tryz.ntmps207
  go_wp2_with fail
  go_quiet (fail)
  go_wp2_with fail
  refine (Tryz.bits_Len64 4503599627370496 _ (by decide) (by decide)).mono ?_
  rintro en w1 ⟨rfl, hw⟩; rw [hw]; clear hw w1
  rw [show Lib.bitLen (4503599627370496 : Int).toNat = 53 by decide +kernel]
  go_wp2_with fail
  have hd0 : ∀ k, d0.ownBlock = some k → k < w.heap.size := fun k hk => (HO.out.lt k hk).2
  have OA : ∀ n, Only (fun _ => False) w ((w.drewN n).alloc (.cells zeros32 228)) := fun n => ((Only.refl _ w).drewN n).alloc _
  have BA : ∀ n, ((w.drewN n).alloc (.cells zeros32 228)).heap[w.heap.size]? = some (.cells zeros32 228 (0, 0)) := fun n => blk_new (w.drewN n) _
  have HOA := Lib.hid OA; have HBA := Lib.hid BA
  clear OA BA
  refine (sf_normal 9223372036854775808 (-63) _ (HT.out.still (HOA.out _) id) ok_one.1 (by decide)).mono ?_
  rintro en w2 ⟨rfl, O2⟩
  have O2' := (HOA.out _).trans O2
  have B2 := O2.blk (HBA.out _) id
  have HO2 := Lib.hid O2'; have HB2 := Lib.hid B2
  clear O2 O2' B2 HOA HBA
  rw [ok_one.2.1, ok_one.2.2]
  go_wp2_with fail
  have ND := Lib.hid (fun n => Tryz.internal_strconv_numDigits 1000000000000000 (by decide) (by decide) (w2.drewN n) (HU.out.still (HO2.out.drewN n) id))
  rw [show ((Lib.nDigits 1000000000000000 : Nat) : Int) = 16 by decide +kernel] at ND
  have DC := Lib.hid (fun n => digits_calls w.heap.size 16 1000000000000000 (-15) (fun _ => 0) (w2.drewN n) (fun t ht => ⟨(blk_cell (w := w2.drewN n) HB2.out t).trans (zeros32_at t ht), blk_free (w := w2.drewN n) HB2.out t⟩) (by decide) (by decide) (by decide) (by decide) (by decide))
  clear HB2
  go_region_law (first
    | (go_simp; go_at_call 109; refine (ND.out 1).mono ?_; rintro en w3 ⟨rfl, hw⟩; rw [hw]; clear hw w3)
    | (go_simp; go_at_call 234; refine (DC.out 1).mono ?_; rintro en w4 ⟨⟨k, hk, rfl, hdv, hne⟩, O4, B4⟩; obtain rfl := fifteen k hk hdv hne; have HO4 := Lib.hid ((HO2.out.drewN 1).seq2 (S := fun _ => False) O4 (fun i hi => .inl (by rw [hi]; exact Nat.le_refl _))); have HB4 := Lib.hid (B4 0 (by decide)).1; clear hk hdv hne O4 B4 DC ND))
  go_wp2_with fail
  have hx := HB4.out
  rw [dg_first] at hx
  refine (efg_one B w.heap.size d0 49 (1) w4 (Nat.le_trans HB.out HO4.out.size) (own_keepS HO.out HO4.out (fun _ _ h => h)) hx (by decide)).mono ?_
  rintro en w5 ⟨v, l, rfl, hA, hl⟩
  have hA' := Lib.hid (hA.after HO4.out (fun _ _ h => h))
  have HL := Lib.hid hl
  clear hx hA hl
  go_wp2_with fail
  go_ret
  refine ⟨_, rfl, ?_⟩
  have h := hA'.out
  rw [HL.out] at h
  exact h
set_option maxHeartbeats 4000000 in
theorem ftoa_e21 (B : Nat) (d0 : Value) (w : World) (hT : Tab w) (hU : Tab2 w) (hB : B ≤ w.heap.size) (ho : w.ownsRow B 5 1 d0 0 []) : Calls Tryz.prog 207 #[d0, .float .f64 4921056587992461136, .int .u8 101, .int .i64 (-1)] w fun e w' => ∃ v, e = .returned v ∧ Ap w B d0 v [.int .u8 49, .int .u8 101, .int .u8 43, .int .u8 50, .int .u8 49] w' := by
  have HT := Lib.hid hT; have HU := Lib.hid hU; have HO := Lib.hid ho; have HB := Lib.hid hB
  clear hT hU ho hB
  have hf := run_fbits 4921056587992461136
  have a1 : bits BinOp.and IntKind.i64 1092 2047 = 1092 := by decide +kernel
  have a2 : bits BinOp.and IntKind.u64 4921056587992461136 4503599627370495 = 3125794903879504 := by decide +kernel
  have a3 : bits BinOp.or IntKind.u64 3125794903879504 4503599627370496 = 7629394531250000 := by decide +kernel
  go_enter Tryz.func207, Tryz.ntmps207
  go_wp2_with fail
  go_quiet (fail)
  go_wp2_with fail
  refine (Tryz.bits_Len64 7629394531250000 _ (by decide) (by decide)).mono ?_
  rintro en w1 ⟨rfl, hw⟩; rw [hw]; clear hw w1
  rw [show Lib.bitLen (7629394531250000 : Int).toNat = 53 by decide +kernel]
  go_wp2_with fail
  have hd0 : ∀ k, d0.ownBlock = some k → k < w.heap.size := fun k hk => (HO.out.lt k hk).2
  have OA : ∀ n, Only (fun _ => False) w ((w.drewN n).alloc (.cells zeros32 228)) := fun n => ((Only.refl _ w).drewN n).alloc _
  have BA : ∀ n, ((w.drewN n).alloc (.cells zeros32 228)).heap[w.heap.size]? = some (.cells zeros32 228 (0, 0)) := fun n => blk_new (w.drewN n) _
  have HOA := Lib.hid OA; have HBA := Lib.hid BA
  clear OA BA
  refine (sf_normal 15625000000000000000 (6) _ (HT.out.still (HOA.out _) id) ok_e21.1 (by decide)).mono ?_
  rintro en w2 ⟨rfl, O2⟩
  have O2' := (HOA.out _).trans O2
  have B2 := O2.blk (HBA.out _) id
  have HO2 := Lib.hid O2'; have HB2 := Lib.hid B2
  clear O2 O2' B2 HOA HBA
  rw [ok_e21.2.1, ok_e21.2.2]
  go_wp2_with fail
  have ND := Lib.hid (fun n => Tryz.internal_strconv_numDigits 1000000000000000 (by decide) (by decide) (w2.drewN n) (HU.out.still (HO2.out.drewN n) id))
  rw [show ((Lib.nDigits 1000000000000000 : Nat) : Int) = 16 by decide +kernel] at ND
  have DC := Lib.hid (fun n => digits_calls w.heap.size 16 1000000000000000 (6) (fun _ => 0) (w2.drewN n) (fun t ht => ⟨(blk_cell (w := w2.drewN n) HB2.out t).trans (zeros32_at t ht), blk_free (w := w2.drewN n) HB2.out t⟩) (by decide) (by decide) (by decide) (by decide) (by decide))
  clear HB2
  go_region_law (first
    | (go_simp; go_at_call 109; refine (ND.out 1).mono ?_; rintro en w3 ⟨rfl, hw⟩; rw [hw]; clear hw w3)
    | (go_simp; go_at_call 234; refine (DC.out 1).mono ?_; rintro en w4 ⟨⟨k, hk, rfl, hdv, hne⟩, O4, B4⟩; obtain rfl := fifteen k hk hdv hne; have HO4 := Lib.hid ((HO2.out.drewN 1).seq2 (S := fun _ => False) O4 (fun i hi => .inl (by rw [hi]; exact Nat.le_refl _))); have HB4 := Lib.hid (B4 0 (by decide)).1; clear hk hdv hne O4 B4 DC ND))
  go_wp2_with fail
  have hx := HB4.out
  rw [dg_first] at hx
  refine (efg_one B w.heap.size d0 49 (22) w4 (Nat.le_trans HB.out HO4.out.size) (own_keepS HO.out HO4.out (fun _ _ h => h)) hx (by decide)).mono ?_
  rintro en w5 ⟨v, l, rfl, hA, hl⟩
  have hA' := Lib.hid (hA.after HO4.out (fun _ _ h => h))
  have HL := Lib.hid hl
  clear hx hA hl
  go_wp2_with fail
  go_ret
  refine ⟨_, rfl, ?_⟩
  have h := hA'.out
  rw [HL.out] at h
  exact h
end Go.Proofs.YtiijgghholhcnaaGreatDoor.Re
