/- The walks of the reference's whole numbers of any length: trim, Plus, Times. -/
import Derived.Test.YtgcjhdcplmfjbaaBnd5
import Derived.Test.YtgcjhdcplmfjbaaDoes1
import Derived.Outline
namespace Go.Proofs.Ytgcjhdcplmfjbaa.Bg
open Go.RowKit

theorem info56 : (Try.prog.info? 56).map (fun i => (i.zero, i.size, i.bytes)) = some (some (.int .u32 0), 1, 4) := by kernel_rfl
/-- n parts at p -/
def Bx (w : World) (p : Option Addr) (n : Nat) (d : Nat → Nat) : Prop := ∀ i, i < n → ∃ b o, p = some ⟨b, o, none⟩ ∧ b < w.heap.size ∧ w.cell? ⟨b, o + i, none⟩ = some (.int .u32 (d i : Nat)) ∧ d i < 4294967296
theorem Bx.only {w w' : World} {p : Option Addr} {n : Nat} {d : Nat → Nat} (h : Bx w p n d) (O : Only (fun _ => False) w w') : Bx w' p n d := by
  intro i hi
  obtain ⟨b, o, e, h1, h2, h3⟩ := h i hi
  exact ⟨b, o, e, Nat.lt_of_lt_of_le h1 O.size, by rw [O.cellAt h1 id, h2], h3⟩
theorem Bx.dg {w : World} {p : Option Addr} {n : Nat} {d : Nat → Nat} (h : Bx w p n d) : Dg d n := fun i hi => by
  obtain ⟨_, _, _, _, _, q⟩ := h i hi
  exact q
/-- a whole number in memory, no part 0 at its end -/
def BigV (w : World) (v : Value) (x : Nat) : Prop := ∃ p n c d, v = .slice p n c ∧ n ≤ c ∧ c ≤ maxLen ∧ Bx w p n d ∧ bv d n = x ∧ (n = 0 ∨ d (n - 1) ≠ 0) ∧ (p = none → n = 0)
theorem BigV.only {w w' : World} {v : Value} {x : Nat} (h : BigV w v x) (O : Only (fun _ => False) w w') : BigV w' v x := by
  obtain ⟨p, n, c, d, e, h1, h2, h3, h4⟩ := h
  exact ⟨p, n, c, d, e, h1, h2, h3.only O, h4⟩
theorem big_nil (w : World) : BigV w (.slice none 0 0) 0 := ⟨none, 0, 0, fun _ => 0, rfl, Nat.le_refl _, Nat.zero_le _, fun i hi => by omega, rfl, .inl rfl, fun _ => rfl⟩
theorem len_lt {d : Nat → Nat} {n k : Nat} (h : n = 0 ∨ d (n - 1) ≠ 0) (hx : bv d n < W k) : n ≤ k := by
  rcases h with rfl | h
  · omega
  · apply Nat.le_of_not_lt; intro hlt
    have h1 : W (n - 1) ≤ bv d n := by
      obtain ⟨m, rfl⟩ : ∃ m, n = m + 1 := ⟨n - 1, by omega⟩
      rw [bv_succ]
      have : 1 * W m ≤ d m * W m := Nat.mul_le_mul_right _ (Nat.pos_of_ne_zero h)
      show W m ≤ _
      omega
    have h2 : W k ≤ W (n - 1) := W_mono (by omega)
    omega
set_option maxHeartbeats 1000000 in
theorem trim_calls (w : World) (p : Option Addr) (n c : Nat) (d : Nat → Nat) (hn : n ≤ c) (hc : c ≤ maxLen) (h : Bx w p n d) (hnil : p = none → n = 0) :
    Calls Try.prog 45 #[.slice p n c] w fun e w' => ∃ v, e = .returned v ∧ BigV w v (bv d n) ∧ w' = w := by
  have hc' : c ≤ 9223372036854775807 := by unfold maxLen at hc; omega
  have H := Lib.hid h; have HC := Lib.hid hc; have HN := Lib.hid hnil
  clear h hc hnil
  go_enter Try.func45, Try.ntmps45
  go_wp2_with fail
  go_loop [3] (fun i => ∃ k : Nat, k ≤ n ∧ i = .int .i64 k ∧ ∀ j, k ≤ j → j < n → d j = 0) (fun i => (intOf i).toNat)
  case atStart => exact ⟨n, Nat.le_refl _, rfl, fun j h1 h2 => by omega⟩
  case round =>
    obtain ⟨k, hk, rfl, hz⟩ := hrel
    have HZ := Lib.hid hz; clear hz
    by_cases h0 : k = 0
    · subst h0
      have hb : BigV w (.slice p 0 c) (bv d n) := ⟨p, 0, c, d, rfl, Nat.zero_le _, HC.out, fun i hi => by omega, by rw [bv_pad (Nat.zero_le n) (fun i h1 h2 => HZ.out i (Nat.zero_le _) h2)], .inl rfl, fun _ => rfl⟩
      have HB := Lib.hid hb; clear hb
      go_wp2_with fail
      go_ret
      exact ⟨_, rfl, HB.out, rfl⟩
    · obtain ⟨m, rfl⟩ : ∃ m, k = m + 1 := ⟨k - 1, by omega⟩
      obtain ⟨b, o, rfl, _, c0, c1⟩ := H.out m (by omega)
      by_cases hd : d m = 0
      · rw [hd] at c0
        have HZ' := Lib.hid (show ∀ j, m ≤ j → j < n → d j = 0 from fun j h1 h2 => by
          by_cases e : j = m
          · rw [e]; exact hd
          · exact HZ.out j (by omega) h2)
        clear hd h0
        go_wp2_with fail
        go_round
        case rel => exact ⟨m, by omega, by go_num, HZ'.out⟩
        case measure => simp [intOf]
      · have hq : (((d m : Nat) : Int) == 0) = false := by rw [beq_eq_false_iff_ne]; omega
        have hb : BigV w (.slice (some ⟨b, o, none⟩) (m + 1) c) (bv d n) := ⟨some ⟨b, o, none⟩, m + 1, c, d, rfl, by omega, HC.out, fun i hi => H.out i (by omega), by rw [bv_pad hk (fun i h1 h2 => HZ.out i h1 h2)], .inr hd, fun e => by cases e⟩
        have HB := Lib.hid hb; clear hb hd h0
        go_wp2_with fail
        go_ret
        exact ⟨_, rfl, HB.out, rfl⟩

def dl (o : Nat → Nat) (n : Nat) : List Value := (List.range n).map fun j => .int .u32 (o j : Nat)
theorem dl_snoc (o : Nat → Nat) (n : Nat) : dl o (n + 1) = dl o n ++ [.int .u32 (o n : Nat)] := by simp [dl, List.range_succ]
theorem dl_congr {o o' : Nat → Nat} {n : Nat} (h : ∀ i, i < n → o i = o' i) : dl o n = dl o' n := by
  unfold dl; exact List.map_congr_left fun k hk => by rw [h k (by simpa using hk)]
/-- a row of the call's own parts -/
def Own (B : Nat) (w : World) (v : Value) (n : Nat) (o : Nat → Nat) : Prop := w.ownsRow B 56 1 v n (dl o n) ∧ Dg o n
theorem own_empty (w : World) : (w.alloc (.cells #[] 56)).ownsRow w.heap.size 56 1 (.slice (some ⟨w.heap.size, 0, none⟩) 0 0) 0 [] :=
  ⟨rfl, .inr ⟨w.heap.size, 0, #[], rfl, Nat.le_refl _, blk_new _ _, Nat.le_refl _, Nat.zero_le _, rfl, rfl⟩⟩
theorem Own.slice {B : Nat} {w : World} {v : Value} {n : Nat} {o : Nat → Nat} (h : Own B w v n o) : ∃ p c, v = .slice p n c ∧ n ≤ c ∧ c ≤ maxLen ∧ Bx w p n o ∧ (p = none → n = 0) := by
  obtain ⟨h1, h2⟩ := h
  rcases h1.2 with ⟨rfl, rfl⟩ | ⟨g, cap, cur, rfl, hb, h3, h4, h5, h6, h7⟩
  · exact ⟨none, 0, rfl, Nat.le_refl _, Nat.zero_le _, fun i hi => by omega, fun _ => rfl⟩
  · refine ⟨_, cap, rfl, h4, h5, fun i hi => ⟨g, 0, rfl, blk_lt h3, ?_, h2 i hi⟩, fun e => by cases e⟩
    have : (dl o n)[i]? = some (.int .u32 (o i : Nat)) := by simp [dl, hi]
    rw [blk_cell h3, Nat.zero_add, ← this, ← h7, List.getElem?_take, if_pos (by omega), Array.getElem?_toList]
theorem box1 (w : World) (x : Value) (t : TypeId) : ∀ j u, [x][j]? = some u → (w.alloc (.cells #[x] t)).cell? ((⟨w.heap.size, 0, none⟩ : Addr).add j) = some u := by
  intro j u hu
  have hb := blk_new w (.cells #[x] t)
  have ha : (⟨w.heap.size, 0, none⟩ : Addr).add j = ⟨w.heap.size, j, none⟩ := by unfold Addr.add; split <;> simp_all
  rw [ha, blk_cell hb]; simpa using hu
theorem own_keep' {w w' : World} {base e size n : Nat} {v : Value} {xs : List Value} (h : w.ownsRow base e size v n xs) (O : Only (fun _ => False) w w') : w'.ownsRow base e size v n xs := by
  refine ⟨h.1, ?_⟩
  rcases h.2 with h | ⟨g, cap, cur, e1, e2, e3, r⟩
  · exact .inl h
  · exact .inr ⟨g, cap, cur, e1, e2, O.blk e3 id, r⟩
def put (o : Nat → Nat) (i x : Nat) (k : Nat) : Nat := if k = i then x else o k
theorem Own.push {B : Nat} {w' : World} {v' : Value} {n x : Nat} {o : Nat → Nat} (hd : Dg o n) (hx : x < 4294967296) (h : w'.ownsRow B 56 1 v' (n + 1) (dl o n ++ [.int .u32 (x : Nat)])) : Own B w' v' (n + 1) (put o n x) := by
  refine ⟨?_, fun i hi => ?_⟩
  · rw [dl_snoc, dl_congr (o := put o n x) (o' := o) (n := n) (fun i hi => if_neg (by omega)), show put o n x n = x from if_pos rfl]; exact h
  · unfold put; split
    · exact hx
    · exact hd i (by omega)
theorem bv_put {o : Nat → Nat} {n x : Nat} : bv (put o n x) n = bv o n := bv_congr fun i hi => if_neg (by omega)
/-- a round of Plus -/
structure PlIn (w : World) (n m : Nat) (a b : Nat → Nat) (i c : Nat) (v : Value) (wr : World) : Prop where
  only : Only (fun _ => False) w wr
  le : i ≤ n + m + 1
  c1 : c ≤ 1
  le2 : i ≤ n ∨ i ≤ m ∨ c = 0
  row : ∃ o, Own w.heap.size wr v i o ∧ bv o i + c * W i = bv (at0 a n) i + bv (at0 b m) i
theorem PlIn.next {w wr w' : World} {n m i c s keep : Nat} {a b o : Nat → Nat} {v v' x : Value} (h : PlIn w n m a b i c v wr) (hi : i ≤ n + m) (ho : Own w.heap.size wr v i o) (he : bv o i + c * W i = bv (at0 a n) i + bv (at0 b m) i) (hs : s = c + at0 a n i + at0 b m i) (hlt : s / 4294967296 ≤ 1)
    (hg : Grew (wr.alloc (.cells #[x] 56)) w' v v' keep) (hown : w'.ownsRow w.heap.size 56 1 v' (i + 1) (dl o i ++ [.int .u32 ((s % 4294967296 : Nat) : Int)])) : PlIn w n m a b (i + 1) (s / 4294967296) v' w' := by
  have h2 : i + 1 ≤ n ∨ i + 1 ≤ m ∨ s / 4294967296 = 0 := by
    by_cases q1 : i < n
    · exact .inl q1
    · by_cases q2 : i < m
      · exact .inr (.inl q2)
      · refine .inr (.inr ?_)
        have e1 : at0 a n i = 0 := if_neg q1
        have e2 : at0 b m i = 0 := if_neg q2
        have := h.c1
        rw [e1, e2] at hs; omega
  refine ⟨(h.only.alloc _).grown hg.grown (fun k hk => .inl (ho.1.lt k hk).1), by omega, hlt, h2, put o i (s % 4294967296), Own.push ho.2 (Nat.mod_lt _ (by omega)) hown, ?_⟩
  have e1 : bv (put o i (s % 4294967296)) i + c * W i = bv (at0 a n) i + bv (at0 b m) i := by rw [bv_put]; exact he
  have := bv_carry (s := s) (c' := s / 4294967296) e1 (show put o i (s % 4294967296) i = s % 4294967296 from if_pos rfl) rfl
  rw [bv_succ (at0 a n), bv_succ (at0 b m)]
  rw [hs, Nat.add_mul, Nat.add_mul] at this
  subst hs
  omega
def PlR (w : World) (n m : Nat) (a b : Nat → Nat) (v q z : Value) (wr : World) : Prop := ∃ i c : Nat, z = .int .i64 (i : Nat) ∧ q = .int .u64 (c : Nat) ∧ PlIn w n m a b i c v wr
set_option maxHeartbeats 4000000 in
theorem plus_in (w : World) (p q : Option Addr) (n m c1 c2 : Nat) (a b : Nat → Nat) (hn : n ≤ 1000000) (hm : m ≤ 1000000) (ha : Bx w p n a) (hb : Bx w q m b) :
    Calls Try.prog 34 #[.slice p n c1, .slice q m c2] w fun e w' => ∃ v, e = .returned v ∧ BigV w' v (bv a n + bv b m) ∧ Only (fun _ => False) w w' := by
  obtain ⟨i3, hi3, hz3, hs3, hb3⟩ := info_parts info56
  have HA := Lib.hid ha; have HB := Lib.hid hb
  clear ha hb
  go_enter Try.func34, Try.ntmps34
  go_wp2_with fail
  go_loopw [5, 6, 7] (fun v q z wr => PlR w n m a b v q z wr) (fun _ _ z _ => (n + m + 2) - (intOf z).toNat)
  case atStart => exact ⟨0, 0, rfl, rfl, (Only.refl _ _).alloc _, by omega, by omega, .inl (Nat.zero_le _), fun _ => 0, ⟨own_empty w, fun i hi => by omega⟩, rfl⟩
  case round =>
    obtain ⟨i, c, rfl, rfl, H⟩ := hrel
    have hi := H.le; have hc := H.c1
    obtain ⟨o, ho, he⟩ := H.row
    have HH := Lib.hid H; have HO := Lib.hid ho; have HE := Lib.hid he; clear H he
    obtain ⟨pv, cv, rfl, _⟩ := ho.slice
    clear ho
    by_cases h1 : i < n
    · have hi' : i ≤ n + m := by omega
      obtain ⟨b1, o1, rfl, l1, x1, x2⟩ := HA.out i h1
      rw [← HH.out.only.cellAt l1 id] at x1
      have A1 := Lib.hid (show at0 a n i = a i from if_pos h1)
      by_cases h2 : i < m
      · obtain ⟨b2, o2, rfl, l2, y1, y2⟩ := HB.out i h2
        rw [← HH.out.only.cellAt l2 id] at y1
        have B1 := Lib.hid (show at0 b m i = b i from if_pos h2)
        generalize a i = u at *
        generalize b i = u' at *
        clear l1 l2
        have es : ((c : Int) + u + u') % 4294967296 = (((c + u + u') % 4294967296 : Nat) : Int) := by omega
        have es2 : ((c : Int) + u + u') / 4294967296 = (((c + u + u') / 4294967296 : Nat) : Int) := by omega
        have ES := Lib.hid es; have ES2 := Lib.hid es2
        clear es es2
        go_wp2_with (at_builtin; go_loud (refine wpList_append_kept _ rfl (.tmp 47) (.tmp 50) 49 rfl 56 i3 (.int .u32 0) 1 4 Try.underlying49 hi3 hz3 hs3 hb3 rfl (by decide) w.heap.size i _ (dl o i) (by simp [Act.eval]) (own_keep' HO.out.1 ((Only.refl _ _).alloc _)) (by have := HH.out.only.size; simp; omega) ⟨wr.heap.size, 0, none⟩ 1 1 [.int .u32 (((c + u + u') % 4294967296 : Nat) : Int)] (by simp [Act.eval]) rfl (fun j u hj => by rw [← ES.out] at hj; exact box1 wr _ _ j u hj) (by simp [Value.oneCell']) (by decide) (by unfold maxLen; omega) (by omega) ?_; intro v' w' hgr hown; have N := Lib.hid (HH.out.next hi' HO.out HE.out (s := c + u + u') (by rw [A1.out, B1.out]) (by omega) hgr hown); clear hgr hown))
        exact ⟨⟨i + 1, (c + u + u') / 4294967296, by go_num, by rw [← ES2.out], N.out⟩, by simp [intOf]; omega⟩
      · have B1 := Lib.hid (show at0 b m i = 0 from if_neg h2)
        generalize a i = u at *
        clear l1
        have es : ((c : Int) + u) % 4294967296 = (((c + u) % 4294967296 : Nat) : Int) := by omega
        have es2 : ((c : Int) + u) / 4294967296 = (((c + u) / 4294967296 : Nat) : Int) := by omega
        have ES := Lib.hid es; have ES2 := Lib.hid es2
        clear es es2
        go_wp2_with (at_builtin; go_loud (refine wpList_append_kept _ rfl (.tmp 47) (.tmp 50) 49 rfl 56 i3 (.int .u32 0) 1 4 Try.underlying49 hi3 hz3 hs3 hb3 rfl (by decide) w.heap.size i _ (dl o i) (by simp [Act.eval]) (own_keep' HO.out.1 ((Only.refl _ _).alloc _)) (by have := HH.out.only.size; simp; omega) ⟨wr.heap.size, 0, none⟩ 1 1 [.int .u32 (((c + u) % 4294967296 : Nat) : Int)] (by simp [Act.eval]) rfl (fun j u hj => by rw [← ES.out] at hj; exact box1 wr _ _ j u hj) (by simp [Value.oneCell']) (by decide) (by unfold maxLen; omega) (by omega) ?_; intro v' w' hgr hown; have N := Lib.hid (HH.out.next hi' HO.out HE.out (s := c + u) (by rw [A1.out, B1.out]; omega) (by omega) hgr hown); clear hgr hown))
        exact ⟨⟨i + 1, (c + u) / 4294967296, by go_num, by rw [← ES2.out], N.out⟩, by simp [intOf]; omega⟩
    · have A1 := Lib.hid (show at0 a n i = 0 from if_neg h1)
      by_cases h2 : i < m
      · have hi' : i ≤ n + m := by omega
        obtain ⟨b2, o2, rfl, l2, y1, y2⟩ := HB.out i h2
        rw [← HH.out.only.cellAt l2 id] at y1
        have B1 := Lib.hid (show at0 b m i = b i from if_pos h2)
        generalize b i = u' at *
        clear l2
        have es : ((c : Int) + u') % 4294967296 = (((c + u') % 4294967296 : Nat) : Int) := by omega
        have es2 : ((c : Int) + u') / 4294967296 = (((c + u') / 4294967296 : Nat) : Int) := by omega
        have ES := Lib.hid es; have ES2 := Lib.hid es2
        clear es es2
        go_wp2_with (at_builtin; go_loud (refine wpList_append_kept _ rfl (.tmp 47) (.tmp 50) 49 rfl 56 i3 (.int .u32 0) 1 4 Try.underlying49 hi3 hz3 hs3 hb3 rfl (by decide) w.heap.size i _ (dl o i) (by simp [Act.eval]) (own_keep' HO.out.1 ((Only.refl _ _).alloc _)) (by have := HH.out.only.size; simp; omega) ⟨wr.heap.size, 0, none⟩ 1 1 [.int .u32 (((c + u') % 4294967296 : Nat) : Int)] (by simp [Act.eval]) rfl (fun j u hj => by rw [← ES.out] at hj; exact box1 wr _ _ j u hj) (by simp [Value.oneCell']) (by decide) (by unfold maxLen; omega) (by omega) ?_; intro v' w' hgr hown; have N := Lib.hid (HH.out.next hi' HO.out HE.out (s := c + u') (by rw [A1.out, B1.out]; omega) (by omega) hgr hown); clear hgr hown))
        exact ⟨⟨i + 1, (c + u') / 4294967296, by go_num, by rw [← ES2.out], N.out⟩, by simp [intOf]; omega⟩
      · have B1 := Lib.hid (show at0 b m i = 0 from if_neg h2)
        by_cases h3 : c = 0
        · subst h3
          obtain ⟨hsl1, hsl2, hsl3, hsl4⟩ : i ≤ cv ∧ cv ≤ maxLen ∧ Bx wr pv i o ∧ (pv = none → i = 0) := by
            obtain ⟨p', c', e, h⟩ := HO.out.slice
            cases e; exact h
          have K := Lib.hid (trim_calls wr pv i cv o hsl1 hsl2 hsl3 hsl4)
          have ev : bv o i = bv a n + bv b m := by
            have := HE.out
            rw [Nat.zero_mul, Nat.add_zero, bv_at0 (by omega), bv_at0 (by omega)] at this
            exact this
          have EV := Lib.hid ev
          clear hsl1 hsl2 hsl3 hsl4 ev
          go_wp2_with fail
          refine K.out.mono ?_
          rintro e w2 ⟨v, rfl, hv, rfl⟩
          rw [EV.out] at hv
          have HV := Lib.hid hv
          obtain ⟨p6, n6, c6, d6, rfl, _⟩ := hv
          go_wp2_with fail
          go_ret
          exact ⟨_, rfl, HV.out, HH.out.only⟩
        · obtain rfl : c = 1 := by omega
          have hi' : i ≤ n + m := by have := HH.out.le2; omega
          have es : (1 : Int) % 4294967296 = (((1) % 4294967296 : Nat) : Int) := by omega
          have es2 : (1 : Int) / 4294967296 = (((1) / 4294967296 : Nat) : Int) := by omega
          have ES := Lib.hid es; have ES2 := Lib.hid es2
          clear es es2
          go_wp2_with (at_builtin; go_loud (refine wpList_append_kept _ rfl (.tmp 47) (.tmp 50) 49 rfl 56 i3 (.int .u32 0) 1 4 Try.underlying49 hi3 hz3 hs3 hb3 rfl (by decide) w.heap.size i _ (dl o i) (by simp [Act.eval]) (own_keep' HO.out.1 ((Only.refl _ _).alloc _)) (by have := HH.out.only.size; simp; omega) ⟨wr.heap.size, 0, none⟩ 1 1 [.int .u32 (((1) % 4294967296 : Nat) : Int)] (by simp [Act.eval]) rfl (fun j u hj => by rw [← ES.out] at hj; exact box1 wr _ _ j u hj) (by simp [Value.oneCell']) (by decide) (by unfold maxLen; omega) (by omega) ?_; intro v' w' hgr hown; have N := Lib.hid (HH.out.next hi' HO.out HE.out (s := 1) (by rw [A1.out, B1.out]) (by omega) hgr hown); clear hgr hown))
          exact ⟨⟨i + 1, 0, by go_num, rfl, N.out⟩, by simp [intOf]; omega⟩
end Go.Proofs.Ytgcjhdcplmfjbaa.Bg
