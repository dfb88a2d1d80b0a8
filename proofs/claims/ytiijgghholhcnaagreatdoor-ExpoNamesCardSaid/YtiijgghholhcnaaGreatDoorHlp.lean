/- strings.NewReplacer, the replacer built once, label.Help. -/
import Derived.Test.YtiijgghholhcnaaGreatDoorEsc
namespace Go.Proofs.YtiijgghholhcnaaGreatDoor
open Go.RowKit
set_option maxRecDepth 1000000
/-- the replacer in block b, not yet built, its pairs in block sb -/
structure Rn (w : World) (b sb n m cap : Nat) (x : Nat → UInt8) (S : Nat → List UInt8) : Prop where
  blk : w.heap[b]? = some (.cells #[.int .u32 0, .int .i32 0, .int .u32 0, .nilIface, .slice (some ⟨sb, 0, none⟩) m cap] 110 (0, 0))
  old : Old w sb n x S
  ne : sb ≠ b
set_option maxHeartbeats 4000000 in
theorem once_calls (b sb n m cap : Nat) (x : Nat → UInt8) (S : Nat → List UInt8) (w : World) (hm : m = 2 * n) (hn : 2 ≤ n) (hn2 : n ≤ 1000) {c0 c1 c2 : Value}
    (hb : w.heap[b]? = some (.cells #[c0, c1, c2, .nilIface, .slice (some ⟨sb, 0, none⟩) m cap] 110 (0, 0)))
    (hold : Old w sb n x S) (hlen : ∀ k, k < n → (S k).length ≠ 1) (hle : ∀ k, k < n → (S k).length ≤ 1000) (hinj : ∀ i j, i < n → j < n → x i = x j → i = j) :
    Calls Tryz.prog 69 #[.pointer (some ⟨b, 0, none⟩)] w fun e w' => e = .returned (.tuple #[]) ∧ ∃ q v W, Bl w W q n n x S v ∧ w' = (W.setCell ⟨b, 3, none⟩ (.iface 193 (.pointer (some ⟨q, 0, none⟩)))).setCell ⟨b, 4, none⟩ (.slice none 0 0) := by
  have HB := Lib.hid (build_calls b sb n m cap x S w hm hn hn2 (by rw [blk_cell hb]; rfl) hold hlen hle hinj)
  have HK := Lib.hid hb
  clear hm hold hb
  go_enter Tryz.func69, Tryz.ntmps69
  go_wp2_with fail
  refine HB.out.mono ?_
  rintro e W ⟨q, v, rfl, hBl⟩
  have HBl := Lib.hid hBl
  have hk := hBl.only.blk HK.out (fun e => e)
  have k3 : W.cell? ⟨b, 3, none⟩ = some .nilIface := by rw [blk_cell hk]; rfl
  have k4 : W.cell? ⟨b, 4, none⟩ = some (.slice (some ⟨sb, 0, none⟩) m cap) := by rw [blk_cell hk]; rfl
  have f3 : W.frozen? ⟨b, 3, none⟩ = false := blk_free hk 3
  have f4 : W.frozen? ⟨b, 4, none⟩ = false := blk_free hk 4
  clear hBl hk HB
  go_wp2_with fail
  go_end0
  exact ⟨rfl, q, v, W, HBl.out, rfl⟩
/-- the pairs as one row -/
def ol (n : Nat) (x : Nat → UInt8) (S : Nat → List UInt8) : List Value := (List.range (2 * n)).map fun k => if k % 2 = 0 then .string ⟨#[x (k / 2)]⟩ else .string ⟨(S (k / 2)).toArray⟩
theorem ol_len (n : Nat) (x : Nat → UInt8) (S : Nat → List UInt8) : (ol n x S).length = 2 * n := by simp [ol]
theorem ol_get (n : Nat) (x : Nat → UInt8) (S : Nat → List UInt8) (k : Nat) (h : k < 2 * n) : (ol n x S)[k]? = some (if k % 2 = 0 then .string ⟨#[x (k / 2)]⟩ else .string ⟨(S (k / 2)).toArray⟩) := by
  simp [ol, h]
theorem ol_cells {w : World} {sb n : Nat} {x : Nat → UInt8} {S : Nat → List UInt8} (h : Old w sb n x S) (j : Nat) (u : Value) (hj : (ol n x S)[j]? = some u) : w.cell? ((⟨sb, 0, none⟩ : Addr).add j) = some u := by
  have ha : (⟨sb, 0, none⟩ : Addr).add j = ⟨sb, j, none⟩ := by unfold Addr.add; split <;> simp_all
  have hl : j < 2 * n := by
    rw [← ol_len n x S]
    rcases Nat.lt_or_ge j (ol n x S).length with q | q
    · exact q
    · rw [List.getElem?_eq_none q] at hj; cases hj
  rw [ol_get n x S j hl] at hj
  rw [ha, ← hj]
  by_cases e : j % 2 = 0
  · rw [if_pos e]
    have := h.c0 (j / 2) (by omega)
    rw [show 2 * (j / 2) = j by omega] at this
    exact this
  · rw [if_neg e]
    have := h.c1 (j / 2) (by omega)
    rw [show 2 * (j / 2) + 1 = j by omega] at this
    exact this
theorem ol_own {w : World} {B n m : Nat} {x : Nat → UInt8} {S : Nat → List UInt8} {v : Value} (h : w.ownsRow B 9 1 v m (ol n x S)) (hm : m = 2 * n) (hn : 1 ≤ n) : ∃ sb c, v = .slice (some ⟨sb, 0, none⟩) m c ∧ Old w sb n x S ∧ B ≤ sb := by
  rcases h.2 with ⟨_, h0⟩ | ⟨g, cap, cur, rfl, h1, h2, h3⟩
  · omega
  · have hc := h.cells (g := g) rfl
    have ha : ∀ j, (⟨g, 0, none⟩ : Addr).add j = ⟨g, j, none⟩ := by intro j; unfold Addr.add; split <;> simp_all
    refine ⟨g, cap, rfl, ⟨fun k hk => ?_, fun k hk => ?_, blk_lt h2⟩, h1⟩
    · have := hc (2 * k) _ (ol_get n x S (2 * k) (by omega))
      rw [ha, if_pos (by omega), show 2 * k / 2 = k by omega] at this
      exact this
    · have := hc (2 * k + 1) _ (ol_get n x S (2 * k + 1) (by omega))
      rw [ha, if_neg (by omega), show (2 * k + 1) / 2 = k by omega] at this
      exact this
/-- the pairs appended to nothing -/
theorem wp_ol {ops : Array Oper} {rest : List Oper} {o : Oper} {a : Act} {Q : Exit → Act → World → Prop} {w : World} {sb n m cap : Nat} {x : Nat → UInt8} {S : Nat → List UInt8}
    (hold : Old w sb n x S) (hm : m = 2 * n) (hn : 1 ≤ n) (hn2 : n ≤ 1000) (hgd : o.guard = none) (sl y : Operand) (ho : o.op = .call { callee := .builtin .append, args := #[sl, y], argTypes := #[68, 68] })
    (hs : a.eval sl = .slice none 0 0) (hx : a.eval y = .slice (some ⟨sb, 0, none⟩) m cap)
    (h : ∀ s2 c w', Old w' s2 n x S → w.heap.size ≤ s2 → Only (fun _ => False) w w' → wpList Tryz.prog ops Q rest (a.put o.dst (.slice (some ⟨s2, 0, none⟩) m c)) w') :
    wpList Tryz.prog ops Q (o :: rest) a w := by
  refine wpList_append_kept w hgd sl y 68 ho 9 Tryz.t9 (.string ⟨#[]⟩) 1 16 Tryz.underlying68 hi9 hz9 hs9 hb9 rfl (by decide) w.heap.size 0 _ [] hs ⟨rfl, .inl ⟨rfl, rfl⟩⟩ (Nat.le_refl _) ⟨sb, 0, none⟩ m cap (ol n x S) hx (by rw [ol_len]; omega) (ol_cells hold) ?_ (by omega) (by unfold maxLen; omega) (by omega) ?_
  · intro u hu
    simp only [ol, List.mem_map] at hu
    obtain ⟨k, _, rfl⟩ := hu
    split <;> rfl
  · intro v' w' hg ho'
    rw [List.nil_append, Nat.zero_add] at ho'
    obtain ⟨s2, c, rfl, h1, h2⟩ := ol_own ho' hm hn
    exact h s2 c w' h1 h2 ((Only.refl _ w).grown hg.grown (fun k hk => by cases hk))
set_option maxHeartbeats 4000000 in
theorem new_calls (n m sb cap : Nat) (x : Nat → UInt8) (S : Nat → List UInt8) (w : World) (hm : m = 2 * n) (hn : 1 ≤ n) (hn2 : n ≤ 1000) (hold : Old w sb n x S) :
    Calls Tryz.prog 35 #[.slice (some ⟨sb, 0, none⟩) m cap] w fun e w' => ∃ b s2 c, e = .returned (.pointer (some ⟨b, 0, none⟩)) ∧ Rn w' b s2 n m c x S ∧ Only (fun _ => False) w w' ∧ w.heap.size ≤ b := by
  have HO := Lib.hid hold
  have q1 : ((m : Int) % 2 == 1) = false := by
    have : (m : Int) % 2 = 0 := by rw [hm]; omega
    rw [this]; rfl
  have m1 : 1 ≤ m := by omega
  have HM := Lib.hid hm
  clear hm hold
  go_enter Tryz.func35, Tryz.ntmps35
  go_wp2_with (at_builtin; go_loud (refine wp_ol (sb := sb) (n := n) (m := m) (cap := cap) (x := x) (S := S) HO.out HM.out hn hn2 rfl (.const (.slice none 0 0)) (.tmp 8) rfl rfl (by simp [Act.eval]) ?_; intro s2 c2 w2 ho2 hb2 hO2; have HO2 := Lib.hid ho2; have HB2 := Lib.hid hb2; have HQ2 := Lib.hid hO2; clear ho2 hb2 hO2))
  go_ret
  have hA := (Only.refl (fun _ => False) w2).alloc (.cells #[.int .u32 0, .int .i32 0, .int .u32 0, .nilIface, .slice (some ⟨s2, 0, none⟩) m c2] 110)
  exact ⟨_, s2, c2, rfl, ⟨blk_new w2 _, HO2.out.only hA (fun e => e), Nat.ne_of_lt HO2.out.lt⟩, HQ2.out.trans hA, HQ2.out.size⟩
end Go.Proofs.YtiijgghholhcnaaGreatDoor
