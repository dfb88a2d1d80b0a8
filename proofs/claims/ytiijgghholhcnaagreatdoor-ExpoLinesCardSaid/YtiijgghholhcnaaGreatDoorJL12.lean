/- The walk of label.right, label.value at any text. -/
import Derived.Test.YtiijgghholhcnaaGreatDoorJL11
import Derived.Test.YtiijgghholhcnaaGreatDoorJL10
import Derived.Lib.AppendZeros
namespace Go.Proofs.YtiijgghholhcnaaGreatDoor
open Go.RowKit
set_option maxRecDepth 1000000
theorem run_next_any {P : Program} (w : World) (s : ByteArray) (pos : Nat) (ty : TypeId) (h : pos < s.size) :
    (Instr.next (.pointer (some ⟨w.heap.size, 0, none⟩)) true ty).run P (w.iter s pos) =
      .ok (.tuple #[.bool true, .int .i64 pos, .int .i32 (Utf8.decode s pos).1]) (w.iter s (pos + (Utf8.decode s pos).2)) := by
  simp only [Instr.next, getObj, setObj, Sem.run_bind, Sem.run, World.iter_heap, Result.andThen, h, if_true, World.iter_set]
  simp [goInt]
theorem decode_bounds (s : ByteArray) (pos : Nat) (h : pos < s.size) : 1 ≤ (Utf8.decode s pos).2 ∧ pos + (Utf8.decode s pos).2 ≤ s.size := by
  unfold Utf8.decode
  dsimp only
  repeat' split
  all_goals simp_all only [Bool.and_eq_true, decide_eq_true_eq]
  all_goals omega
/-- right UTF-8 from a place on, by at most so many runes -/
def rightF (s : ByteArray) : Nat → Nat → Bool
  | 0, _ => true
  | f + 1, pos => if pos < s.size then (if (Utf8.decode s pos).1 = 65533 ∧ Lib.hasPrefix (s.extract pos s.size).data.toList [239, 191, 189] = false then false else rightF s f (pos + (Utf8.decode s pos).2)) else true
def rightB (s : List UInt8) : Bool := rightF ⟨s.toArray⟩ s.length 0
def RtR (w0 : World) (s : ByteArray) (w : World) : Prop := ∃ pos f, pos ≤ s.size ∧ s.size ≤ pos + f ∧ w = w0.iter s pos ∧ rightF s s.size 0 = rightF s f pos
def posIt (w0 w : World) : Nat := match w.heap[w0.heap.size]? with
  | some (.stringIter _ p) => p
  | _ => 0
theorem posIt_iter (w : World) (s : ByteArray) (pos : Nat) : posIt w (w.iter s pos) = pos := by unfold posIt; rw [World.iter_heap]
set_option maxHeartbeats 1600000 in
theorem right_calls (s : List UInt8) (w : World) (hs : s.length ≤ 140737488355328) : Calls Tryz.prog 93 #[.string ⟨s.toArray⟩] w fun e w' => e = .returned (.bool (rightB s)) ∧ Only (fun _ => False) w w' := by
  unfold rightB
  rw [show s.length = (⟨s.toArray⟩ : ByteArray).size from rfl] at hs ⊢
  generalize (⟨s.toArray⟩ : ByteArray) = S at *
  have KP := Lib.hid (fun (T : ByteArray) (w : World) => Tryz.strings_HasPrefix T ⟨#[239, 191, 189]⟩ w)
  go_enter Tryz.func93, Tryz.ntmps93
  go_wp2_with fail
  go_loopw [3, 4] (fun v3 v4 wr => RtR w S wr) (fun _ _ wr => S.size - posIt w wr)
  case atStart => exact ⟨0, S.size, Nat.zero_le _, by omega, rfl, rfl⟩
  case round =>
    obtain ⟨pos, f, h1, h2, hwr, h3⟩ := hrel
    have H3 := Lib.hid h3; clear h3
    rw [hwr, posIt_iter]; clear hwr wr
    have hO : Only (fun _ => False) w (w.iter S pos) := (Only.refl _ w).alloc _
    by_cases h : pos < S.size
    · have hn := run_next_any (P := Tryz.prog) w S pos 0 h
      have hb := decode_bounds S pos h
      obtain ⟨f', rfl⟩ : ∃ f', f = f' + 1 := ⟨f - 1, by omega⟩
      obtain ⟨c, hc⟩ : ∃ c, c = (Utf8.decode S pos).1 := ⟨_, rfl⟩
      obtain ⟨k, hk⟩ : ∃ k, k = (Utf8.decode S pos).2 := ⟨_, rfl⟩
      have HX : Hid (rightF S (f' + 1) pos = if c = 65533 ∧ Lib.hasPrefix (S.extract pos S.size).data.toList [239, 191, 189] = false then false else rightF S f' (pos + k)) := Lib.hid (by rw [rightF, if_pos h, hc, hk])
      rw [← hc, ← hk] at hn
      rw [← hk] at hb
      clear hc hk
      rcases hq : decide (c = 65533) with _ | _
      · have hq1 : ((c : Int) == 65533) = false := by have := of_decide_eq_false hq; simp; omega
        have HQ := Lib.hid hq; clear hq
        go_wp2_with fail
        refine ⟨⟨pos + k, f', by omega, by omega, rfl, ?_⟩, by rw [posIt_iter]; omega⟩
        rw [H3.out, HX.out, if_neg (fun e => of_decide_eq_false HQ.out e.1)]
      · have hq1 : ((c : Int) == 65533) = true := by have := of_decide_eq_true hq; simp; omega
        have HQ := Lib.hid hq; clear hq
        go_wp2_with fail
        refine (KP.out _ _).mono ?_
        rintro e w1 ⟨rfl, hw⟩; rw [hw]; clear hw w1
        obtain ⟨bp, hbp⟩ : ∃ b, b = Lib.hasPrefix (S.extract pos S.size).data.toList [239, 191, 189] := ⟨_, rfl⟩
        rw [← hbp] at HX ⊢
        clear hbp
        rcases bp
        · go_wp2_with fail
          go_ret
          refine ⟨?_, (Only.refl _ w).alloc _⟩
          rw [H3.out, HX.out, if_pos ⟨of_decide_eq_true HQ.out, by first | rfl | trivial⟩]; rfl
        · go_wp2_with fail
          refine ⟨⟨pos + k, f', by omega, by omega, rfl, ?_⟩, by rw [posIt_iter]; omega⟩
          rw [H3.out, HX.out, if_neg (fun e => by cases e.2)]
    · have hn := run_next_end (P := Tryz.prog) w S pos 0 h
      go_wp2_with fail
      go_ret
      refine ⟨?_, hO⟩
      rw [H3.out]
      cases f with
      | zero => rfl
      | succ f => rw [rightF, if_neg h]; rfl
/-- what is wrong with a value -/
def valueE (s : List UInt8) : Int := if 1024 < s.length then 4 else if rightB s then 0 else 11
theorem value_calls (s : List UInt8) (w : World) (hs : s.length ≤ 140737488355328) : Calls Tryz.prog 50 #[.string ⟨s.toArray⟩] w fun e w' => e = .returned (.int .i64 (valueE s)) ∧ Only (fun _ => False) w w' := by
  obtain ⟨b, hb⟩ : ∃ b, b = rightB s := ⟨_, rfl⟩
  have K : Hid (Calls Tryz.prog 93 #[.string ⟨s.toArray⟩] w fun e w' => e = .returned (.bool b) ∧ Only (fun _ => False) w w') := Lib.hid (by rw [hb]; exact right_calls s w hs)
  unfold valueE
  rw [← hb]
  clear hb
  obtain ⟨n, hn⟩ : ∃ n, n = s.length := ⟨_, rfl⟩
  have z : (⟨s.toArray⟩ : ByteArray).size = n := hn.symm
  rw [← hn]
  clear hs hn
  by_cases h : 1024 < n
  · have t1 : decide ((1024 : Int) < (n : Int)) = true := decide_eq_true (by omega)
    rw [if_pos h]
    go_enter Tryz.func50, Tryz.ntmps50
    go_wp2_with fail
    go_ret
    exact ⟨rfl, Only.refl _ w⟩
  · have t1 : decide ((1024 : Int) < (n : Int)) = false := decide_eq_false (by omega)
    rw [if_neg h]
    rcases b
    · go_enter Tryz.func50, Tryz.ntmps50
      go_wp2_with fail
      refine K.out.mono ?_
      rintro e w1 ⟨rfl, hO⟩
      have HO := Lib.hid hO; clear hO
      go_wp2_with fail
      go_ret
      exact ⟨rfl, HO.out⟩
    · go_enter Tryz.func50, Tryz.ntmps50
      go_wp2_with fail
      refine K.out.mono ?_
      rintro e w1 ⟨rfl, hO⟩
      have HO := Lib.hid hO; clear hO
      go_wp2_with fail
      go_ret
      exact ⟨rfl, HO.out⟩
end Go.Proofs.YtiijgghholhcnaaGreatDoor

/- The walk of label.behind. -/
namespace Go.Proofs.YtiijgghholhcnaaGreatDoor
open Go.RowKit
set_option maxRecDepth 1000000
/-- labels in memory -/
structure Lbs (w : World) (lp : Option Addr) (n : Nat) (L : Nat → List UInt8 × List UInt8) : Prop where
  at' : ∀ i, i < n → ∃ b o, lp = some ⟨b, o, none⟩ ∧ b < w.heap.size ∧ w.cell? ⟨b, o + i * 2, none⟩ = some (.string ⟨(L i).1.toArray⟩) ∧ w.cell? ⟨b, o + i * 2 + 1, none⟩ = some (.string ⟨(L i).2.toArray⟩)
theorem Lbs.still {w w' : World} {lp : Option Addr} {n : Nat} {L : Nat → List UInt8 × List UInt8} (h : Lbs w lp n L) (O : Only (fun _ => False) w w') : Lbs w' lp n L := by
  refine ⟨fun i hi => ?_⟩
  obtain ⟨b, o, h1, h2, h3, h4⟩ := h.at' i hi
  exact ⟨b, o, h1, Nat.lt_of_lt_of_le h2 O.size, (O.cellAt h2 id _).trans h3, (O.cellAt h2 id _).trans h4⟩
theorem Lbs.take {w : World} {lp : Option Addr} {n m : Nat} {L : Nat → List UInt8 × List UInt8} (h : Lbs w lp n L) (hm : m ≤ n) : Lbs w lp m L := ⟨fun i hi => h.at' i (by omega)⟩
/-- what is wrong with a label's name behind others -/
def behindE (L : Nat → List UInt8 × List UInt8) (n : Nat) (nm : List UInt8) : Int :=
  if n = 0 then 0 else if Op.bytesLess (L (n - 1)).1 nm = true then 0 else if ((L (n - 1)).1 == nm) = true then 10 else 15
theorem behind_calls (lp : Option Addr) (n cap : Nat) (L : Nat → List UInt8 × List UInt8) (nm : List UInt8) (w : World) (hn : n ≤ 1000) (h : Lbs w lp n L) :
    Calls Tryz.prog 52 #[.slice lp n cap, .string ⟨nm.toArray⟩] w fun e w' => e = .returned (.int .i64 (behindE L n nm)) ∧ w' = w := by
  by_cases h0 : n = 0
  · subst h0
    clear h
    go_enter Tryz.func52, Tryz.ntmps52
    go_wp2_with fail
    go_ret
    exact ⟨rfl, rfl⟩
  obtain ⟨m, rfl⟩ : ∃ m, n = m + 1 := ⟨n - 1, by omega⟩
  obtain ⟨b, o, rfl, h2, h3, h4⟩ := h.at' m (by omega)
  have hE : behindE L (m + 1) nm = if Op.bytesLess (L m).1 nm = true then 0 else if ((L m).1 == nm) = true then 10 else 15 := by
    unfold behindE; rw [if_neg h0]; rfl
  rw [hE]
  generalize hx : (L m).1 = x at *
  have t0 : ((m : Int) + 1 == 0) = false := by simp; omega
  have hw : wrap64 ((m : Int) + 1 - 1) = (m : Int) := by unfold wrap64; omega
  clear h h0 hE h4
  rcases hq : Op.bytesLess x nm with _ | _
  · rcases hq2 : (x == nm) with _ | _
    · go_enter Tryz.func52, Tryz.ntmps52
      go_wp2_with fail
      go_ret
      exact ⟨rfl, rfl⟩
    · go_enter Tryz.func52, Tryz.ntmps52
      go_wp2_with fail
      go_ret
      exact ⟨rfl, rfl⟩
  · go_enter Tryz.func52, Tryz.ntmps52
    go_wp2_with fail
    go_ret
    exact ⟨rfl, rfl⟩
end Go.Proofs.YtiijgghholhcnaaGreatDoor

/- Rows of labels; the walks of slices.Grow at nil and of slices.Concat of two lists of labels. -/
namespace Go.Proofs.YtiijgghholhcnaaGreatDoor
open Go.RowKit
set_option maxRecDepth 1000000
/-! append of any slice, an empty one too -/
theorem run_append_own_zero {P : Program} {w : World} (base : Nat) (t ty e : TypeId) (i : TypeInfo) (size : Nat) (ht : P.underlying t = some (.slice e)) (hi : P.info? e = some i)
    (v : Value) (n : Nat) (xs : List Value) (hown : w.ownsRow base e size v n xs) (p : Option Addr) (c : Nat) :
    (Builtin.append_ #[t, t] ty #[v, .slice p 0 c]).run P w = .ok v w := by
  have h0 : ∀ a : Addr, (loadCells a 0).run P w = .ok #[] w := fun a => rfl
  rcases hown.2 with ⟨rfl, rfl⟩ | ⟨g, cap, cur, rfl, _, _, hnc, _⟩
  · cases p <;> simp [Builtin.append_, run_underlying ht, sizeOf, typeInfo, hi, Builtin.lenOf, Builtin.firstCells, h0]
  · cases p <;> simp [Builtin.append_, run_underlying ht, sizeOf, typeInfo, hi, Builtin.lenOf, Builtin.firstCells, hnc, storeCells, h0]
theorem Grew.refl {w : World} {base e size n : Nat} {v : Value} {xs : List Value} (_h : w.ownsRow base e size v n xs) (keep : Nat) : Grew w w v v keep :=
  ⟨⟨rfl, rfl, rfl, Nat.le_refl _, fun _ _ _ => rfl⟩, fun _ _ _ _ => rfl, fun _ _ => rfl, .inl rfl, fun _ cur _ _ h => ⟨cur, h⟩⟩
theorem wpList_append_any {P : Program} (w : World) {ops : Array Oper} {rest : List Oper} {o : Oper} {a : Act} {Q : Exit → Act → World → Prop}
    (hg : o.guard = none) (s x : Operand) (t : TypeId) (hop : o.op = Op.call { callee := Callee.builtin Builtin.append, args := #[s, x], argTypes := #[t, t] })
    (e : TypeId) (i : TypeInfo) (z : Value) (size bytes : Nat) (h1 : P.underlying t = some (.slice e)) (h2 : P.info? e = some i) (h3 : i.zero = some z) (h4 : i.size = size) (h5 : i.bytes = bytes) (h6 : z.cells.size = size) (h7 : 0 < size)
    (base n : Nat) (v : Value) (xs : List Value) (hs : a.eval s = v) (ho : w.ownsRow base e size v n xs) (hbase : base ≤ w.heap.size)
    (p : Option Addr) (m c : Nat) (news : List Value) (hx : a.eval x = .slice p m c) (hnil : p = none → m = 0) (hn : news.length = m * size) (hc : ∀ ad j u, p = some ad → news[j]? = some u → w.cell? (ad.add j) = some u) (h1c : ∀ u ∈ news, u.oneCell' = true)
    (b1 : n + m ≤ maxLen) (b2 : (n + m) * bytes ≤ 140737488355328)
    (hK : ∀ v' w', Grew w w' v v' (n * size) → w'.ownsRow base e size v' (n + m) (xs ++ news) → wpList P ops Q rest (a.put o.dst v') w') :
    wpList P ops Q (o :: rest) a w := by
  by_cases hm : m = 0
  · subst hm
    have hnews : news = [] := List.eq_nil_of_length_eq_zero (by simpa using hn)
    subst hnews
    refine wpList_plain hg fun K hK' => ?_
    have hrun := run_append_own_zero (P := P) (w := w) base t o.type e i size h1 h2 v n xs ho p c
    unfold Oper.wp
    simp [execOp, hop, resolve, invoke, builtin, hs, hx, hrun, Result.andThen]
    exact hK' _ _ (hK v w (Grew.refl ho _) (by simpa using ho))
  · cases p with
    | none => exact absurd (hnil rfl) hm
    | some ad => exact wpList_append_kept w hg s x t hop e i z size bytes h1 h2 h3 h4 h5 h6 h7 base n v xs hs ho hbase ad m c news hx hn (fun j u hj => hc ad j u rfl hj) h1c (by omega) b1 b2 hK

theorem own_tag {w : World} {base e size n : Nat} {v : Value} {xs : List Value} (h : w.ownsRow base e size v n xs) {g : Nat} (hg : v.ownBlock = some g) : base ≤ g ∧ ∃ cur, w.heap[g]? = some (.cells cur e (0, 0)) := by
  rcases h.2 with ⟨rfl, _⟩ | ⟨g', cap, cur, rfl, r2, r3, _⟩
  · cases hg
  · have : g' = g := by simpa [Value.ownBlock] using hg
    subst this; exact ⟨r2, cur, r3⟩
abbrev Lb := Nat → List UInt8 × List UInt8
def lx (L : Lb) (i : Nat) : Value := .string ⟨(L i).1.toArray⟩
def ly (L : Lb) (i : Nat) : Value := .string ⟨(L i).2.toArray⟩
/-- the cells of n labels -/
def lcl (L : Lb) (n : Nat) : List Value := (List.range (n * 2)).map fun j => if j % 2 = 0 then lx L (j / 2) else ly L (j / 2)
theorem lcl_len (L : Lb) (n : Nat) : (lcl L n).length = n * 2 := by simp [lcl]
theorem lcl_at (L : Lb) (n j : Nat) (h : j < n * 2) : (lcl L n)[j]? = some (if j % 2 = 0 then lx L (j / 2) else ly L (j / 2)) := by simp [lcl, h]
theorem lcl_src {w : World} {p : Option Addr} {n : Nat} {L : Lb} (h : Lbs w p n L) (ad : Addr) (j : Nat) (v : Value) (hp : p = some ad) (hv : (lcl L n)[j]? = some v) : w.cell? (ad.add j) = some v := by
  have hj : j < n * 2 := by rw [← lcl_len L n]; exact (List.getElem?_eq_some_iff.1 hv).1
  rw [lcl_at _ _ _ hj] at hv
  obtain ⟨b, o, e, h1, h2, h3⟩ := h.at' (j / 2) (by omega)
  rw [hp] at e; injection e with e; subst e
  injection hv with hv
  have ha : (⟨b, o, none⟩ : Addr).add j = ⟨b, o + j, none⟩ := by simp [Addr.add]
  rw [ha, ← hv]
  by_cases hp : j % 2 = 0
  · rw [if_pos hp]; unfold lx; rw [← h2]; congr 2; omega
  · rw [if_neg hp]; unfold ly; rw [← h3]; congr 2; omega
theorem lcl_one (L : Lb) (n : Nat) : ∀ v ∈ lcl L n, v.oneCell' = true := by
  intro v hv
  unfold lcl at hv
  obtain ⟨j, _, rfl⟩ := List.mem_map.1 hv
  split <;> rfl
theorem lcl_congr {L M : Lb} {n : Nat} (h : ∀ i, i < n → L i = M i) : lcl L n = lcl M n := by
  unfold lcl
  apply List.map_congr_left
  intro j hj
  have : j / 2 < n := by simp at hj; omega
  unfold lx ly; rw [h _ this]
theorem lcl_snoc (L : Lb) (n : Nat) : lcl L (n + 1) = lcl L n ++ [lx L n, ly L n] := by
  unfold lcl
  rw [show (n + 1) * 2 = n * 2 + 1 + 1 by omega, List.range_succ, List.range_succ]
  simp only [List.map_append, List.map_cons, List.map_nil, List.append_assoc, List.cons_append, List.nil_append]
  have e1 : n * 2 / 2 = n := by omega
  have e2 : (n * 2 + 1) / 2 = n := by omega
  rw [if_pos (by omega), if_neg (by omega), e1, e2]
/-- labels behind others -/
def lcat (L M : Lb) (n i : Nat) : List UInt8 × List UInt8 := if i < n then L i else M (i - n)
theorem lcl_cat (L M : Lb) (n : Nat) : ∀ m, lcl (lcat L M n) (n + m) = lcl L n ++ lcl M m
  | 0 => by
    rw [Nat.add_zero, show lcl M 0 = [] from rfl, List.append_nil]
    exact lcl_congr fun i hi => if_pos hi
  | m + 1 => by
    rw [← Nat.add_assoc, lcl_snoc, lcl_cat L M n m, lcl_snoc, List.append_assoc]
    unfold lx ly lcat
    rw [if_neg (by omega), show n + m - n = m by omega]
theorem own_lenZ {w : World} {B e z n : Nat} {v : Value} {xs : List Value} (h : w.ownsRow B e z v n xs) : ∃ p c, v = .slice p n c ∧ (p = none → n = 0) := by
  rcases h.2 with ⟨rfl, rfl⟩ | ⟨g, cap, cur, rfl, _⟩
  · exact ⟨none, 0, rfl, fun _ => rfl⟩
  · exact ⟨_, _, rfl, fun e => by cases e⟩
theorem own_lbs {w : World} {B n : Nat} {p : Option Addr} {c : Nat} {L : Lb} (h : w.ownsRow B 47 2 (.slice p n c) n (lcl L n)) : Lbs w p n L := by
  refine ⟨fun i hi => ?_⟩
  rcases h.2 with ⟨_, rfl⟩ | ⟨g, cap, cur, e, hg, hb, _⟩
  · omega
  · injection e with e1 e2 e3
    subst e1
    have q1 := h.cells (g := g) rfl (i * 2) _ (lcl_at L n (i * 2) (by omega))
    have q2 := h.cells (g := g) rfl (i * 2 + 1) _ (lcl_at L n (i * 2 + 1) (by omega))
    have ha : ∀ j, (⟨g, 0, none⟩ : Addr).add j = ⟨g, j, none⟩ := fun j => by unfold Addr.add; split <;> simp_all
    rw [if_pos (by omega), ha] at q1
    rw [if_neg (by omega), ha] at q2
    refine ⟨g, 0, rfl, blk_lt hb, ?_, ?_⟩
    · rw [Nat.zero_add, q1]; unfold lx; rw [show i * 2 / 2 = i by omega]
    · rw [Nat.zero_add, q2]; unfold ly; rw [show (i * 2 + 1) / 2 = i by omega]
theorem info47 : (Tryz.prog.info? 47).map (fun i => (i.zero, i.size, i.bytes)) = some (some (.agg #[.string ByteArray.empty, .string ByteArray.empty]), 2, 32) := by kernel_rfl
theorem zero_len (z : Array Value) (n : Nat) : (Builtin.zeroCells z n).size = n * z.size := by simp [Builtin.zeroCells]
theorem grown_row (w : World) (n : Nat) (hn : n ≤ 8796093022208) :
    (w.drew.alloc (.cells (Builtin.zeroCells #[Value.string ByteArray.empty, .string ByteArray.empty] n ++ Builtin.zeroCells #[.string ByteArray.empty, .string ByteArray.empty] (grownCap w n 0 47 - n)) 47)).ownsRow w.heap.size 47 2 (.slice (some ⟨w.heap.size, 0, none⟩) 0 (grownCap w n 0 47)) 0 [] := by
  have h1 := grownCap_ge w n 0 47
  have h2 := grownCap_le_maxLen w n 0 47 (by unfold maxLen; omega)
  refine ⟨rfl, .inr ⟨w.heap.size, _, _, rfl, Nat.le_refl _, blk_new _ _, Nat.zero_le _, h2, ?_, by simp⟩⟩
  rw [Array.size_append, zero_len, zero_len]
  show n * 2 + (grownCap w n 0 47 - n) * 2 = _
  omega
def GrowRes (w : World) (e : Ending) (w' : World) : Prop := ∃ v, e = .returned v ∧ Only (fun _ => False) w w' ∧ w'.ownsRow w.heap.size 47 2 v 0 []
set_option maxHeartbeats 1000000 in
theorem grow_any (n : Nat) (w : World) (hn : n ≤ 1000000) : Calls Tryz.prog 150 #[.slice none 0 0, .int .i64 n] w (GrowRes w) := by
  obtain ⟨i3, hi3, hz3, hs3, hb3⟩ := info_parts info47
  by_cases h0 : n = 0
  · subst h0
    go_enter Tryz.func150, Tryz.ntmps150
    go_wp2_with fail
    go_ret
    exact ⟨_, rfl, Only.refl _ _, rfl, .inl ⟨rfl, rfl⟩⟩
  · have k1 : decide ((n : Int) < 0) = false := by simp
    have k2 : decide (0 < n) = true := by simp; omega
    have k3 : 0 < n := by omega
    have hrun := Lib.run_append_nil_zeros (P := Tryz.prog) w 34 3 34 47 i3 (.agg #[.string ByteArray.empty, .string ByteArray.empty]) .i64 .i64 Tryz.underlying34 Tryz.underlying3 hi3 hz3 n (by omega) (by rw [hs3]; decide) (by omega) (by rw [hb3]; omega)
    have hrow := Lib.hid (grown_row w n (by omega))
    have O := Lib.hid ((Only.refl (fun _ => False) w).drew.alloc (.cells (Builtin.zeroCells #[Value.string ByteArray.empty, .string ByteArray.empty] n ++ Builtin.zeroCells #[.string ByteArray.empty, .string ByteArray.empty] (grownCap w n 0 47 - n)) 47))
    have hcap : 0 ≤ grownCap w n 0 47 := Nat.zero_le _
    have Hrun := Lib.hid hrun
    clear hrun h0
    go_enter Tryz.func150, Tryz.ntmps150
    go_wp2_with (at_builtin; refine Lib.wpList_append_run _ rfl (.tmp 20) (.tmp 21) 34 3 rfl (.slice none 0 0) (.int .i64 n) (by simp [Act.eval]) (by simp [Act.eval]) _ _ Hrun.out ?_)
    go_ret
    exact ⟨_, rfl, O.out, hrow.out⟩
def CSum (n1 n2 : Nat) (s i : Value) : Prop := (s = .int .i64 0 ∧ i = .int .i64 0) ∨ (s = .int .i64 n1 ∧ i = .int .i64 1) ∨ (s = .int .i64 ((n1 : Int) + n2) ∧ i = .int .i64 2)
def CRow (w : World) (c1 c2 : Lb) (n1 n2 : Nat) (v i : Value) (wr : World) : Prop :=
  Only (fun _ => False) w wr ∧ ((i = .int .i64 0 ∧ wr.ownsRow w.heap.size 47 2 v 0 []) ∨ (i = .int .i64 1 ∧ wr.ownsRow w.heap.size 47 2 v n1 (lcl c1 n1)) ∨ (i = .int .i64 2 ∧ wr.ownsRow w.heap.size 47 2 v (n1 + n2) (lcl (lcat c1 c2 n1) (n1 + n2))))
theorem own_only {S : Nat → Prop} {w wr w' : World} {base e size n keep : Nat} {v v' : Value} {xs : List Value} (O : Only S w wr) (ho : wr.ownsRow base e size v n xs) (hb : w.heap.size ≤ base) (hg : Grew wr w' v v' keep) : Only S w w' :=
  O.grown hg.grown fun k hk => .inl (by obtain ⟨q, _⟩ := own_tag ho hk; omega)
set_option maxHeartbeats 2000000 in
theorem concat_calls (q : Nat) (p1 p2 : Option Addr) (n1 n2 k1 k2 : Nat) (c1 c2 : Lb) (w : World) (h1 : w.cell? ⟨q, 0, none⟩ = some (.slice p1 n1 k1)) (h2 : w.cell? ⟨q, 1, none⟩ = some (.slice p2 n2 k2)) (hq : q < w.heap.size)
    (hc1 : Lbs w p1 n1 c1) (hc2 : Lbs w p2 n2 c2) (e1 : p1 = none → n1 = 0) (e2 : p2 = none → n2 = 0) (hn : n1 + n2 ≤ 1000000) :
    Calls Tryz.prog 113 #[.slice (some ⟨q, 0, none⟩) 2 2] w fun e w' => ∃ p c, e = .returned (.slice p (n1 + n2) c) ∧ Only (fun _ => False) w w' ∧ Lbs w' p (n1 + n2) (lcat c1 c2 n1) := by
  obtain ⟨i3, hi3, hz3, hs3, hb3⟩ := info_parts info47
  have C1 := Lib.hid hc1
  have C2 := Lib.hid hc2
  have E1 := Lib.hid e1
  have E2 := Lib.hid e2
  have HQ := Lib.hid hq
  clear hc1 hc2 e1 e2 hq
  go_enter Tryz.func113, Tryz.ntmps113
  go_wp2_with fail
  go_loop [3, 11] (fun s i => CSum n1 n2 s i) (fun _ i => 2 - (intOf i).toNat)
  case atStart => exact .inl ⟨rfl, rfl⟩
  case round =>
    obtain ⟨rfl, rfl⟩ | ⟨rfl, rfl⟩ | ⟨rfl, rfl⟩ := hrel
    · have k : decide ((n1 : Int) < 0) = false := by simp
      go_wp2_with fail
      go_round
      case rel => exact .inr (.inl ⟨rfl, rfl⟩)
      case measure => simp [intOf]
    · have k : decide ((n1 : Int) + n2 < 0) = false := by simp; omega
      go_wp2_with fail
      go_round
      case rel => exact .inr (.inr ⟨rfl, rfl⟩)
      case measure => simp [intOf]
    · have K := grow_any (n1 + n2) w hn
      rw [show ((n1 + n2 : Nat) : Int) = (n1 : Int) + n2 by omega] at K
      have K' := Lib.hid K; clear K
      go_wp2_with fail
      refine K'.out.mono ?_
      rintro e w1 ⟨v, rfl, O1, R1⟩
      have H1 := Lib.hid h1
      have H2 := Lib.hid h2
      have hO := Lib.hid O1
      have hR := Lib.hid R1
      clear h1 h2 O1 R1 K'
      go_wp2_with fail
      go_loopw [6, 27] (fun v i wr => CRow w c1 c2 n1 n2 v i wr) (fun _ i _ => 2 - (intOf i).toNat)
      case atStart => exact ⟨hO.out, .inl ⟨rfl, hR.out⟩⟩
      case round =>
        obtain ⟨O, ⟨rfl, R⟩ | ⟨rfl, R⟩ | ⟨rfl, R⟩⟩ := hrel
        · have f1 := (O.cellAt HQ.out id _).trans H1.out
          have X := Lib.hid O
          have Y := Lib.hid R
          clear O R
          go_wp2_with (at_builtin; go_loud (refine wpList_append_any _ rfl (.tmp 31) (.tmp 32) 34 rfl 47 i3 (.agg #[.string ByteArray.empty, .string ByteArray.empty]) 2 32 Tryz.underlying34 hi3 hz3 hs3 hb3 rfl (by decide) w.heap.size 0 _ [] (by simp [Act.eval]) Y.out X.out.size p1 n1 k1 (lcl c1 n1) (by simp [Act.eval]) E1.out (lcl_len _ _) (fun ad j u hp hj => lcl_src (C1.out.still X.out) ad j u hp hj) (lcl_one _ _) (by unfold maxLen; omega) (by omega) ?_; intro v' w' hgr hown; have X' := Lib.hid (own_only X.out Y.out (Nat.le_refl _) hgr); have Y' := Lib.hid (show w'.ownsRow w.heap.size 47 2 v' n1 (lcl c1 n1) by simpa using hown); clear hgr hown))
          go_roundw
          case rel => exact ⟨X'.out, .inr (.inl ⟨rfl, Y'.out⟩)⟩
          case measure => simp [intOf]
        · have f2 := (O.cellAt HQ.out id _).trans H2.out
          have X := Lib.hid O
          have Y := Lib.hid R
          clear O R
          go_wp2_with (at_builtin; go_loud (refine wpList_append_any _ rfl (.tmp 31) (.tmp 32) 34 rfl 47 i3 (.agg #[.string ByteArray.empty, .string ByteArray.empty]) 2 32 Tryz.underlying34 hi3 hz3 hs3 hb3 rfl (by decide) w.heap.size n1 _ (lcl c1 n1) (by simp [Act.eval]) Y.out X.out.size p2 n2 k2 (lcl c2 n2) (by simp [Act.eval]) E2.out (lcl_len _ _) (fun ad j u hp hj => lcl_src (C2.out.still X.out) ad j u hp hj) (lcl_one _ _) (by unfold maxLen; omega) (by omega) ?_; intro v' w' hgr hown; have X' := Lib.hid (own_only X.out Y.out (Nat.le_refl _) hgr); have Y' := Lib.hid (show w'.ownsRow w.heap.size 47 2 v' (n1 + n2) (lcl (lcat c1 c2 n1) (n1 + n2)) by rw [lcl_cat]; exact hown); clear hgr hown))
          go_roundw
          case rel => exact ⟨X'.out, .inr (.inr ⟨rfl, Y'.out⟩)⟩
          case measure => simp [intOf]
        · have X := Lib.hid O
          have Y := Lib.hid R
          clear O R
          go_wp2_with fail
          obtain ⟨p, c, rfl, _⟩ := own_lenZ Y.out
          go_ret
          exact ⟨p, c, rfl, X.out, own_lbs Y.out⟩
end Go.Proofs.YtiijgghholhcnaaGreatDoor
