/- The walk of PairDoes. -/
import Derived.Test.YtgcjhdcplmfjbaaDoes1
namespace Go.Proofs.Ytgcjhdcplmfjbaa
open Go.RowKit Flt

/-- From w0 on only new memory was written. -/
def In (w0 w : World) : Prop := Only (fun _ => False) w0 w
theorem In.refl (w : World) : In w w := Only.refl _ w
theorem In.to {w0 w w' : World} (h : In w0 w) (k : Only (fun _ => False) w w') : In w0 w' := Only.trans h k
theorem In.still {w0 w w' : World} (h : In w0 w) (k : Still w w') : In w0 w' := Only.trans h (k.only _)
theorem In.drew {w0 w : World} (h : In w0 w) : In w0 w.drew := Only.drew h

def box (p : Nat × Nat) : Obj := .cells #[.int .u64 (p.1 : Nat), .int .u64 (p.2 : Nat)] 24
/-- the two boxes -/
structure Boxes (w : World) (b1 b2 : Nat) (p q : Nat × Nat) : Prop where
  one : w.heap[b1]? = some (box p)
  two : w.heap[b2]? = some (box q)
theorem Boxes.cells {w : World} {b1 b2 : Nat} {p q : Nat × Nat} (h : Boxes w b1 b2 p q) : w.cell? ⟨b1, 0, none⟩ = some (.int .u64 (p.1 : Nat)) ∧ w.cell? ⟨b1, 1, none⟩ = some (.int .u64 (p.2 : Nat)) ∧ w.cell? ⟨b2, 0, none⟩ = some (.int .u64 (q.1 : Nat)) ∧ w.cell? ⟨b2, 1, none⟩ = some (.int .u64 (q.2 : Nat)) :=
  ⟨blk_cell h.one 0, blk_cell h.one 1, blk_cell h.two 0, blk_cell h.two 1⟩
theorem Boxes.kept {w w' : World} {b1 b2 : Nat} {p q : Nat × Nat} (h : Boxes w b1 b2 p q) (ho : Only (fun _ => False) w w') : Boxes w' b1 b2 p q := ⟨ho.blk h.one (by simp), ho.blk h.two (by simp)⟩
theorem Boxes.drew {w : World} {b1 b2 : Nat} {p q : Nat × Nat} (h : Boxes w b1 b2 p q) : Boxes w.drew b1 b2 p q := ⟨h.one, h.two⟩

/-- what a region keeps -/
structure At (w0 w : World) (b1 b2 : Nat) (p q : Nat × Nat) : Prop where
  i : In w0 w
  b : Boxes w b1 b2 p q
theorem At.to {w0 w w' : World} {b1 b2 : Nat} {p q : Nat × Nat} (h : At w0 w b1 b2 p q) (ho : Only (fun _ => False) w w') : At w0 w' b1 b2 p q := ⟨h.i.to ho, h.b.kept ho⟩
theorem At.drew {w0 w : World} {b1 b2 : Nat} {p q : Nat × Nat} (h : At w0 w b1 b2 p q) : At w0 w.drew b1 b2 p q := ⟨h.i.drew, h.b.drew⟩
def AtC (w0 w : World) (b1 b2 : Nat) (p q : Nat × Nat) : Prop := At w0 w b1 b2 p q

section
variable {w0 w : World} {b1 b2 : Nat} {p q : Nat × Nat} {f : FuncId} {args : Array Value}
theorem at_only {v : Value} (hc : Calls Try.prog f args w fun e w' => e = .returned v ∧ Only (fun _ => False) w w') (h : At w0 w b1 b2 p q) : Calls Try.prog f args w fun e w' => e = .returned v ∧ At w0 w' b1 b2 p q :=
  hc.mono fun _ _ ⟨h1, h2⟩ => ⟨h1, h.to h2⟩
theorem at_same {v : Value} (hc : Calls Try.prog f args w fun e w' => e = .returned v ∧ w = w') (h : At w0 w b1 b2 p q) : Calls Try.prog f args w fun e w' => e = .returned v ∧ At w0 w' b1 b2 p q :=
  hc.mono fun _ _ ⟨h1, h2⟩ => ⟨h1, h2 ▸ h⟩
theorem at_cres {v : Nat × Nat} (hc : Calls Try.prog f args w (CRes w v)) (h : At w0 w b1 b2 p q) : Calls Try.prog f args w fun e w' => ∃ m : Nat × Nat, e = .returned (.complex .f64 m.1 m.2) ∧ Hid (Sim2 m v) ∧ Hid (Ok2 m) ∧ At w0 w' b1 b2 p q :=
  hc.mono fun _ _ ⟨m, h1, h2, h3, h4⟩ => ⟨m, h1, h2, h3, h.to (h4.only _)⟩
theorem at_fres {v : Nat} (hc : Calls Try.prog f args w (FRes w v)) (h : At w0 w b1 b2 p q) : Calls Try.prog f args w fun e w' => ∃ r : Nat, e = .returned (.float .f64 r) ∧ Hid (Sim r v) ∧ Hid (r < 18446744073709551616) ∧ At w0 w' b1 b2 p q :=
  hc.mono fun _ _ ⟨m, h1, h2, h3, h4⟩ => ⟨m, h1, h2, h3, h.to (h4.only _)⟩
end

theorem fl_floats {B : Nat} {w : World} {v : Value} {len : Nat} {us : Nat → Nat} (h : w.ownsRow B 33 1 v len (fvals us len)) (hu : ∀ j, j < len → us j < 18446744073709551616) : ∃ av cap, v = .slice av len cap ∧ Floats w av len us := by
  rcases h.2 with ⟨rfl, rfl⟩ | ⟨g, cap, cur, rfl, hb, hblk, _⟩
  · exact ⟨none, 0, rfl, ⟨by omega⟩⟩
  · refine ⟨_, cap, rfl, ⟨fun j hj => ⟨g, 0, rfl, blk_lt hblk, ?_, hu j hj⟩⟩⟩
    rw [Nat.zero_add, World.ownsRow.cellAt h j (by omega)]
    simp [fvals, hj]
theorem Floats.kept {S : Nat → Prop} {w w' : World} {a : Option Addr} {len : Nat} {us : Nat → Nat} (h : Floats w a len us) (ho : Only S w w') (hs : ∀ k, k < w.heap.size → ¬ S k) : Floats w' a len us :=
  ⟨fun j hj => by
    obtain ⟨p, o, h1, h2, h3, h4⟩ := h.at_ j hj
    exact ⟨p, o, h1, Nat.lt_of_lt_of_le h2 ho.size, (ho.cellAt h2 (hs p h2) _).trans h3, h4⟩⟩
/-- what a round's regions keep: a box, a float and a word that are read -/
structure At2 (w0 w : World) (b : Nat) (p : Nat × Nat) (g og x1 h oh x2 : Nat) : Prop where
  i : In w0 w
  b : w.heap[b]? = some (box p)
  lg : g < w.heap.size
  lh : h < w.heap.size
  cf : w.cell? ⟨g, og, none⟩ = some (.float .f64 x1)
  cl : w.cell? ⟨h, oh, none⟩ = some (.int .u64 (x2 : Nat))
theorem At2.to {w0 w w' : World} {b : Nat} {p : Nat × Nat} {g og x1 h oh x2 : Nat} (k : At2 w0 w b p g og x1 h oh x2) (ho : Only (fun _ => False) w w') : At2 w0 w' b p g og x1 h oh x2 :=
  ⟨k.i.to ho, ho.blk k.b (by simp), Nat.lt_of_lt_of_le k.lg ho.size, Nat.lt_of_lt_of_le k.lh ho.size, (ho.cellAt k.lg (by simp) _).trans k.cf, (ho.cellAt k.lh (by simp) _).trans k.cl⟩
theorem At2.drew {w0 w : World} {b : Nat} {p : Nat × Nat} {g og x1 h oh x2 : Nat} (k : At2 w0 w b p g og x1 h oh x2) : At2 w0 w.drew b p g og x1 h oh x2 := ⟨k.i.drew, k.b, k.lg, k.lh, k.cf, k.cl⟩
theorem At2.cells {w0 w : World} {b : Nat} {p : Nat × Nat} {g og x1 h oh x2 : Nat} (k : At2 w0 w b p g og x1 h oh x2) : w.cell? ⟨b, 0, none⟩ = some (.int .u64 (p.1 : Nat)) ∧ w.cell? ⟨b, 1, none⟩ = some (.int .u64 (p.2 : Nat)) ∧ w.cell? ⟨g, og, none⟩ = some (.float .f64 x1) ∧ w.cell? ⟨h, oh, none⟩ = some (.int .u64 (x2 : Nat)) :=
  ⟨blk_cell k.b 0, blk_cell k.b 1, k.cf, k.cl⟩
section
variable {w0 w : World} {b : Nat} {p : Nat × Nat} {g og x1 h oh x2 : Nat} {f : FuncId} {args : Array Value}
theorem at2_only {v : Value} (hc : Calls Try.prog f args w fun e w' => e = .returned v ∧ Only (fun _ => False) w w') (k : At2 w0 w b p g og x1 h oh x2) : Calls Try.prog f args w fun e w' => e = .returned v ∧ At2 w0 w' b p g og x1 h oh x2 :=
  hc.mono fun _ _ ⟨h1, h2⟩ => ⟨h1, k.to h2⟩
theorem at2_cres {v : Nat × Nat} (hc : Calls Try.prog f args w (CRes w v)) (k : At2 w0 w b p g og x1 h oh x2) : Calls Try.prog f args w fun e w' => ∃ m : Nat × Nat, e = .returned (.complex .f64 m.1 m.2) ∧ Hid (Sim2 m v) ∧ Hid (Ok2 m) ∧ At2 w0 w' b p g og x1 h oh x2 :=
  hc.mono fun _ _ ⟨m, h1, h2, h3, h4⟩ => ⟨m, h1, h2, h3, k.to (h4.only _)⟩
end
def pf (us : Nat → Nat) (p : Nat × Nat) : Nat → Nat × Nat
  | 0 => p
  | k + 1 => rput (pf us p k) (us k)
theorem pf_ok {us : Nat → Nat} {p : Nat × Nat} (hp : Ok2 p) (k : Nat) : Ok2 (pf us p k) := by
  cases k with
  | zero => exact hp
  | succ k => exact rput_ok _ _
structure DR (w : World) (us : Nat → Nat) (p q : Nat × Nat) (len : Nat) (af : Option Addr) (k : Nat) (A : Nat × Nat) (wr : World) : Prop where
  i : In w wr
  b : Boxes wr w.heap.size (w.heap.size + 1) (pf us p k) q
  sim : Sim2 A (pf us p k)
  ok : Ok2 A
  fl : Floats wr af len us
def DL (w : World) (us : Nat → Nat) (p q : Nat × Nat) (len : Nat) (af : Option Addr) (v i : Value) (wr : World) : Prop :=
  ∃ (k : Nat) (A : Nat × Nat), k ≤ len ∧ i = .int .i64 k ∧ v = .complex .f64 A.1 A.2 ∧ DR w us p q len af k A wr

theorem Floats.stored {w : World} {a : Option Addr} {len : Nat} {us : Nat → Nat} (h : Floats w a len us) (b o : Nat) (v : Value) (hne : ∀ p o', a = some ⟨p, o', none⟩ → p ≠ b) : Floats (w.setCell ⟨b, o, none⟩ v) a len us :=
  ⟨fun j hj => by
    obtain ⟨p, o', h1, h2, h3, h4⟩ := h.at_ j hj
    exact ⟨p, o', h1, by simp [World.setCell]; exact h2, cell_set_ne h3 _ _ (hne p o' h1), h4⟩⟩
theorem DR.next {w wr w10 : World} {us : Nat → Nat} {p q : Nat × Nat} {len k : Nat} {A m : Nat × Nat} {P : Nat × Nat} {pf0 of0 og x1 h oh x2 : Nat} (hD : DR w us p q len (some ⟨pf0, of0, none⟩) k A wr) (hP : pf us p k = P) (hb2 : wr.heap[w.heap.size + 1]? = some (box q))
    (hB : At2 wr w10 w.heap.size P pf0 og x1 h oh x2) (h1 : Sim2 m (rput A (us k))) (h2 : Ok2 m) (hf : ∃ y, w.heap.size + 1 < y ∧ pf0 = y) :
    DR w us p q len (some ⟨pf0, of0, none⟩) (k + 1) m ((w10.setCell ⟨w.heap.size, 0, none⟩ (.int .u64 ((rput P (us k)).1 : Nat))).setCell ⟨w.heap.size, 1, none⟩ (.int .u64 ((rput P (us k)).2 : Nat))) := by
  subst hP
  have ho : Only (fun _ => False) wr w10 := hB.i
  have hne : ∀ p' o', (some (⟨pf0, of0, none⟩ : Addr) : Option Addr) = some ⟨p', o', none⟩ → p' ≠ w.heap.size := by
    rintro p' o' e
    obtain ⟨y, hy, rfl⟩ := hf
    simp at e; omega
  refine ⟨((Only.trans hD.i ho).setCell (.inl (Nat.le_refl _)) _).setCell (.inl (Nat.le_refl _)) _, ⟨?_, ?_⟩, ?_, h2, ?_⟩
  · exact blk_upd2 hB.b _ _
  · exact blk_set_ne (blk_set_ne (ho.blk hb2 (by simp)) _ _ (by simp)) _ _ (by simp)
  · have := rput_sim hD.sim (Sim.refl (us k))
    show Sim2 m (rput (pf us p k) (us k))
    rw [← this]; exact h1
  · exact ((hD.fl.kept ho (by simp)).stored _ _ _ hne).stored _ _ _ hne

set_option maxRecDepth 100000 in
set_option maxHeartbeats 8000000 in
theorem does_any (p q : Nat × Nat) (a : Option Addr) (len cap : Nat) (us : Nat → Nat) (w : World) (hp : Ok2 p) (hq : Ok2 q) (hlen : len * 8 ≤ 140737488355328) (hw : Words w a len us) :
    Calls Try.prog 3 #[.agg #[.int .u64 (p.1 : Nat), .int .u64 (p.2 : Nat)], .agg #[.int .u64 (q.1 : Nat), .int .u64 (q.2 : Nat)], .slice a len cap] w fun e w' => e = .returned (.bool true) ∧ Only (fun _ => False) w w' := by
  obtain ⟨s, c⟩ := p
  obtain ⟨x, d⟩ := q
  have hp' := Lib.hid hp
  have hq' := Lib.hid hq
  have hw' := Lib.hid hw
  clear hp hq hw
  dsimp only at hp' hq' ⊢
  have hA : At w ((w.alloc (box (s, c))).alloc (box (x, d))) w.heap.size (w.heap.size + 1) (s, c) (x, d) := by
    refine ⟨((Only.refl _ _).alloc _).alloc _, blk_alloc (blk_new w _) _, ?_⟩
    have := blk_new (w.alloc (box (s, c))) (box (x, d))
    simpa using this
  generalize hw2 : (w.alloc (box (s, c))).alloc (box (x, d)) = w2 at hA
  unfold box at hw2
  go_enter Try.func3, Try.ntmps3
  go_wp2_with fail
  clear hw2
  obtain ⟨c0, c1, c2, c3⟩ := hA.b.cells
  go_region_held3 (fun w' => At w w' w.heap.size (w.heap.size + 1) (s, c) (x, d) ∧ w'.cell? ⟨w.heap.size, 0, none⟩ = some (.int .u64 s) ∧ w'.cell? ⟨w.heap.size, 1, none⟩ = some (.int .u64 c) ∧ w'.cell? ⟨w.heap.size + 1, 0, none⟩ = some (.int .u64 x) ∧ w'.cell? ⟨w.heap.size + 1, 1, none⟩ = some (.int .u64 d))
    ((go_split_ands; first | exact ⟨by assumption, Boxes.cells (At.b (by assumption))⟩ | exact ⟨At.drew (by assumption), Boxes.cells (At.b (At.drew (by assumption)))⟩))
    (first | (go_at_call 7; go_split_ands; refine (at_only (made_any _ _ _) (by assumption)).mono ?_; rintro e w1 ⟨rfl, hA1⟩))
  clear hA c0 c1 c2 c3
  have k1 := run_tobits
  have hmo := Lib.hid (rmerge_ok (s, c) (x, d))
  have hto := Lib.hid (radd_lt s c)
  go_wp2_with fail
  go_region_held3 (fun w' => At w w' w.heap.size (w.heap.size + 1) (s, c) (x, d) ∧ w'.cell? ⟨w.heap.size, 0, none⟩ = some (.int .u64 s) ∧ w'.cell? ⟨w.heap.size, 1, none⟩ = some (.int .u64 c) ∧ w'.cell? ⟨w.heap.size + 1, 0, none⟩ = some (.int .u64 x) ∧ w'.cell? ⟨w.heap.size + 1, 1, none⟩ = some (.int .u64 d))
    ((go_split_ands; first | exact ⟨by assumption, Boxes.cells (At.b (by assumption))⟩ | exact ⟨At.drew (by assumption), Boxes.cells (At.b (At.drew (by assumption)))⟩))
    (first
      | (go_at_call 9; go_split_ands; refine (at_cres (pmerge_any (s, c) (x, d) _ hp'.out hq'.out) (by assumption)).mono ?_; rintro e w3 ⟨m, rfl, hm1, hm2, hA1⟩)
      | (go_at_call 10; go_split_ands; refine (at_only (rmerge_any (s, c) (x, d) _ hp'.out hq'.out) (by assumption)).mono ?_; rintro e w3 ⟨rfl, hA1⟩)
      | (go_at_call 8; go_split_ands; refine (at_only (lawsame_any m (rmerge (s, c) (x, d)) _ hm2.out hmo.out hm1.out) (by assumption)).mono ?_; rintro e w3 ⟨rfl, hA1⟩)
      | (go_at_call 13; go_split_ands; refine (at_fres (ptotal_any (s, c) _) (by assumption)).mono ?_; rintro e w3 ⟨r, rfl, hr1, hr2, hA1⟩; have e1 := sameW_of hr1.out)
      | (go_at_call 14; go_split_ands; refine (at_only (rtotal_any (s, c) _ hp'.out) (by assumption)).mono ?_; rintro e w3 ⟨rfl, hA1⟩)
      | (go_at_call 11; go_split_ands; refine (at_same (sameW_any r (radd s c) _ hr2.out hto.out) (by assumption)).mono ?_; rintro e w3 ⟨rfl, hA1⟩))
  have hu : Hid (∀ j, j < len → us j < 18446744073709551616) := fun j hj => by obtain ⟨_, _, _, _, _, h⟩ := hw'.out.at_ j hj; exact h
  have hA2 := Lib.hid hA1
  clear e1
  go_wp2_with fail
  refine (floats_any a len cap us _ hlen (hw'.out.kept hA2.out.i (by simp))).mono ?_
  rintro e w4 ⟨fv, rfl, O4, own4⟩
  obtain ⟨af, cf, rfl, hfl⟩ := fl_floats own4 hu.out
  have hA4 := Lib.hid (hA2.out.to O4)
  have hfg : Hid (∀ p o, af = some ⟨p, o, none⟩ → w.heap.size + 1 < p) := by
    intro p o e
    subst e
    have h1 := (own4.lt p rfl).1
    have h2 := blk_lt hA2.out.b.two
    omega
  have hfl' := Lib.hid hfl
  clear own4 hfl O4
  go_wp2_with fail
  refine (pof_any af len cf us _ (by omega) hfl'.out).mono ?_
  rintro e w5 ⟨m5, rfl, hm51, hm52, S5⟩
  have hm51' := Lib.hid hm51
  have hm52' := Lib.hid hm52
  have hA5 := Lib.hid (hA4.out.to (S5.only _))
  have hfl5 := Lib.hid (hfl'.out.kept (S5.only (fun _ => False)) (by simp))
  clear S5 hm51 hm52
  go_wp2_with fail
  refine (rof_any a len cap us _ (by omega) (hw'.out.kept hA5.out.i (by simp))).mono ?_
  rintro e w6 ⟨rfl, O6⟩
  have hA6 := Lib.hid (hA5.out.to O6)
  have hfl6 := Lib.hid (hfl5.out.kept O6 (by simp))
  clear O6
  go_wp2_with fail
  refine (lawsame_any m5 (rof us len) _ hm52'.out (rof_ok us len) hm51'.out).mono ?_
  rintro e w7 ⟨rfl, O7⟩
  have hA7 := Lib.hid (hA6.out.to O7)
  have hfl7 := Lib.hid (hfl6.out.kept O7 (by simp))
  clear O7
  go_wp2_with fail
  go_loopw [7, 10] (fun v i wr => DL w us (s, c) (x, d) len af v i wr) (fun _ i _ => len - (intOf i).toNat)
  case atStart => exact ⟨0, (s, c), Nat.zero_le _, rfl, rfl, ⟨hA7.out.i, hA7.out.b, ⟨Sim.refl _, Sim.refl _⟩, hp'.out, hfl7.out⟩⟩
  case round =>
    obtain ⟨k, ⟨A1, A2⟩, hk, rfl, rfl, hD⟩ := hrel
    have hD' := Lib.hid hD
    clear hD
    by_cases hlt : k < len
    · obtain ⟨p, o, rfl, hpb, hc, hul⟩ := hw'.out.at_ k hlt
      obtain ⟨pf0, of0, rfl, hpf, hcf, _⟩ := hD'.out.fl.at_ k hlt
      have hc' := (Only.cellAt hD'.out.i hpb (by simp) (o + k)).trans hc
      have hul' := Lib.hid hul
      clear hul
      have g1 : ((us k : Int) != (us k : Int)) = false := by simp
      have hpok := Lib.hid (pf_ok (us := us) hp'.out k)
      have hK : At2 wr wr w.heap.size (pf us (s, c) k) pf0 (of0 + k) (us k) p (o + k) (us k) :=
        ⟨In.refl _, hD'.out.b.one, World.block_lt_of_cell? wr _ hcf, Nat.lt_of_lt_of_le hpb (Only.size hD'.out.i), hcf, hc'⟩
      have hD2 : Hid (wr.heap[w.heap.size + 1]? = some (box (x, d))) := hD'.out.b.two
      generalize hP : pf us (s, c) k = P at *
      obtain ⟨P1, P2⟩ := P
      have hP' := Lib.hid hP
      clear hP hc
      go_wp2_with fail
      go_quiet (fail)
      have hKn := At2.to hK ((Only.refl _ _).drewN (a := wr) nq)
      have hKn' := Lib.hid hKn
      clear hK hcf hc'
      obtain ⟨c0, c1, c2, c3⟩ := hKn.cells
      generalize hwn : wr.drewN nq = wn at *
      clear hwn
      go_wp2_with fail
      go_region_held3 (fun w' => At2 wr w' w.heap.size (P1, P2) pf0 (of0 + k) (us k) p (o + k) (us k) ∧ w'.cell? ⟨w.heap.size, 0, none⟩ = some (.int .u64 P1) ∧ w'.cell? ⟨w.heap.size, 1, none⟩ = some (.int .u64 P2) ∧ w'.cell? ⟨pf0, of0 + k, none⟩ = some (.float .f64 (us k)) ∧ w'.cell? ⟨p, o + k, none⟩ = some (.int .u64 (us k)))
        ((go_split_ands; first | exact ⟨by assumption, At2.cells (by assumption)⟩ | exact ⟨At2.drew (by assumption), At2.cells (At2.drew (by assumption))⟩))
        (first
          | (go_at_call 19; go_split_ands; refine (at2_cres (padd_any (A1, A2) (us k) _ hD'.out.ok hul'.out) (by assumption)).mono ?_; rintro e w8 ⟨m, rfl, hm1, hm2, hA8⟩)
          | (go_at_call 20; go_split_ands; refine (at2_only (put_any (P1, P2) (us k) _ hpok.out hul'.out) (by assumption)).mono ?_; rintro e w8 ⟨rfl, hA8⟩)
          | (go_at_call 8; go_split_ands; refine (at2_only (lawsame_any m (rput (P1, P2) (us k)) _ hm2.out (rput_ok _ _) (by have := hm1.out; rw [rput_sim (hD'.out.sim) (Sim.refl (us k)), hP'.out] at this; exact this)) (by assumption)).mono ?_; rintro e w8 ⟨rfl, hA8⟩))
      have hB8 := Lib.hid hA8
      have e8 := hA8.cells
      clear c0 c1 c2 c3 hm1 hm2 hA8
      obtain ⟨c0, c1, c2, c3⟩ := e8
      go_wp2_with fail
      refine (padd_any (A1, A2) (us k) _ hD'.out.ok hul'.out).mono ?_
      rintro e w9 ⟨m9, rfl, hm91, hm92, S9⟩
      have hm91' := Lib.hid hm91
      have hm92' := Lib.hid hm92
      have hB9 := Lib.hid (hB8.out.to (S9.only _))
      have e9 := hB9.out.cells
      clear c0 c1 c2 c3 hm91 hm92 S9
      obtain ⟨c0, c1, c2, c3⟩ := e9
      go_wp2_with fail
      go_still_tail 5, (by kernel_rfl)
      change wpList _ _ _ _ _ (World.drew w9)
      go_wp2_with fail
      refine (put_any (P1, P2) (us k) _ hpok.out hul'.out).mono ?_
      rintro e w10 ⟨rfl, O10⟩
      have hB10 := Lib.hid ((hB9.out.drew).to O10)
      have e10 := hB10.out.cells
      have hz0 := blk_free hB10.out.b 0
      have hz1 := blk_free hB10.out.b 1
      clear c0 c1 c2 c3 O10
      obtain ⟨c0, c1, c2, c3⟩ := e10
      have hnx : Hid (DR w us (s, c) (x, d) len (some ⟨pf0, of0, none⟩) (k + 1) m9 ((w10.setCell ⟨w.heap.size, 0, none⟩ (.int .u64 ((rput (P1, P2) (us k)).1 : Nat))).setCell ⟨w.heap.size, 1, none⟩ (.int .u64 ((rput (P1, P2) (us k)).2 : Nat)))) :=
        DR.next hD'.out hP'.out hD2.out hB10.out hm91'.out hm92'.out ⟨_, hfg.out pf0 of0 rfl, rfl⟩
      go_wp2_with fail
      go_roundw
      case rel => exact ⟨k + 1, m9, by omega, by go_num, rfl, hnx.out⟩
      case measure => simp [intOf]; omega
    · go_wp2_with fail
      refine (fixed_any _).mono ?_
      rintro e w8 ⟨rfl, O8⟩
      go_wp2_with fail
      go_ret
      exact ⟨rfl, hD'.out.i.to O8⟩
end Go.Proofs.Ytgcjhdcplmfjbaa
