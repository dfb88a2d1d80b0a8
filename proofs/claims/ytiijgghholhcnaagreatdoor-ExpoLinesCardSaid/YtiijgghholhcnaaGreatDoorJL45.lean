/- The walk of expo.Write at any snapshot. -/
import Derived.Test.YtiijgghholhcnaaGreatDoorJL44
import Derived.Deep.CutBlock
namespace Go.Proofs.YtiijgghholhcnaaGreatDoor
open Go.RowKit
set_option maxRecDepth 1000000
/-- the page, the snapshot, the map of the kinds -/
structure Wt (w0 w : World) (sb mb pb B p : Nat) (S M : Obj) (v : Value) (l : List UInt8) : Prop where
  px : Px w0 w pb B (p : Int) v l
  snap : Own w pb v sb S
  map : Own w pb v mb M
theorem Wt.still {w0 w w' : World} {sb mb pb B p : Nat} {S M : Obj} {v : Value} {l : List UInt8} (h : Wt w0 w sb mb pb B p S M v l) (O : Only (fun _ => False) w w') : Wt w0 w' sb mb pb B p S M v l := ⟨h.px.still O, h.snap.still O, h.map.still O⟩
theorem Wt.next {w0 w w' : World} {sb mb pb B p : Nat} {S M : Obj} {v v' : Value} {l l' : List UInt8} (h : Wt w0 w sb mb pb B p S M v l) (hp : Pg w' pb B (p : Int) v' l') (hw : Wrote w pb v v' w') : Wt w0 w' sb mb pb B p S M v' l' := ⟨h.px.next hp hw, h.snap.next hw, h.map.next hw⟩
theorem Wt.nextx {w0 w w' : World} {sb mb pb B p : Nat} {S M : Obj} {v v' : Value} {l l' : List UInt8} (h : Wt w0 w sb mb pb B p S M v l) (hp : Px w0 w' pb B (p : Int) v' l') (hw : Wrote w pb v v' w') : Wt w0 w' sb mb pb B p S M v' l' := ⟨hp, h.snap.next hw, h.map.next hw⟩
theorem Px.first {w0 w : World} (h : Only (fun _ => False) w0 w) (p : Int) : Px w0 (w.alloc (.cells #[.slice none 0 0, .int .i64 p] 52)) w.heap.size (w.heap.size + 1) p (.slice none 0 0) [] := by
  refine ⟨⟨blk_new w _, ⟨rfl, .inl ⟨rfl, rfl⟩⟩, Nat.lt_succ_self _, ?_⟩, h.alloc _, h.size⟩
  show _ ≤ (w.heap.push _).size
  rw [Array.size_push]; exact Nat.le_refl _
def WrL (w0 : World) (sb mb pb B p n : Nat) (S M : Obj) (F : Nat → List UInt8) (v39 : Value) (w : World) : Prop :=
  ∃ (i : Nat) (v : Value), v39 = .int .i64 (i : Int) ∧ i ≤ n ∧ (F i).length ≤ 4194304 ∧ Wt w0 w sb mb pb B p S M v (F i)
/-- what Write tells -/
def WrRes (pt : Nat → List UInt8) (prec : Int) (n : Nat) (V : Nat → Vl) (rf : Nat) (w : World) (e : Ending) (w' : World) : Prop :=
  ((chkE prec n V).1 ≠ 0 ∧ e = .returned (.tuple #[.slice none 0 0, .int .i64 (chkE prec n V).1])) ∨
  ((chkE prec n V).1 = 0 ∧ 4194304 < (bodyT pt prec.toNat rf V n).length ∧ e = .returned (.tuple #[.slice none 0 0, .int .i64 4])) ∨
  ((chkE prec n V).1 = 0 ∧ (bodyT pt prec.toNat rf V n).length ≤ 4194304 ∧ ∃ v, e = .returned (.tuple #[v, .int .i64 0]) ∧ w'.ownsRow w.heap.size 5 1 v (bodyT pt prec.toNat rf V n).length (Go.Lib.strCells ⟨(bodyT pt prec.toNat rf V n).toArray⟩))
theorem headT_le {p rf : Nat} (hp : p ≤ 14) (hr : rf < 18446744073709551616) : (headT p rf).length ≤ 100 := by
  have h1 := itoa_len20 p (by omega)
  have h2 := dec_size rf hr
  have h3 : (Lib.decDigits rf).length ≤ 20 := h2
  unfold headT
  simp only [List.length_append, List.length_cons, List.length_nil]
  omega
theorem hesc_le (b : UInt8) : (esc 2 hx hS 2 b).length ≤ 2 := by
  have e : esc 2 hx hS 2 b = if b = 92 then [92, 92] else if b = 10 then [92, 110] else [b] := rfl
  rw [e]
  split
  · decide
  · split
    · decide
    · simp
theorem hflat_le : ∀ s : List UInt8, (helpT s).length ≤ 2 * s.length
  | [] => by simp [helpT]
  | b :: s => by
    have h1 := hesc_le b
    have h2 := hflat_le s
    unfold helpT at *
    rw [List.flatMap_cons, List.length_append, List.length_cons]
    omega
set_option maxHeartbeats 8000000 in
theorem write_calls (pt : Nat → List UInt8) (hpt : ∀ X, Re.Pr X (pt X)) (hpl : ∀ X, (pt X).length ≤ 1000) (prec : Int) (vp : Option Addr) (n c : Nat) (V : Nat → Vl) (rf : Nat) (w : World) (hV : Vls w vp n V) (hc : n ≤ c) (hE : Re.Env w) (hr : rf < 18446744073709551616) (hh : ∀ i, i < n → (V i).hi < 9223372036854775808) :
    Calls Tryz.prog 9 #[.agg #[.int .i64 prec, .slice vp n c, .int .u64 (rf : Int)]] w fun e w' => Only (fun _ => False) w w' ∧ WrRes pt prec n V rf w e w' := by
  have HV := Lib.hid hV
  have HE := Lib.hid hE
  have HH := Lib.hid hh
  have HPT := Lib.hid hpt
  have HPL := Lib.hid hpl
  have K14 := Lib.hid (fun w' (O : Only (fun _ => False) w w') => check_calls prec vp n c V rf w' (hV.still O) hc)
  obtain ⟨E, hEE⟩ : ∃ E, E = chkE prec n V := ⟨_, rfl⟩
  have HQ : Hid (∀ e w', (E.1 ≠ 0 ∧ e = .returned (.tuple #[.slice none 0 0, .int .i64 E.1])) ∨ (E.1 = 0 ∧ 4194304 < (bodyT pt prec.toNat rf V n).length ∧ e = .returned (.tuple #[.slice none 0 0, .int .i64 4])) ∨ (E.1 = 0 ∧ (bodyT pt prec.toNat rf V n).length ≤ 4194304 ∧ ∃ v, e = .returned (.tuple #[v, .int .i64 0]) ∧ w'.ownsRow w.heap.size 5 1 v (bodyT pt prec.toNat rf V n).length (Go.Lib.strCells ⟨(bodyT pt prec.toNat rf V n).toArray⟩)) → WrRes pt prec n V rf w e w') := Lib.hid (fun e w' h => by
    rw [hEE] at h; exact h)
  have HOK : Hid (E.1 = 0 → ∃ p : Nat, prec = (p : Int) ∧ 1 ≤ p ∧ p ≤ 14 ∧ n ≤ 256 ∧ ∀ j, j < n → Gp p (V j)) := Lib.hid (fun h => by
    rw [hEE] at h
    obtain ⟨p, h1, h2, h3, h4, h5⟩ := chk_ok h
    exact ⟨p, h1, h2, h3, h4, fun j hj => holds_good h2 h3 (h5 j hj).1 (h5 j hj).2⟩)
  rw [← hEE] at K14
  clear hEE hV hE hh hpt hpl
  obtain ⟨ec, ei⟩ := E
  dsimp only at *
  have ks1 := run_stf
  have ks2 := run_stfn
  go_enter Tryz.func9, Tryz.ntmps9
  go_upto_region 1 with fail
  have hs := blk_new w (.cells #[.int .i64 prec, .slice vp n c, .int .u64 (rf : Int)] 26)
  have hO := Lib.hid ((Only.refl (fun _ => False) w).alloc (.cells #[.int .i64 prec, .slice vp n c, .int .u64 (rf : Int)] 26))
  generalize w.alloc (.cells #[.int .i64 prec, .slice vp n c, .int .u64 (rf : Int)] 26) = w1 at *
  generalize hsb : w.heap.size = sb at *
  have HSB := Lib.hid hsb; clear hsb
  have HS := Lib.hid hs; clear hs
  have c0 : w1.cell? ⟨sb, 0, none⟩ = some (.int .i64 prec) := by rw [blk_cell HS.out]; rfl
  have c1 : w1.cell? ⟨sb, 1, none⟩ = some (.slice vp n c) := by rw [blk_cell HS.out]; rfl
  have c2 : w1.cell? ⟨sb, 2, none⟩ = some (.int .u64 (rf : Int)) := by rw [blk_cell HS.out]; rfl
  go_wp2_with fail
  refine (K14.out _ hO.out).mono ?_
  rintro e w2 ⟨rfl, O2⟩
  have HS2 := Lib.hid (O2.blk HS.out (fun e => e))
  have HO2 := Lib.hid (hO.out.trans O2)
  clear O2 c0 c1 c2 HS hO K14
  by_cases he : ec = 0
  case neg =>
    have q : (ec != 0) = true := by simp [he]
    have HEC := Lib.hid he; clear he
    go_wp2_with fail
    go_ret2
    exact ⟨HO2.out, HQ.out _ _ (.inl ⟨HEC.out, rfl⟩)⟩
  subst he
  obtain ⟨p, hpp, hp1, hp2, hn, hgp⟩ := HOK.out rfl
  subst hpp
  rw [Int.toNat_natCast] at HQ
  have HGP := Lib.hid hgp
  have HP := Lib.hid (And.intro hp1 (And.intro hp2 hn))
  have HHL := Lib.hid (headT_le hp2 hr)
  have KI := Lib.hid (fun w' (O : Only (fun _ => False) w w') => itoaI_calls (p : Int) w' (by omega) (by omega) (HE.out.2.still O (fun e => e)))
  have KD := Lib.hid (fun w' (O : Only (fun _ => False) w w') => digitsU_calls rf w' hr (HE.out.2.still O (fun e => e)))
  clear HOK hp1 hp2 hn hgp
  have c0 : w2.cell? ⟨sb, 0, none⟩ = some (.int .i64 (p : Int)) := by rw [blk_cell HS2.out]; rfl
  go_upto_region 5 with fail
  have hX := Px.first HO2.out (p : Int)
  have hO3 := (Only.refl (fun _ => False) w2).alloc (.cells #[.slice none 0 0, .int .i64 (p : Int)] 52)
  have hsn : Own (w2.alloc (.cells #[.slice none 0 0, .int .i64 (p : Int)] 52)) w2.heap.size (.slice none 0 0) sb (.cells #[.int .i64 (p : Int), .slice vp n c, .int .u64 (rf : Int)] 26) := ⟨hO3.blk HS2.out (fun e => e), by have := blk_lt HS2.out; omega, fun e => by cases e⟩
  generalize w2.alloc (.cells #[.slice none 0 0, .int .i64 (p : Int)] 52) = w3 at *
  generalize w2.heap.size = pb at *
  have HX3 := Lib.hid hX
  have HN3 := Lib.hid hsn
  clear hX hsn hO3 c0 HS2 HO2
  have c0 : w3.cell? ⟨sb, 0, none⟩ = some (.int .i64 (p : Int)) := by rw [blk_cell HN3.out.blk]; rfl
  go_wp2_with fail
  refine (KI.out _ HX3.out.only).mono ?_
  rintro e w4 ⟨rfl, O4⟩
  have HX4 := Lib.hid (HX3.out.still O4)
  have HN4 := Lib.hid (HN3.out.still O4)
  clear O4 HX3 HN3 c0
  have HL1 : Hid ((Lib.itoa (p : Int)).length ≤ 20) := Lib.hid (itoa_len20 p (by have := HP.out; omega))
  go_wp2_with fail
  refine (line_new pb (pb + 1) (p : Int) (.slice none 0 0) [] [[35, 32, 103, 110, 111, 109, 111, 110, 32], Lib.itoa (p : Int)] w4 9 2 _ _ HX4.out.pg (by simp) (by have := HL1.out; simp; omega) rfl rfl).mono ?_
  rintro e w5 ⟨rfl, v1, h3, h4⟩
  have HX5 := Lib.hid (HX4.out.next h3 h4)
  have HN5 := Lib.hid (HN4.out.next h4)
  clear h3 h4 HX4 HN4
  have c2 : w5.cell? ⟨sb, 2, none⟩ = some (.int .u64 (rf : Int)) := by rw [blk_cell HN5.out.blk]; rfl
  go_upto_region 6 with fail
  go_wp2_with fail
  refine (KD.out _ HX5.out.only).mono ?_
  rintro e w6 ⟨rfl, O6⟩
  have HX6 := Lib.hid (HX5.out.still O6)
  have HN6 := Lib.hid (HN5.out.still O6)
  clear O6 HX5 HN5 c2
  have HL2 : Hid ((Lib.decDigits rf).length ≤ 20) := Lib.hid (dec_size rf hr)
  go_wp2_with fail
  refine (line_new pb (pb + 1) (p : Int) v1 _ [[35, 32, 114, 101, 102, 117, 115, 101, 100, 32], Lib.decDigits rf] w6 9 2 _ _ HX6.out.pg (by simp) (by have := HL1.out; have := HL2.out; simp; omega) rfl rfl).mono ?_
  rintro e w7 ⟨rfl, v2, h3, h4⟩
  have HX7 := Lib.hid (HX6.out.next h3 h4)
  have HN7 := Lib.hid (HN6.out.next h4)
  clear h3 h4 HX6 HN6
  go_upto_region 7 with fail
  go_wp2_with fail
  refine (kinds_calls _).mono ?_
  rintro e w8 ⟨rfl, hM, O8⟩
  have HW8 : Hid (Wt w w8 sb w7.heap.size pb (pb + 1) p (.cells #[.int .i64 (p : Int), .slice vp n c, .int .u64 (rf : Int)] 26) m3 v2 (bodyT pt p rf V 0)) := Lib.hid ⟨by
    have := HX7.out.still O8
    simpa [bodyT, headT, List.append_assoc] using this, HN7.out.still O8, HX7.out.own hM⟩
  clear O8 hM HX7 HN7
  generalize w7.heap.size = mb at *
  have c1 : w8.cell? ⟨sb, 1, none⟩ = some (.slice vp n c) := by rw [blk_cell HW8.out.snap.blk]; rfl
  go_wp2_with fail
  clear c1
  go_loopw [39] (fun v39 wr => WrL w sb mb pb (pb + 1) p n (.cells #[.int .i64 (p : Int), .slice vp n c, .int .u64 (rf : Int)] 26) m3 (bodyT pt p rf V) v39 wr) (fun v39 _ => n - (intOf v39).toNat)
  case atStart => exact ⟨0, v2, rfl, Nat.zero_le _, by have := HHL.out; show (headT p rf).length ≤ _; omega, HW8.out⟩
  case round =>
    obtain ⟨i, v1, rfl, hi, hle, hW⟩ := hrel
    have HW := Lib.hid hW; clear hW
    have HLE := Lib.hid hle; clear hle
    clear HW8 HHL HL1 HL2
    by_cases h : i < n
    case neg =>
      obtain rfl : i = n := by omega
      have t5 : decide ((i : Int) < (i : Int)) = false := decide_eq_false (by omega)
      obtain ⟨p5, c5, hv5⟩ := own_len HW.out.px.pg.own
      have x1 : wr.cell? ⟨pb, 0, none⟩ = some v1 := by rw [blk_cell HW.out.px.pg.blk]; rfl
      rw [hv5] at x1
      have HV5 := Lib.hid hv5; clear hv5
      go_wp2_with fail
      go_ret2
      refine ⟨HW.out.px.only, HQ.out _ _ (.inr (.inr ⟨by first | rfl | trivial, HLE.out, _, rfl, ?_⟩))⟩
      have h1 := HW.out.px.pg.own
      have h2 := HW.out.px.lb
      have h3 := HSB.out
      rw [HV5.out] at h1
      refine ⟨h1.1, ?_⟩
      rcases h1.2 with q | ⟨g, cap, cur, q1, q2, q3⟩
      · exact .inl q
      · exact .inr ⟨g, cap, cur, q1, by omega, q3⟩
    have t5 : decide ((i : Int) < (n : Int)) = true := decide_eq_true (by omega)
    have hw1 : wrap64 ((i : Int) + 1) = ((i + 1 : Nat) : Int) := by rw [IntWalk.wrap64_in _ ⟨by omega, by have := HP.out; omega⟩]; omega
    obtain ⟨b, o, hvp, g1, g2⟩ := HV.out.at' i h
    have HVI := Lib.hid (show ∀ j, j < n → ∀ w', Only (fun _ => False) w w' → ∀ m, m < 11 → w'.cell? ⟨b, o + j * 11 + m, none⟩ = (V j).cells[m]? from fun j hj w' O m hm => by
      obtain ⟨b', o', q1, q2, q3⟩ := HV.out.at' j hj
      rw [hvp] at q1; injection q1 with q1; injection q1 with q1 q4; subst q1 q4
      exact (O.cellAt q2 id _).trans (q3 m hm))
    have HBN := Lib.hid (Nat.lt_of_lt_of_le g1 HW.out.px.only.size)
    subst hvp
    have HVK := Lib.hid (HV.out.ok i h)
    have HGV := Lib.hid (HGP.out i h)
    have HHV := Lib.hid (HH.out i h)
    have HFA := Lib.hid (show ∀ k, i = k + 1 → famB V i = !((V k).nm == (V i).nm) from fun k hk => by unfold famB; rw [if_neg (by omega), show i - 1 = k by omega])
    have HF0 := Lib.hid (show i = 0 → famB V i = true from fun hk => by unfold famB; rw [if_pos hk])
    have HBT := Lib.hid (show bodyT pt p rf V (i + 1) = bodyT pt p rf V i ++ (famT V i ++ valT pt p (V i)) from rfl)
    have HFT := Lib.hid (show famT V i = if famB V i = true then [35, 32, 72, 69, 76, 80, 32] ++ (V i).nm ++ [32] ++ helpT (V i).help ++ [10] ++ ([35, 32, 84, 89, 80, 69, 32] ++ (V i).nm ++ [32] ++ kindT (V i).kind ++ [10]) else [] from rfl)
    clear g1 g2
    generalize hv : V i = v at *
    have HVV := Lib.hid hv; clear hv
    generalize hfb : famB V i = fb at *
    clear hfb
    generalize hft : famT V i = FT at *
    clear hft
    generalize hbi : bodyT pt p rf V i = T at *
    have HTI := Lib.hid hbi; clear hbi
    have u0 : wr.cell? ⟨b, o + i * 11, none⟩ = some (.int .i64 v.kind) := by have := HVI.out i h wr HW.out.px.only 0 (by omega); rw [HVV.out] at this; exact this
    have u1 : wr.cell? ⟨b, o + i * 11 + 1, none⟩ = some (.string ⟨v.nm.toArray⟩) := by have := HVI.out i h wr HW.out.px.only 1 (by omega); rw [HVV.out] at this; exact this
    have u2 : wr.cell? ⟨b, o + i * 11 + 2, none⟩ = some (.string ⟨v.help.toArray⟩) := by have := HVI.out i h wr HW.out.px.only 2 (by omega); rw [HVV.out] at this; exact this
    have u3 : wr.cell? ⟨b, o + i * 11 + 3, none⟩ = some (.slice v.lp v.ln v.lc) := by have := HVI.out i h wr HW.out.px.only 3 (by omega); rw [HVV.out] at this; exact this
    have u4 : wr.cell? ⟨b, o + i * 11 + 4, none⟩ = some (.int .i64 v.hi) := by have := HVI.out i h wr HW.out.px.only 4 (by omega); rw [HVV.out] at this; exact this
    have u5 : wr.cell? ⟨b, o + i * 11 + 5, none⟩ = some (.int .u64 (v.lo : Int)) := by have := HVI.out i h wr HW.out.px.only 5 (by omega); rw [HVV.out] at this; exact this
    have u6 : wr.cell? ⟨b, o + i * 11 + 6, none⟩ = some (.slice v.cp v.cn v.cc) := by have := HVI.out i h wr HW.out.px.only 6 (by omega); rw [HVV.out] at this; exact this
    have u7 : wr.cell? ⟨b, o + i * 11 + 7, none⟩ = some (.int .u64 (v.N : Int)) := by have := HVI.out i h wr HW.out.px.only 7 (by omega); rw [HVV.out] at this; exact this
    have u8 : wr.cell? ⟨b, o + i * 11 + 8, none⟩ = some (.float .f64 v.sum) := by have := HVI.out i h wr HW.out.px.only 8 (by omega); rw [HVV.out] at this; exact this
    have u9 : wr.cell? ⟨b, o + i * 11 + 9, none⟩ = some (.float .f64 v.mn) := by have := HVI.out i h wr HW.out.px.only 9 (by omega); rw [HVV.out] at this; exact this
    have u10 : wr.cell? ⟨b, o + i * 11 + 10, none⟩ = some (.float .f64 v.mx) := by have := HVI.out i h wr HW.out.px.only 10 (by omega); rw [HVV.out] at this; exact this
    go_upto_region 11 with fail
    have hvb := blk_new wr (.cells #[.int .i64 v.kind, .string ⟨v.nm.toArray⟩, .string ⟨v.help.toArray⟩, .slice v.lp v.ln v.lc, .int .i64 v.hi, .int .u64 (v.lo : Int), .slice v.cp v.cn v.cc, .int .u64 (v.N : Int), .float .f64 v.sum, .float .f64 v.mn, .float .f64 v.mx] 42)
    have O2 := (Only.refl (fun _ => False) wr).alloc (.cells #[.int .i64 v.kind, .string ⟨v.nm.toArray⟩, .string ⟨v.help.toArray⟩, .slice v.lp v.ln v.lc, .int .i64 v.hi, .int .u64 (v.lo : Int), .slice v.cp v.cn v.cc, .int .u64 (v.N : Int), .float .f64 v.sum, .float .f64 v.mn, .float .f64 v.mx] 42)
    generalize wr.alloc (.cells #[.int .i64 v.kind, .string ⟨v.nm.toArray⟩, .string ⟨v.help.toArray⟩, .slice v.lp v.ln v.lc, .int .i64 v.hi, .int .u64 (v.lo : Int), .slice v.cp v.cn v.cc, .int .u64 (v.N : Int), .float .f64 v.sum, .float .f64 v.mn, .float .f64 v.mx] 42) = w2 at *
    have HB2 := Lib.hid (HW.out.px.own hvb)
    have HW2 := Lib.hid (HW.out.still O2)
    clear u0 u1 u2 u3 u4 u5 u6 u7 u8 u9 u10 hvb O2 HW
    generalize wr.heap.size = vb at *
    have KV : Hid (∀ v' l w', Px w w' pb (pb + 1) (p : Int) v' l → l.length + 50000000000 ≤ 140737488355328 → Calls Tryz.prog (if v.kind = 1 then 32 else if v.kind = 2 then 33 else 34) #[.pointer (some ⟨pb, 0, none⟩), .agg #[.int .i64 v.kind, .string ⟨v.nm.toArray⟩, .string ⟨v.help.toArray⟩, .slice v.lp v.ln v.lc, .int .i64 v.hi, .int .u64 (v.lo : Int), .slice v.cp v.cn v.cc, .int .u64 (v.N : Int), .float .f64 v.sum, .float .f64 v.mn, .float .f64 v.mx]] w' fun e w'' => e = .returned (.tuple #[]) ∧ ∃ v'', Px w w'' pb (pb + 1) (p : Int) v'' (l ++ valT pt p v) ∧ Wrote w' pb v' v'' w'') := Lib.hid (fun v' l w' hx hb => by
      unfold valT
      by_cases k1 : v.kind = 1
      · rw [if_pos k1, if_pos k1]
        exact counter_calls w pb (pb + 1) (p : Int) v' l v w' hx HE.out HVK.out HGV.out.good (HGV.out.pos (.inl k1)) HHV.out (by omega)
      · rw [if_neg k1, if_neg k1]
        by_cases k2 : v.kind = 2
        · rw [if_pos k2, if_pos k2]
          exact hprint_calls w pb (pb + 1) p v' l v w' hx HE.out HVK.out HGV.out.good HP.out.1 HP.out.2.1 (HGV.out.may k2).1 (by have := (HGV.out.may k2).2; omega) (HGV.out.pos (.inr k2)) HHV.out hb
        · rw [if_neg k2, if_neg k2]
          exact summary_calls pt HPT.out HPL.out w pb (pb + 1) (p : Int) v' l v w' hx HE.out HVK.out HGV.out.good (by omega))
    have HKK := Lib.hid HGV.out.good.kind
    rcases HKK.out with hk | hk | hk
    · have x0 : w2.cell? ⟨vb, 0, none⟩ = some (.int .i64 1) := by rw [blk_cell HB2.out.blk]; show some (Value.int .i64 v.kind) = _; rw [hk]
      have hlk := look_C mb w2 HW2.out.map.blk
      unfold kC at hlk
      have HKT : Hid (kindT v.kind = [99, 111, 117, 110, 116, 101, 114]) := Lib.hid (by rw [hk]; rfl)
      have KVK := Lib.hid (fun v' l w' hx hb => by have := KV.out v' l w' hx hb; rw [if_pos hk] at this; exact this)
      clear KV hk
      go_upto_region 12 with fail
      have hkb := blk_new w2 (.cells #[.string ⟨#[99, 111, 117, 110, 116, 101, 114]⟩, .func (Fn.func 32) #[] #[]] 60)
      have O3 := (Only.refl (fun _ => False) w2).alloc (.cells #[.string ⟨#[99, 111, 117, 110, 116, 101, 114]⟩, .func (Fn.func 32) #[] #[]] 60)
      generalize w2.alloc (.cells #[.string ⟨#[99, 111, 117, 110, 116, 101, 114]⟩, .func (Fn.func 32) #[] #[]] 60) = w3 at *
      have HK3 := Lib.hid (HW2.out.px.own hkb)
      have HB3 := Lib.hid (HB2.out.still O3)
      have HW3 := Lib.hid (HW2.out.still O3)
      clear x0 hlk hkb O3 HW2 HB2
      generalize w2.heap.size = kb at *
      go_cut [64] from 49 to 64 (fun v64 wx => v64 = .bool fb ∧ Only (fun _ => False) w3 wx)
      case first =>
        by_cases hi0 : i = 0
        · have q0 : ((i : Int) == 0) = true := by simp; omega
          have HFB := Lib.hid (HF0.out hi0)
          clear hi0
          go_quiet (fail)
          go_wp2_with fail
          go_meet
          exact ⟨by rw [HFB.out], (Only.refl _ _).drewN _⟩
        · have q0 : ((i : Int) == 0) = false := by simp; omega
          obtain ⟨k, hk⟩ : ∃ k, i = k + 1 := ⟨i - 1, by omega⟩
          have HFB := Lib.hid (HFA.out k hk)
          have hkn : k < n := by omega
          have hw3 : IntKind.i64.wrap ((i : Int) - 1) = (k : Int) := by rw [show (i : Int) - 1 = k by omega]; exact IntWalk.i64_in _ ⟨by omega, by have := HP.out; omega⟩
          have hwk : wrap64 ((i : Int) - 1) = (k : Int) := by rw [IntWalk.wrap64_in _ ⟨by omega, by have := HP.out; omega⟩]; omega
          have s1 : w3.cell? ⟨sb, 1, none⟩ = some (.slice (some ⟨b, o, none⟩) n c) := by rw [blk_cell HW3.out.snap.blk]; rfl
          have y1 : w3.cell? ⟨b, o + k * 11 + 1, none⟩ = some (.string ⟨(V k).nm.toArray⟩) := by have := HVI.out k hkn w3 HW3.out.px.only 1 (by omega); exact this
          have x1 : w3.cell? ⟨vb, 1, none⟩ = some (.string ⟨v.nm.toArray⟩) := by rw [blk_cell HB3.out.blk]; rfl
          clear hi0 hk
          generalize (V k).nm = an at *
          rcases hnb : (an == v.nm) with _ | _
          all_goals
            rw [hnb] at HFB
            go_quiet (fail)
            go_wp2_with fail
            go_meet
            exact ⟨by rw [HFB.out]; rfl, (Only.refl _ _).drewN _⟩
      case rest =>
        obtain ⟨rfl, hO4⟩ := hcut
        have HB4 := Lib.hid (HB3.out.still hO4)
        have HK4 := Lib.hid (HK3.out.still hO4)
        have HW4 := Lib.hid (HW3.out.still hO4)
        clear hO4 HB3 HK3 HW3
        go_upto_if 64 with fail
        go_cut [] from 64 to 82 (fun wx => ∃ v', Wt w wx sb mb pb (pb + 1) p (.cells #[.int .i64 (p : Int), .slice (some ⟨b, o, none⟩) n c, .int .u64 (rf : Int)] 26) m3 v' (T ++ FT) ∧ Own wx pb v' vb (.cells #[.int .i64 v.kind, .string ⟨v.nm.toArray⟩, .string ⟨v.help.toArray⟩, .slice v.lp v.ln v.lc, .int .i64 v.hi, .int .u64 (v.lo : Int), .slice v.cp v.cn v.cc, .int .u64 (v.N : Int), .float .f64 v.sum, .float .f64 v.mn, .float .f64 v.mx] 42) ∧ Own wx pb v' kb (.cells #[.string ⟨#[99, 111, 117, 110, 116, 101, 114]⟩, .func (Fn.func 32) #[] #[]] 60))
        case first =>
          cases fb
          · have HF1 := Lib.hid (show FT = [] by rw [HFT.out, if_neg (by decide)])
            go_wp2_with fail
            go_meet
            exact ⟨v1, by rw [HF1.out, List.append_nil]; exact HW4.out, HB4.out, HK4.out⟩
          · have HF1 := Lib.hid (show FT = [35, 32, 72, 69, 76, 80, 32] ++ v.nm ++ [32] ++ helpT v.help ++ [10] ++ ([35, 32, 84, 89, 80, 69, 32] ++ v.nm ++ [32] ++ kindT v.kind ++ [10]) by rw [HFT.out, if_pos rfl])
            have HNM := Lib.hid (name_len HGV.out.good.nm)
            have HHP := Lib.hid HGV.out.good.help
            have HHL2 := Lib.hid (hflat_le v.help)
            have K19 := Lib.hid (fun w' => help_calls v.help w' (by have := HHP.out; omega))
            go_upto_region 13 with fail
            have hs2 : Hid (∀ S w', Only S wc w' → ¬ S vb → w'.cell? ⟨vb, 1, none⟩ = some (.string ⟨v.nm.toArray⟩) ∧ w'.cell? ⟨vb, 2, none⟩ = some (.string ⟨v.help.toArray⟩)) := Lib.hid fun S w' O hS => by
              have q := O.blk HB4.out.blk hS
              exact ⟨by rw [blk_cell q]; rfl, by rw [blk_cell q]; rfl⟩
            have N0 : Only (fun _ => False) wc wc.drew := (Only.refl _ _).drew
            go_region_held3 (fun w' => w'.cell? ⟨vb, 1, none⟩ = some (.string ⟨v.nm.toArray⟩) ∧ w'.cell? ⟨vb, 2, none⟩ = some (.string ⟨v.help.toArray⟩))
              (first | (with_reducible exact hs2.out _ _ N0 id) | (with_reducible exact hs2.out _ _ N3 id) | (with_reducible exact hs2.out _ _ (N3.alloc _) id) | (with_reducible exact hs2.out _ _ N4 F4))
              (first
                | (go_at_call 19; go_split_ands; refine (K19.out _).mono ?_; rintro e w12 ⟨he, O3⟩; subst he; have N3 := N0.trans O3)
                | (go_at_call 15; go_split_ands; refine (line_new pb (pb + 1) (p : Int) v1 T [[35, 32, 72, 69, 76, 80, 32], v.nm, [32], helpT v.help] w12 9 4 _ _ (HW4.out.still N3).px.pg (by simp) (by have := HLE.out; have := HNM.out; have := HHP.out; have := HHL2.out; simp; omega) rfl rfl).mono ?_; rintro e w13 ⟨he, v3, h3, h4⟩; subst he; have N4 := (N3.mono (T := fun k => k = pb ∨ v1.ownBlock = some k) (fun _ _ e => e.elim)).trans h4.only; have F4 : ¬ (vb = pb ∨ v1.ownBlock = some vb) := by (rintro (e | e); exact HB4.out.ne e; exact HB4.out.own e)))
            have HW5 := Lib.hid ((HW4.out.still N3).next h3 h4)
            have HB5 := Lib.hid ((HB4.out.still N3).next h4)
            have HK5 := Lib.hid ((HK4.out.still N3).next h4)
            clear h3 h4 N3 N4 F4 O3 N0 hs2 HB4 HK4 HW4
            go_upto_region 14 with fail
            have x1 : w13.cell? ⟨vb, 1, none⟩ = some (.string ⟨v.nm.toArray⟩) := by rw [blk_cell HB5.out.blk]; rfl
            have x2 : w13.cell? ⟨kb, 0, none⟩ = some (.string ⟨#[99, 111, 117, 110, 116, 101, 114]⟩) := by rw [blk_cell HK5.out.blk]; rfl
            go_wp2_with fail
            refine (line_new pb (pb + 1) (p : Int) v3 _ [[35, 32, 84, 89, 80, 69, 32], v.nm, [32], [99, 111, 117, 110, 116, 101, 114]] w13 9 4 _ _ HW5.out.px.pg (by simp) (by have := HLE.out; have := HNM.out; have := HHP.out; have := HHL2.out; simp; omega) rfl rfl).mono ?_
            rintro e w14 ⟨rfl, v4, h3, h4⟩
            have HW6 := Lib.hid (HW5.out.next h3 h4)
            have HB6 := Lib.hid (HB5.out.next h4)
            have HK6 := Lib.hid (HK5.out.next h4)
            clear h3 h4 HW5 HB5 HK5 x1 x2
            go_wp2_with fail
            go_meet
            refine ⟨v4, ?_, HB6.out, HK6.out⟩
            have := HW6.out
            rw [HF1.out, HKT.out]
            simpa [List.append_assoc] using this
        case rest =>
          obtain ⟨v3, hW5, hB5, hK5⟩ := hcut
          have HW5 := Lib.hid hW5
          have HB5 := Lib.hid hB5
          have HK5 := Lib.hid hK5
          have HFL := Lib.hid (show FT.length ≤ 10000 by
            rw [HFT.out]
            have := name_len HGV.out.good.nm
            have := HGV.out.good.help
            have := hflat_le v.help
            split
            · rw [HKT.out]; simp only [List.length_append, List.length_cons, List.length_nil]; omega
            · simp)
          clear hW5 hB5 hK5 HW4 HB4 HK4
          have x1 : wc.cell? ⟨kb, 1, none⟩ = some (.func (Fn.func 32) #[] #[]) := by rw [blk_cell HK5.out.blk]; rfl
          have e0 : wc.cell? ⟨vb, 0, none⟩ = some (.int .i64 v.kind) := by rw [blk_cell HB5.out.blk]; rfl
          have e1 : wc.cell? ⟨vb, 1, none⟩ = some (.string ⟨v.nm.toArray⟩) := by rw [blk_cell HB5.out.blk]; rfl
          have e2 : wc.cell? ⟨vb, 2, none⟩ = some (.string ⟨v.help.toArray⟩) := by rw [blk_cell HB5.out.blk]; rfl
          have e3 : wc.cell? ⟨vb, 3, none⟩ = some (.slice v.lp v.ln v.lc) := by rw [blk_cell HB5.out.blk]; rfl
          have e4 : wc.cell? ⟨vb, 4, none⟩ = some (.int .i64 v.hi) := by rw [blk_cell HB5.out.blk]; rfl
          have e5 : wc.cell? ⟨vb, 5, none⟩ = some (.int .u64 (v.lo : Int)) := by rw [blk_cell HB5.out.blk]; rfl
          have e6 : wc.cell? ⟨vb, 6, none⟩ = some (.slice v.cp v.cn v.cc) := by rw [blk_cell HB5.out.blk]; rfl
          have e7 : wc.cell? ⟨vb, 7, none⟩ = some (.int .u64 (v.N : Int)) := by rw [blk_cell HB5.out.blk]; rfl
          have e8 : wc.cell? ⟨vb, 8, none⟩ = some (.float .f64 v.sum) := by rw [blk_cell HB5.out.blk]; rfl
          have e9 : wc.cell? ⟨vb, 9, none⟩ = some (.float .f64 v.mn) := by rw [blk_cell HB5.out.blk]; rfl
          have e10 : wc.cell? ⟨vb, 10, none⟩ = some (.float .f64 v.mx) := by rw [blk_cell HB5.out.blk]; rfl
          go_wp2_with fail
          refine (KVK.out v3 (T ++ FT) _ HW5.out.px (by have := HLE.out; have := HFL.out; rw [List.length_append]; omega)).mono ?_
          rintro e w15 ⟨rfl, v5, h3, h4⟩
          have HW7 := Lib.hid (HW5.out.nextx h3 h4)
          clear h3 h4 HW5 HB5 HK5 x1 e0 e1 e2 e3 e4 e5 e6 e7 e8 e9 e10
          have HBQ := Lib.hid (show bodyT pt p rf V (i + 1) = T ++ FT ++ valT pt p v by rw [HBT.out, List.append_assoc])
          rw [← HBQ.out] at HW7
          have HMN := Lib.hid (bodyT_mono pt p rf V (i := i + 1) (j := n) (by omega))
          generalize hT2 : bodyT pt p rf V (i + 1) = T2 at *
          have HT2 := Lib.hid hT2; clear hT2
          obtain ⟨p5, c5, hv5⟩ := own_len HW7.out.px.pg.own
          have y0 : w15.cell? ⟨pb, 0, none⟩ = some v5 := by rw [blk_cell HW7.out.px.pg.blk]; rfl
          rw [hv5] at y0
          clear hv5
          obtain ⟨m, hm⟩ : ∃ m, m = T2.length := ⟨_, rfl⟩
          rw [← hm] at y0
          have HM2 := Lib.hid hm; clear hm
          by_cases hbig : 4194304 < m
          · have t9 : decide ((4194304 : Int) < (m : Int)) = true := decide_eq_true (by omega)
            have HBG := Lib.hid hbig
            clear hbig
            go_wp2_with fail
            go_ret2
            exact ⟨HW7.out.px.only, HQ.out _ _ (.inr (.inl ⟨by first | rfl | trivial, by have := HMN.out; have := HM2.out; have := HBG.out; omega, rfl⟩))⟩
          · have t9 : decide ((4194304 : Int) < (m : Int)) = false := decide_eq_false (by omega)
            have HBG := Lib.hid hbig
            go_wp2_with fail
            exact ⟨⟨i + 1, v5, congrArg (Value.int .i64) hw1, by omega, by rw [HT2.out, ← HM2.out]; exact Nat.le_of_not_lt HBG.out, by rw [HT2.out]; exact HW7.out⟩, by rw [hw1]; simp only [intOf]; omega⟩
    · have x0 : w2.cell? ⟨vb, 0, none⟩ = some (.int .i64 2) := by rw [blk_cell HB2.out.blk]; show some (Value.int .i64 v.kind) = _; rw [hk]
      have hlk := look_H mb w2 HW2.out.map.blk
      unfold kH at hlk
      have HKT : Hid (kindT v.kind = [104, 105, 115, 116, 111, 103, 114, 97, 109]) := Lib.hid (by rw [hk]; rfl)
      have KVK := Lib.hid (fun v' l w' hx hb => by have := KV.out v' l w' hx hb; rw [if_neg (by omega), if_pos hk] at this; exact this)
      clear KV hk
      go_upto_region 12 with fail
      have hkb := blk_new w2 (.cells #[.string ⟨#[104, 105, 115, 116, 111, 103, 114, 97, 109]⟩, .func (Fn.func 33) #[] #[]] 60)
      have O3 := (Only.refl (fun _ => False) w2).alloc (.cells #[.string ⟨#[104, 105, 115, 116, 111, 103, 114, 97, 109]⟩, .func (Fn.func 33) #[] #[]] 60)
      generalize w2.alloc (.cells #[.string ⟨#[104, 105, 115, 116, 111, 103, 114, 97, 109]⟩, .func (Fn.func 33) #[] #[]] 60) = w3 at *
      have HK3 := Lib.hid (HW2.out.px.own hkb)
      have HB3 := Lib.hid (HB2.out.still O3)
      have HW3 := Lib.hid (HW2.out.still O3)
      clear x0 hlk hkb O3 HW2 HB2
      generalize w2.heap.size = kb at *
      go_cut [64] from 49 to 64 (fun v64 wx => v64 = .bool fb ∧ Only (fun _ => False) w3 wx)
      case first =>
        by_cases hi0 : i = 0
        · have q0 : ((i : Int) == 0) = true := by simp; omega
          have HFB := Lib.hid (HF0.out hi0)
          clear hi0
          go_quiet (fail)
          go_wp2_with fail
          go_meet
          exact ⟨by rw [HFB.out], (Only.refl _ _).drewN _⟩
        · have q0 : ((i : Int) == 0) = false := by simp; omega
          obtain ⟨k, hk⟩ : ∃ k, i = k + 1 := ⟨i - 1, by omega⟩
          have HFB := Lib.hid (HFA.out k hk)
          have hkn : k < n := by omega
          have hw3 : IntKind.i64.wrap ((i : Int) - 1) = (k : Int) := by rw [show (i : Int) - 1 = k by omega]; exact IntWalk.i64_in _ ⟨by omega, by have := HP.out; omega⟩
          have hwk : wrap64 ((i : Int) - 1) = (k : Int) := by rw [IntWalk.wrap64_in _ ⟨by omega, by have := HP.out; omega⟩]; omega
          have s1 : w3.cell? ⟨sb, 1, none⟩ = some (.slice (some ⟨b, o, none⟩) n c) := by rw [blk_cell HW3.out.snap.blk]; rfl
          have y1 : w3.cell? ⟨b, o + k * 11 + 1, none⟩ = some (.string ⟨(V k).nm.toArray⟩) := by have := HVI.out k hkn w3 HW3.out.px.only 1 (by omega); exact this
          have x1 : w3.cell? ⟨vb, 1, none⟩ = some (.string ⟨v.nm.toArray⟩) := by rw [blk_cell HB3.out.blk]; rfl
          clear hi0 hk
          generalize (V k).nm = an at *
          rcases hnb : (an == v.nm) with _ | _
          all_goals
            rw [hnb] at HFB
            go_quiet (fail)
            go_wp2_with fail
            go_meet
            exact ⟨by rw [HFB.out]; rfl, (Only.refl _ _).drewN _⟩
      case rest =>
        obtain ⟨rfl, hO4⟩ := hcut
        have HB4 := Lib.hid (HB3.out.still hO4)
        have HK4 := Lib.hid (HK3.out.still hO4)
        have HW4 := Lib.hid (HW3.out.still hO4)
        clear hO4 HB3 HK3 HW3
        go_upto_if 64 with fail
        go_cut [] from 64 to 82 (fun wx => ∃ v', Wt w wx sb mb pb (pb + 1) p (.cells #[.int .i64 (p : Int), .slice (some ⟨b, o, none⟩) n c, .int .u64 (rf : Int)] 26) m3 v' (T ++ FT) ∧ Own wx pb v' vb (.cells #[.int .i64 v.kind, .string ⟨v.nm.toArray⟩, .string ⟨v.help.toArray⟩, .slice v.lp v.ln v.lc, .int .i64 v.hi, .int .u64 (v.lo : Int), .slice v.cp v.cn v.cc, .int .u64 (v.N : Int), .float .f64 v.sum, .float .f64 v.mn, .float .f64 v.mx] 42) ∧ Own wx pb v' kb (.cells #[.string ⟨#[104, 105, 115, 116, 111, 103, 114, 97, 109]⟩, .func (Fn.func 33) #[] #[]] 60))
        case first =>
          cases fb
          · have HF1 := Lib.hid (show FT = [] by rw [HFT.out, if_neg (by decide)])
            go_wp2_with fail
            go_meet
            exact ⟨v1, by rw [HF1.out, List.append_nil]; exact HW4.out, HB4.out, HK4.out⟩
          · have HF1 := Lib.hid (show FT = [35, 32, 72, 69, 76, 80, 32] ++ v.nm ++ [32] ++ helpT v.help ++ [10] ++ ([35, 32, 84, 89, 80, 69, 32] ++ v.nm ++ [32] ++ kindT v.kind ++ [10]) by rw [HFT.out, if_pos rfl])
            have HNM := Lib.hid (name_len HGV.out.good.nm)
            have HHP := Lib.hid HGV.out.good.help
            have HHL2 := Lib.hid (hflat_le v.help)
            have K19 := Lib.hid (fun w' => help_calls v.help w' (by have := HHP.out; omega))
            go_upto_region 13 with fail
            have hs2 : Hid (∀ S w', Only S wc w' → ¬ S vb → w'.cell? ⟨vb, 1, none⟩ = some (.string ⟨v.nm.toArray⟩) ∧ w'.cell? ⟨vb, 2, none⟩ = some (.string ⟨v.help.toArray⟩)) := Lib.hid fun S w' O hS => by
              have q := O.blk HB4.out.blk hS
              exact ⟨by rw [blk_cell q]; rfl, by rw [blk_cell q]; rfl⟩
            have N0 : Only (fun _ => False) wc wc.drew := (Only.refl _ _).drew
            go_region_held3 (fun w' => w'.cell? ⟨vb, 1, none⟩ = some (.string ⟨v.nm.toArray⟩) ∧ w'.cell? ⟨vb, 2, none⟩ = some (.string ⟨v.help.toArray⟩))
              (first | (with_reducible exact hs2.out _ _ N0 id) | (with_reducible exact hs2.out _ _ N3 id) | (with_reducible exact hs2.out _ _ (N3.alloc _) id) | (with_reducible exact hs2.out _ _ N4 F4))
              (first
                | (go_at_call 19; go_split_ands; refine (K19.out _).mono ?_; rintro e w12 ⟨he, O3⟩; subst he; have N3 := N0.trans O3)
                | (go_at_call 15; go_split_ands; refine (line_new pb (pb + 1) (p : Int) v1 T [[35, 32, 72, 69, 76, 80, 32], v.nm, [32], helpT v.help] w12 9 4 _ _ (HW4.out.still N3).px.pg (by simp) (by have := HLE.out; have := HNM.out; have := HHP.out; have := HHL2.out; simp; omega) rfl rfl).mono ?_; rintro e w13 ⟨he, v3, h3, h4⟩; subst he; have N4 := (N3.mono (T := fun k => k = pb ∨ v1.ownBlock = some k) (fun _ _ e => e.elim)).trans h4.only; have F4 : ¬ (vb = pb ∨ v1.ownBlock = some vb) := by (rintro (e | e); exact HB4.out.ne e; exact HB4.out.own e)))
            have HW5 := Lib.hid ((HW4.out.still N3).next h3 h4)
            have HB5 := Lib.hid ((HB4.out.still N3).next h4)
            have HK5 := Lib.hid ((HK4.out.still N3).next h4)
            clear h3 h4 N3 N4 F4 O3 N0 hs2 HB4 HK4 HW4
            go_upto_region 14 with fail
            have x1 : w13.cell? ⟨vb, 1, none⟩ = some (.string ⟨v.nm.toArray⟩) := by rw [blk_cell HB5.out.blk]; rfl
            have x2 : w13.cell? ⟨kb, 0, none⟩ = some (.string ⟨#[104, 105, 115, 116, 111, 103, 114, 97, 109]⟩) := by rw [blk_cell HK5.out.blk]; rfl
            go_wp2_with fail
            refine (line_new pb (pb + 1) (p : Int) v3 _ [[35, 32, 84, 89, 80, 69, 32], v.nm, [32], [104, 105, 115, 116, 111, 103, 114, 97, 109]] w13 9 4 _ _ HW5.out.px.pg (by simp) (by have := HLE.out; have := HNM.out; have := HHP.out; have := HHL2.out; simp; omega) rfl rfl).mono ?_
            rintro e w14 ⟨rfl, v4, h3, h4⟩
            have HW6 := Lib.hid (HW5.out.next h3 h4)
            have HB6 := Lib.hid (HB5.out.next h4)
            have HK6 := Lib.hid (HK5.out.next h4)
            clear h3 h4 HW5 HB5 HK5 x1 x2
            go_wp2_with fail
            go_meet
            refine ⟨v4, ?_, HB6.out, HK6.out⟩
            have := HW6.out
            rw [HF1.out, HKT.out]
            simpa [List.append_assoc] using this
        case rest =>
          obtain ⟨v3, hW5, hB5, hK5⟩ := hcut
          have HW5 := Lib.hid hW5
          have HB5 := Lib.hid hB5
          have HK5 := Lib.hid hK5
          have HFL := Lib.hid (show FT.length ≤ 10000 by
            rw [HFT.out]
            have := name_len HGV.out.good.nm
            have := HGV.out.good.help
            have := hflat_le v.help
            split
            · rw [HKT.out]; simp only [List.length_append, List.length_cons, List.length_nil]; omega
            · simp)
          clear hW5 hB5 hK5 HW4 HB4 HK4
          have x1 : wc.cell? ⟨kb, 1, none⟩ = some (.func (Fn.func 33) #[] #[]) := by rw [blk_cell HK5.out.blk]; rfl
          have e0 : wc.cell? ⟨vb, 0, none⟩ = some (.int .i64 v.kind) := by rw [blk_cell HB5.out.blk]; rfl
          have e1 : wc.cell? ⟨vb, 1, none⟩ = some (.string ⟨v.nm.toArray⟩) := by rw [blk_cell HB5.out.blk]; rfl
          have e2 : wc.cell? ⟨vb, 2, none⟩ = some (.string ⟨v.help.toArray⟩) := by rw [blk_cell HB5.out.blk]; rfl
          have e3 : wc.cell? ⟨vb, 3, none⟩ = some (.slice v.lp v.ln v.lc) := by rw [blk_cell HB5.out.blk]; rfl
          have e4 : wc.cell? ⟨vb, 4, none⟩ = some (.int .i64 v.hi) := by rw [blk_cell HB5.out.blk]; rfl
          have e5 : wc.cell? ⟨vb, 5, none⟩ = some (.int .u64 (v.lo : Int)) := by rw [blk_cell HB5.out.blk]; rfl
          have e6 : wc.cell? ⟨vb, 6, none⟩ = some (.slice v.cp v.cn v.cc) := by rw [blk_cell HB5.out.blk]; rfl
          have e7 : wc.cell? ⟨vb, 7, none⟩ = some (.int .u64 (v.N : Int)) := by rw [blk_cell HB5.out.blk]; rfl
          have e8 : wc.cell? ⟨vb, 8, none⟩ = some (.float .f64 v.sum) := by rw [blk_cell HB5.out.blk]; rfl
          have e9 : wc.cell? ⟨vb, 9, none⟩ = some (.float .f64 v.mn) := by rw [blk_cell HB5.out.blk]; rfl
          have e10 : wc.cell? ⟨vb, 10, none⟩ = some (.float .f64 v.mx) := by rw [blk_cell HB5.out.blk]; rfl
          go_wp2_with fail
          refine (KVK.out v3 (T ++ FT) _ HW5.out.px (by have := HLE.out; have := HFL.out; rw [List.length_append]; omega)).mono ?_
          rintro e w15 ⟨rfl, v5, h3, h4⟩
          have HW7 := Lib.hid (HW5.out.nextx h3 h4)
          clear h3 h4 HW5 HB5 HK5 x1 e0 e1 e2 e3 e4 e5 e6 e7 e8 e9 e10
          have HBQ := Lib.hid (show bodyT pt p rf V (i + 1) = T ++ FT ++ valT pt p v by rw [HBT.out, List.append_assoc])
          rw [← HBQ.out] at HW7
          have HMN := Lib.hid (bodyT_mono pt p rf V (i := i + 1) (j := n) (by omega))
          generalize hT2 : bodyT pt p rf V (i + 1) = T2 at *
          have HT2 := Lib.hid hT2; clear hT2
          obtain ⟨p5, c5, hv5⟩ := own_len HW7.out.px.pg.own
          have y0 : w15.cell? ⟨pb, 0, none⟩ = some v5 := by rw [blk_cell HW7.out.px.pg.blk]; rfl
          rw [hv5] at y0
          clear hv5
          obtain ⟨m, hm⟩ : ∃ m, m = T2.length := ⟨_, rfl⟩
          rw [← hm] at y0
          have HM2 := Lib.hid hm; clear hm
          by_cases hbig : 4194304 < m
          · have t9 : decide ((4194304 : Int) < (m : Int)) = true := decide_eq_true (by omega)
            have HBG := Lib.hid hbig
            clear hbig
            go_wp2_with fail
            go_ret2
            exact ⟨HW7.out.px.only, HQ.out _ _ (.inr (.inl ⟨by first | rfl | trivial, by have := HMN.out; have := HM2.out; have := HBG.out; omega, rfl⟩))⟩
          · have t9 : decide ((4194304 : Int) < (m : Int)) = false := decide_eq_false (by omega)
            have HBG := Lib.hid hbig
            go_wp2_with fail
            exact ⟨⟨i + 1, v5, congrArg (Value.int .i64) hw1, by omega, by rw [HT2.out, ← HM2.out]; exact Nat.le_of_not_lt HBG.out, by rw [HT2.out]; exact HW7.out⟩, by rw [hw1]; simp only [intOf]; omega⟩
    · have x0 : w2.cell? ⟨vb, 0, none⟩ = some (.int .i64 3) := by rw [blk_cell HB2.out.blk]; show some (Value.int .i64 v.kind) = _; rw [hk]
      have hlk := look_S mb w2 HW2.out.map.blk
      unfold kS at hlk
      have HKT : Hid (kindT v.kind = [115, 117, 109, 109, 97, 114, 121]) := Lib.hid (by rw [hk]; rfl)
      have KVK := Lib.hid (fun v' l w' hx hb => by have := KV.out v' l w' hx hb; rw [if_neg (by omega), if_neg (by omega)] at this; exact this)
      clear KV hk
      go_upto_region 12 with fail
      have hkb := blk_new w2 (.cells #[.string ⟨#[115, 117, 109, 109, 97, 114, 121]⟩, .func (Fn.func 34) #[] #[]] 60)
      have O3 := (Only.refl (fun _ => False) w2).alloc (.cells #[.string ⟨#[115, 117, 109, 109, 97, 114, 121]⟩, .func (Fn.func 34) #[] #[]] 60)
      generalize w2.alloc (.cells #[.string ⟨#[115, 117, 109, 109, 97, 114, 121]⟩, .func (Fn.func 34) #[] #[]] 60) = w3 at *
      have HK3 := Lib.hid (HW2.out.px.own hkb)
      have HB3 := Lib.hid (HB2.out.still O3)
      have HW3 := Lib.hid (HW2.out.still O3)
      clear x0 hlk hkb O3 HW2 HB2
      generalize w2.heap.size = kb at *
      go_cut [64] from 49 to 64 (fun v64 wx => v64 = .bool fb ∧ Only (fun _ => False) w3 wx)
      case first =>
        by_cases hi0 : i = 0
        · have q0 : ((i : Int) == 0) = true := by simp; omega
          have HFB := Lib.hid (HF0.out hi0)
          clear hi0
          go_quiet (fail)
          go_wp2_with fail
          go_meet
          exact ⟨by rw [HFB.out], (Only.refl _ _).drewN _⟩
        · have q0 : ((i : Int) == 0) = false := by simp; omega
          obtain ⟨k, hk⟩ : ∃ k, i = k + 1 := ⟨i - 1, by omega⟩
          have HFB := Lib.hid (HFA.out k hk)
          have hkn : k < n := by omega
          have hw3 : IntKind.i64.wrap ((i : Int) - 1) = (k : Int) := by rw [show (i : Int) - 1 = k by omega]; exact IntWalk.i64_in _ ⟨by omega, by have := HP.out; omega⟩
          have hwk : wrap64 ((i : Int) - 1) = (k : Int) := by rw [IntWalk.wrap64_in _ ⟨by omega, by have := HP.out; omega⟩]; omega
          have s1 : w3.cell? ⟨sb, 1, none⟩ = some (.slice (some ⟨b, o, none⟩) n c) := by rw [blk_cell HW3.out.snap.blk]; rfl
          have y1 : w3.cell? ⟨b, o + k * 11 + 1, none⟩ = some (.string ⟨(V k).nm.toArray⟩) := by have := HVI.out k hkn w3 HW3.out.px.only 1 (by omega); exact this
          have x1 : w3.cell? ⟨vb, 1, none⟩ = some (.string ⟨v.nm.toArray⟩) := by rw [blk_cell HB3.out.blk]; rfl
          clear hi0 hk
          generalize (V k).nm = an at *
          rcases hnb : (an == v.nm) with _ | _
          all_goals
            rw [hnb] at HFB
            go_quiet (fail)
            go_wp2_with fail
            go_meet
            exact ⟨by rw [HFB.out]; rfl, (Only.refl _ _).drewN _⟩
      case rest =>
        obtain ⟨rfl, hO4⟩ := hcut
        have HB4 := Lib.hid (HB3.out.still hO4)
        have HK4 := Lib.hid (HK3.out.still hO4)
        have HW4 := Lib.hid (HW3.out.still hO4)
        clear hO4 HB3 HK3 HW3
        go_upto_if 64 with fail
        go_cut [] from 64 to 82 (fun wx => ∃ v', Wt w wx sb mb pb (pb + 1) p (.cells #[.int .i64 (p : Int), .slice (some ⟨b, o, none⟩) n c, .int .u64 (rf : Int)] 26) m3 v' (T ++ FT) ∧ Own wx pb v' vb (.cells #[.int .i64 v.kind, .string ⟨v.nm.toArray⟩, .string ⟨v.help.toArray⟩, .slice v.lp v.ln v.lc, .int .i64 v.hi, .int .u64 (v.lo : Int), .slice v.cp v.cn v.cc, .int .u64 (v.N : Int), .float .f64 v.sum, .float .f64 v.mn, .float .f64 v.mx] 42) ∧ Own wx pb v' kb (.cells #[.string ⟨#[115, 117, 109, 109, 97, 114, 121]⟩, .func (Fn.func 34) #[] #[]] 60))
        case first =>
          cases fb
          · have HF1 := Lib.hid (show FT = [] by rw [HFT.out, if_neg (by decide)])
            go_wp2_with fail
            go_meet
            exact ⟨v1, by rw [HF1.out, List.append_nil]; exact HW4.out, HB4.out, HK4.out⟩
          · have HF1 := Lib.hid (show FT = [35, 32, 72, 69, 76, 80, 32] ++ v.nm ++ [32] ++ helpT v.help ++ [10] ++ ([35, 32, 84, 89, 80, 69, 32] ++ v.nm ++ [32] ++ kindT v.kind ++ [10]) by rw [HFT.out, if_pos rfl])
            have HNM := Lib.hid (name_len HGV.out.good.nm)
            have HHP := Lib.hid HGV.out.good.help
            have HHL2 := Lib.hid (hflat_le v.help)
            have K19 := Lib.hid (fun w' => help_calls v.help w' (by have := HHP.out; omega))
            go_upto_region 13 with fail
            have hs2 : Hid (∀ S w', Only S wc w' → ¬ S vb → w'.cell? ⟨vb, 1, none⟩ = some (.string ⟨v.nm.toArray⟩) ∧ w'.cell? ⟨vb, 2, none⟩ = some (.string ⟨v.help.toArray⟩)) := Lib.hid fun S w' O hS => by
              have q := O.blk HB4.out.blk hS
              exact ⟨by rw [blk_cell q]; rfl, by rw [blk_cell q]; rfl⟩
            have N0 : Only (fun _ => False) wc wc.drew := (Only.refl _ _).drew
            go_region_held3 (fun w' => w'.cell? ⟨vb, 1, none⟩ = some (.string ⟨v.nm.toArray⟩) ∧ w'.cell? ⟨vb, 2, none⟩ = some (.string ⟨v.help.toArray⟩))
              (first | (with_reducible exact hs2.out _ _ N0 id) | (with_reducible exact hs2.out _ _ N3 id) | (with_reducible exact hs2.out _ _ (N3.alloc _) id) | (with_reducible exact hs2.out _ _ N4 F4))
              (first
                | (go_at_call 19; go_split_ands; refine (K19.out _).mono ?_; rintro e w12 ⟨he, O3⟩; subst he; have N3 := N0.trans O3)
                | (go_at_call 15; go_split_ands; refine (line_new pb (pb + 1) (p : Int) v1 T [[35, 32, 72, 69, 76, 80, 32], v.nm, [32], helpT v.help] w12 9 4 _ _ (HW4.out.still N3).px.pg (by simp) (by have := HLE.out; have := HNM.out; have := HHP.out; have := HHL2.out; simp; omega) rfl rfl).mono ?_; rintro e w13 ⟨he, v3, h3, h4⟩; subst he; have N4 := (N3.mono (T := fun k => k = pb ∨ v1.ownBlock = some k) (fun _ _ e => e.elim)).trans h4.only; have F4 : ¬ (vb = pb ∨ v1.ownBlock = some vb) := by (rintro (e | e); exact HB4.out.ne e; exact HB4.out.own e)))
            have HW5 := Lib.hid ((HW4.out.still N3).next h3 h4)
            have HB5 := Lib.hid ((HB4.out.still N3).next h4)
            have HK5 := Lib.hid ((HK4.out.still N3).next h4)
            clear h3 h4 N3 N4 F4 O3 N0 hs2 HB4 HK4 HW4
            go_upto_region 14 with fail
            have x1 : w13.cell? ⟨vb, 1, none⟩ = some (.string ⟨v.nm.toArray⟩) := by rw [blk_cell HB5.out.blk]; rfl
            have x2 : w13.cell? ⟨kb, 0, none⟩ = some (.string ⟨#[115, 117, 109, 109, 97, 114, 121]⟩) := by rw [blk_cell HK5.out.blk]; rfl
            go_wp2_with fail
            refine (line_new pb (pb + 1) (p : Int) v3 _ [[35, 32, 84, 89, 80, 69, 32], v.nm, [32], [115, 117, 109, 109, 97, 114, 121]] w13 9 4 _ _ HW5.out.px.pg (by simp) (by have := HLE.out; have := HNM.out; have := HHP.out; have := HHL2.out; simp; omega) rfl rfl).mono ?_
            rintro e w14 ⟨rfl, v4, h3, h4⟩
            have HW6 := Lib.hid (HW5.out.next h3 h4)
            have HB6 := Lib.hid (HB5.out.next h4)
            have HK6 := Lib.hid (HK5.out.next h4)
            clear h3 h4 HW5 HB5 HK5 x1 x2
            go_wp2_with fail
            go_meet
            refine ⟨v4, ?_, HB6.out, HK6.out⟩
            have := HW6.out
            rw [HF1.out, HKT.out]
            simpa [List.append_assoc] using this
        case rest =>
          obtain ⟨v3, hW5, hB5, hK5⟩ := hcut
          have HW5 := Lib.hid hW5
          have HB5 := Lib.hid hB5
          have HK5 := Lib.hid hK5
          have HFL := Lib.hid (show FT.length ≤ 10000 by
            rw [HFT.out]
            have := name_len HGV.out.good.nm
            have := HGV.out.good.help
            have := hflat_le v.help
            split
            · rw [HKT.out]; simp only [List.length_append, List.length_cons, List.length_nil]; omega
            · simp)
          clear hW5 hB5 hK5 HW4 HB4 HK4
          have x1 : wc.cell? ⟨kb, 1, none⟩ = some (.func (Fn.func 34) #[] #[]) := by rw [blk_cell HK5.out.blk]; rfl
          have e0 : wc.cell? ⟨vb, 0, none⟩ = some (.int .i64 v.kind) := by rw [blk_cell HB5.out.blk]; rfl
          have e1 : wc.cell? ⟨vb, 1, none⟩ = some (.string ⟨v.nm.toArray⟩) := by rw [blk_cell HB5.out.blk]; rfl
          have e2 : wc.cell? ⟨vb, 2, none⟩ = some (.string ⟨v.help.toArray⟩) := by rw [blk_cell HB5.out.blk]; rfl
          have e3 : wc.cell? ⟨vb, 3, none⟩ = some (.slice v.lp v.ln v.lc) := by rw [blk_cell HB5.out.blk]; rfl
          have e4 : wc.cell? ⟨vb, 4, none⟩ = some (.int .i64 v.hi) := by rw [blk_cell HB5.out.blk]; rfl
          have e5 : wc.cell? ⟨vb, 5, none⟩ = some (.int .u64 (v.lo : Int)) := by rw [blk_cell HB5.out.blk]; rfl
          have e6 : wc.cell? ⟨vb, 6, none⟩ = some (.slice v.cp v.cn v.cc) := by rw [blk_cell HB5.out.blk]; rfl
          have e7 : wc.cell? ⟨vb, 7, none⟩ = some (.int .u64 (v.N : Int)) := by rw [blk_cell HB5.out.blk]; rfl
          have e8 : wc.cell? ⟨vb, 8, none⟩ = some (.float .f64 v.sum) := by rw [blk_cell HB5.out.blk]; rfl
          have e9 : wc.cell? ⟨vb, 9, none⟩ = some (.float .f64 v.mn) := by rw [blk_cell HB5.out.blk]; rfl
          have e10 : wc.cell? ⟨vb, 10, none⟩ = some (.float .f64 v.mx) := by rw [blk_cell HB5.out.blk]; rfl
          go_wp2_with fail
          refine (KVK.out v3 (T ++ FT) _ HW5.out.px (by have := HLE.out; have := HFL.out; rw [List.length_append]; omega)).mono ?_
          rintro e w15 ⟨rfl, v5, h3, h4⟩
          have HW7 := Lib.hid (HW5.out.nextx h3 h4)
          clear h3 h4 HW5 HB5 HK5 x1 e0 e1 e2 e3 e4 e5 e6 e7 e8 e9 e10
          have HBQ := Lib.hid (show bodyT pt p rf V (i + 1) = T ++ FT ++ valT pt p v by rw [HBT.out, List.append_assoc])
          rw [← HBQ.out] at HW7
          have HMN := Lib.hid (bodyT_mono pt p rf V (i := i + 1) (j := n) (by omega))
          generalize hT2 : bodyT pt p rf V (i + 1) = T2 at *
          have HT2 := Lib.hid hT2; clear hT2
          obtain ⟨p5, c5, hv5⟩ := own_len HW7.out.px.pg.own
          have y0 : w15.cell? ⟨pb, 0, none⟩ = some v5 := by rw [blk_cell HW7.out.px.pg.blk]; rfl
          rw [hv5] at y0
          clear hv5
          obtain ⟨m, hm⟩ : ∃ m, m = T2.length := ⟨_, rfl⟩
          rw [← hm] at y0
          have HM2 := Lib.hid hm; clear hm
          by_cases hbig : 4194304 < m
          · have t9 : decide ((4194304 : Int) < (m : Int)) = true := decide_eq_true (by omega)
            have HBG := Lib.hid hbig
            clear hbig
            go_wp2_with fail
            go_ret2
            exact ⟨HW7.out.px.only, HQ.out _ _ (.inr (.inl ⟨by first | rfl | trivial, by have := HMN.out; have := HM2.out; have := HBG.out; omega, rfl⟩))⟩
          · have t9 : decide ((4194304 : Int) < (m : Int)) = false := decide_eq_false (by omega)
            have HBG := Lib.hid hbig
            go_wp2_with fail
            exact ⟨⟨i + 1, v5, congrArg (Value.int .i64) hw1, by omega, by rw [HT2.out, ← HM2.out]; exact Nat.le_of_not_lt HBG.out, by rw [HT2.out]; exact HW7.out⟩, by rw [hw1]; simp only [intOf]; omega⟩
end Go.Proofs.YtiijgghholhcnaaGreatDoor
