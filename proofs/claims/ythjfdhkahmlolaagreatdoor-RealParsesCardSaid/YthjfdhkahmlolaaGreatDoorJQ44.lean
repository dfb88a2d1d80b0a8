/- The reference's Parse. Printed by gen_nud.py. -/
import Derived.Test.YthjfdhkahmlolaaGreatDoorJQ43
import Derived.Test.YthjfdhkahmlolaaGreatDoorJQ30
namespace Go.Proofs.YthjfdhkahmlolaaGreatDoor
open Go.RowKit Usc
set_option maxRecDepth 100000
/-- the floats that Parse tries first, and their texts -/
def spX (i : Nat) : Nat := if i = 0 then 9221120237041090560 else if i = 1 then 9218868437227405312 else if i = 2 then 18442240474082181120 else if i = 3 then 0 else 9223372036854775808
def spT (i : Nat) : List UInt8 := if i = 0 then [78, 97, 78] else if i = 1 then [43, 73, 110, 102] else if i = 2 then [45, 73, 110, 102] else if i = 3 then [48] else [45, 48]
theorem sp_pr (i : Nat) : spX i < 18446744073709551616 ∧ Pr (spX i) (spT i) := by
  unfold spX spT
  by_cases h0 : i = 0
  · rw [if_pos h0, if_pos h0]; exact ⟨by decide, (pr_nan (by decide) _).2 rfl⟩
  · rw [if_neg h0, if_neg h0]
    by_cases h1 : i = 1
    · rw [if_pos h1, if_pos h1]; exact ⟨by decide, (pr_inf (by decide) _).2 rfl⟩
    · rw [if_neg h1, if_neg h1]
      by_cases h2 : i = 2
      · rw [if_pos h2, if_pos h2]; exact ⟨by decide, (pr_inf (by decide) _).2 rfl⟩
      · rw [if_neg h2, if_neg h2]
        by_cases h3 : i = 3
        · rw [if_pos h3, if_pos h3]; exact ⟨by decide, (pr_zero (by decide) _).2 rfl⟩
        · rw [if_neg h3, if_neg h3]; exact ⟨by decide, (pr_zero (by decide) _).2 rfl⟩
/-- a text that is none of these: of a finite float that is not nought -/
theorem pr_rest {X : Nat} {t : List UInt8} (hn : ∀ k, k < 5 → t ≠ spT k) (h : Pr X t) : 1 ≤ X % 9223372036854775808 ∧ X % 9223372036854775808 < 9218868437227405312 := by
  by_cases h1 : 9218868437227405312 < X % 9223372036854775808
  · exact absurd ((pr_nan h1 t).1 h) (hn 0 (by decide))
  · by_cases h2 : X % 9223372036854775808 = 9218868437227405312
    · have := (pr_inf h2 t).1 h
      split at this
      · exact absurd this (hn 1 (by decide))
      · exact absurd this (hn 2 (by decide))
    · by_cases h3 : X % 9223372036854775808 = 0
      · have := (pr_zero h3 t).1 h
        split at this
        · exact absurd this (hn 3 (by decide))
        · exact absurd this (hn 4 (by decide))
      · omega
/-- a text without its sign -/
structure SgT (t u : List UInt8) (m : Bool) : Prop where
  eq : t = (if m then [45] else []) ++ u
  no : m = false → u.head? ≠ some 45
theorem un_pr {X : Nat} {t u : List UInt8} {m : Bool} (hs : SgT t u m) (hn : ∀ k, k < 5 → t ≠ spT k) (h : Pr X t) :
    ∃ c s, Sh (X % 9223372036854775808) c s ∧ Shb c s ∧ Rd (X % 9223372036854775808) c s ∧ u = laidB c (exp10 c s) := by
  obtain ⟨h1, h2⟩ := pr_rest hn h
  obtain ⟨c, s, hS, ht⟩ := (pr_fin h1 h2 t).1 h
  have P := parts _ h1 h2
  refine ⟨c, s, hS, hS.bounds P, hS.rd P, ?_⟩
  obtain ⟨d, l, e1, e2⟩ := laid_head c (exp10 c s)
  have hd : d ≠ 45 := by intro q; subst q; exact absurd e2 (by decide)
  have he := hs.eq
  rw [ht, e1] at he
  rw [e1]
  cases m with
  | false =>
    simp only [Bool.false_eq_true, if_false, List.nil_append] at he
    by_cases hx : X < 9223372036854775808
    · rw [if_pos hx, List.nil_append] at he; exact he.symm
    · rw [if_neg hx] at he
      exact absurd (by rw [← he]; rfl) (hs.no rfl)
  | true =>
    simp only [if_true, List.cons_append, List.nil_append] at he
    by_cases hx : X < 9223372036854775808
    · rw [if_pos hx, List.nil_append] at he
      exact absurd (List.cons.inj he).1 hd
    · rw [if_neg hx, List.cons_append, List.nil_append] at he
      exact (List.cons.inj he).2.symm
def PrT (t : List UInt8) : Prop := ∃ X, X < 18446744073709551616 ∧ Pr X t
def PaIs (t : List UInt8) (e : Ending) : Prop :=
  (∃ X, X < 18446744073709551616 ∧ Pr X t ∧ e = .returned (.tuple #[.float .f64 X, .int .i64 0])) ∨ (¬ PrT t ∧ e = .returned (.tuple #[.float .f64 0, .int .i64 5]))
theorem no_long {t : List UInt8} (hn : ∀ k, k < 5 → t ≠ spT k) (hl : 32 < t.length) : ¬ PrT t := by
  rintro ⟨X, _, h⟩
  have h2 := (pr_rest hn h).2
  have := (pr_short h2 h).1
  omega
theorem no_dec {t u : List UInt8} {m : Bool} (hs : SgT t u m) (hn : ∀ k, k < 5 → t ≠ spT k) (hd : decF (nl u) = none) : ¬ PrT t := by
  rintro ⟨X, _, h⟩
  obtain ⟨c, s, _, hb, _, rfl⟩ := un_pr hs hn h
  obtain ⟨c', s', e, _⟩ := dec_printed hb
  rw [hd] at e; cases e
theorem no_near {t u : List UInt8} {m : Bool} {c : Nat} {s : Int} (hs : SgT t u m) (hn : ∀ k, k < 5 → t ≠ spT k) (hd : decF (nl u) = some (c, s)) (hz : ∀ b, 1 ≤ b → b < 9218868437227405312 → ¬ Rd b c s) : ¬ PrT t := by
  rintro ⟨X, _, h⟩
  obtain ⟨h1, h2⟩ := pr_rest hn h
  obtain ⟨c1, s1, _, hb, hr, rfl⟩ := un_pr hs hn h
  obtain ⟨c', s', e, he⟩ := dec_printed hb
  rw [hd] at e
  obtain ⟨rfl, rfl⟩ := Prod.mk.inj (Option.some.inj e)
  exact hz _ h1 h2 ((he _).2 hr)
theorem no_text {t u : List UInt8} {m : Bool} {c cB B : Nat} {s sB : Int} (hs : SgT t u m) (hn : ∀ k, k < 5 → t ≠ spT k) (hd : decF (nl u) = some (c, s)) (hB : Rd B c s) (hS : Sh B cB sB) (hne : laidB cB (exp10 cB sB) ≠ u) : ¬ PrT t := by
  rintro ⟨X, _, h⟩
  obtain ⟨c1, s1, hS1, hb, hr, rfl⟩ := un_pr hs hn h
  obtain ⟨c', s', e, he⟩ := dec_printed hb
  rw [hd] at e
  obtain ⟨rfl, rfl⟩ := Prod.mk.inj (Option.some.inj e)
  have := hB.uniq ((he _).2 hr)
  subst this
  obtain ⟨rfl, rfl⟩ := hS.unique hS1
  exact hne rfl
theorem yes_pos {t u : List UInt8} {c B : Nat} {s : Int} (hs : SgT t u false) (h1 : 1 ≤ B) (h2 : B < 9218868437227405312) (hS : Sh B c s) (he : laidB c (exp10 c s) = u) : Pr B t := by
  have e1 : B % 9223372036854775808 = B := by omega
  refine (pr_fin (by omega) (by omega) t).2 ⟨c, s, by rw [e1]; exact hS, ?_⟩
  rw [if_pos (by omega), he]
  have := hs.eq
  simpa using this
theorem yes_neg {t u : List UInt8} {c B : Nat} {s : Int} (hs : SgT t u true) (h1 : 1 ≤ B) (h2 : B < 9218868437227405312) (hS : Sh B c s) (he : laidB c (exp10 c s) = u) : Pr (9223372036854775808 + B) t := by
  have e1 : (9223372036854775808 + B) % 9223372036854775808 = B := by omega
  refine (pr_fin (by omega) (by omega) t).2 ⟨c, s, by rw [e1]; exact hS, ?_⟩
  rw [if_neg (by omega), he]
  have := hs.eq
  simpa using this
def PqR (w0 : World) (t : List UInt8) (v5 : Value) (w : World) : Prop := ∃ i : Nat, v5 = .int .i64 (i : Int) ∧ i ≤ 5 ∧ (∀ k, k < i → t ≠ spT k) ∧ Only (fun _ => False) w0 w
def spA : Array Value := #[.int .u64 9221120237041090560, .int .u64 9218868437227405312, .int .u64 18442240474082181120, .int .u64 0, .int .u64 9223372036854775808]
theorem sp_cell (w : World) (i : Nat) (h : i < 5) : (w.alloc (.cells spA 24)).cell? ⟨w.heap.size, i, none⟩ = some (.int .u64 (spX i : Int)) := by
  rw [blk_cell (blk_new w _)]
  match i, h with
  | 0, _ => rfl
  | 1, _ => rfl
  | 2, _ => rfl
  | 3, _ => rfl
  | 4, _ => rfl
  | i + 5, h => omega
theorem frb_any (x : Nat) (v : Int) (e : v = (x : Int)) (w : World) : Sem.run Tryz.prog (callFunc 10 #[.int .u64 v]) w = .ok (.value (.float .f64 x)) w := by
  subst e; exact run_frb x w
set_option maxHeartbeats 4000000 in
theorem parseR_calls (t : List UInt8) (w : World) (hl : t.length ≤ 140737488355328) :
    Calls Tryz.prog 16 #[.string ⟨t.toArray⟩] w fun en w' => PaIs t en ∧ Only (fun _ => False) w w' := by
  obtain ⟨S, hS⟩ : ∃ S : ByteArray, S = ⟨t.toArray⟩ := ⟨_, rfl⟩
  have hz : S.size = t.length := by rw [hS, bsz]
  rw [← hS]
  have HS := Lib.hid hS; have HZ := Lib.hid hz
  have hsz : S.size ≤ 140737488355328 := by omega
  clear hS hz
  have CE := Lib.hid (sp_cell w)
  have AO := Lib.hid ((Only.refl (fun _ => False) w).alloc (.cells spA 24))
  rw [show spA = #[.int .u64 9221120237041090560, .int .u64 9218868437227405312, .int .u64 18442240474082181120, .int .u64 0, .int .u64 9223372036854775808] from rfl] at CE AO
  go_enter Tryz.func16, Tryz.ntmps16
  go_wp2_with fail
  go_loopw [5] (fun v5 wr => PqR (w.alloc (.cells #[.int .u64 9221120237041090560, .int .u64 9218868437227405312, .int .u64 18442240474082181120, .int .u64 0, .int .u64 9223372036854775808] 24)) t v5 wr) (fun v5 _ => 6 - (intOf v5).toNat)
  case atStart => exact ⟨0, rfl, by decide, fun k h => absurd h (by omega), Only.refl _ _⟩
  case round =>
    obtain ⟨i, rfl, hi, hne, hO⟩ := hrel
    have HN := Lib.hid hne; have HO := Lib.hid (AO.out.trans hO)
    by_cases h5 : i < 5
    · have t1 : decide ((i : Int) < 5) = true := decide_eq_true (by omega)
      have cc := cell_keep (CE.out i h5) hO id
      obtain ⟨x1, x2⟩ := sp_pr i
      have PP := Lib.hid (fun w => printR_calls (spX i) (spT i) w x1 x2)
      have XX := Lib.hid (And.intro x1 x2)
      have k1 := run_frb (spX i)
      by_cases hq : t = spT i
      · have e1 : (⟨(spT i).toArray⟩ : ByteArray) = S := by rw [HS.out, hq]
        rw [e1] at PP
        have t2 : (S.toList == S.toList) = true := beq_self_eq_true _
        have HQ := Lib.hid hq
        clear hne hO x1 x2 e1 hq
        generalize hsx : spX i = X at *
        go_wp2_with fail
        refine (PP.out _).mono ?_; rintro en w2 ⟨rfl, hO⟩; have HO2 := Lib.hid (HO.out.trans hO); clear hO PP
        go_wp2_with fail
        go_ret2
        exact ⟨.inl ⟨X, XX.out.1, by rw [HQ.out]; exact XX.out.2, rfl⟩, HO2.out⟩
      · obtain ⟨T, hT⟩ : ∃ T : ByteArray, T = ⟨(spT i).toArray⟩ := ⟨_, rfl⟩
        rw [← hT] at PP
        have t2 : (T.toList == S.toList) = false := ba_list_ne (by rw [hT, HS.out]; exact ba_ne (fun h => hq h.symm))
        have HQ := Lib.hid hq
        have HO5 := Lib.hid hO
        clear hne hO x1 x2 hq hT
        generalize hsx : spX i = X at *
        go_wp2_with fail
        refine (PP.out _).mono ?_; rintro en w2 ⟨rfl, hO⟩; have HO2 := Lib.hid (HO5.out.trans hO); clear hO PP
        go_wp2_with fail
        refine ⟨⟨i + 1, congrArg (Value.int .i64) (by omega), by omega, fun k hk => ?_, HO2.out⟩, by simp only [intOf]; omega⟩
        rcases Nat.lt_or_ge k i with g | g
        · exact HN.out k g
        · obtain rfl : k = i := by omega
          exact HQ.out
    · obtain rfl : i = 5 := by omega
      clear hne hO CE AO
      by_cases h32 : 32 < t.length
      · have hs32 : 32 < S.size := by rw [HZ.out]; exact h32
        have NO := Lib.hid (no_long HN.out h32)
        go_wp2_with fail
        go_ret2
        exact ⟨.inr ⟨NO.out, rfl⟩, HO.out⟩
      · have hs32 : S.size ≤ 32 := by rw [HZ.out]; omega
        clear h32
        cases t with
        | nil =>
          have hs0 : S.size = 0 := by rw [HZ.out]; rfl
          have DC := Lib.hid (fun w => decimal_calls S w (by omega))
          have hb : decF (bl S) = none := by rw [HS.out]; rfl
          rw [hb] at DC
          have NO := Lib.hid (no_dec (t := []) (u := []) (m := false) ⟨rfl, fun _ => by simp⟩ HN.out rfl)
          clear hb
          go_wp2_with fail
          refine (DC.out _).mono ?_; rintro en w2 ⟨rfl, hw⟩; rw [hw]; clear hw w2 DC
          rw [show decT none = .tuple #[.int .u64 0, .int .i64 0, .bool false] from rfl]
          go_wp2_with fail
          go_ret2
          exact ⟨.inr ⟨NO.out, rfl⟩, HO.out⟩
        | cons x r =>
          have hs1 : S.size = r.length + 1 := by rw [HZ.out]; rfl
          have hpos : 0 < S.size := by omega
          have hb : bl S = [] ++ x.toNat :: nl r := by rw [HS.out]; rfl
          have hcc := bl_at (pre := []) hb hpos
          simp only [List.length_nil] at hcc
          by_cases h45 : x = 45
          · subst h45
            have hcc2 : (S[0]'hpos).toNat = 45 := hcc
            obtain ⟨U, hU⟩ : ∃ U : ByteArray, U = ⟨r.toArray⟩ := ⟨_, rfl⟩
            have eU : S.extract 1 S.size = U := by
              rw [hU, HS.out, ba_extract]
              simp [bsz]
            have hUz : U.size = r.length := by rw [hU, bsz]
            have SG := Lib.hid (show SgT (45 :: r) r true from ⟨rfl, fun h => by cases h⟩)
            have HUS := Lib.hid hU
            have EU := Lib.hid eU
            have hbu : bl U = nl r := by rw [hU]; rfl
            have DC := Lib.hid (fun w => decimal_calls U w (by omega))
            rw [hbu] at DC
            have hU32 : U.size ≤ 32 := by omega
            have hrl : r.length ≤ 1000 := by omega
            clear hb hcc hU eU hbu hUz hs1
            go_wp2_with fail
            rw [EU.out]
            refine (DC.out _).mono ?_; rintro en w2 ⟨rfl, hw⟩; rw [hw]; clear hw w2 DC
            cases hd : decF (nl r) with
            | none =>
              have NO := Lib.hid (no_dec SG.out HN.out hd)
              clear hd
              rw [show decT none = .tuple #[.int .u64 0, .int .i64 0, .bool false] from rfl]
              go_wp2_with fail
              go_ret2
              exact ⟨.inr ⟨NO.out, rfl⟩, HO.out⟩
            | some p =>
              obtain ⟨c, s⟩ := p
              obtain ⟨b1, b2⟩ := decF_bound hd (by rw [nl_len]; exact hrl)
              have HD := Lib.hid hd
              have NC := Lib.hid (fun w => nearest_calls c s w b1 b2)
              clear hd
              rw [show decT (some (c, s)) = .tuple #[.int .u64 (c : Int), .int .i64 s, .bool true] from rfl]
              go_wp2_with fail
              refine (NC.out _).mono ?_; rintro en w3 ⟨B, rfl, hN, hO⟩; have HO3 := Lib.hid (HO.out.trans hO); clear hO NC
              rcases hN with ⟨rfl, hno⟩ | ⟨hB1, hB2, hB3⟩
              · have NO := Lib.hid (no_near SG.out HN.out HD.out hno)
                clear hno
                go_wp2_with fail
                go_ret2
                exact ⟨.inr ⟨NO.out, rfl⟩, HO3.out⟩
              · obtain ⟨cB, sB, hSB⟩ := sh_ex (parts B hB1 hB2)
                have TC := Lib.hid (fun w => text_calls B cB sB w hB1 hB2 hSB)
                have tB : ((B : Int) == 0) = false := by rw [beq_eq_false_iff_ne]; omega
                obtain ⟨T, hT⟩ : ∃ T : ByteArray, T = ⟨(laidB cB (exp10 cB sB)).toArray⟩ := ⟨_, rfl⟩
                rw [← hT] at TC
                by_cases hq : laidB cB (exp10 cB sB) = r
                · have eT : T = U := by rw [hT, hq]; exact HUS.out.symm
                  rw [eT] at TC
                  have YES := Lib.hid (yes_neg SG.out hB1 hB2 hSB hq)
                  have t2 : (U.toList == U.toList) = true := beq_self_eq_true _
                  have k5 := Pq.or_sign B (by omega)
                  have YY := YES.out
                  obtain ⟨Y, hY⟩ : ∃ Y, Y = 9223372036854775808 + B := ⟨_, rfl⟩
                  rw [← hY] at k5 YY
                  have hYl : Y < 18446744073709551616 := by omega
                  have k6 := run_frb Y
                  have YES := Lib.hid YY
                  clear hY YY
                  clear hT hq hB3 hSB
                  go_wp2_with fail
                  refine (TC.out _).mono ?_; rintro en w4 ⟨rfl, hO⟩; have HO4 := Lib.hid (HO3.out.trans hO); clear hO TC
                  go_wp2_with fail
                  go_ret2
                  exact ⟨.inl ⟨_, by first | assumption | omega, YES.out, rfl⟩, HO4.out⟩
                · have t2 : (T.toList == U.toList) = false := ba_list_ne (by rw [hT, HUS.out]; exact ba_ne hq)
                  have NO := Lib.hid (no_text SG.out HN.out HD.out hB3 hSB hq)
                  clear hT hq hB3 hSB
                  go_wp2_with fail
                  refine (TC.out _).mono ?_; rintro en w4 ⟨rfl, hO⟩; have HO4 := Lib.hid (HO3.out.trans hO); clear hO TC
                  go_wp2_with fail
                  go_ret2
                  exact ⟨.inr ⟨NO.out, rfl⟩, HO4.out⟩
          · have hx45 : x.toNat ≠ 45 := fun h => h45 (UInt8.toNat_inj.1 h)
            have t45 : ((x.toNat : Int) == 45) = false := by rw [beq_eq_false_iff_ne]; omega
            have SG := Lib.hid (show SgT (x :: r) (x :: r) false from ⟨rfl, fun _ h => h45 (Option.some.inj h)⟩)
            have HUS := HS
            have hbu : bl S = nl (x :: r) := by rw [HS.out]; rfl
            have DC := Lib.hid (fun w => decimal_calls S w (by omega))
            rw [hbu] at DC
            have hrl : (x :: r).length ≤ 1000 := by rw [List.length_cons]; omega
            clear hb hbu hs1
            go_wp2_with fail
            refine (DC.out _).mono ?_; rintro en w2 ⟨rfl, hw⟩; rw [hw]; clear hw w2 DC
            cases hd : decF (nl (x :: r)) with
            | none =>
              have NO := Lib.hid (no_dec SG.out HN.out hd)
              clear hd
              rw [show decT none = .tuple #[.int .u64 0, .int .i64 0, .bool false] from rfl]
              go_wp2_with fail
              go_ret2
              exact ⟨.inr ⟨NO.out, rfl⟩, HO.out⟩
            | some p =>
              obtain ⟨c, s⟩ := p
              obtain ⟨b1, b2⟩ := decF_bound hd (by rw [nl_len]; exact hrl)
              have HD := Lib.hid hd
              have NC := Lib.hid (fun w => nearest_calls c s w b1 b2)
              clear hd
              rw [show decT (some (c, s)) = .tuple #[.int .u64 (c : Int), .int .i64 s, .bool true] from rfl]
              go_wp2_with fail
              refine (NC.out _).mono ?_; rintro en w3 ⟨B, rfl, hN, hO⟩; have HO3 := Lib.hid (HO.out.trans hO); clear hO NC
              rcases hN with ⟨rfl, hno⟩ | ⟨hB1, hB2, hB3⟩
              · have NO := Lib.hid (no_near SG.out HN.out HD.out hno)
                clear hno
                go_wp2_with fail
                go_ret2
                exact ⟨.inr ⟨NO.out, rfl⟩, HO3.out⟩
              · obtain ⟨cB, sB, hSB⟩ := sh_ex (parts B hB1 hB2)
                have TC := Lib.hid (fun w => text_calls B cB sB w hB1 hB2 hSB)
                have tB : ((B : Int) == 0) = false := by rw [beq_eq_false_iff_ne]; omega
                obtain ⟨T, hT⟩ : ∃ T : ByteArray, T = ⟨(laidB cB (exp10 cB sB)).toArray⟩ := ⟨_, rfl⟩
                rw [← hT] at TC
                by_cases hq : laidB cB (exp10 cB sB) = (x :: r)
                · have eT : T = S := by rw [hT, hq]; exact HUS.out.symm
                  rw [eT] at TC
                  have YES := Lib.hid (yes_pos SG.out hB1 hB2 hSB hq)
                  have t2 : (S.toList == S.toList) = true := beq_self_eq_true _
                  have k6 := run_frb B
                  clear hT hq hB3 hSB
                  go_wp2_with fail
                  refine (TC.out _).mono ?_; rintro en w4 ⟨rfl, hO⟩; have HO4 := Lib.hid (HO3.out.trans hO); clear hO TC
                  go_wp2_with fail
                  go_ret2
                  exact ⟨.inl ⟨_, by first | assumption | omega, YES.out, rfl⟩, HO4.out⟩
                · have t2 : (T.toList == S.toList) = false := ba_list_ne (by rw [hT, HUS.out]; exact ba_ne hq)
                  have NO := Lib.hid (no_text SG.out HN.out HD.out hB3 hSB hq)
                  clear hT hq hB3 hSB
                  go_wp2_with fail
                  refine (TC.out _).mono ?_; rintro en w4 ⟨rfl, hO⟩; have HO4 := Lib.hid (HO3.out.trans hO); clear hO TC
                  go_wp2_with fail
                  go_ret2
                  exact ⟨.inr ⟨NO.out, rfl⟩, HO4.out⟩
end Go.Proofs.YthjfdhkahmlolaaGreatDoor
