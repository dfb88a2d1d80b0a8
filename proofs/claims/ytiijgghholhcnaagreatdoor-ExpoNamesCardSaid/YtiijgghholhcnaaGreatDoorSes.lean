/- series at no labels. -/
import Derived.Test.YtiijgghholhcnaaGreatDoorSer
import Derived.Deep.RegionHeld3
import Derived.Deep.Cut
import Derived.Deep.CutRange
import Derived.Deep.DeepCutAuto
namespace Go.Proofs.YtiijgghholhcnaaGreatDoor
open Go.RowKit
set_option maxRecDepth 1000000
set_option maxHeartbeats 1600000 in
theorem series0_calls (pb B : Nat) (prec : Int) (v : Value) (l nm num : List UInt8) (w : World) (hP : Pg w pb B prec v l) (hb : l.length + nm.length + num.length + 2 ≤ 140737488355328) :
    Calls Tryz.prog 63 #[.pointer (some ⟨pb, 0, none⟩), .string ⟨nm.toArray⟩, .slice none 0 0, .string ⟨num.toArray⟩, .slice none 0 0] w fun e w' => e = .returned (.tuple #[]) ∧ ∃ v', Pg w' pb B prec v' (l ++ (nm ++ ([32] ++ num)) ++ [10]) ∧ Wrote w pb v v' w' := by
  have HP := Lib.hid hP; clear hP
  go_enter Tryz.func63, Tryz.ntmps63
  go_wp2_with fail


  have hA := blk_new w (.cells #[.slice none 0 0, .slice none 0 0] 34)
  have HPA := Lib.hid (HP.out.alloc (.cells #[.slice none 0 0, .slice none 0 0] 34))
  have HOf : Hid (∀ v' w', Wrote (w.alloc (.cells #[.slice none 0 0, .slice none 0 0] 34)) pb v v' w' → Wrote w pb v v' w') := Lib.hid (fun v' w' h => h.ofAlloc)
  generalize w.alloc (.cells #[.slice none 0 0, .slice none 0 0] 34) = w1 at *
  refine (concat_nil _ _ (by rw [blk_cell hA]; rfl) (by rw [blk_cell hA]; rfl)).mono ?_
  rintro e w2 ⟨rfl, hw⟩; rw [hw]; clear hw w2
  go_wp2_with fail
  refine (print0_calls nm _).mono ?_
  rintro e w2 ⟨rfl, hw⟩; rw [hw]; clear hw w2 hA
  go_wp2_with fail
  refine (line_new pb B prec v l [nm, [32], num] w1 9 3 _ _ HPA.out (by simp) (by simp; omega) rfl rfl).mono ?_
  rintro e w2 ⟨rfl, v', h3, h4⟩
  have H3 := Lib.hid h3; have H4 := Lib.hid (HOf.out _ _ h4)
  clear h3 h4
  go_wp2_with fail
  go_end0
  refine ⟨rfl, v', ?_, H4.out⟩
  have := H3.out
  simpa using this
theorem Pg.only {S : Nat → Prop} {w w' : World} {pb B : Nat} {prec : Int} {v : Value} {l : List UInt8} (h : Pg w pb B prec v l) (O : Only S w w') (h1 : ¬ S pb) (h2 : ∀ k, v.ownBlock = some k → ¬ S k) : Pg w' pb B prec v l :=
  ⟨O.blk h.blk h1, own_keepS h.own O h2, h.lt, Nat.le_trans h.le O.size⟩
theorem Pg.still {w w' : World} {pb B : Nat} {prec : Int} {v : Value} {l : List UInt8} (h : Pg w pb B prec v l) (O : Only (fun _ => False) w w') : Pg w' pb B prec v l := h.only O (fun e => e) (fun _ _ e => e)
theorem Wrote.pre {w w1 w' : World} {pb : Nat} {v v' : Value} (O : Only (fun _ => False) w w1) (h : Wrote w1 pb v v' w') : Wrote w pb v v' w' := by
  refine ⟨(O.mono (fun _ _ e => e.elim)).trans h.only, ?_⟩
  rcases h.which with e | ⟨g, e, hg⟩
  · exact .inl e
  · exact .inr ⟨g, e, Nat.le_trans O.size hg⟩
theorem Wrote.post {w w1 w' : World} {pb : Nat} {v v' : Value} (h : Wrote w pb v v' w1) (O : Only (fun _ => False) w1 w') : Wrote w pb v v' w' :=
  ⟨h.only.trans (O.mono (fun _ _ e => e.elim)), h.which⟩
set_option maxHeartbeats 1600000 in
theorem counter_a (pb B : Nat) (prec : Int) (v : Value) (l : List UInt8) (w : World) (hP : Pg w pb B prec v l) (hb : l.length ≤ 1000000) :
    Calls Tryz.prog 32 #[.pointer (some ⟨pb, 0, none⟩), valA] w fun e w' => e = .returned (.tuple #[]) ∧ ∃ v', Pg w' pb B prec v' (l ++ [97, 32, 55, 10]) ∧ Wrote w pb v v' w' := by
  have HP := Lib.hid hP; clear hP
  unfold valA
  have K : Hid (∀ w, Calls Tryz.prog 64 #[.agg #[.int .i64 0, .int .u64 7]] w fun e w' => e = .returned (.string ⟨#[55]⟩) ∧ Only (fun _ => False) w w') := Lib.hid (fun w => widePrint_n 7 (by omega) w)
  go_enter Tryz.func32, Tryz.ntmps32
  go_wp2_with fail
  have hv := blk_new w (.cells #[.int .i64 1, .string ⟨#[97]⟩, .string ⟨#[]⟩, .slice none 0 0, .int .i64 0, .int .u64 7, .slice none 0 0, .int .u64 0, .float .f64 0, .float .f64 0, .float .f64 0] 42)
  have hO := Lib.hid ((Only.refl (fun _ => False) w).alloc (.cells #[.int .i64 1, .string ⟨#[97]⟩, .string ⟨#[]⟩, .slice none 0 0, .int .i64 0, .int .u64 7, .slice none 0 0, .int .u64 0, .float .f64 0, .float .f64 0, .float .f64 0] 42))
  generalize w.alloc (.cells #[.int .i64 1, .string ⟨#[97]⟩, .string ⟨#[]⟩, .slice none 0 0, .int .i64 0, .int .u64 7, .slice none 0 0, .int .u64 0, .float .f64 0, .float .f64 0, .float .f64 0] 42) = W at *
  have HPW := Lib.hid (HP.out.still hO.out)
  have hs2 : Hid (∀ S w', Only S W w' → ¬ S w.heap.size → w'.cell? ⟨w.heap.size, 1, none⟩ = some (.string ⟨#[97]⟩) ∧ w'.cell? ⟨w.heap.size, 3, none⟩ = some (.slice none 0 0) ∧ w'.cell? ⟨w.heap.size, 4, none⟩ = some (.int .i64 0) ∧ w'.cell? ⟨w.heap.size, 5, none⟩ = some (.int .u64 7)) := Lib.hid fun S w' O hS => by
    have q := O.blk hv hS
    exact ⟨by rw [blk_cell q]; rfl, by rw [blk_cell q]; rfl, by rw [blk_cell q]; rfl, by rw [blk_cell q]; rfl⟩
  have HV : Hid (pb ≠ w.heap.size ∧ v.ownBlock ≠ some w.heap.size) := Lib.hid (by
    have h1 := HP.out.lt
    have h2 := HP.out.le
    exact ⟨by omega, fun e => by have := (HP.out.own.lt _ e).2; omega⟩)
  have N0 : Only (fun _ => False) W W.drew := (Only.refl _ _).drew
  clear hv
  go_region_held3 (fun w' => w'.cell? ⟨w.heap.size, 1, none⟩ = some (.string ⟨#[97]⟩) ∧ w'.cell? ⟨w.heap.size, 3, none⟩ = some (.slice none 0 0) ∧ w'.cell? ⟨w.heap.size, 4, none⟩ = some (.int .i64 0) ∧ w'.cell? ⟨w.heap.size, 5, none⟩ = some (.int .u64 7))
    (first | (with_reducible exact hs2.out _ _ N0 id) | (with_reducible exact hs2.out _ _ N3 id) | (with_reducible exact hs2.out _ _ N4 F4))
    (first
      | (go_at_call 64; go_split_ands; refine (K.out _).mono ?_; rintro e w3 ⟨he, O3⟩; subst he; have N3 := N0.trans O3)
      | (go_at_call 63; go_split_ands; refine (series0_calls pb B prec v l [97] [55] _ (HPW.out.still N3) (by simp; omega)).mono ?_; rintro e w4 ⟨he, v', h3, h4⟩; subst he; have N4 := (N3.mono (T := fun k => k = pb ∨ v.ownBlock = some k) (fun _ _ e => e.elim)).trans h4.only; have F4 : ¬ (w.heap.size = pb ∨ v.ownBlock = some w.heap.size) := by (rintro (e | e); exact HV.out.1 e.symm; exact HV.out.2 e)))
  go_end0
  refine ⟨rfl, v', ?_, Wrote.pre (hO.out.trans N3) h4⟩
  simpa using h3
end Go.Proofs.YtiijgghholhcnaaGreatDoor
