/- 'pawllaw10.EnvelopeFills' holds: for every two numbers the law answers true; what was there is as it was. The listed variables are tied to the program's text. -/
import Derived.Test.YtehfoddnlecmjaaGreatDoorLaw0
set_option linter.unusedVariables false
set_option linter.unusedSimpArgs false
namespace Go.Proofs.YtehfoddnlecmjaaGreatDoor
open Go.ChangeShapes Go.WideShapes Go.ChangeAt Go.RowKit

theorem bkt_of {v n : Nat} (hv : v = 1 ∨ v = 2) (h : n ≤ 1048576) : bkt v n = (((bucket v n : Nat) : Int), (0 : Int)) := by
  unfold bkt
  rw [if_pos (by omega), if_neg (by omega), if_neg (by omega), Int.toNat_natCast, Int.toNat_natCast]
set_option maxRecDepth 100000 in
set_option maxHeartbeats 1600000 in
theorem fills_out (n more : Int) (w : World) (h : n < 0 ∨ 1048576 < n) : Calls Tryz.prog 6 #[.int .i64 n, .int .i64 more] w (LvPost w) := by
  rcases h with h | h
  · go_enter Tryz.func6, Tryz.ntmps6
    go_wp2_with fail
    refine (lives_any _).mono ?_
    rintro e w1 ⟨rfl, hx1⟩
    go_wp2_with fail
    refine (lives_any _).mono ?_
    rintro e w2 ⟨rfl, hx2⟩
    go_wp2
    go_ret
    exact ⟨rfl, hx1.trans hx2⟩
  · have h0 : ¬ n < 0 := by omega
    go_enter Tryz.func6, Tryz.ntmps6
    go_wp2_with fail
    refine (lives_any _).mono ?_
    rintro e w1 ⟨rfl, hx1⟩
    go_wp2_with fail
    refine (lives_any _).mono ?_
    rintro e w2 ⟨rfl, hx2⟩
    go_wp2
    go_ret
    exact ⟨rfl, hx1.trans hx2⟩
set_option maxRecDepth 100000 in
set_option maxHeartbeats 1600000 in
theorem fills_short (n : Nat) (more : Int) (w : World) (hn : n ≤ 1048576) (hm : more < n ∨ 1048576 < more) : Calls Tryz.prog 6 #[.int .i64 n, .int .i64 more] w (LvPost w) := by
  have HB1 := Lib.hid (bkt_of (v := 1) (.inl rfl) hn)
  have HB2 := Lib.hid (bkt_of (v := 2) (.inr rfl) hn)
  have g1 := (bucket_ge 1 n).1
  have g2 := (bucket_ge 2 n).1
  have g1' := (bucket_ge 1 n).2
  have g2' := (bucket_ge 2 n).2
  have g3 := bucket2_le1 n
  have f1 := @bucket1_fill n
  have f2 := @bucket2_fill n
  have s1 := @bucket_small 1 n
  have s2 := @bucket_small 2 n
  generalize bucket 1 n = a at *
  generalize bucket 2 n = b at *
  by_cases h60 : 60 ≤ n
  · have k1 := f1 h60
    have k2 := f2 h60
    clear f1 f2 s1 s2
    rcases hm with hm | hm
    all_goals
      go_enter Tryz.func6, Tryz.ntmps6
      go_wp2_with fail
      refine (lives_any _).mono ?_
      rintro e w1 ⟨rfl, hx1⟩
      go_wp2_with fail
      refine (bucket_any _ _ _).mono ?_
      rintro e w2 ⟨rfl, hx2⟩
      rw [show bkt 1 (n : Int) = _ from HB1.out]
      go_wp2_with fail
      refine (bucket_any _ _ _).mono ?_
      rintro e w3 ⟨rfl, hx3⟩
      rw [show bkt 2 (n : Int) = _ from HB2.out]
      go_wp2
      go_ret
      exact ⟨rfl, (hx1.trans hx2).trans hx3⟩
  · have e1 := s1 (by omega)
    have e2 := s2 (by omega)
    have ta : ((a : Int) != 64) = false := by simp; omega
    have tb : ((b : Int) != 64) = false := by simp; omega
    have la : a ≤ 64 := by omega
    have lb : b ≤ 64 := by omega
    have l60 : n < 60 := by omega
    clear f1 f2 s1 s2 e1 e2 h60
    rcases hm with hm | hm
    all_goals
      go_enter Tryz.func6, Tryz.ntmps6
      go_wp2_with fail
      refine (lives_any _).mono ?_
      rintro e w1 ⟨rfl, hx1⟩
      go_wp2_with fail
      refine (bucket_any _ _ _).mono ?_
      rintro e w2 ⟨rfl, hx2⟩
      rw [show bkt 1 (n : Int) = _ from HB1.out]
      go_wp2_with fail
      refine (bucket_any _ _ _).mono ?_
      rintro e w3 ⟨rfl, hx3⟩
      rw [show bkt 2 (n : Int) = _ from HB2.out]
      go_wp2
      go_ret
      exact ⟨rfl, (hx1.trans hx2).trans hx3⟩
set_option maxRecDepth 100000 in
set_option maxHeartbeats 1600000 in
theorem fills_two (n m : Nat) (w : World) (hn : n ≤ 1048576) (hnm : n ≤ m) (hm : m ≤ 1048576) : Calls Tryz.prog 6 #[.int .i64 n, .int .i64 m] w (LvPost w) := by
  have HB1 := Lib.hid (bkt_of (v := 1) (.inl rfl) hn)
  have HB2 := Lib.hid (bkt_of (v := 2) (.inr rfl) hn)
  have HC1 := Lib.hid (bkt_of (v := 1) (.inl rfl) hm)
  have HC2 := Lib.hid (bkt_of (v := 2) (.inr rfl) hm)
  have m1 := bucket_mono 1 hnm
  have m2 := bucket_mono 2 hnm
  have g1 := (bucket_ge 1 n).1
  have g2 := (bucket_ge 2 n).1
  have g1' := (bucket_ge 1 n).2
  have g2' := (bucket_ge 2 n).2
  have g3 := bucket2_le1 n
  have f1 := @bucket1_fill n
  have f2 := @bucket2_fill n
  have s1 := @bucket_small 1 n
  have s2 := @bucket_small 2 n
  generalize bucket 1 n = a at *
  generalize bucket 2 n = b at *
  generalize bucket 1 m = c at *
  generalize bucket 2 m = d at *
  by_cases h60 : 60 ≤ n
  · have k1 := f1 h60
    have k2 := f2 h60
    clear f1 f2 s1 s2
    go_enter Tryz.func6, Tryz.ntmps6
    go_wp2_with fail
    refine (lives_any _).mono ?_
    rintro e w1 ⟨rfl, hx1⟩
    go_wp2_with fail
    refine (bucket_any _ _ _).mono ?_
    rintro e w2 ⟨rfl, hx2⟩
    rw [show bkt 1 (n : Int) = _ from HB1.out]
    go_wp2_with fail
    refine (bucket_any _ _ _).mono ?_
    rintro e w3 ⟨rfl, hx3⟩
    rw [show bkt 2 (n : Int) = _ from HB2.out]
    go_wp2_with fail
    refine (bucket_any _ _ _).mono ?_
    rintro e w4 ⟨rfl, hx4⟩
    rw [show bkt 1 (m : Int) = _ from HC1.out]
    go_wp2_with fail
    refine (bucket_any _ _ _).mono ?_
    rintro e w5 ⟨rfl, hx5⟩
    rw [show bkt 2 (m : Int) = _ from HC2.out]
    go_wp2
    go_ret
    exact ⟨rfl, (((hx1.trans hx2).trans hx3).trans hx4).trans hx5⟩
  · have e1 := s1 (by omega)
    have e2 := s2 (by omega)
    have ta : ((a : Int) != 64) = false := by simp; omega
    have tb : ((b : Int) != 64) = false := by simp; omega
    have la : a ≤ 64 := by omega
    have lb : b ≤ 64 := by omega
    have l60 : n < 60 := by omega
    clear f1 f2 s1 s2 e1 e2 h60
    go_enter Tryz.func6, Tryz.ntmps6
    go_wp2_with fail
    refine (lives_any _).mono ?_
    rintro e w1 ⟨rfl, hx1⟩
    go_wp2_with fail
    refine (bucket_any _ _ _).mono ?_
    rintro e w2 ⟨rfl, hx2⟩
    rw [show bkt 1 (n : Int) = _ from HB1.out]
    go_wp2_with fail
    refine (bucket_any _ _ _).mono ?_
    rintro e w3 ⟨rfl, hx3⟩
    rw [show bkt 2 (n : Int) = _ from HB2.out]
    go_wp2_with fail
    refine (bucket_any _ _ _).mono ?_
    rintro e w4 ⟨rfl, hx4⟩
    rw [show bkt 1 (m : Int) = _ from HC1.out]
    go_wp2_with fail
    refine (bucket_any _ _ _).mono ?_
    rintro e w5 ⟨rfl, hx5⟩
    rw [show bkt 2 (m : Int) = _ from HC2.out]
    go_wp2
    go_ret
    exact ⟨rfl, (((hx1.trans hx2).trans hx3).trans hx4).trans hx5⟩
theorem fills_walk (n more : Int) (w : World) (_ : (Lit.int .i64 n).wf = true) (_ : (Lit.int .i64 more).wf = true) : Calls Tryz.prog 6 #[.int .i64 n, .int .i64 more] w (LvPost w) := by
  by_cases h : n < 0 ∨ 1048576 < n
  · exact fills_out n more w h
  · obtain ⟨m, rfl⟩ : ∃ m : Nat, n = m := ⟨n.toNat, by omega⟩
    by_cases h2 : more < m ∨ 1048576 < more
    · exact fills_short m more w (by omega) h2
    · obtain ⟨k, rfl⟩ : ∃ k : Nat, more = k := ⟨more.toNat, by omega⟩
      exact fills_two m k w (by omega) (by omega) (by omega)
set_option maxRecDepth 100000 in
theorem fills_lifted (os : Os) (started : os.Started) (H : Type) (enc : TypeId × Value → H) :
    ReturnsInHanded {} Tryz.checked os 6 .any (fun w args => (Rows.envelopeFillsSpec.pre enc Tryz.prog Tryz.f6 [] false w args ∧ laidMetH Tryz.prog Rows.envelopeFillsRow.laid w) ∧ sizedMet enc Tryz.prog Tryz.f6 (OpenSpec.ofChange Rows.envelopeFillsSpec) false w args)
      (Rows.envelopeFillsSpec.post enc Tryz.prog Tryz.f6 false true false false) := by
  refine returnsInHanded_of_change_and (C := Tryz.checked) (X := fun w _ => laidMetH Tryz.prog Rows.envelopeFillsRow.laid w) (fun _ _ _ hh h => laidMetH.of_heap hh h) law_own started (by kernel_rfl) Tryz.func6
    (ChangeSpec.witness_at (enc := enc) (C := Tryz.checked) (os := os) (X := fun w _ => laidMetH Tryz.prog Rows.envelopeFillsRow.laid w) false (laidWorld os) #[.int .i64 0, .int .i64 0] 8 rfl (by kernel_rfl) (by kernel_rfl) (by kernel_rfl) (by kernel_rfl) (by kernel_rfl) (laid_met os _)) ?_
  intro W base args ds gs before hval0 hW _ hsz hL _
  have hval : ∀ (j : Nat) t v, Tryz.f6.params[j]? = some t → args[j]? = some v → Value.okWide Tryz.prog W .any base t v := hval0
  have hW' := hW
  obtain ⟨p, q, hA0, hV, rfl, hfz, hnd⟩ := hW
  have hA : DataW.TrodAll enc Tryz.prog W 0 (fun _ => true) true Tryz.f6.params.toList args.toList ds p := hA0
  rw [Tryz.params6] at hA hval
  obtain ⟨v0, vs0, d0, ds0, p0, q0, hargs, rfl, rfl, h0, r0⟩ := trodAll_cons hA
  obtain ⟨v1, vs1, d1, ds1, p1, q1, rfl, rfl, rfl, h1, r1⟩ := trodAll_cons r0
  obtain ⟨rfl, rfl, rfl⟩ := trodAll_nil r1
  obtain rfl : args = #[v0, v1] := by cases args; simp_all
  obtain ⟨rfl, rfl⟩ := trodVars_none hV
  obtain ⟨a0, rfl, rfl, rfl, w0⟩ := open_int Tryz.underlying3 (hval 0 3 v0 rfl rfl) h0
  obtain ⟨a1, rfl, rfl, rfl, w1⟩ := open_int Tryz.underlying3 (hval 1 3 v1 rfl rfl) h1
  clear hA0 hval0
  refine (fills_walk a0 a1 W w0 w1).mono fun e W' ⟨he, bel⟩ => ?_
  subst he
  exact ⟨_, rfl, _, _, _, [], [], [], hW', trodAll_mk1 (shut_bool Tryz.underlying4 _), (trodAll_cons_mk (shut_int Tryz.underlying3 w0) (trodAll_cons_mk (shut_int Tryz.underlying3 w1) trodAll_mk0)), rfl, Below.frame bel _, fun h => by cases h⟩
theorem fills_said : Rows.EnvelopeFillsSaid :=
  OpenClaim.holds_of_wide 6 Tryz.f6 rfl rfl rfl rfl rfl rfl rfl ⟨rfl, rfl, rfl, rfl, rfl⟩ rfl rfl rfl rfl rfl (by kernel_rfl) Tryz.func6 (by kernel_rfl)
    (of_decide_eq_true (by kernel_rfl)) (by unfold Func.isWrapper; rw [if_neg (of_decide_eq_false (by kernel_rfl))]; exact ⟨rfl, rfl⟩)
    (fun os started H enc _ => fills_lifted os started H enc)
theorem fills_card : Rows.EnvelopeFillsCardSaid :=
  Claim7.holds_tied_plain_at .later [] _ _ _ _
    fills_said (fun _ h => by cases h) (by kernel_rfl) (fun _ h => by cases h) envelopeFills_row_tie rfl ⟨rfl, rfl⟩ (by kernel_rfl) rfl
    (fun f fn hf hfn => by
      obtain rfl : f = 6 := Option.some.inj ((show Tryz.prog.funcNamed "pawl/pawllaw10.EnvelopeFills" = some 6 by kernel_rfl).symm.trans hf) |>.symm
      obtain rfl : fn = Tryz.f6 := (Option.some.inj (Tryz.func6.symm.trans hfn)).symm
      exact ⟨by kernel_rfl, fun j t ht => by
        rw [Tryz.params6] at ht
        rcases j with _ | _ | j
        · obtain rfl : t = 3 := by simpa using ht.symm
          exact (show Tryz.prog.wantsStandIn 3 = false by kernel_rfl)
        · obtain rfl : t = 3 := by simpa using ht.symm
          exact (show Tryz.prog.wantsStandIn 3 = false by kernel_rfl)
        · simp at ht⟩)
    (by kernel_rfl)
end Go.Proofs.YtehfoddnlecmjaaGreatDoor
