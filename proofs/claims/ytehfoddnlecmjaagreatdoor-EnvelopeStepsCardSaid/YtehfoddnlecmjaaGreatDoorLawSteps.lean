/- 'pawllaw10.EnvelopeSteps' holds: for every number the law answers true; what was there is as it was. The listed variables are tied to the program's text. -/
import Derived.Test.YtehfoddnlecmjaaGreatDoorLaw0
set_option linter.unusedVariables false
set_option linter.unusedSimpArgs false
namespace Go.Proofs.YtehfoddnlecmjaaGreatDoor
open Go.ChangeShapes Go.WideShapes Go.ChangeAt Go.RowKit

theorem bkt_of' {v n : Nat} (hv : v = 1 ∨ v = 2) (h : n ≤ 1048576) : bkt v n = (((bucket v n : Nat) : Int), (0 : Int)) := by
  unfold bkt
  rw [if_pos (by omega), if_neg (by omega), if_neg (by omega), Int.toNat_natCast, Int.toNat_natCast]
theorem pow_half {e : Nat} (h : ∃ i, e = 2 ^ i) (h1 : 1 < e) : e % 2 = 0 ∧ ∃ i, e / 2 = 2 ^ i := by
  obtain ⟨i, rfl⟩ := h
  cases i with
  | zero => simp at h1
  | succ i => rw [Nat.pow_succ]; exact ⟨by omega, i, by omega⟩
set_option maxRecDepth 100000 in
set_option maxHeartbeats 400000 in
theorem powered_any (n : Nat) (w : World) (hn : ∃ i, n = 2 ^ i) (hm : n ≤ 4194304) : Calls Tryz.prog 28 #[.int .i64 n] w fun e w' => e = .returned (.bool true) ∧ w = w' := by
  have HN := Lib.hid hn
  clear hn
  go_enter Tryz.func28, Tryz.ntmps28
  go_wp2
  go_loop [0] (fun a => ∃ e : Nat, (∃ i, e = 2 ^ i) ∧ e ≤ n ∧ a = .int .i64 e) (fun a => (intOf a).toNat)
  case atStart => exact ⟨n, HN.out, by omega, rfl⟩
  case round =>
    obtain ⟨e, hp, hen, rfl⟩ := hrel
    by_cases h1 : 1 < e
    · obtain ⟨hr, hd⟩ := pow_half hp h1
      have HD := Lib.hid hd
      have q0 : (e : Int) % 2 = 0 := by omega
      have q1 : (e : Int) / 2 ≤ e := by omega
      have q2 : 0 ≤ (e : Int) / 2 := by omega
      clear hd hp hr
      go_wp2
      go_round
      case rel => exact ⟨e / 2, HD.out, by omega, by go_num⟩
      case measure => simp [intOf]; omega
    · have he : e = 1 := by
        obtain ⟨i, rfl⟩ := hp
        have := Nat.two_pow_pos i
        omega
      subst he
      clear hp h1 HN
      go_wp2
      go_ret
      exact ⟨rfl, rfl⟩
/-- The bucket of version 1, and the one ahead of it. -/
theorem steps1 (n : Nat) : (∃ i, bucket 1 n = 2 ^ i) ∧ (64 < bucket 1 n → bucket 1 n / 2 < n + 4) := by
  obtain ⟨⟨i, _, h1⟩, h2⟩ := bucket_kind1 n
  refine ⟨⟨i, h1⟩, fun h => ?_⟩
  rcases h2 with h2 | ⟨b0, _, h3, _, h4⟩
  · omega
  · rw [h4, next, if_pos rfl]; omega
/-- The bucket of version 2: a number from 8 to 15 times a power of two; and the one ahead of it. -/
theorem steps2 (n : Nat) : ∃ c j, 8 ≤ c ∧ c ≤ 15 ∧ bucket 2 n = c * 2 ^ (j + 3) ∧ (bucket 2 n = 64 ∨ (c ≠ 8 → bucket 2 n - 2 ^ (j + 3) < n + 4) ∧ (c = 8 → bucket 2 n - 2 ^ (j + 3) / 2 < n + 4)) := by
  obtain ⟨⟨c, j, h1, h2, h3, h4⟩, h5⟩ := bucket_kind2 n
  rcases h5 with h5 | ⟨b0, _, k1, ⟨c0, j0, i1, i2, i3, i4⟩, k2⟩
  · exact ⟨c, j - 3, h1, h2, by rw [h4]; congr 2; omega, .inl h5⟩
  · have hn : bucket 2 n = b0 + 2 ^ j0 := by rw [k2, next, if_neg (by decide), i4, unit_of i1 i2]
    have hp : 0 < 2 ^ j0 := Nat.two_pow_pos _
    by_cases h : c0 = 15
    · refine ⟨8, j0 - 2, by decide, by decide, ?_, .inr ⟨fun h => absurd rfl h, fun _ => ?_⟩⟩
      · rw [hn, i4, h, show j0 - 2 + 3 = j0 + 1 by omega, Nat.pow_succ]; omega
      · rw [hn, show j0 - 2 + 3 = j0 + 1 by omega, Nat.pow_succ]; omega
    · refine ⟨c0 + 1, j0 - 3, by omega, by omega, ?_, .inr ⟨fun _ => ?_, fun h => by omega⟩⟩
      · rw [hn, i4, show j0 - 3 + 3 = j0 by omega, Nat.add_mul, Nat.one_mul]
      · rw [hn, show j0 - 3 + 3 = j0 by omega]; omega
theorem unit_go {c j i e b : Nat} (hb : b = c * 2 ^ (j + 3)) (he : e = 2 ^ (i + 3)) (h1 : 8 ≤ c) (h2 : c ≤ 15) (hi : i ≤ j) : (15 < b / e → i < j) ∧ (b / e ≤ 15 → e = 2 ^ (j + 3) ∧ b / e = c) := by
  subst hb he
  have hp : 0 < 2 ^ (i + 3) := Nat.two_pow_pos _
  obtain ⟨k, rfl⟩ : ∃ k, j = i + k := ⟨j - i, by omega⟩
  have e1 : c * 2 ^ (i + k + 3) / 2 ^ (i + 3) = c * 2 ^ k := by
    rw [show i + k + 3 = k + (i + 3) by omega, Nat.pow_add, ← Nat.mul_assoc, Nat.mul_div_cancel _ hp]
  rw [e1]
  cases k with
  | zero => simp; omega
  | succ k =>
    have : 1 ≤ 2 ^ k := Nat.one_le_two_pow
    have : 8 * 2 ≤ c * 2 ^ (k + 1) := Nat.mul_le_mul h1 (by rw [Nat.pow_succ]; omega)
    exact ⟨fun _ => by omega, fun h => by omega⟩
set_option maxRecDepth 100000 in
set_option maxHeartbeats 1600000 in
theorem steps_out (n : Int) (w : World) (h : n < 0 ∨ 1048576 < n) : Calls Tryz.prog 7 #[.int .i64 n] w (LvPost w) := by
  rcases h with h | h
  · go_enter Tryz.func7, Tryz.ntmps7
    go_wp2_with fail
    refine (lives_any _).mono ?_
    rintro e w1 ⟨rfl, hx1⟩
    go_wp2_with fail
    refine (lives_any _).mono ?_
    rintro e w2 ⟨rfl, hx2⟩
    go_wp2
    go_ret
    exact ⟨rfl, hx1.trans hx2⟩
  · have h0 : ¬ n < 0 := by omega
    go_enter Tryz.func7, Tryz.ntmps7
    go_wp2_with fail
    refine (lives_any _).mono ?_
    rintro e w1 ⟨rfl, hx1⟩
    go_wp2_with fail
    refine (lives_any _).mono ?_
    rintro e w2 ⟨rfl, hx2⟩
    go_wp2
    go_ret
    exact ⟨rfl, hx1.trans hx2⟩
set_option maxRecDepth 100000 in
set_option maxHeartbeats 1600000 in
theorem steps_in (n : Nat) (w : World) (hn : n ≤ 1048576) : Calls Tryz.prog 7 #[.int .i64 n] w (LvPost w) := by
  have HB1 := Lib.hid (bkt_of' (v := 1) (.inl rfl) hn)
  have HB2 := Lib.hid (bkt_of' (v := 2) (.inr rfl) hn)
  have g1 := (bucket_ge 1 n).1
  have g2 := (bucket_ge 2 n).1
  have g2' := (bucket_ge 2 n).2
  have g3 := bucket2_le1 n
  have f1 := @bucket1_fill n
  have s1 := @bucket_small 1 n
  have hA : bucket 1 n ≤ 4194304 := by
    by_cases h : n ≤ 60
    · have := s1 h; omega
    · have := f1 (by omega); omega
  obtain ⟨p1, p2⟩ := steps1 n
  obtain ⟨c, j, c1, c2, hb, hah⟩ := steps2 n
  generalize bucket 1 n = a at *
  generalize bucket 2 n = b at *
  have P1 := Lib.hid p1
  have HB := Lib.hid hb
  have HAH := Lib.hid hah
  have P2 := Lib.hid p2
  clear p1 hb hah f1 s1 p2
  have key : ∀ (t : Bool), (decide ((a : Int) > 64) = t) → Calls Tryz.prog 7 #[.int .i64 n] w (LvPost w) := by
    intro t ht
    have tq : t = true → (a : Int) / 2 < (n : Int) + 4 := fun h => by
      subst h
      have := P2.out (by simp at ht; omega)
      omega
    have ta : (decide ((a : Int) > 64) && decide ((a : Int) / 2 ≥ (n : Int) + 4)) = false := by
      cases t
      · rw [ht]; rfl
      · have := tq rfl
        simp; omega
    go_enter Tryz.func7, Tryz.ntmps7
    go_wp2_with fail
    refine (lives_any _).mono ?_
    rintro e w1 ⟨rfl, hx1⟩
    go_wp2_with fail
    refine (bucket_any _ _ _).mono ?_
    rintro e w2 ⟨rfl, hx2⟩
    rw [show bkt 1 (n : Int) = _ from HB1.out]
    go_wp2_with fail
    refine (bucket_any _ _ _).mono ?_
    rintro e w3 ⟨rfl, hx3⟩
    rw [show bkt 2 (n : Int) = _ from HB2.out]
    go_wp2_with fail
    refine (powered_any a _ P1.out hA).mono ?_
    rintro e w4 ⟨rfl, rfl⟩
    have X := (hx1.trans hx2).trans hx3
    clear P1 tq P2
    have hm : b ≤ 4194304 := by omega
    have hac : (a : Int) ≤ 64 ∨ 64 < (a : Int) ∧ (a : Int) / 2 < (n : Int) + 4 := by
      cases t
      · exact .inl (by simpa using ht)
      · have h1 : 64 < (a : Int) := by simpa using ht
        have := ta
        simp at this
        exact .inr ⟨h1, by omega⟩
    clear ta ht
    rcases hac with hac | ⟨hac, hac2⟩
    all_goals
      go_wp2
      go_loop [7] (fun x => ∃ e i : Nat, e = 2 ^ (i + 3) ∧ i ≤ j ∧ 8 ≤ e ∧ e ≤ b ∧ x = .int .i64 e) (fun x => b - (intOf x).toNat)
      case atStart => exact ⟨8, 0, rfl, by omega, by omega, by omega, rfl⟩
      case round =>
        obtain ⟨e, i, he, hij, he8, heb, rfl⟩ := hrel
        obtain ⟨u1, u2⟩ := unit_go HB.out he c1 c2 hij
        obtain ⟨d, hd⟩ : ∃ d : Nat, d = b / e := ⟨_, rfl⟩
        have hdI : (b : Int) / (e : Int) = (d : Int) := by rw [hd]; rfl
        have hdn : d ≤ b := by rw [hd]; exact Nat.div_le_self b e
        by_cases h15 : 15 < d
        · have q0 : (b : Int) / (e : Int) ≤ b := by rw [hdI]; omega
          have q1 : 15 < (b : Int) / (e : Int) := by rw [hdI]; omega
          have h3 : 16 * e ≤ b := (Nat.le_div_iff_mul_le (by omega)).1 (by omega)
          have hij' : i < j := u1 (by omega)
          have HE := Lib.hid he
          clear hdI hd u1 u2 he
          first
          | (exfalso; omega)
          | (go_wp2
             go_round
             case rel => exact ⟨2 * e, i + 1, by rw [HE.out, show i + 1 + 3 = i + 3 + 1 by omega, Nat.pow_succ 2 (i + 3), Nat.mul_comm], hij', by omega, by omega, by go_num⟩
             case measure => simp [intOf]; omega)
        · obtain ⟨e1, e2⟩ := u2 (by omega)
          obtain rfl : d = c := by omega
          have hbe : b = d * e := by rw [HB.out, e1]
          have qr : (b : Int) % (e : Int) = 0 := by
            rw [hbe]; push_cast; exact Int.mul_emod_left _ _
          have hend : b = 64 ∨ (d ≠ 8 → b - e < n + 4) ∧ (d = 8 → b - e / 2 < n + 4) := by rw [e1]; exact HAH.out
          clear hd u1 u2 he e1 e2 hbe HB HAH
          have X' := X
          by_cases h8 : d = 8
          · have qd : (b : Int) / (e : Int) = 8 := by rw [hdI, h8]; rfl
            have qe : (b : Int) = 64 ∨ (b : Int) - (e : Int) / 2 < (n : Int) + 4 := by
              rcases hend with h | h
              · exact .inl (by omega)
              · have := h.2 h8; exact .inr (by omega)
            clear hend hdI
            by_cases h64 : (b : Int) = 64
            · clear qe
              have t64 : ((b : Int) == 64) = true := by simpa using h64
              clear h64
              go_wp2
              go_ret
              exact ⟨rfl, X'⟩
            · have qe' : (b : Int) - (e : Int) / 2 < (n : Int) + 4 := by omega
              clear qe
              go_wp2
              go_ret
              exact ⟨rfl, X'⟩
          · have q8 : 8 < (b : Int) / (e : Int) := by rw [hdI]; omega
            have q15 : (b : Int) / (e : Int) ≤ 15 := by rw [hdI]; omega
            have qe : (b : Int) = 64 ∨ (b : Int) - (e : Int) < (n : Int) + 4 := by
              rcases hend with h | h
              · exact .inl (by omega)
              · have := h.1 h8; exact .inr (by omega)
            clear hend hdI
            by_cases h64 : (b : Int) = 64
            · clear qe
              have t64 : ((b : Int) == 64) = true := by simpa using h64
              clear h64
              go_wp2
              go_ret
              exact ⟨rfl, X'⟩
            · first
              | (exfalso; omega)
              | (have qe' : (b : Int) - (e : Int) < (n : Int) + 4 := by omega
                 clear qe
                 go_wp2
                 go_ret
                 exact ⟨rfl, X'⟩)
  exact key _ rfl
theorem steps_walk (n : Int) (w : World) (_ : (Lit.int .i64 n).wf = true) : Calls Tryz.prog 7 #[.int .i64 n] w (LvPost w) := by
  by_cases h : n < 0 ∨ 1048576 < n
  · exact steps_out n w h
  · obtain ⟨k, rfl⟩ : ∃ k : Nat, n = (k : Int) := ⟨n.toNat, by omega⟩
    exact steps_in k w (by omega)
set_option maxRecDepth 100000 in
theorem steps_lifted (os : Os) (started : os.Started) (H : Type) (enc : TypeId × Value → H) :
    ReturnsInHanded {} Tryz.checked os 7 .any (fun w args => (Rows.envelopeStepsSpec.pre enc Tryz.prog Tryz.f7 [] false w args ∧ laidMetH Tryz.prog Rows.envelopeStepsRow.laid w) ∧ sizedMet enc Tryz.prog Tryz.f7 (OpenSpec.ofChange Rows.envelopeStepsSpec) false w args)
      (Rows.envelopeStepsSpec.post enc Tryz.prog Tryz.f7 false true false false) := by
  refine returnsInHanded_of_change_and (C := Tryz.checked) (X := fun w _ => laidMetH Tryz.prog Rows.envelopeStepsRow.laid w) (fun _ _ _ hh h => laidMetH.of_heap hh h) law_own started (by kernel_rfl) Tryz.func7
    (ChangeSpec.witness_at (enc := enc) (C := Tryz.checked) (os := os) (X := fun w _ => laidMetH Tryz.prog Rows.envelopeStepsRow.laid w) false (laidWorld os) #[.int .i64 0] 8 rfl (by kernel_rfl) (by kernel_rfl) (by kernel_rfl) (by kernel_rfl) (by kernel_rfl) (laid_met os _)) ?_
  intro W base args ds gs before hval0 hW _ hsz hL _
  have hval : ∀ (j : Nat) t v, Tryz.f7.params[j]? = some t → args[j]? = some v → Value.okWide Tryz.prog W .any base t v := hval0
  have hW' := hW
  obtain ⟨p, q, hA0, hV, rfl, hfz, hnd⟩ := hW
  have hA : DataW.TrodAll enc Tryz.prog W 0 (fun _ => true) true Tryz.f7.params.toList args.toList ds p := hA0
  rw [Tryz.params7] at hA hval
  obtain ⟨v0, vs0, d0, ds0, p0, q0, hargs, rfl, rfl, h0, r0⟩ := trodAll_cons hA
  obtain ⟨rfl, rfl, rfl⟩ := trodAll_nil r0
  obtain rfl : args = #[v0] := by cases args; simp_all
  obtain ⟨rfl, rfl⟩ := trodVars_none hV
  obtain ⟨a0, rfl, rfl, rfl, w0⟩ := open_int Tryz.underlying3 (hval 0 3 v0 rfl rfl) h0
  clear hA0 hval0
  refine (steps_walk a0 W w0).mono fun e W' ⟨he, bel⟩ => ?_
  subst he
  exact ⟨_, rfl, _, _, _, [], [], [], hW', trodAll_mk1 (shut_bool Tryz.underlying4 _), (trodAll_cons_mk (shut_int Tryz.underlying3 w0) trodAll_mk0), rfl, Below.frame bel _, fun h => by cases h⟩
theorem steps_said : Rows.EnvelopeStepsSaid :=
  OpenClaim.holds_of_wide 7 Tryz.f7 rfl rfl rfl rfl rfl rfl rfl ⟨rfl, rfl, rfl, rfl, rfl⟩ rfl rfl rfl rfl rfl (by kernel_rfl) Tryz.func7 (by kernel_rfl)
    (of_decide_eq_true (by kernel_rfl)) (by unfold Func.isWrapper; rw [if_neg (of_decide_eq_false (by kernel_rfl))]; exact ⟨rfl, rfl⟩)
    (fun os started H enc _ => steps_lifted os started H enc)
theorem steps_card : Rows.EnvelopeStepsCardSaid :=
  Claim7.holds_tied_plain_at .later [] _ _ _ _
    steps_said (fun _ h => by cases h) (by kernel_rfl) (fun _ h => by cases h) envelopeSteps_row_tie rfl ⟨rfl, rfl⟩ (by kernel_rfl) rfl
    (fun f fn hf hfn => by
      obtain rfl : f = 7 := Option.some.inj ((show Tryz.prog.funcNamed "pawl/pawllaw10.EnvelopeSteps" = some 7 by kernel_rfl).symm.trans hf) |>.symm
      obtain rfl : fn = Tryz.f7 := (Option.some.inj (Tryz.func7.symm.trans hfn)).symm
      exact ⟨by kernel_rfl, fun j t ht => by
        rw [Tryz.params7] at ht
        rcases j with _ | j
        · obtain rfl : t = 3 := by simpa using ht.symm
          exact (show Tryz.prog.wantsStandIn 3 = false by kernel_rfl)
        · simp at ht⟩)
    (by kernel_rfl)
end Go.Proofs.YtehfoddnlecmjaaGreatDoor
