/- 'pawllaw10.EnvelopeUnpadded' holds: for every version and all bytes the law answers true; what was there is as it was. The listed variables are tied to the program's text. -/
import Derived.Test.YtehfoddnlecmjaaGreatDoorLaw1
set_option linter.unusedVariables false
set_option linter.unusedSimpArgs false
namespace Go.Proofs.YtehfoddnlecmjaaGreatDoor
open Go.ChangeShapes Go.WideShapes Go.ChangeAt Go.RowKit

set_option maxRecDepth 100000 in
set_option maxHeartbeats 1600000 in
theorem unpadded_walk (v : Int) (A : Option Addr) (l : Bytes) (c : Nat) (w : World) (_ : (Lit.int .i64 v).wf = true) (hr : RB w A l) (hc : l.length ≤ c) (hm : c ≤ maxLen) (_ : ∀ x, A = some x → 0 < l.length → x.block < w.heap.size) (hlm : l.length ≤ 140737488355328) :
    Calls Tryz.prog 5 #[.int .i64 v, .slice A l.length c] w (LvPost w) := by
  have HR := Lib.hid hr
  by_cases hv : v = 1 ∨ v = 2
  · have HK : Hid (decide (v = 1 ∨ v = 2) = true) := Lib.hid (by simpa using hv)
    have HV := Lib.hid hv
    cases hu : unpadR v.toNat l with
    | none =>
      have HU := Lib.hid hu
      clear hv hu hr
      go_enter Tryz.func5, Tryz.ntmps5
      go_wp2_with fail
      refine (lives_any _).mono ?_
      rintro e w1 ⟨rfl, hx1⟩
      go_wp2_with fail
      refine (unpad_any v A c l _ (HR.out.ext hx1) hc hm hlm).mono ?_
      rintro e w2 ⟨hx2, -, hun, -⟩
      obtain rfl := hun HV.out HU.out
      clear hun
      go_wp2_with fail
      refine (known_any v _).mono ?_
      rintro e w3 ⟨rfl, rfl⟩
      rw [HK.out]
      go_wp2_with fail
      refine (known_any v _).mono ?_
      rintro e w3 ⟨rfl, rfl⟩
      rw [HK.out]
      go_wp2
      go_ret
      exact ⟨rfl, hx1.trans hx2⟩
    | some p =>
      have HU := Lib.hid hu
      obtain ⟨hpl, hpp⟩ := pad_unpad hu
      have hbk : (bkt v p.length).2 = 0 := by unfold bkt; rw [if_pos hv, if_neg (by omega), if_neg (by omega)]
      have hp9 : ∀ (B : Option Addr) (d : Nat) w, RB w B p → Calls Tryz.prog 23 #[.int .i64 v, .slice B p.length d] w (fun e w' => Ext w w' ∧ ∃ x, e = .returned (.tuple #[x, .int .i64 0]) ∧ OB w' w.heap.size x l) := fun B d w hr => (pad_any v B d p w hr).mono (fun e w' h => ⟨h.1, by have := h.2.2 hbk; rwa [hpp] at this⟩)
      have HP9 := Lib.hid hp9
      clear hv hu hr hpl hpp hbk hp9
      go_enter Tryz.func5, Tryz.ntmps5
      go_wp2_with fail
      refine (lives_any _).mono ?_
      rintro e w1 ⟨rfl, hx1⟩
      go_wp2_with fail
      refine (unpad_any v A c l _ (HR.out.ext hx1) hc hm hlm).mono ?_
      rintro e w2 ⟨hx2, -, -, hun⟩
      obtain ⟨x, rfl, hob⟩ := hun p HV.out HU.out
      obtain ⟨A1, c1, rfl, hc1, hc1', hr1, _⟩ := hob.reads
      have HR1 := Lib.hid hr1
      clear hun hob hr1
      go_wp2_with fail
      refine (HP9.out A1 c1 _ HR1.out).mono ?_
      rintro e w3 ⟨hx3, y, rfl, hob⟩
      obtain ⟨A2, c2, rfl, hc2, _, hr2, _⟩ := hob.reads
      have HR2 := Lib.hid hr2
      have X3 := (hx1.trans hx2).trans hx3
      clear hob hr2
      go_wp2_with fail
      refine (known_any v _).mono ?_
      rintro e w4 ⟨rfl, rfl⟩
      rw [HK.out]
      go_wp2_with fail
      refine (same_any A2 A c2 c l l _ HR2.out (HR.out.ext X3)).mono ?_
      rintro e w5 ⟨rfl, rfl⟩
      rw [show decide (l = l) = true from by simp]
      go_wp2
      go_ret
      exact ⟨rfl, X3⟩
  · have HK : Hid (decide (v = 1 ∨ v = 2) = false) := Lib.hid (by simpa using hv)
    have HV := Lib.hid hv
    clear hv hr
    go_enter Tryz.func5, Tryz.ntmps5
    go_wp2_with fail
    refine (lives_any _).mono ?_
    rintro e w1 ⟨rfl, hx1⟩
    go_wp2_with fail
    refine (unpad_any v A c l _ (HR.out.ext hx1) hc hm hlm).mono ?_
    rintro e w2 ⟨hx2, hun, -, -⟩
    obtain rfl := hun HV.out
    clear hun
    go_wp2_with fail
    refine (known_any v _).mono ?_
    rintro e w3 ⟨rfl, rfl⟩
    rw [HK.out]
    go_wp2_with fail
    refine (known_any v _).mono ?_
    rintro e w3 ⟨rfl, rfl⟩
    rw [HK.out]
    go_wp2
    go_ret
    exact ⟨rfl, hx1.trans hx2⟩
set_option maxRecDepth 100000 in
theorem unpadded_lifted (os : Os) (started : os.Started) (H : Type) (enc : TypeId × Value → H) :
    ReturnsInHanded {} Tryz.checked os 5 .any (fun w args => (Rows.envelopeUnpaddedSpec.pre enc Tryz.prog Tryz.f5 [] false w args ∧ laidMetH Tryz.prog Rows.envelopeUnpaddedRow.laid w) ∧ sizedMet enc Tryz.prog Tryz.f5 (OpenSpec.ofChange Rows.envelopeUnpaddedSpec) false w args)
      (Rows.envelopeUnpaddedSpec.post enc Tryz.prog Tryz.f5 false true false false) := by
  refine returnsInHanded_of_change_and (C := Tryz.checked) (X := fun w _ => laidMetH Tryz.prog Rows.envelopeUnpaddedRow.laid w) (fun _ _ _ hh h => laidMetH.of_heap hh h) law_own started (by kernel_rfl) Tryz.func5
    (ChangeSpec.witness_at (enc := enc) (C := Tryz.checked) (os := os) (X := fun w _ => laidMetH Tryz.prog Rows.envelopeUnpaddedRow.laid w) false (laidWorld os) #[.int .i64 0, .slice none 0 0] 8 rfl (by kernel_rfl) (by kernel_rfl) (by kernel_rfl) (by kernel_rfl) (by kernel_rfl) (laid_met os _)) ?_
  intro W base args ds gs before hval0 hW _ hsz hL _
  have hval : ∀ (j : Nat) t v, Tryz.f5.params[j]? = some t → args[j]? = some v → Value.okWide Tryz.prog W .any base t v := hval0
  have hW' := hW
  obtain ⟨p, q, hA0, hV, rfl, hfz, hnd⟩ := hW
  have hA : DataW.TrodAll enc Tryz.prog W 0 (fun _ => true) true Tryz.f5.params.toList args.toList ds p := hA0
  rw [Tryz.params5] at hA hval hsz
  obtain ⟨v0, vs0, d0, ds0, p0, q0, hargs, rfl, rfl, h0, r0⟩ := trodAll_cons hA
  obtain ⟨v1, vs1, d1, ds1, p1, q1, rfl, rfl, rfl, h1, r1⟩ := trodAll_cons r0
  obtain ⟨rfl, rfl, rfl⟩ := trodAll_nil r1
  obtain rfl : args = #[v0, v1] := by cases args; simp_all
  obtain ⟨rfl, rfl⟩ := trodVars_none hV
  obtain ⟨a0, rfl, rfl, rfl, w0⟩ := open_int Tryz.underlying3 (hval 0 3 v0 rfl rfl) h0
  obtain ⟨a1, len1, cap1, rfl⟩ := okWide_slice Tryz.underlying22 (hval 1 22 v1 rfl rfl)
  have k1 := h1
  have lt1 : ∀ x ∈ p1, x.block < W.heap.size := by obtain ⟨m, hm⟩ := k1; exact DataW.trod_lt m _ _ _ hm
  have hs1 := sized_bytes (j := 1) hsz rfl rfl h1
  obtain ⟨l1, rfl, hr1, hc1, hm1, hb1⟩ := open_bytes h1
  clear hA0 hval0
  refine (unpadded_walk a0 a1 l1 cap1 W w0 hr1 hc1 hm1 hb1 (Nat.le_trans hs1 (by decide))).mono fun e W' ⟨he, bel⟩ => ?_
  subst he
  exact ⟨_, rfl, _, _, _, [], _, [], hW', trodAll_mk1 (shut_bool Tryz.underlying4 _), (trodAll_cons_mk (shut_int Tryz.underlying3 w0) (trodAll_cons_mk (Below.trod law_laidOut (by kernel_rfl) (of_decide_eq_true (by kernel_rfl)) k1 bel lt1) trodAll_mk0)), rfl, Below.frame bel _, fun h => by cases h⟩
theorem unpadded_said : Rows.EnvelopeUnpaddedSaid :=
  OpenClaim.holds_of_wide 5 Tryz.f5 rfl rfl rfl rfl rfl rfl rfl ⟨rfl, rfl, rfl, rfl, rfl⟩ rfl rfl rfl rfl rfl (by kernel_rfl) Tryz.func5 (by kernel_rfl)
    (of_decide_eq_true (by kernel_rfl)) (by unfold Func.isWrapper; rw [if_neg (of_decide_eq_false (by kernel_rfl))]; exact ⟨rfl, rfl⟩)
    (fun os started H enc _ => unpadded_lifted os started H enc)
theorem unpadded_card : Rows.EnvelopeUnpaddedCardSaid :=
  Claim7.holds_tied_plain_at .later [] _ _ _ _
    unpadded_said (fun _ h => by cases h) (by kernel_rfl) (fun _ h => by cases h) envelopeUnpadded_row_tie rfl ⟨rfl, rfl⟩ (by kernel_rfl) rfl
    (fun f fn hf hfn => by
      obtain rfl : f = 5 := Option.some.inj ((show Tryz.prog.funcNamed "pawl/pawllaw10.EnvelopeUnpadded" = some 5 by kernel_rfl).symm.trans hf) |>.symm
      obtain rfl : fn = Tryz.f5 := (Option.some.inj (Tryz.func5.symm.trans hfn)).symm
      exact ⟨by kernel_rfl, fun j t ht => by
        rw [Tryz.params5] at ht
        rcases j with _ | _ | j
        · obtain rfl : t = 3 := by simpa using ht.symm
          exact (show Tryz.prog.wantsStandIn 3 = false by kernel_rfl)
        · obtain rfl : t = 22 := by simpa using ht.symm
          exact (show Tryz.prog.wantsStandIn 22 = false by kernel_rfl)
        · simp at ht⟩)
    (by kernel_rfl)
end Go.Proofs.YtehfoddnlecmjaaGreatDoor
