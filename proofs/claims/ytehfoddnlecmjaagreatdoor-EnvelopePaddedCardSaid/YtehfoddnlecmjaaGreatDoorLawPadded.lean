/- 'pawllaw10.EnvelopePadded' holds: for every version and every text the law answers true; what was there is as it was. The listed variables are tied to the program's text. -/
import Derived.Test.YtehfoddnlecmjaaGreatDoorLaw0
set_option linter.unusedVariables false
set_option linter.unusedSimpArgs false
namespace Go.Proofs.YtehfoddnlecmjaaGreatDoor
open Go.ChangeShapes Go.WideShapes Go.ChangeAt Go.RowKit

set_option maxRecDepth 100000 in
set_option maxHeartbeats 1600000 in
theorem padded_walk (v : Int) (A : Option Addr) (l : Bytes) (c : Nat) (w : World) (hr : RB w A l) (hc : l.length ≤ c) (hm : c ≤ 9223372036854775807) :
    Calls Tryz.prog 4 #[.int .i64 v, .slice A l.length c] w (LvPost w) := by
  by_cases hb : (bkt v l.length).2 = 0
  · obtain ⟨hv, _, h1, h2⟩ := bkt_ok hb
    have hun := unpad_pad v.toNat l (by omega)
    have hpl := padB_length v.toNat l
    have hbl := bucket_lt v.toNat l.length
    rw [Int.toNat_natCast] at h2
    have HK : Hid (decide (v = 1 ∨ v = 2) = true) := Lib.hid (by simpa using hv)
    have HB := Lib.hid hb
    have HV := Lib.hid hv
    have HE := Lib.hid h2
    have HUN := Lib.hid hun
    have HPB : Hid (∀ e w', PadPost v l w e w' → Ext w w' ∧ ∃ x, e = .returned (.tuple #[x, .int .i64 0]) ∧ OB w' w.heap.size x (padB v.toNat l)) := Lib.hid (fun e w' h => ⟨h.1, h.2.2 hb⟩)
    have hp9 : ∀ w, RB w A l → Calls Tryz.prog 23 #[.int .i64 v, .slice A l.length c] w (fun e w' => Ext w w' ∧ ∃ x, e = .returned (.tuple #[x, .int .i64 0]) ∧ OB w' w.heap.size x (padB v.toNat l)) := fun w hr => (pad_any v A c l w hr).mono (fun e w' h => ⟨h.1, h.2.2 hb⟩)
    have HP9 := Lib.hid hp9
    have HR := Lib.hid hr
    have t1 : ¬ 1048576 < (l.length : Int) := by omega
    generalize hpb : padB v.toNat l = pb at *
    generalize bucket v.toNat l.length = B at *
    have HPL := Lib.hid hpl
    clear hb hv h2 hun hp9 hr hpb hpl
    go_enter Tryz.func4, Tryz.ntmps4
    go_wp2_with fail
    refine (lives_any _).mono ?_
    rintro e w1 ⟨rfl, hx1⟩
    go_wp2_with fail
    refine (HP9.out _ (HR.out.ext hx1)).mono ?_
    rintro e w2 ⟨hx2, x, rfl, hob⟩
    obtain ⟨A1, c1, rfl, hc1, hc1', hr1, _⟩ := hob.reads
    have X2 := hx1.trans hx2
    have HR1 := Lib.hid hr1
    clear hob hr1
    go_wp2_with fail
    refine (bucket_any v _ _).mono ?_
    rintro e w3 ⟨rfl, hx3⟩
    rw [HB.out, HE.out]
    go_wp2_with fail
    refine (known_any v _).mono ?_
    rintro e w4 ⟨rfl, rfl⟩
    rw [HK.out]
    go_wp2_with fail
    refine (unpad_any v A1 c1 pb _ (HR1.out.ext hx3) hc1 hc1' (by have := HPL.out; omega)).mono ?_
    rintro e w5 ⟨hx5, -, -, hun⟩
    obtain ⟨y, rfl, hob⟩ := hun l HV.out HUN.out
    obtain ⟨A2, c2, rfl, hc2, _, hr2, _⟩ := hob.reads
    have t2 : ((pb.length : Int) == (B : Int)) = true := by simp; have := HPL.out; omega
    have X5 := (X2.trans hx3).trans hx5
    have HR2 := Lib.hid hr2
    clear hob hr2 hun
    go_wp2_with fail
    refine (same_any A2 A c2 c l l _ HR2.out (HR.out.ext X5)).mono ?_
    rintro e w6 ⟨rfl, rfl⟩
    rw [show decide (l = l) = true from by simp]
    go_wp2
    go_ret
    exact ⟨rfl, X5⟩
  · obtain ⟨e0, he0⟩ : ∃ e0, e0 = bkt v l.length := ⟨_, rfl⟩
    have hp9 : ∀ w, RB w A l → Calls Tryz.prog 23 #[.int .i64 v, .slice A l.length c] w (fun e w' => Ext w w' ∧ e = .returned (.tuple #[.slice none 0 0, .int .i64 (bkt v l.length).2])) := fun w hr => (pad_any v A c l w hr).mono (fun e w' h => ⟨h.1, h.2.1 hb⟩)
    by_cases hv : v = 1 ∨ v = 2
    · have hl : 1048576 < (l.length : Int) := by
        rcases Nat.lt_or_ge 1048576 l.length with h | h
        · omega
        · exact absurd (by unfold bkt; rw [if_pos hv, if_neg (by omega), if_neg (by omega)]) hb
      have hbk : bkt v l.length = (0, 2) := by unfold bkt; rw [if_pos hv, if_neg (by omega), if_pos hl]
      have HK : Hid (decide (v = 1 ∨ v = 2) = true) := Lib.hid (by simpa using hv)
      rw [hbk] at hp9
      have HP9 := Lib.hid hp9
      have HBK := Lib.hid hbk
      clear hp9 hbk hv hb he0
      go_enter Tryz.func4, Tryz.ntmps4
      go_wp2_with fail
      refine (lives_any _).mono ?_
      rintro e w1 ⟨rfl, hx1⟩
      go_wp2_with fail
      refine (HP9.out _ (hr.ext hx1)).mono ?_
      rintro e w2 ⟨hx2, rfl⟩
      go_wp2_with fail
      refine (bucket_any v _ _).mono ?_
      rintro e w3 ⟨rfl, hx3⟩
      rw [HBK.out]
      go_wp2_with fail
      refine (known_any v _).mono ?_
      rintro e w4 ⟨rfl, rfl⟩
      rw [HK.out]
      go_wp2
      go_ret
      exact ⟨rfl, (hx1.trans hx2).trans hx3⟩
    · have hbk : bkt v l.length = (0, 100) := by unfold bkt; rw [if_neg hv]
      have HK : Hid (decide (v = 1 ∨ v = 2) = false) := Lib.hid (by simpa using hv)
      rw [hbk] at hp9
      have HP9 := Lib.hid hp9
      have HBK := Lib.hid hbk
      clear hp9 hbk hv hb he0
      go_enter Tryz.func4, Tryz.ntmps4
      go_wp2_with fail
      refine (lives_any _).mono ?_
      rintro e w1 ⟨rfl, hx1⟩
      go_wp2_with fail
      refine (HP9.out _ (hr.ext hx1)).mono ?_
      rintro e w2 ⟨hx2, rfl⟩
      go_wp2_with fail
      refine (bucket_any v _ _).mono ?_
      rintro e w3 ⟨rfl, hx3⟩
      rw [HBK.out]
      go_wp2_with fail
      refine (known_any v _).mono ?_
      rintro e w4 ⟨rfl, rfl⟩
      rw [HK.out]
      go_wp2
      go_ret
      exact ⟨rfl, (hx1.trans hx2).trans hx3⟩
set_option maxRecDepth 100000 in
theorem padded_lifted (os : Os) (started : os.Started) (H : Type) (enc : TypeId × Value → H) :
    ReturnsInHanded {} Tryz.checked os 4 .any (fun w args => (Rows.envelopePaddedSpec.pre enc Tryz.prog Tryz.f4 [] false w args ∧ laidMetH Tryz.prog Rows.envelopePaddedRow.laid w) ∧ sizedMet enc Tryz.prog Tryz.f4 (OpenSpec.ofChange Rows.envelopePaddedSpec) false w args)
      (Rows.envelopePaddedSpec.post enc Tryz.prog Tryz.f4 false true false false) := by
  refine returnsInHanded_of_change_and (C := Tryz.checked) (X := fun w _ => laidMetH Tryz.prog Rows.envelopePaddedRow.laid w) (fun _ _ _ hh h => laidMetH.of_heap hh h) law_own started (by kernel_rfl) Tryz.func4
    (ChangeSpec.witness_at (enc := enc) (C := Tryz.checked) (os := os) (X := fun w _ => laidMetH Tryz.prog Rows.envelopePaddedRow.laid w) false (laidWorld os) #[.int .i64 0, .slice none 0 0] 8 rfl (by kernel_rfl) (by kernel_rfl) (by kernel_rfl) (by kernel_rfl) (by kernel_rfl) (laid_met os _)) ?_
  intro W base args ds gs before hval0 hW _ hsz hL _
  have hval : ∀ (j : Nat) t v, Tryz.f4.params[j]? = some t → args[j]? = some v → Value.okWide Tryz.prog W .any base t v := hval0
  have hW' := hW
  obtain ⟨p, q, hA0, hV, rfl, hfz, hnd⟩ := hW
  have hA : DataW.TrodAll enc Tryz.prog W 0 (fun _ => true) true Tryz.f4.params.toList args.toList ds p := hA0
  rw [Tryz.params4] at hA hval
  obtain ⟨v0, vs0, d0, ds0, p0, q0, hargs, rfl, rfl, h0, r0⟩ := trodAll_cons hA
  obtain ⟨v1, vs1, d1, ds1, p1, q1, rfl, rfl, rfl, h1, r1⟩ := trodAll_cons r0
  obtain ⟨rfl, rfl, rfl⟩ := trodAll_nil r1
  obtain rfl : args = #[v0, v1] := by cases args; simp_all
  obtain ⟨rfl, rfl⟩ := trodVars_none hV
  obtain ⟨a0, rfl, rfl, rfl, w0⟩ := open_int Tryz.underlying3 (hval 0 3 v0 rfl rfl) h0
  obtain ⟨a1, len1, cap1, rfl⟩ := okWide_slice Tryz.underlying22 (hval 1 22 v1 rfl rfl)
  have k1 := h1
  have lt1 : ∀ x ∈ p1, x.block < W.heap.size := by obtain ⟨m, hm⟩ := k1; exact DataW.trod_lt m _ _ _ hm
  obtain ⟨l, rfl, hr, hc, hm, _⟩ := open_bytes h1
  clear hA0 hval0
  refine (padded_walk a0 a1 l cap1 W hr hc hm).mono fun e W' ⟨he, bel⟩ => ?_
  subst he
  exact ⟨_, rfl, _, _, _, [], _, [], hW', trodAll_mk1 (shut_bool Tryz.underlying4 _), (trodAll_cons_mk (shut_int Tryz.underlying3 w0) (trodAll_cons_mk (Below.trod law_laidOut (by kernel_rfl) (of_decide_eq_true (by kernel_rfl)) k1 bel lt1) trodAll_mk0)), rfl, Below.frame bel _, fun h => by cases h⟩
theorem padded_said : Rows.EnvelopePaddedSaid :=
  OpenClaim.holds_of_wide 4 Tryz.f4 rfl rfl rfl rfl rfl rfl rfl ⟨rfl, rfl, rfl, rfl, rfl⟩ rfl rfl rfl rfl rfl (by kernel_rfl) Tryz.func4 (by kernel_rfl)
    (of_decide_eq_true (by kernel_rfl)) (by unfold Func.isWrapper; rw [if_neg (of_decide_eq_false (by kernel_rfl))]; exact ⟨rfl, rfl⟩)
    (fun os started H enc _ => padded_lifted os started H enc)
theorem padded_card : Rows.EnvelopePaddedCardSaid :=
  Claim7.holds_tied_plain_at .later [] _ _ _ _
    padded_said (fun _ h => by cases h) (by kernel_rfl) (fun _ h => by cases h) envelopePadded_row_tie rfl ⟨rfl, rfl⟩ (by kernel_rfl) rfl
    (fun f fn hf hfn => by
      obtain rfl : f = 4 := Option.some.inj ((show Tryz.prog.funcNamed "pawl/pawllaw10.EnvelopePadded" = some 4 by kernel_rfl).symm.trans hf) |>.symm
      obtain rfl : fn = Tryz.f4 := (Option.some.inj (Tryz.func4.symm.trans hfn)).symm
      exact ⟨by kernel_rfl, fun j t ht => by
        rw [Tryz.params4] at ht
        rcases j with _ | _ | j
        · obtain rfl : t = 3 := by simpa using ht.symm
          exact (show Tryz.prog.wantsStandIn 3 = false by kernel_rfl)
        · obtain rfl : t = 22 := by simpa using ht.symm
          exact (show Tryz.prog.wantsStandIn 22 = false by kernel_rfl)
        · simp at ht⟩)
    (by kernel_rfl)
end Go.Proofs.YtehfoddnlecmjaaGreatDoor
