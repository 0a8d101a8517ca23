/- The contracts of package wire: Encode. -/
import Derived.Test.YtehfoddnlecmjaaGreatDoorWire3
set_option linter.unusedVariables false
set_option linter.unusedSimpArgs false
namespace Go.Proofs.YtehfoddnlecmjaaGreatDoor
open Go.RowKit

/-- A slice of fields that is read; what their data lies in is below base. -/
def FRd (w : World) (base : Nat) (A : Option Addr) (fs : List Fld) : Prop :=
  fs = [] ∨ ∃ b o, A = some ⟨b, o, none⟩ ∧ b < base ∧ ∀ i (h : i < fs.length), ∃ D c, w.cell? ⟨b, o + i * 4, none⟩ = some (.int .i64 fs[i].no) ∧ w.cell? ⟨b, o + i * 4 + 1, none⟩ = some (.int .i64 fs[i].ty) ∧
    w.cell? ⟨b, o + i * 4 + 2, none⟩ = some (.int .u64 fs[i].num) ∧ w.cell? ⟨b, o + i * 4 + 3, none⟩ = some (.slice D fs[i].data.length c) ∧ RB w D fs[i].data ∧ (∀ a, D = some a → a.block < base)
theorem FRd.grown {w w' : World} {base : Nat} {A : Option Addr} {fs : List Fld} {row : Option Nat} (h : FRd w base A fs) (hg : w.grownBy w' row) (hr : ∀ k, row = some k → base ≤ k) : FRd w' base A fs := by
  rcases h with h | ⟨b, o, hA, hb, h⟩
  · exact .inl h
  · refine .inr ⟨b, o, hA, hb, fun i hi => ?_⟩
    obtain ⟨D, c, h1, h2, h3, h4, h5, h6⟩ := h i hi
    have hne : some b ≠ row := fun e => by have := hr _ e.symm; omega
    exact ⟨D, c, hg.cell h1 hne, hg.cell h2 hne, hg.cell h3 hne, hg.cell h4 hne, h5.grown hg (fun a ha e => by have := hr _ e.symm; have := h6 a ha; omega), h6⟩
set_option maxRecDepth 100000 in
set_option maxHeartbeats 1600000 in
theorem encode_any (A : Option Addr) (c : Nat) (fs : List Fld) (w : World) (hf : FRd w w.heap.size A fs) (hn : fs.length ≤ 64) (hok : okFs fs) (hlen : (encB fs).length ≤ 4194304) :
    Calls Tryz.prog 87 #[.slice A fs.length c] w fun e w' => ∃ v, e = .returned (.tuple #[v, .int .i64 0]) ∧ OB w' w.heap.size v (encB fs) ∧ Ext w w' := by
  have HF := Lib.hid hf
  have HOK := Lib.hid hok
  clear hf hok
  go_enter Tryz.func87, Tryz.ntmps87
  go_wp2_with fail
  go_loopw [4, 5, 17] (fun a b i wr => ∃ j : Nat, j ≤ fs.length ∧ a = .int .i64 (lastNo fs j) ∧ b = .int .i64 (sumD fs j) ∧ i = .int .i64 j ∧ Ext w wr) (fun _ _ i _ => fs.length - (intOf i).toNat)
  case atStart => exact ⟨0, by omega, rfl, rfl, rfl, Ext.refl _⟩
  case round =>
    obtain ⟨j, hj, rfl, rfl, rfl, hx⟩ := hrel
    by_cases hlt : j < fs.length
    · obtain ⟨hw0, hnum⟩ := HOK.out j hlt
      rcases HF.out with h | ⟨b, o, rfl, hb, hc⟩
      · subst h; simp at hlt
      · obtain ⟨D, cd, c0, c1, c2, c3, hd, hD⟩ := hc j hlt
        replace c0 := hx.cell c0
        replace c1 := hx.cell c1
        replace c2 := hx.cell c2
        replace c3 := hx.cell c3
        have HW := Lib.hid hw0
        obtain ⟨q1, q2, q3, q4, q5, q6, q7⟩ := wrong_0 hw0
        have hS := sumD_le (fs := fs) (fun f hf => by
          obtain ⟨i, hi, rfl⟩ := List.mem_iff_getElem.1 hf
          obtain ⟨_, _, _, k4, _, k6, _⟩ := wrong_0 (HOK.out i hi).1
          by_cases h : fs[i].ty = 2
          · exact .inl h
          · exact .inr (k6 h)) (j + 1)
        have hS2 := encB_take_le fs (j + 1)
        have HSS := Lib.hid (sumD_succ hlt)
        rw [HSS.out] at hS
        have HLS := Lib.hid (lastNo_succ hlt)
        have hb2 : sumD fs j ≤ 4194304 := by omega
        have hb3 : fs[j].data.length ≤ 4194304 := by omega
        have hty : fs[j].ty < 4294967296 := by omega
        have hno : fs[j].no < 4294967296 := by omega
        clear hS hS2 hw0 q5 q6 q7 q4 q3 HF hc hd hD
        go_wp2_with fail
        refine (wrong_any fs[j] D cd (lastNo fs j) _ hno hty hnum).mono ?_
        rintro e w1 ⟨rfl, hx1⟩
        rw [show wrong fs[j] (lastNo fs j) = 0 from HW.out]
        have d0 := hx1.cell (p := ⟨wr.heap.size, 0, none⟩) (v := .int .i64 fs[j].no) (by simp)
        have d3 := hx1.cell (p := ⟨wr.heap.size, 3, none⟩) (v := .slice D fs[j].data.length cd) (by simp)
        clear hnum
        go_wp2
        refine ⟨⟨j + 1, by omega, by rw [HLS.out], by rw [HSS.out]; go_num, by go_num, (hx.trans ((Ext.refl _).alloc _)).trans hx1⟩, by simp [intOf]; omega⟩
    · have hS := sumD_le (fs := fs) (fun f hf => by
          obtain ⟨i, hi, rfl⟩ := List.mem_iff_getElem.1 hf
          obtain ⟨_, _, _, k4, _, k6, _⟩ := wrong_0 (HOK.out i hi).1
          by_cases h : fs[i].ty = 2
          · exact .inl h
          · exact .inr (k6 h)) j
      have hS2 := encB_take_le fs j
      have hb2 : sumD fs j ≤ 4194304 := by omega
      clear hS hS2
      generalize lastNo fs j = ln at *
      generalize sumD fs j = sd at *
      obtain rfl : j = fs.length := by omega
      clear hlt hj
      go_wp2_with fail
      go_loopw [9, 39] (fun v i wr => ∃ j : Nat, j ≤ fs.length ∧ i = .int .i64 j ∧ OB wr w.heap.size v (encB (fs.take j)) ∧ Ext w wr) (fun _ i _ => fs.length - (intOf i).toNat)
      case atStart => exact ⟨0, by omega, rfl, OB.nil _ _, hx⟩
      case round =>
        obtain ⟨j, hj, rfl, ho, hx⟩ := hrel
        have hSt := encB_take_le fs j
        by_cases hlt : j < fs.length
        · obtain ⟨hw0, hnum⟩ := HOK.out j hlt
          rcases HF.out with h | ⟨b, o, rfl, hb, hc⟩
          · subst h; simp at hlt
          · obtain ⟨D, cd, c0, c1, c2, c3, hd, hD⟩ := hc j hlt
            replace c0 := hx.cell c0
            replace c1 := hx.cell c1
            replace c2 := hx.cell c2
            replace c3 := hx.cell c3
            obtain ⟨q1, q2, q3, q4, q5, q6, q7⟩ := wrong_0 hw0
            have hS := encB_take_le fs (j + 1)
            have HT : Hid (encB (fs.take (j + 1)) = encB (fs.take j) ++ fldB fs[j]) := by
              have : encB (fs.take (j + 1)) = encB (fs.take j) ++ fldB fs[j] := by rw [List.take_succ_eq_append_getElem hlt, encB_append]; simp [encB]
              exact this
            have hdl : fs[j].data.length ≤ 4194304 := by
              have h1 := fldB_data fs[j] (by by_cases h : fs[j].ty = 2; exact .inl h; exact .inr (q6 h))
              rw [HT.out, List.length_append] at hS
              omega
            have hno : fs[j].no < 4294967296 := by omega
            clear hS hw0 q3 q5 q6 q7 HF hc q1 q2
            go_wp2_with fail
            refine (behind_any w.heap.size u9 _ fs[j] D cd _ (ho.ext ((Ext.refl _).alloc _)) (hx.trans ((Ext.refl _).alloc _)).size (by omega) hno q4 hnum hdl ((hd.ext hx).ext ((Ext.refl _).alloc _)) hD).mono ?_
            rintro e w1 ⟨v1, rfl, ho1, hg1, hat1⟩
            clear hnum q4
            go_wp2
            refine ⟨⟨j + 1, by omega, by go_num, by rw [HT.out]; exact ho1, (hx.trans ((Ext.refl _).alloc _)).then_grown hg1 (fun k hk => ho.ge k hk)⟩, by simp [intOf]; omega⟩
        · obtain rfl : j = fs.length := by omega
          rw [List.take_length] at ho hSt
          obtain ⟨A', c', rfl, _, _, _, _⟩ := ho.reads
          clear hlt hj hSt
          go_wp2
          go_ret2
          exact ⟨_, rfl, ho, hx⟩
end Go.Proofs.YtehfoddnlecmjaaGreatDoor
