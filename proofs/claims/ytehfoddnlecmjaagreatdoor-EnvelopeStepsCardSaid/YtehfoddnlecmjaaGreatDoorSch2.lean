/- The contracts of package schema: a schema looked at. -/
import Derived.Test.YtehfoddnlecmjaaGreatDoorSch1
set_option linter.unusedVariables false
set_option linter.unusedSimpArgs false
namespace Go.Proofs.YtehfoddnlecmjaaGreatDoor
open Go.RowKit

/-- A slice of slots that have no slots within. -/
def SRd (w : World) (A : Option Addr) (ss : List Sl) : Prop :=
  ss = [] ∨ ∃ b o, A = some ⟨b, o, none⟩ ∧ ∀ i (h : i < ss.length), w.cell? ⟨b, o + i * 5, none⟩ = some (.int .i64 ss[i].no) ∧ w.cell? ⟨b, o + i * 5 + 1, none⟩ = some (.int .i64 ss[i].kind) ∧
    w.cell? ⟨b, o + i * 5 + 2, none⟩ = some (.int .u64 ss[i].least) ∧ w.cell? ⟨b, o + i * 5 + 3, none⟩ = some (.int .u64 ss[i].most) ∧ w.cell? ⟨b, o + i * 5 + 4, none⟩ = some (.slice none 0 0)
theorem SRd.ext {w w' : World} {A : Option Addr} {ss : List Sl} (h : SRd w A ss) (hx : Ext w w') : SRd w' A ss := by
  rcases h with h | ⟨b, o, e, h⟩
  · exact .inl h
  · exact .inr ⟨b, o, e, fun i hi => by obtain ⟨h1, h2, h3, h4, h5⟩ := h i hi; exact ⟨hx.cell h1, hx.cell h2, hx.cell h3, hx.cell h4, hx.cell h5⟩⟩
def headN (s : Sl) : Nat := vsize (8 * s.no + wireK s.kind)
def spanStep (acc : Nat × Nat) (s : Sl) : Nat × Nat := (min (acc.1 + headN s + (spanV s).1) 1073741824, min (acc.2 + headN s + (spanV s).2) 1073741824)
def spanS (ss : List Sl) (j : Nat) : Nat × Nat := (ss.take j).foldl spanStep (0, 0)
theorem spanS_succ {ss : List Sl} {j : Nat} (h : j < ss.length) : spanS ss (j + 1) = spanStep (spanS ss j) ss[j] := by
  unfold spanS
  rw [List.take_succ_eq_append_getElem h, List.foldl_append]
  rfl
theorem spanS_le (ss : List Sl) : ∀ j, (spanS ss j).1 ≤ 1073741824 ∧ (spanS ss j).2 ≤ 1073741824
  | 0 => by simp [spanS]
  | j + 1 => by
    by_cases h : j < ss.length
    · rw [spanS_succ h]
      unfold spanStep
      exact ⟨Nat.min_le_right _ _, Nat.min_le_right _ _⟩
    · have h1 := spanS_le ss j
      unfold spanS at *
      rw [List.take_of_length_le (by omega)] at *
      exact h1
theorem spanV_le {s : Sl} (h : s.good) : (spanV s).1 ≤ 4194314 ∧ (spanV s).2 ≤ 4194314 := by
  obtain ⟨h1, h2, h3, h4, h5⟩ := h
  have e1 : vsize s.least ≤ 10 := vsize_le10 (by omega)
  have e2 : vsize s.most ≤ 10 := vsize_le10 (by omega)
  unfold spanV
  split
  · simp only; omega
  · split
    · simp only; omega
    · split
      · simp only; omega
      · simp only; omega
theorem wireK_le (k : Nat) : wireK k ≤ 5 := by unfold wireK; (repeat' split) <;> omega
def goods (ss : List Sl) : Prop := ∀ s ∈ ss, s.good
set_option maxRecDepth 100000 in
set_option maxHeartbeats 1600000 in
theorem span_any (A : Option Addr) (c : Nat) (ss : List Sl) (w : World) (h : SRd w A ss) (hg : goods ss) (hn : ss.length ≤ 64) :
    Calls Tryz.prog 91 #[.slice A ss.length c] w fun e w' => e = .returned (.tuple #[.int .i64 (spanS ss ss.length).1, .int .i64 (spanS ss ss.length).2]) ∧ Ext w w' := by
  have HR := Lib.hid h
  have HG := Lib.hid hg
  clear h hg
  go_enter Tryz.func91, Tryz.ntmps91
  go_wp2
  go_loopw [4, 5, 13] (fun a b i wr => ∃ j : Nat, j ≤ ss.length ∧ a = .int .i64 (spanS ss j).1 ∧ b = .int .i64 (spanS ss j).2 ∧ i = .int .i64 j ∧ Ext w wr) (fun _ _ i _ => ss.length - (intOf i).toNat)
  case atStart => exact ⟨0, by omega, rfl, rfl, rfl, Ext.refl _⟩
  case round =>
    obtain ⟨j, hj, rfl, rfl, rfl, hx⟩ := hrel
    by_cases hlt : j < ss.length
    · rcases HR.out.ext hx with h | ⟨b, o, rfl, hc⟩
      · subst h; simp at hlt
      · obtain ⟨c0, c1, c2, c3, c4⟩ := hc j hlt
        have hgd := HG.out ss[j] (List.getElem_mem hlt)
        have HGD := Lib.hid hgd
        have hno : ss[j].no ≤ 536870911 := hgd.2.2.2.1
        have hk : ss[j].kind = 1 ∨ ss[j].kind = 2 ∨ ss[j].kind = 4 ∨ ss[j].kind = 5 ∨ ss[j].kind = 6 ∨ ss[j].kind = 9 := by have := hgd.2.2.2.2; omega
        have HK := Lib.hid hk
        have hwk := wireK_le ss[j].kind
        have hsv := spanV_le hgd
        have hsl := spanS_le ss j
        have HSS := Lib.hid (spanS_succ hlt)
        have hv : vsize (8 * ss[j].no + wireK ss[j].kind) ≤ 10 := vsize_le10 (by omega)
        have HSZ : Hid (8 * ss[j].no + wireK ss[j].kind < 18446744073709551616) := by exact (by omega : 8 * ss[j].no + wireK ss[j].kind < 18446744073709551616)
        clear hgd hk hc
        go_wp2_with fail
        go_quiet (first | (go_at_call 106; exact Calls.quiet_of_same (wireOf_any _ _ HK.out)) | (go_at_call 52; exact Calls.quiet_of_same ((size_any (8 * ss[j].no + wireK ss[j].kind) _ HSZ.out).mono fun e w' h => ⟨h.1, h.2.symm⟩)))
        go_wp2_with fail
        refine (valueSpan_any ss[j] (.slice none 0 0) _ HGD.out).mono ?_
        rintro e w1 ⟨rfl, hx1⟩
        go_wp2
        trace_state
        refine ⟨⟨j + 1, by omega, ?_, ?_, by simp, ?_⟩, by simp [intOf]; omega⟩
        · rw [HSS.out]; simp [spanStep, headN]; omega
        · rw [HSS.out]; simp [spanStep, headN]; omega
        · exact Ext.trans ((hx.alloc _).drewN _) hx1
    · obtain rfl : j = ss.length := by omega
      go_wp2
      go_ret2
      exact ⟨rfl, hx⟩
end Go.Proofs.YtehfoddnlecmjaaGreatDoor
