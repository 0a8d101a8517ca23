/- The contracts of package schema: a slot looked at. -/
import Derived.Test.YtehfoddnlecmjaaGreatDoorWire9
set_option linter.unusedVariables false
set_option linter.unusedSimpArgs false
namespace Go.Proofs.YtehfoddnlecmjaaGreatDoor
open Go.RowKit

/-- A slot without slots within. -/
structure Sl where
  no : Nat
  kind : Nat
  least : Nat
  most : Nat
  deriving DecidableEq
/-- A slot that can be. -/
def Sl.good (s : Sl) : Prop := s.least < 18446744073709551616 ∧ s.most < 18446744073709551616 ∧ 1 ≤ s.no ∧ s.no ≤ 536870911 ∧
  ((s.kind = 1 ∧ s.least ≤ s.most) ∨ (s.kind = 2 ∧ s.least ≤ s.most ∧ s.most ≤ 4294967295) ∨ (s.kind = 4 ∧ s.least = 0 ∧ s.most = 0) ∨ (s.kind = 5 ∧ s.least ≤ s.most ∧ s.most ≤ 4194304) ∨ (s.kind = 6 ∧ s.least ≤ s.most ∧ s.most ≤ 4194304))
def wireK (kind : Nat) : Nat := if kind = 1 ∨ kind = 4 then 0 else if kind = 3 ∨ kind = 7 then 1 else if kind = 2 then 5 else 2
def spanV (s : Sl) : Nat × Nat :=
  if s.kind = 1 then (vsize s.least, vsize s.most) else if s.kind = 4 then (1, 1) else if s.kind = 2 then (4, 4) else (vsize s.least + s.least, vsize s.most + s.most)
def slC (s : Sl) (sub : Value) : Array Value := #[.int .i64 s.no, .int .i64 s.kind, .int .u64 s.least, .int .u64 s.most, sub]
theorem wireOf_any (k : Nat) (w : World) (hk : k = 1 ∨ k = 2 ∨ k = 4 ∨ k = 5 ∨ k = 6 ∨ k = 9) : Calls Tryz.prog 106 #[.int .i64 k] w fun e w' => e = .returned (.int .i64 (wireK k)) ∧ w' = w := by
  rcases hk with rfl | rfl | rfl | rfl | rfl | rfl
  all_goals
    go_enter Tryz.func106, Tryz.ntmps106
    go_wp2
    go_ret
    exact ⟨rfl, rfl⟩
theorem nested_any (k : Nat) (w : World) (h : k < 8) : Calls Tryz.prog 105 #[.int .i64 k] w fun e w' => e = .returned (.bool false) ∧ w' = w := by
  have c1 : ((k : Int) == 8) = false := by simp; omega
  have c2 : ((k : Int) == 9) = false := by simp; omega
  go_enter Tryz.func105, Tryz.ntmps105
  go_wp2
  go_ret
  exact ⟨rfl, rfl⟩
theorem nested_list (w : World) : Calls Tryz.prog 105 #[.int .i64 9] w fun e w' => e = .returned (.bool true) ∧ w' = w := by
  go_enter Tryz.func105, Tryz.ntmps105
  go_wp2
  go_ret
  exact ⟨rfl, rfl⟩
theorem framed_any (n : Nat) (w : World) (hn : n < 4294967296) : Calls Tryz.prog 131 #[.int .i64 n] w fun e w' => e = .returned (.int .i64 ((vsize n + n : Nat) : Int)) ∧ w' = w := by
  have h1 : vsize n ≤ 10 := vsize_le10 (by omega)
  go_enter Tryz.func131, Tryz.ntmps131
  go_wp2_with fail
  refine (size_any n w (by omega)).mono ?_
  rintro e w1 ⟨rfl, rfl⟩
  go_wp2
  go_ret
  exact ⟨by simp, rfl⟩
def withinN (n a b : Nat) : Nat := if n < a ∨ b < n then 83 else 0
theorem within_any (n a b : Nat) (w : World) :
    Calls Tryz.prog 132 #[.int .u64 n, .int .u64 a, .int .u64 b] w fun e w' => e = .returned (.int .i64 (withinN n a b)) ∧ w' = w := by
  by_cases c1 : n < a
  · have HE : Hid (withinN n a b = 83) := by exact (if_pos (.inl c1) : withinN n a b = 83)
    go_enter Tryz.func132, Tryz.ntmps132
    go_wp2
    go_ret
    exact ⟨by rw [HE.out]; rfl, rfl⟩
  · by_cases c2 : b < n
    · have HE : Hid (withinN n a b = 83) := by exact (if_pos (.inr c2) : withinN n a b = 83)
      go_enter Tryz.func132, Tryz.ntmps132
      go_wp2
      go_ret
      exact ⟨by rw [HE.out]; rfl, rfl⟩
    · have HE : Hid (withinN n a b = 0) := by exact (if_neg (by omega) : withinN n a b = 0)
      go_enter Tryz.func132, Tryz.ntmps132
      go_wp2
      go_ret
      exact ⟨by rw [HE.out]; rfl, rfl⟩
set_option maxRecDepth 100000 in
set_option maxHeartbeats 1600000 in
theorem bounded_any (s : Sl) (sub : Value) (w : World) (h : s.good) : Calls Tryz.prog 104 #[.agg (slC s sub)] w fun e w' => e = .returned (.bool true) ∧ Ext w w' := by
  obtain ⟨no, kind, least, most⟩ := s
  obtain ⟨h1, h2, h3, h4, h5⟩ := h
  simp only at h1 h2 h3 h4 h5
  unfold slC
  simp only
  clear h1 h2 h3 h4
  rcases h5 with ⟨rfl, h⟩ | ⟨rfl, h, h'⟩ | ⟨rfl, rfl, rfl⟩ | ⟨rfl, h, h'⟩ | ⟨rfl, h, h'⟩
  all_goals
    go_enter Tryz.func104, Tryz.ntmps104
    go_wp2
    go_ret
    first
      | exact ⟨rfl, (Ext.refl _).alloc _⟩
      | exact ⟨by simp; omega, (Ext.refl _).alloc _⟩
set_option maxRecDepth 100000 in
set_option maxHeartbeats 1600000 in
theorem valueSpan_any (s : Sl) (sub : Value) (w : World) (h : s.good) : Calls Tryz.prog 107 #[.agg (slC s sub)] w fun e w' => e = .returned (.tuple #[.int .i64 (spanV s).1, .int .i64 (spanV s).2]) ∧ Ext w w' := by
  obtain ⟨no, kind, least, most⟩ := s
  obtain ⟨h1, h2, h3, h4, h5⟩ := h
  simp only at h1 h2 h3 h4 h5
  unfold slC
  simp only
  clear h3 h4
  rcases h5 with ⟨rfl, h⟩ | ⟨rfl, h, h'⟩ | ⟨rfl, rfl, rfl⟩ | ⟨rfl, h, h'⟩ | ⟨rfl, h, h'⟩
  · have H1 := Lib.hid h1
    have H2 := Lib.hid h2
    clear h1 h2
    go_enter Tryz.func107, Tryz.ntmps107
    go_wp2_with fail
    go_quiet (first | (go_at_call 52; exact Calls.quiet_of_same ((size_any _ _ (by first | exact H1.out | exact H2.out)).mono fun e w' h => ⟨h.1, h.2.symm⟩)))
    go_wp2
    go_ret2
    exact ⟨rfl, ((Ext.refl _).alloc _).drewN _⟩
  · clear h1 h2
    go_enter Tryz.func107, Tryz.ntmps107
    go_wp2
    go_ret2
    exact ⟨rfl, (Ext.refl _).alloc _⟩
  · clear h1 h2
    go_enter Tryz.func107, Tryz.ntmps107
    go_wp2
    go_ret2
    exact ⟨rfl, (Ext.refl _).alloc _⟩
  · have H1 : Hid (least < 4294967296) := by exact (by omega : least < 4294967296)
    have H2 : Hid (most < 4294967296) := by exact (by omega : most < 4294967296)
    clear h1 h2
    go_enter Tryz.func107, Tryz.ntmps107
    go_wp2_with fail
    go_quiet (first | (go_at_call 131; exact Calls.quiet_of_same (framed_any _ _ (by first | exact H1.out | exact H2.out))))
    go_wp2
    go_ret2
    exact ⟨rfl, ((Ext.refl _).alloc _).drewN _⟩
  · have H1 : Hid (least < 4294967296) := by exact (by omega : least < 4294967296)
    have H2 : Hid (most < 4294967296) := by exact (by omega : most < 4294967296)
    clear h1 h2
    go_enter Tryz.func107, Tryz.ntmps107
    go_wp2_with fail
    go_quiet (first | (go_at_call 131; exact Calls.quiet_of_same (framed_any _ _ (by first | exact H1.out | exact H2.out))))
    go_wp2
    go_ret2
    exact ⟨rfl, ((Ext.refl _).alloc _).drewN _⟩
end Go.Proofs.YtehfoddnlecmjaaGreatDoor
