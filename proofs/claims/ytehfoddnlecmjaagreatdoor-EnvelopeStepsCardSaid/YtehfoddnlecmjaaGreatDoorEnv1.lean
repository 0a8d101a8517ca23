/- The functions of package envelope that only reckon. -/
import Derived.Test.YtehfoddnlecmjaaGreatDoorBase
import Derived.Test.YtehfoddnlecmjaaGreatDoorPureEnv
set_option linter.unusedVariables false
set_option linter.unusedSimpArgs false
namespace Go.Proofs.YtehfoddnlecmjaaGreatDoor
open Go.RowKit

theorem ret_int {k : IntKind} {a b : Int} (h : a = b) : Ending.returned (.int k a) = .returned (.int k b) := by rw [h]
/-- What 'grows' hands back. -/
def growsV (v : Int) : Value := if v = 1 then .func (.func 65) #[] #[] else if v = 2 then .func (.func 66) #[] #[] else .nilFunc
def gE1 : MapEntry := { key := .int .i64 1, val := .func (.func 65) #[] #[], born := 0 }
def gE2 : MapEntry := { key := .int .i64 2, val := .func (.func 66) #[] #[], born := 1 }
theorem new_at (w : World) (o : Obj) : (w.alloc o).heap[w.heap.size]? = some o := (MapKept.heap_alloc w o).1
theorem gU1 (w : World) : (Instr.mapUpdate 126 (.map (some w.heap.size)) (.int .i64 1) (.func (.func 65) #[] #[])).run Tryz.prog (w.alloc (.map #[] 0)) = .ok () (w.alloc (.map #[gE1] 1)) := by
  rw [run_mapUpdate_fresh Tryz.underlying126 Tryz.underlying3 (new_at _ _) _ _ (isKey_int _ _) rfl, put_new]; rfl
theorem gU2 (w : World) : (Instr.mapUpdate 126 (.map (some w.heap.size)) (.int .i64 2) (.func (.func 66) #[] #[])).run Tryz.prog (w.alloc (.map #[gE1] 1)) = .ok () (w.alloc (.map #[gE1, gE2] 2)) := by
  rw [run_mapUpdate_fresh Tryz.underlying126 Tryz.underlying3 (new_at _ _) _ _ (isKey_int _ _) rfl, put_new]; rfl
theorem gZ (w : World) : (zeroValue 90).run Tryz.prog w = .ok .nilFunc w := by kernel_rfl
theorem gL (w : World) (v : Int) : (Instr.lookup 126 (.map (some w.heap.size)) (.int .i64 v) false).run Tryz.prog (w.alloc (.map #[gE1, gE2] 2)) = .ok (growsV v) (w.alloc (.map #[gE1, gE2] 2)) := by
  unfold growsV
  by_cases h1 : v = 1
  · subst h1
    rw [run_lookup_hit Tryz.underlying126 Tryz.underlying3 (new_at _ _) _ (isKey_int _ _) (i := 0) (v := gE1.val) rfl]; rfl
  · by_cases h2 : v = 2
    · subst h2
      rw [run_lookup_hit Tryz.underlying126 Tryz.underlying3 (new_at _ _) _ (isKey_int _ _) (i := 1) (v := gE2.val) rfl]; rfl
    · have e1 : (v == 1) = false := by simp [h1]
      have e2 : (v == 2) = false := by simp [h2]
      have e3 : Instr.findNow (.int .i64) (.int .i64 v) #[gE1, gE2].toList 0 = some none := by simp [Instr.findNow, Instr.sameNow, gE1, gE2, e1, e2]
      rw [run_lookup_miss Tryz.underlying126 Tryz.underlying3 (new_at _ _) _ (isKey_int _ _) e3 (gZ _), if_neg h1, if_neg h2]; rfl
set_option maxRecDepth 100000 in
set_option maxHeartbeats 400000 in
theorem grows_any (v : Int) (w : World) : Calls Tryz.prog 46 #[.int .i64 v] w fun e w' => e = .returned (growsV v) ∧ Ext w w' := by
  have hmm := @run_makeMap Tryz.prog
  have u1 := gU1 w
  have u2 := gU2 w
  have u3 := gL w v
  go_enter Tryz.func46, Tryz.ntmps46
  go_wp2
  go_ret
  exact ⟨rfl, (Ext.refl _).alloc _⟩
set_option maxRecDepth 100000 in
set_option maxHeartbeats 400000 in
theorem grows1_any (n : Nat) (w : World) (h : n < 4611686018427387904) : Calls Tryz.prog 65 #[.int .i64 n] w fun e w' => e = .returned (.int .i64 (next 1 n : Nat)) ∧ w = w' := by
  go_enter Tryz.func65, Tryz.ntmps65
  go_wp2
  go_ret
  exact ⟨by simp [next], rfl⟩
set_option maxRecDepth 100000 in
set_option maxHeartbeats 400000 in
theorem grows2_any (n : Nat) (w : World) (h1 : 1 ≤ n) (h : n < 2305843009213693952) : Calls Tryz.prog 66 #[.int .i64 n] w fun e w' => e = .returned (.int .i64 (next 2 n : Nat)) ∧ w = w' := by
  have hu : unit n ≤ n := unit_le h1
  go_enter Tryz.func66, Tryz.ntmps66
  go_wp2
  go_loop [3] (fun a => ∃ e : Nat, 1 ≤ e ∧ e ≤ n ∧ a = .int .i64 e ∧ unitGo n e = unit n) (fun a => n - (intOf a).toNat)
  case atStart => exact ⟨1, by omega, h1, rfl, rfl⟩
  case round =>
    obtain ⟨e, he, hen, rfl, hr⟩ := hrel
    have HR := Lib.hid hr
    clear hr
    obtain ⟨d, hd⟩ : ∃ d : Nat, d = n / e := ⟨_, rfl⟩
    have hdI : (n : Int) / (e : Int) = (d : Int) := by rw [hd]; rfl
    have hdn : d ≤ n := by rw [hd]; exact Nat.div_le_self n e
    have q0 : (n : Int) / (e : Int) ≤ n := by rw [hdI]; omega
    have q1 : 0 ≤ (n : Int) / (e : Int) := by rw [hdI]; omega
    by_cases hlt : 16 ≤ d
    · have q2 : 16 ≤ (n : Int) / (e : Int) := by rw [hdI]; omega
      clear hdI
      rw [hd] at hlt
      clear hd
      have h3 : 16 * e ≤ n := (Nat.le_div_iff_mul_le he).1 hlt
      go_wp2
      go_round
      case rel => exact ⟨e * 2, by omega, by omega, by go_num, by rw [← HR.out, unitGo_step he hlt, Nat.mul_comm]⟩
      case measure => simp [intOf]; omega
    · have q2 : (n : Int) / (e : Int) < 16 := by rw [hdI]; omega
      clear hdI
      rw [hd] at hlt
      clear hd
      go_wp2
      go_ret
      refine ⟨ret_int ?_, rfl⟩
      have : unit n = e := by rw [← HR.out, unitGo_stop hlt]
      simp [next, this]
/-! Bucket. -/
theorem growsV_1 : growsV 1 = .func (.func 65) #[] #[] := rfl
theorem growsV_2 : growsV 2 = .func (.func 66) #[] #[] := rfl
theorem growsV_no {v : Int} (h : v ≠ 1 ∧ v ≠ 2) : growsV v = .nilFunc := by unfold growsV; rw [if_neg h.1, if_neg h.2]
theorem eqNil_nil (w : World) : (binOp .eql 90 .nilFunc .nilFunc).run Tryz.prog w = .ok (.bool true) w := by kernel_rfl
theorem eqNil_1 (w : World) : (binOp .eql 90 (.func (.func 65) #[] #[]) .nilFunc).run Tryz.prog w = .ok (.bool false) w := by kernel_rfl
theorem eqNil_2 (w : World) : (binOp .eql 90 (.func (.func 66) #[] #[]) .nilFunc).run Tryz.prog w = .ok (.bool false) w := by kernel_rfl
set_option maxRecDepth 100000 in
set_option maxHeartbeats 400000 in
theorem bucket_version (v n : Int) (w : World) (h : v ≠ 1 ∧ v ≠ 2) : Calls Tryz.prog 24 #[.int .i64 v, .int .i64 n] w fun e w' => e = .returned (.tuple #[.int .i64 0, .int .i64 100]) ∧ Ext w w' := by
  have H := Lib.hid h
  have E0 := eqNil_nil
  clear h
  go_enter Tryz.func24, Tryz.ntmps24
  go_wp2_with (go_at_call 46; refine (grows_any _ _).mono ?_; rintro e w1 ⟨rfl, hx⟩; rw [growsV_no H.out])
  go_ret2
  exact ⟨rfl, hx⟩
set_option maxRecDepth 100000 in
set_option maxHeartbeats 400000 in
theorem bucket_arg (v n : Int) (w : World) (h : v = 1 ∨ v = 2) (hn : n < 0) : Calls Tryz.prog 24 #[.int .i64 v, .int .i64 n] w fun e w' => e = .returned (.tuple #[.int .i64 0, .int .i64 1]) ∧ Ext w w' := by
  have E1 := eqNil_1
  have E2 := eqNil_2
  rcases h with rfl | rfl
  all_goals
    go_enter Tryz.func24, Tryz.ntmps24
    go_wp2_with (go_at_call 46; refine (grows_any _ _).mono ?_; rintro e w1 ⟨rfl, hx⟩; first | rw [growsV_1] | rw [growsV_2])
    go_ret2
    exact ⟨rfl, hx⟩
set_option maxRecDepth 100000 in
set_option maxHeartbeats 400000 in
theorem bucket_long (v n : Int) (w : World) (h : v = 1 ∨ v = 2) (hn : 1048576 < n) : Calls Tryz.prog 24 #[.int .i64 v, .int .i64 n] w fun e w' => e = .returned (.tuple #[.int .i64 0, .int .i64 2]) ∧ Ext w w' := by
  have E1 := eqNil_1
  have E2 := eqNil_2
  have hn0 : ¬ n < 0 := by omega
  rcases h with rfl | rfl
  all_goals
    go_enter Tryz.func24, Tryz.ntmps24
    go_wp2_with (go_at_call 46; refine (grows_any _ _).mono ?_; rintro e w1 ⟨rfl, hx⟩; first | rw [growsV_1] | rw [growsV_2])
    go_ret2
    exact ⟨rfl, hx⟩
set_option maxRecDepth 100000 in
set_option maxHeartbeats 800000 in
theorem bucket_ok1 (n : Nat) (w : World) (hn : n ≤ 1048576) : Calls Tryz.prog 24 #[.int .i64 1, .int .i64 n] w fun e w' => e = .returned (.tuple #[.int .i64 (bucket 1 n), .int .i64 0]) ∧ Ext w w' := by
  have E1 := eqNil_1
  have hn0 : ¬ (n : Int) < 0 := by omega
  have hn1 : ¬ 1048576 < (n : Int) := by omega
  go_enter Tryz.func24, Tryz.ntmps24
  go_wp2_with (go_at_call 46; refine (grows_any _ _).mono ?_; rintro e w1 ⟨rfl, hx⟩; rw [growsV_1])
  go_loopw [7] (fun a wr => ∃ b : Nat, 64 ≤ b ∧ b < 2097300 ∧ a = .int .i64 b ∧ bkGo 1 b (n + 4) = bucket 1 n ∧ Ext w wr) (fun a wr => n + 4 - (intOf a).toNat)
  case atStart => exact ⟨64, by omega, by omega, rfl, rfl, hx⟩
  case round =>
    obtain ⟨b, hb, hb2, rfl, hr, hxr⟩ := hrel
    have HR := Lib.hid hr
    clear hr
    by_cases hlt : b < n + 4
    · have h1 := next_gt (v := 1) (b := b) (by omega)
      have h2 := next_le (v := 1) (b := b) (by omega)
      go_wp2_with (go_at_call 65; refine (grows1_any _ _ (by omega)).mono ?_; rintro e w2 ⟨rfl, rfl⟩)
      go_roundw
      case rel => exact ⟨next 1 b, by omega, by omega, rfl, by rw [← HR.out, ← bkGo_step (by omega) hlt], hxr⟩
      case measure => simp [intOf]; omega
    · go_wp2
      go_ret2
      refine ⟨?_, hxr⟩
      rw [show bucket 1 n = b by rw [← HR.out, bkGo_stop hlt]]
      rfl
set_option maxRecDepth 100000 in
set_option maxHeartbeats 800000 in
theorem bucket_ok2 (n : Nat) (w : World) (hn : n ≤ 1048576) : Calls Tryz.prog 24 #[.int .i64 2, .int .i64 n] w fun e w' => e = .returned (.tuple #[.int .i64 (bucket 2 n), .int .i64 0]) ∧ Ext w w' := by
  have E2 := eqNil_2
  have hn0 : ¬ (n : Int) < 0 := by omega
  have hn1 : ¬ 1048576 < (n : Int) := by omega
  go_enter Tryz.func24, Tryz.ntmps24
  go_wp2_with (go_at_call 46; refine (grows_any _ _).mono ?_; rintro e w1 ⟨rfl, hx⟩; rw [growsV_2])
  go_loopw [7] (fun a wr => ∃ b : Nat, 64 ≤ b ∧ b < 2097300 ∧ a = .int .i64 b ∧ bkGo 2 b (n + 4) = bucket 2 n ∧ Ext w wr) (fun a wr => n + 4 - (intOf a).toNat)
  case atStart => exact ⟨64, by omega, by omega, rfl, rfl, hx⟩
  case round =>
    obtain ⟨b, hb, hb2, rfl, hr, hxr⟩ := hrel
    have HR := Lib.hid hr
    clear hr
    by_cases hlt : b < n + 4
    · have h1 := next_gt (v := 2) (b := b) (by omega)
      have h2 := next_le (v := 2) (b := b) (by omega)
      go_wp2_with (go_at_call 66; refine (grows2_any _ _ (by omega) (by omega)).mono ?_; rintro e w2 ⟨rfl, rfl⟩)
      go_roundw
      case rel => exact ⟨next 2 b, by omega, by omega, rfl, by rw [← HR.out, ← bkGo_step (by omega) hlt], hxr⟩
      case measure => simp [intOf]; omega
    · go_wp2
      go_ret2
      refine ⟨?_, hxr⟩
      rw [show bucket 2 n = b by rw [← HR.out, bkGo_stop hlt]]
      rfl
/-- Bucket, all its ways. -/
def bkt (v n : Int) : Int × Int := if v = 1 ∨ v = 2 then (if n < 0 then (0, 1) else if 1048576 < n then (0, 2) else (((bucket v.toNat n.toNat : Nat) : Int), (0 : Int))) else (0, 100)
theorem bucket_any (v n : Int) (w : World) : Calls Tryz.prog 24 #[.int .i64 v, .int .i64 n] w fun e w' => e = .returned (.tuple #[.int .i64 (bkt v n).1, .int .i64 (bkt v n).2]) ∧ Ext w w' := by
  by_cases hv : v = 1 ∨ v = 2
  · by_cases h0 : n < 0
    · rw [show bkt v n = (0, 1) by unfold bkt; rw [if_pos hv, if_pos h0]]
      exact bucket_arg v n w hv h0
    · by_cases h1 : 1048576 < n
      · rw [show bkt v n = (0, 2) by unfold bkt; rw [if_pos hv, if_neg h0, if_pos h1]]
        exact bucket_long v n w hv h1
      · rw [show bkt v n = (((bucket v.toNat n.toNat : Nat) : Int), (0 : Int)) by unfold bkt; rw [if_pos hv, if_neg h0, if_neg h1]]
        obtain ⟨m, rfl⟩ : ∃ m : Nat, n = m := ⟨n.toNat, by omega⟩
        rcases hv with rfl | rfl
        · exact bucket_ok1 m w (by omega)
        · exact bucket_ok2 m w (by omega)
  · rw [show bkt v n = (0, 100) by unfold bkt; rw [if_neg hv]]
    exact bucket_version v n w (by omega)
end Go.Proofs.YtehfoddnlecmjaaGreatDoor
