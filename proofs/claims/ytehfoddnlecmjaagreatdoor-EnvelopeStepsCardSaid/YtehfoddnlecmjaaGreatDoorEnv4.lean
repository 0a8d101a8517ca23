/- The contracts of package envelope: isBody. -/
import Derived.Test.YtehfoddnlecmjaaGreatDoorEnv3
set_option linter.unusedVariables false
set_option linter.unusedSimpArgs false
namespace Go.Proofs.YtehfoddnlecmjaaGreatDoor
open Go.RowKit

/-- Has a body's box a bucket's size? -/
def inBody (v n : Nat) : Bool := decide (16 ≤ n) && decide (bkGo v 64 (min (n - 16) (mostB v)) = n - 16)
theorem bkGo_ge (v b m : Nat) (hb : 1 ≤ b) : b ≤ bkGo v b m := (bkGo_lt (m - b) v b m (Nat.le_refl _) hb).2.1
set_option maxRecDepth 100000 in
set_option maxHeartbeats 1600000 in
theorem isBody_1 (n : Nat) (w : World) (hn : n ≤ 4611686018427387904) : Calls Tryz.prog 40 #[.int .i64 1, .int .i64 n] w fun e w' => e = .returned (.bool (inBody 1 n)) ∧ Ext w w' := by
  have E1 := eqNil_1
  have hm := mostB_le 1
  have hb : bkt 1 1048576 = (((mostB 1 : Nat) : Int), (0 : Int)) := by
    unfold bkt
    rw [if_pos (by omega), if_neg (by decide), if_neg (by decide)]
    rfl
  have HB := Lib.hid hb
  clear hb
  go_enter Tryz.func40, Tryz.ntmps40
  go_wp2_with fail
  refine (grows_any _ _).mono ?_
  rintro e w1 ⟨rfl, hx⟩
  rw [growsV_1]
  go_wp2_with fail
  refine (bucket_any 1 1048576 _).mono ?_
  rintro e w2 ⟨rfl, hx2⟩
  rw [HB.out]
  go_wp2
  go_loopw [8] (fun a wr => ∃ b : Nat, 64 ≤ b ∧ b ≤ 4194400 ∧ a = .int .i64 b ∧ Hid (bkGo 1 b (min (n - 16) (mostB 1)) = bkGo 1 64 (min (n - 16) (mostB 1))) ∧ Ext w wr) (fun a wr => 4194400 - (intOf a).toNat)
  case atStart => exact ⟨64, by omega, by omega, rfl, Lib.hid rfl, hx.trans hx2⟩
  case round =>
    obtain ⟨b, hb, hb2, rfl, HR, hxr⟩ := hrel
    by_cases hlt : b < min (n - 16) (mostB 1)
    · have h1 := next_gt (v := 1) (b := b) (by omega)
      have h2 := next_le (v := 1) (b := b) (by omega)
      have HS := Lib.hid (bkGo_step (v := 1) (by omega) hlt)
      have k1 : (b : Int) < (n : Int) - 16 := by omega
      have k2 : (b : Int) < ((mostB 1 : Nat) : Int) := by omega
      clear hlt
      go_wp2_with (go_at_call 65; refine (grows1_any _ _ (by omega)).mono ?_; rintro e w3 ⟨rfl, rfl⟩)
      go_roundw
      case rel => exact ⟨next 1 b, by omega, by omega, rfl, Lib.hid (by rw [← HR.out, HS.out]), hxr⟩
      case measure => simp [intOf]; omega
    · have HS : Hid (inBody 1 n = decide ((b : Int) = (n : Int) - 16)) := by
        exact (by
          have h3 : bkGo 1 64 (min (n - 16) (mostB 1)) = b := by rw [← HR.out, bkGo_stop hlt]
          unfold inBody
          rw [h3]
          by_cases h : 16 ≤ n
          · simp [h]; omega
          · simp [h]; omega : inBody 1 n = decide ((b : Int) = (n : Int) - 16))
      by_cases k1 : (b : Int) < (n : Int) - 16
      · have k2 : ((mostB 1 : Nat) : Int) ≤ (b : Int) := by omega
        clear hlt
        go_wp2
        go_ret
        rw [HS.out]
        refine ⟨?_, hxr⟩
        congr 2
      · have k2 : (n : Int) - 16 ≤ (b : Int) := by omega
        clear hlt
        go_wp2
        go_ret
        rw [HS.out]
        refine ⟨?_, hxr⟩
        congr 2
set_option maxRecDepth 100000 in
set_option maxHeartbeats 1600000 in
theorem isBody_2 (n : Nat) (w : World) (hn : n ≤ 4611686018427387904) : Calls Tryz.prog 40 #[.int .i64 2, .int .i64 n] w fun e w' => e = .returned (.bool (inBody 2 n)) ∧ Ext w w' := by
  have E1 := eqNil_2
  have hm := mostB_le 2
  have hb : bkt 2 1048576 = (((mostB 2 : Nat) : Int), (0 : Int)) := by
    unfold bkt
    rw [if_pos (by omega), if_neg (by decide), if_neg (by decide)]
    rfl
  have HB := Lib.hid hb
  clear hb
  go_enter Tryz.func40, Tryz.ntmps40
  go_wp2_with fail
  refine (grows_any _ _).mono ?_
  rintro e w1 ⟨rfl, hx⟩
  rw [growsV_2]
  go_wp2_with fail
  refine (bucket_any 2 1048576 _).mono ?_
  rintro e w2 ⟨rfl, hx2⟩
  rw [HB.out]
  go_wp2
  go_loopw [8] (fun a wr => ∃ b : Nat, 64 ≤ b ∧ b ≤ 4194400 ∧ a = .int .i64 b ∧ Hid (bkGo 2 b (min (n - 16) (mostB 2)) = bkGo 2 64 (min (n - 16) (mostB 2))) ∧ Ext w wr) (fun a wr => 4194400 - (intOf a).toNat)
  case atStart => exact ⟨64, by omega, by omega, rfl, Lib.hid rfl, hx.trans hx2⟩
  case round =>
    obtain ⟨b, hb, hb2, rfl, HR, hxr⟩ := hrel
    by_cases hlt : b < min (n - 16) (mostB 2)
    · have h1 := next_gt (v := 2) (b := b) (by omega)
      have h2 := next_le (v := 2) (b := b) (by omega)
      have HS := Lib.hid (bkGo_step (v := 2) (by omega) hlt)
      have k1 : (b : Int) < (n : Int) - 16 := by omega
      have k2 : (b : Int) < ((mostB 2 : Nat) : Int) := by omega
      clear hlt
      go_wp2_with (go_at_call 66; refine (grows2_any _ _ (by omega) (by omega)).mono ?_; rintro e w3 ⟨rfl, rfl⟩)
      go_roundw
      case rel => exact ⟨next 2 b, by omega, by omega, rfl, Lib.hid (by rw [← HR.out, HS.out]), hxr⟩
      case measure => simp [intOf]; omega
    · have HS : Hid (inBody 2 n = decide ((b : Int) = (n : Int) - 16)) := by
        exact (by
          have h3 : bkGo 2 64 (min (n - 16) (mostB 2)) = b := by rw [← HR.out, bkGo_stop hlt]
          unfold inBody
          rw [h3]
          by_cases h : 16 ≤ n
          · simp [h]; omega
          · simp [h]; omega : inBody 2 n = decide ((b : Int) = (n : Int) - 16))
      by_cases k1 : (b : Int) < (n : Int) - 16
      · have k2 : ((mostB 2 : Nat) : Int) ≤ (b : Int) := by omega
        clear hlt
        go_wp2
        go_ret
        rw [HS.out]
        refine ⟨?_, hxr⟩
        congr 2
      · have k2 : (n : Int) - 16 ≤ (b : Int) := by omega
        clear hlt
        go_wp2
        go_ret
        rw [HS.out]
        refine ⟨?_, hxr⟩
        congr 2
end Go.Proofs.YtehfoddnlecmjaaGreatDoor
