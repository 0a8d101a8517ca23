/- The contracts of package wire: numbers. -/
import Derived.Test.YtehfoddnlecmjaaGreatDoorBase
import Derived.Test.YtehfoddnlecmjaaGreatDoorPureWire
import Derived.Laws.BitsAllLaws
set_option linter.unusedVariables false
set_option linter.unusedSimpArgs false
namespace Go.Proofs.YtehfoddnlecmjaaGreatDoor
open Go.RowKit

theorem ret_int' {k : IntKind} {a b : Int} (h : a = b) : Ending.returned (.int k a) = .returned (.int k b) := by rw [h]
set_option maxRecDepth 100000 in
set_option maxHeartbeats 400000 in
theorem size_any (n : Nat) (w : World) (hn : n < 18446744073709551616) : Calls Tryz.prog 52 #[.int .u64 n] w fun e w' => e = .returned (.int .i64 (vsize n : Nat)) ∧ w = w' := by
  have hb : vsize n ≤ 10 := vsize_le10 hn
  go_enter Tryz.func52, Tryz.ntmps52
  go_wp2
  go_loop [0, 3] (fun a k => ∃ m j : Nat, m ≤ n ∧ a = .int .u64 m ∧ k = .int .i64 j ∧ j + vsize m = vsize n + 1) (fun a _ => (intOf a).toNat)
  case atStart => exact ⟨n, 1, by omega, rfl, rfl, by omega⟩
  case round =>
    obtain ⟨m, j, hm, rfl, rfl, hj⟩ := hrel
    have hp := vsize_pos m
    have hj2 : j ≤ 10 := by omega
    have HJ := Lib.hid hj
    clear hj
    by_cases hlt : m < 128
    · go_wp2
      go_ret
      exact ⟨ret_int' (by have := HJ.out; rw [vsize_lt hlt] at this; omega), rfl⟩
    · go_wp2
      go_round
      case rel => exact ⟨m / 128, j + 1, by omega, by go_num, by go_num, by have := HJ.out; rw [vsize_ge (by omega)] at this; omega⟩
      case measure => simp [intOf]; omega
theorem or_join {acc x k : Nat} (h : acc < 2 ^ k) (hx : x * 2 ^ k + acc < 18446744073709551616) : bits .or .u64 (acc : Int) (IntKind.u64.wrap ((x : Int) * 2 ^ k)) = ((acc + x * 2 ^ k : Nat) : Int) := by
  have e : ((x : Int) * 2 ^ k) = ((x * 2 ^ k : Nat) : Int) := by simp
  rw [e]
  have e2 : IntKind.u64.wrap ((x * 2 ^ k : Nat) : Int) = ((x * 2 ^ k : Nat) : Int) := by
    rw [IntKind.wrap_u64]; omega
  rw [e2, u64_or_nat _ _ (by omega) (by omega)]
  have := nat_join k (x * 2 ^ k) acc (by simp) h
  rw [Nat.or_comm, this, Nat.add_comm]
theorem pow_128 (j : Nat) : 128 ^ j = 2 ^ (7 * j) := by rw [Nat.pow_mul]
theorem ret_num {a a' : Int} {b b' : Int} {c c' : Int} (h1 : a = a') (h2 : b = b') (h3 : c = c') : Ending.returned (.tuple #[.int .u64 a, .int .i64 b, .int .i64 c]) = .returned (.tuple #[.int .u64 a', .int .i64 b', .int .i64 c']) := by rw [h1, h2, h3]
set_option maxRecDepth 100000 in
set_option maxHeartbeats 800000 in
theorem number_any (A : Option Addr) (c : Nat) (l : Bytes) (p : Nat) (w : World) (h : RB w A l) (hl : l.length ≤ 4611686018427387904) (hp : p ≤ l.length) :
    Calls Tryz.prog 88 #[.slice A l.length c, .int .i64 p] w fun e w' => e = .returned (.tuple #[.int .u64 (num l p).1, .int .i64 (num l p).2.1, .int .i64 (num l p).2.2]) ∧ w = w' := by
  have HN : Hid (num l p = numGo l p 10 0 0) := by unfold num; rw [if_neg (by omega)]; exact rfl
  have t1 : ¬ (p : Int) < 0 := by omega
  have t2 : ¬ (l.length : Int) < (p : Int) := by omega
  go_enter Tryz.func88, Tryz.ntmps88
  go_wp2
  go_loop [18, 7] (fun i a => ∃ j acc : Nat, j ≤ 10 ∧ p + j ≤ l.length ∧ i = .int .i64 j ∧ a = .int .u64 acc ∧ acc < 128 ^ j ∧ numGo l p (10 - j) j acc = num l p) (fun i _ => 10 - (intOf i).toNat)
  case atStart => exact ⟨0, 0, by omega, by omega, rfl, rfl, by omega, HN.out.symm⟩
  case round =>
    obtain ⟨j, acc, hj, hpj, rfl, rfl, hacc, hr⟩ := hrel
    have HR := Lib.hid hr
    have HA := Lib.hid hacc
    clear hr hacc
    by_cases h10 : j = 10
    · have HE : Hid (num l p = (0, 0, 70)) := by rw [← HR.out, h10]; exact rfl
      have h11 : ¬ j < 10 := by omega
      clear h10
      go_wp2
      go_ret3
      rw [HE.out]
      exact ⟨rfl, rfl⟩
    · by_cases hend : p + j = l.length
      · have HE : Hid (num l p = (0, 0, 73)) := by rw [← HR.out]; exact numGo_end (by omega) hend
        have e1 : ((p : Int) + (j : Int) == (l.length : Int)) = true := by simp; omega
        clear hend
        go_wp2
        go_ret3
        rw [HE.out]
        exact ⟨rfl, rfl⟩
      · have hlt : p + j < l.length := by omega
        obtain ⟨b, o, rfl, hc⟩ := h.at_ hlt
        have hcell := hc (p + j) hlt
        have HE : Hid _ := HR.out.symm.trans (numGo_at (by omega) hlt)
        have hx8 := u8_lt l[p + j]
        have e1 : ((p : Int) + (j : Int) == (l.length : Int)) = false := by simp; omega
        clear hc HR hend
        generalize l[p + j].toNat = x at *
        have HB : Hid (¬ (j = 9 ∧ 1 < x) → bits .or .u64 (acc : Int) (IntKind.u64.wrap ((x : Int) % 128 * 2 ^ (7 * j))) = ((acc + x % 128 * 128 ^ j : Nat) : Int) ∧ acc + x % 128 * 128 ^ j < 128 ^ (j + 1)) := by
          intro hn
          have hs : acc + x % 128 * 128 ^ j < 128 ^ (j + 1) := by
            have h1 : x % 128 * 128 ^ j ≤ 127 * 128 ^ j := Nat.mul_le_mul_right _ (by omega)
            have h2 : (128 : Nat) ^ (j + 1) = 128 ^ j * 128 := Nat.pow_succ ..
            have := HA.out
            omega
          have hs2 : acc + x % 128 * 128 ^ j < 18446744073709551616 := by
            by_cases h9 : j = 9
            · have h1 : x % 128 ≤ 1 := by omega
              have h2 : x % 128 * 128 ^ 9 ≤ 1 * 128 ^ 9 := Nat.mul_le_mul_right _ h1
              have := HA.out
              rw [h9] at this ⊢
              omega
            · have h3 : (128 : Nat) ^ (j + 1) ≤ 128 ^ 9 := Nat.pow_le_pow_right (by omega) (by omega)
              have h4 : (128 : Nat) ^ 9 < 18446744073709551616 := by decide
              omega
          refine ⟨?_, hs⟩
          have e : (x : Int) % 128 = ((x % 128 : Nat) : Int) := by omega
          rw [e, or_join (by rw [← pow_128]; exact HA.out) (by rw [← pow_128]; omega), ← pow_128]
        clear HA
        by_cases h9 : j = 9
        · subst h9
          by_cases hx1 : 1 < x
          · go_wp2
            go_ret3
            rw [HE.out, if_pos (by simp; omega)]
            exact ⟨rfl, rfl⟩
          · by_cases hx0 : x = 0
            · subst hx0
              go_wp2
              go_ret3
              rw [HE.out, if_neg (by omega), if_pos (by simp)]
              exact ⟨rfl, rfl⟩
            · obtain rfl : x = 1 := by omega
              have hb := HB.out (by omega)
              have HB1 := Lib.hid hb.1
              clear HB hb
              go_wp2
              go_ret3
              rw [HE.out, if_neg (by omega), if_neg (by omega), if_pos (by omega)]
              exact ⟨ret_num HB1.out (by dsimp only; omega) rfl, rfl⟩
        · have hj9 : j < 9 := by omega
          by_cases hx0 : 0 < j ∧ x = 0
          · obtain ⟨hj0, rfl⟩ := hx0
            go_wp2
            go_ret3
            rw [HE.out, if_neg (by omega), if_pos (by simp; omega)]
            exact ⟨rfl, rfl⟩
          · have hb := HB.out (by omega)
            have HB1 := Lib.hid hb
            have hz : 0 < j → ((x : Int) == 0) = false := by intro h; simp; omega
            clear HB hb
            go_wp2
            all_goals first
              | (go_ret3
                 rw [HE.out, if_neg (by omega), if_neg hx0, if_pos (by omega)]
                 exact ⟨ret_num HB1.out.1 (by dsimp only; omega) rfl, rfl⟩)
              | (refine ⟨⟨j + 1, acc + x % 128 * 128 ^ j, by omega, by omega, by go_num, by rw [HB1.out.1], HB1.out.2, ?_⟩, by simp [intOf]; omega⟩
                 rw [HE.out, if_neg (by omega), if_neg hx0, if_neg (by omega)])

theorem maxLen_eq : maxLen = 9223372036854775807 := rfl
/-! add: a number behind a row of the call's own. -/
set_option maxRecDepth 100000 in
set_option maxHeartbeats 800000 in
theorem add_any (base : Nat) (v : Value) (l : Bytes) (n : Nat) (w : World) (hv : OB w base v l) (hb : base ≤ w.heap.size) (hl : l.length ≤ 1099511627776) (hn : n < 18446744073709551616) :
    Calls Tryz.prog 50 #[v, .int .u64 n] w fun e w' => ∃ v', e = .returned v' ∧ OB w' base v' (l ++ vint n) ∧ w.grownBy w' v.ownBlock ∧ (v'.ownBlock = v.ownBlock ∨ ∃ k, v'.ownBlock = some k ∧ w.heap.size ≤ k) := by
  go_enter Tryz.func50, Tryz.ntmps50
  go_wp2
  go_loopw [0, 1] (fun s a wr => ∃ (m : Nat) (l1 : Bytes), m ≤ n ∧ a = .int .u64 m ∧ OB wr base s l1 ∧ l1.length + vsize m = l.length + vsize n ∧ l1 ++ vint m = l ++ vint n ∧ w.grownBy wr v.ownBlock ∧ (s.ownBlock = v.ownBlock ∨ ∃ k, s.ownBlock = some k ∧ w.heap.size ≤ k)) (fun _ a _ => (intOf a).toNat)
  case atStart => exact ⟨n, l, Nat.le_refl _, rfl, hv, rfl, rfl, World.grownBy.refl _ _, .inl rfl⟩
  case round =>
    obtain ⟨m, l1, hm, rfl, ho, hlen, hcat, hg, hat⟩ := hrel
    have hbr : base ≤ wr.heap.size := Nat.le_trans hb hg.size
    have ho' : wr.ownsRow base 5 1 u0 l1.length (cb l1) := ho
    have hp := vsize_pos m
    have hle : l1.length ≤ 1099511627786 := by have := vsize_le10 hn; omega
    have HL := Lib.hid hlen
    have HC := Lib.hid hcat
    clear hlen hcat
    by_cases hlt : m < 128
    · have hx8 : (b8 m).toNat = m := b8_toNat (by omega)
      have HX := Lib.hid hx8
      clear hx8
      go_wp2_with (at_builtin; go_must (refine wpList_app1 rfl (.tmp 16) (.tmp 19) rfl Tryz.underlying22 u8_info rfl (by decide) (by rfl) ho' #[.int .u8 m] (0, 0) rfl (by simp [Value.oneCell']) 1 rfl (by rw [maxLen_eq]; omega) (by omega) hbr ?_); intro v1 w1 ho1 hg1 hat1)
      go_ret
      refine ⟨v1, rfl, ?_, grown_then hg hg1 (fun j hj => ?_), ?_⟩
      · rw [← HC.out, vint_lt hlt]
        unfold OB
        rw [cb_append]
        simpa [cb, HX.out] using ho1
      · rcases hat with h | ⟨k, h, hk⟩
        · exact .inl (h ▸ hj)
        · rw [h] at hj; cases hj; exact .inr hk
      · have := hg.size
        rcases hat1 with h | ⟨k, h, hk⟩
        · rw [h]; exact hat
        · exact .inr ⟨k, h, by omega⟩
    · have hx8 : (b8 (m % 128 + 128)).toNat = m % 128 + 128 := b8_toNat (by omega)
      have HX := Lib.hid hx8
      clear hx8
      have hm2 : m % 128 < 128 := Nat.mod_lt _ (by omega)
      go_wp2_with (at_builtin; go_must (refine wpList_app1 rfl (.tmp 9) (.tmp 14) rfl Tryz.underlying22 u8_info rfl (by decide) (by rfl) ho' #[.int .u8 (m % 128 + 128)] (0, 0) rfl (by simp [Value.oneCell']) 1 rfl (by rw [maxLen_eq]; omega) (by omega) hbr ?_); intro v1 w1 ho1 hg1 hat1)
      go_roundw
      case rel =>
        refine ⟨m / 128, l1 ++ [b8 (m % 128 + 128)], by omega, by go_num, ?_, ?_, ?_, grown_then hg hg1 (fun j hj => ?_), ?_⟩
        · unfold OB
          rw [cb_append]
          simpa [cb, HX.out] using ho1
        · have := HL.out
          rw [vsize_ge (by omega)] at this
          simp
          omega
        · rw [← HC.out, vint_ge (n := m) (by omega)]
          simp
        · rcases hat with h | ⟨k, h, hk⟩
          · exact .inl (h ▸ hj)
          · rw [h] at hj; cases hj; exact .inr hk
        · have := hg.size
          rcases hat1 with h | ⟨k, h, hk⟩
          · rw [h]; exact hat
          · exact .inr ⟨k, h, by omega⟩
      case measure => simp [intOf]; omega
end Go.Proofs.YtehfoddnlecmjaaGreatDoor
