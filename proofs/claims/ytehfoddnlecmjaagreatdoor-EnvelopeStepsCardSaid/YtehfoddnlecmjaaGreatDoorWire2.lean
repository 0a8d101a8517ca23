/- The contracts of package wire: fields. -/
import Derived.Test.YtehfoddnlecmjaaGreatDoorWire1
import Derived.Test.YtehfoddnlecmjaaGreatDoorPureFld
import Derived.Deep.RegionHeld3
set_option linter.unusedVariables false
set_option linter.unusedSimpArgs false
namespace Go.Proofs.YtehfoddnlecmjaaGreatDoor
open Go.RowKit

/-- A field by value. -/
def fldV (f : Fld) (A : Option Addr) (c : Nat) : Value := .agg #[.int .i64 f.no, .int .i64 f.ty, .int .u64 f.num, .slice A f.data.length c]
theorem f_info : ElemInfo Tryz.prog 60 (.agg #[.int .i64 0, .int .i64 0, .int .u64 0, .slice none 0 0]) 4 48 := by unfold ElemInfo; kernel_rfl
set_option maxRecDepth 100000 in
set_option maxHeartbeats 400000 in
theorem of_any (f : Fld) (A : Option Addr) (c : Nat) (w : World) (h1 : f.no < 4294967296) (h2 : f.ty < 4294967296) :
    Calls Tryz.prog 129 #[fldV f A c] w fun e w' => e = .returned (.int .u64 (8 * f.no + f.ty : Nat)) ∧ Ext w w' := by
  unfold fldV
  go_enter Tryz.func129, Tryz.ntmps129
  go_wp2
  go_ret
  exact ⟨ret_int' (by simp), (Ext.refl _).alloc _⟩
set_option maxRecDepth 100000 in
set_option maxHeartbeats 800000 in
theorem wrong_any (f : Fld) (A : Option Addr) (c : Nat) (last : Nat) (w : World) (h1 : f.no < 4294967296) (h2 : f.ty < 4294967296) (h3 : f.num < 18446744073709551616) :
    Calls Tryz.prog 89 #[fldV f A c, .int .i64 last] w fun e w' => e = .returned (.int .i64 (wrong f last)) ∧ Ext w w' := by
  obtain ⟨no, ty, num, data⟩ := f
  simp only [fldV, wrong] at *
  generalize data.length = n
  by_cases c1 : no < 1 ∨ 536870911 < no ∨ no ≤ last
  · rw [if_pos c1]
    rcases c1 with c1 | c1 | c1
    all_goals
      go_enter Tryz.func89, Tryz.ntmps89
      go_wp2
      all_goals
        go_ret
        exact ⟨rfl, (Ext.refl _).alloc _⟩
  · rw [if_neg c1]
    have k1 : 1 ≤ no := by omega
    have k2 : no ≤ 536870911 := by omega
    have k3 : last < no := by omega
    clear c1
    by_cases c2 : ty = 2
    · rw [if_pos c2]
      subst c2
      by_cases c3 : num ≠ 0
      · rw [if_pos c3]
        have k4 : 0 < num := by omega
        have k5 : ((num : Int) != 0) = true := by simp; omega
        clear c3
        go_enter Tryz.func89, Tryz.ntmps89
        go_wp2
        go_ret
        exact ⟨rfl, (Ext.refl _).alloc _⟩
      · rw [if_neg c3]
        obtain rfl : num = 0 := by omega
        clear c3 h3
        go_enter Tryz.func89, Tryz.ntmps89
        go_wp2
        go_ret
        exact ⟨rfl, (Ext.refl _).alloc _⟩
    · rw [if_neg c2]
      have q2 : ((ty : Int) == 2) = false := by simp; omega
      by_cases c3 : ty = 0 ∨ ty = 1 ∨ ty = 5
      · rw [if_pos c3]
        by_cases c4 : 0 < n
        · rw [if_pos (.inl c4)]
          rcases c3 with rfl | rfl | rfl
          all_goals
            clear c2 q2 h3
            go_enter Tryz.func89, Tryz.ntmps89
            go_wp2
            go_ret
            exact ⟨rfl, (Ext.refl _).alloc _⟩
        · by_cases c5 : ty = 5 ∧ 4294967296 ≤ num
          · rw [if_pos (.inr c5)]
            obtain ⟨rfl, c6⟩ := c5
            have k6 : decide ((4294967296 : Int) ≤ (num : Int)) = true := by simp; omega
            clear c2 q2 c3 c6
            go_enter Tryz.func89, Tryz.ntmps89
            go_wp2
            go_ret
            exact ⟨rfl, (Ext.refl _).alloc _⟩
          · rw [if_neg (by omega)]
            rcases c3 with rfl | rfl | rfl
            · clear c5 c2 q2
              go_enter Tryz.func89, Tryz.ntmps89
              go_wp2
              go_ret
              exact ⟨rfl, (Ext.refl _).alloc _⟩
            · clear c5 c2 q2
              go_enter Tryz.func89, Tryz.ntmps89
              go_wp2
              go_ret
              exact ⟨rfl, (Ext.refl _).alloc _⟩
            · have k6 : decide ((4294967296 : Int) ≤ (num : Int)) = false := by simp; omega
              clear c5 c2 q2 h3
              go_enter Tryz.func89, Tryz.ntmps89
              go_wp2
              go_ret
              exact ⟨rfl, (Ext.refl _).alloc _⟩
      · rw [if_neg c3]
        have q0 : ((ty : Int) == 0) = false := by simp; omega
        have q1 : ((ty : Int) == 1) = false := by simp; omega
        have q5 : ((ty : Int) == 5) = false := by simp; omega
        clear c2 c3
        go_enter Tryz.func89, Tryz.ntmps89
        go_wp2
        go_ret
        exact ⟨rfl, (Ext.refl _).alloc _⟩
set_option maxRecDepth 100000 in
set_option maxHeartbeats 800000 in
theorem fixed_any (base : Nat) (v : Value) (l : Bytes) (n k : Nat) (w : World) (hv : OB w base v l) (hb : base ≤ w.heap.size) (hl : l.length ≤ 1099511627776) (hn : n < 18446744073709551616) (hk : k ≤ 8) :
    Calls Tryz.prog 130 #[v, .int .u64 n, .int .i64 k] w fun e w' => ∃ v', e = .returned v' ∧ OB w' base v' (l ++ low k n) ∧ w.grownBy w' v.ownBlock ∧ (v'.ownBlock = v.ownBlock ∨ ∃ k, v'.ownBlock = some k ∧ w.heap.size ≤ k) := by
  go_enter Tryz.func130, Tryz.ntmps130
  go_wp2
  go_loopw [0, 1, 8] (fun s a i wr => ∃ (m j : Nat) (l1 : Bytes), m ≤ n ∧ j ≤ k ∧ a = .int .u64 m ∧ i = .int .i64 j ∧ OB wr base s l1 ∧ l1.length = l.length + j ∧ l1 ++ low (k - j) m = l ++ low k n ∧ w.grownBy wr v.ownBlock ∧ (s.ownBlock = v.ownBlock ∨ ∃ k, s.ownBlock = some k ∧ w.heap.size ≤ k)) (fun _ _ i _ => k - (intOf i).toNat)
  case atStart => exact ⟨n, 0, l, Nat.le_refl _, by omega, rfl, rfl, hv, rfl, rfl, World.grownBy.refl _ _, .inl rfl⟩
  case round =>
    obtain ⟨m, j, l1, hm, hj, rfl, rfl, ho, hlen, hcat, hg, hat⟩ := hrel
    have hbr : base ≤ wr.heap.size := Nat.le_trans hb hg.size
    have ho' : wr.ownsRow base 5 1 u0 l1.length (cb l1) := ho
    have hle : l1.length ≤ 1099511627786 := by omega
    have HL := Lib.hid hlen
    have HC := Lib.hid hcat
    clear hlen hcat
    by_cases hlt : j < k
    · have hx8 : (b8 (m % 256)).toNat = m % 256 := b8_toNat (by omega)
      have HX := Lib.hid hx8
      clear hx8
      go_wp2_with (at_builtin; go_must (refine wpList_app1 rfl (.tmp 10) (.tmp 13) rfl Tryz.underlying22 u8_info rfl (by decide) (by rfl) ho' #[.int .u8 (m % 256)] (0, 0) rfl (by simp [Value.oneCell']) 1 rfl (by rw [maxLen_eq]; omega) (by omega) hbr ?_); intro v1 w1 ho1 hg1 hat1)
      go_roundw
      case rel =>
        refine ⟨m / 256, j + 1, l1 ++ [b8 (m % 256)], by omega, by omega, by go_num, by go_num, ?_, ?_, ?_, grown_then hg hg1 (fun j hj => ?_), ?_⟩
        · unfold OB
          rw [cb_append]
          simpa [cb, HX.out] using ho1
        · have := HL.out
          simp
          omega
        · rw [← HC.out]
          obtain ⟨d, hd⟩ : ∃ d, k - j = d + 1 := ⟨k - j - 1, by omega⟩
          rw [hd, show k - (j + 1) = d by omega, low]
          simp
        · rcases hat with h | ⟨k, h, hk⟩
          · exact .inl (h ▸ hj)
          · rw [h] at hj; cases hj; exact .inr hk
        · have := hg.size
          rcases hat1 with h | ⟨k, h, hk⟩
          · rw [h]; exact hat
          · exact .inr ⟨k, h, by omega⟩
      case measure => simp [intOf]; omega
    · go_wp2
      go_ret
      refine ⟨u0, rfl, ?_, hg, hat⟩
      have hjk : k - j = 0 := by omega
      have := HC.out
      rw [hjk] at this
      rw [← this]
      simpa [low] using ho
end Go.Proofs.YtehfoddnlecmjaaGreatDoor
