/- The contracts of package wire: a field read. -/
import Derived.Test.YtehfoddnlecmjaaGreatDoorWire4
import Derived.Test.YtehfoddnlecmjaaGreatDoorPureWalk
set_option linter.unusedVariables false
set_option linter.unusedSimpArgs false
namespace Go.Proofs.YtehfoddnlecmjaaGreatDoor
open Go.RowKit

theorem ret_head {f f' : Value} {a a' b b' : Int} (h0 : f = f') (h1 : a = a') (h2 : b = b') : Ending.returned (.tuple #[f, .int .i64 a, .int .i64 b]) = .returned (.tuple #[f', .int .i64 a', .int .i64 b']) := by rw [h0, h1, h2]
/-- What 'head' hands back. -/
def headV (r : Nat × Nat × Nat × Nat) : Value := .tuple #[.agg #[.int .i64 r.1, .int .i64 r.2.1, .int .u64 0, .slice none 0 0], .int .i64 r.2.2.1, .int .i64 r.2.2.2]
set_option maxRecDepth 100000 in
set_option maxHeartbeats 1600000 in
theorem head_any (A : Option Addr) (c : Nat) (l : Bytes) (p count last : Nat) (w : World) (h : RB w A l) (hl : l.length ≤ 4611686018427387904) (hp : p ≤ l.length) (hc : count ≤ 64) :
    Calls Tryz.prog 69 #[.slice A l.length c, .int .i64 p, .int .i64 count, .int .i64 last] w fun e w' => e = .returned (headV (headR l p count last)) ∧ Ext w w' := by
  obtain ⟨hn1, hn2, hn3, hn4⟩ := num_ok hp
  by_cases c1 : (num l p).2.2 ≠ 0
  · have HE : Hid (headR l p count last = (0, 0, p, (num l p).2.2)) := by exact (by unfold headR; rw [if_pos c1] : headR l p count last = (0, 0, p, (num l p).2.2))
    have t1 : (((num l p).2.2 : Int) != 0) = true := by simp; omega
    clear c1 hn4
    go_enter Tryz.func69, Tryz.ntmps69
    go_wp2_with fail
    refine (number_any A c l p _ (h.ext ((Ext.refl _).alloc _)) hl hp).mono ?_
    rintro e w1 ⟨rfl, rfl⟩
    go_wp2
    refine bodyPost_ret (v := headV (0, 0, p, (num l p).2.2)) (by simp [results, Tryz.results69, go_sem, headV]) rfl ⟨by rw [HE.out], (Ext.refl _).alloc _⟩
  · have e0 : (num l p).2.2 = 0 := by omega
    have HE0 := Lib.hid e0
    by_cases c2 : count = 64
    · have HE : Hid (headR l p count last = (0, 0, p, 2)) := by exact (by unfold headR; rw [if_neg c1, if_pos c2] : headR l p count last = (0, 0, p, 2))
      subst c2
      clear c1 hn4 e0 hn3
      go_enter Tryz.func69, Tryz.ntmps69
      go_wp2_with fail
      refine (number_any A c l p _ (h.ext ((Ext.refl _).alloc _)) hl hp).mono ?_
      rintro e w1 ⟨rfl, rfl⟩
      rw [HE0.out]
      go_wp2
      refine bodyPost_ret (v := headV (0, 0, p, 2)) (by simp [results, Tryz.results69, go_sem, headV]) rfl ⟨by rw [HE.out], (Ext.refl _).alloc _⟩
    · have c2' : ((count : Int) == 64) = false := by simp; omega
      have hq : ((num l p).1 : Int) / 8 ≤ 2305843009213693951 := by omega
      have hq0 : 0 ≤ ((num l p).1 : Int) / 8 := by omega
      by_cases c3 : (num l p).1 / 8 < 1 ∨ 536870911 < (num l p).1 / 8 ∨ (num l p).1 / 8 ≤ last
      · have HE : Hid (headR l p count last = (0, 0, p, 71)) := by exact (by unfold headR; rw [if_neg c1, if_neg c2, if_pos c3] : headR l p count last = (0, 0, p, 71))
        clear c1 hn4 e0 hn3 c2
        rcases c3 with c3 | c3 | c3
        all_goals
          go_enter Tryz.func69, Tryz.ntmps69
          go_wp2_with fail
          refine (number_any A c l p _ (h.ext ((Ext.refl _).alloc _)) hl hp).mono ?_
          rintro e w1 ⟨rfl, rfl⟩
          rw [HE0.out]
          clear hn1
          go_wp2
          all_goals refine bodyPost_ret (v := headV (0, 0, p, 71)) (by simp [results, Tryz.results69, go_sem, headV]) rfl ⟨by rw [HE.out], (Ext.refl _).alloc _⟩
      · have k1 : 1 ≤ (num l p).1 / 8 := by omega
        have k2 : (num l p).1 / 8 ≤ 536870911 := by omega
        have k3 : last < (num l p).1 / 8 := by omega
        have hw := fun W => wrong_any ⟨(num l p).1 / 8, (num l p).1 % 8, 0, []⟩ none 0 last W (by simp only; omega) (by simp only; omega) (by simp)
        simp only [fldV] at hw
        by_cases c4 : wrong ⟨(num l p).1 / 8, (num l p).1 % 8, 0, []⟩ last ≠ 0
        · have HE : Hid (headR l p count last = (0, 0, p, wrong ⟨(num l p).1 / 8, (num l p).1 % 8, 0, []⟩ last)) := by exact (by unfold headR; rw [if_neg c1, if_neg c2, if_neg c3, if_pos c4] : headR l p count last = (0, 0, p, wrong ⟨(num l p).1 / 8, (num l p).1 % 8, 0, []⟩ last))
          have t1 : ((wrong ⟨(num l p).1 / 8, (num l p).1 % 8, 0, []⟩ last : Int) != 0) = true := by simp; omega
          have HW := Lib.hid hw
          clear c1 hn4 e0 hn3 c2 c3 c4 hw hn1
          go_enter Tryz.func69, Tryz.ntmps69
          go_wp2_with fail
          refine (number_any A c l p _ (h.ext ((Ext.refl _).alloc _)) hl hp).mono ?_
          rintro e w1 ⟨rfl, rfl⟩
          rw [HE0.out]
          go_wp2_with fail
          refine (HW.out _).mono ?_
          rintro e w1 ⟨rfl, hx⟩
          have hb := hx.heap (old_blk (new_blk w _) _)
          obtain ⟨b0, b1, b2, b3, f0, f1, f2, f3⟩ := blk4 hb
          have hE : Ext w w1 := (((Ext.refl w).alloc _).alloc _).trans hx
          go_wp2
          refine bodyPost_ret (v := headV (0, 0, p, wrong ⟨(num l p).1 / 8, (num l p).1 % 8, 0, []⟩ last)) (by simp [results, Tryz.results69, go_sem, headV, b0, b1, b2, b3]) rfl
            ⟨by rw [HE.out], (((hE.setCell (Nat.le_refl _) _).setCell (Nat.le_refl _) _).setCell (Nat.le_refl _) _).setCell (Nat.le_refl _) _⟩
        · have HE : Hid (headR l p count last = ((num l p).1 / 8, (num l p).1 % 8, (num l p).2.1, 0)) := by exact (by unfold headR; rw [if_neg c1, if_neg c2, if_neg c3, if_neg c4] : headR l p count last = ((num l p).1 / 8, (num l p).1 % 8, (num l p).2.1, 0))
          have c5 : wrong ⟨(num l p).1 / 8, (num l p).1 % 8, 0, []⟩ last = 0 := by omega
          rw [c5] at hw
          have HW := Lib.hid hw
          clear c1 hn4 e0 hn3 c2 c3 c4 c5 hw hn1
          go_enter Tryz.func69, Tryz.ntmps69
          go_wp2_with fail
          refine (number_any A c l p _ (h.ext ((Ext.refl _).alloc _)) hl hp).mono ?_
          rintro e w1 ⟨rfl, rfl⟩
          rw [HE0.out]
          go_wp2_with fail
          refine (HW.out _).mono ?_
          rintro e w1 ⟨rfl, hx⟩
          have hb := hx.heap (old_blk (new_blk w _) _)
          obtain ⟨b0, b1, b2, b3, f0, f1, f2, f3⟩ := blk4 hb
          have hb' := hx.heap (new_blk (w.alloc _) _)
          rw [World.size_alloc] at hb'
          obtain ⟨d0, d1, d2, d3, _, _, _, _⟩ := blk4 hb'
          have hE : Ext w w1 := (((Ext.refl w).alloc _).alloc _).trans hx
          go_wp2
          refine bodyPost_ret (v := headV ((num l p).1 / 8, (num l p).1 % 8, (num l p).2.1, 0)) (by simp [results, Tryz.results69, go_sem, headV, b0, b1, b2, b3]) rfl
            ⟨by rw [HE.out], (((hE.setCell (Nat.le_refl _) _).setCell (Nat.le_refl _) _).setCell (Nat.le_refl _) _).setCell (Nat.le_refl _) _⟩
end Go.Proofs.YtehfoddnlecmjaaGreatDoor
