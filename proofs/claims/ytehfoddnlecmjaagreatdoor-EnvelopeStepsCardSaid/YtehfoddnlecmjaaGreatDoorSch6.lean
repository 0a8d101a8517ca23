/- The contracts of package schema: a schema compiled; giving up. -/
import Derived.Test.YtehfoddnlecmjaaGreatDoorSch5
set_option linter.unusedVariables false
set_option linter.unusedSimpArgs false
namespace Go.Proofs.YtehfoddnlecmjaaGreatDoor
open Go.RowKit

set_option maxRecDepth 100000 in
theorem Compile_flat (A : Option Addr) (c : Nat) (ss : List Sl) (w : World) (h : SRd w A ss) (hA : ∀ a, A = some a → a.block < w.heap.size) (hg : okS ss) (hm : (spanS ss ss.length).2 ≤ 4194304) :
    Calls Tryz.prog 54 #[.slice A ss.length c] w fun e w' => ∃ C xs, e = .returned (.tuple #[.pointer (some ⟨C, 0, none⟩), .int .i64 0]) ∧ CodecAt w' C C xs ∧ xs.map (·.1) = ss ∧ Ext w w' ∧ w.heap.size ≤ C := by
  have HM := Lib.hid hm
  have HG := Lib.hid hg
  clear hm hg
  go_enter Tryz.func54, Tryz.ntmps54
  go_wp2_with fail
  refine (valid_flat A c ss _ h hA HG.out HM.out).mono ?_
  rintro e w1 ⟨rfl, hx1⟩
  go_wp2_with fail
  refine (compile_flat A c ss _ (h.ext hx1) (fun a e => by have := hA a e; have := hx1.size; omega) HG.out).mono ?_
  rintro e w2 ⟨xs, rfl, hc, hxs, hx2⟩
  go_wp2
  go_ret2
  exact ⟨_, xs, rfl, hc, hxs, hx1.trans hx2, hx1.size⟩
/-- A fault. -/
def faultC (line at_ why : Int) : Value := .agg #[.int .i64 line, .int .i64 at_, .int .i64 why]
set_option maxRecDepth 100000 in
theorem give_any (line at_ why : Int) (w : World) : Calls Tryz.prog 93 #[.int .i64 line, .int .i64 at_, .int .i64 why] w fun e w' => e = .panicked [{ v := .iface 34 (faultC line at_ why), recovered := false }] ∧ w' = w := by
  go_enter Tryz.func93, Tryz.ntmps93
  go_wp2
  exact ⟨rfl, rfl, rfl⟩
set_option maxRecDepth 100000 in
theorem bad_num (a b n : Nat) (D P : Option Addr) (dl cd pl cp : Nat) (items : Int) (w : World) :
    Calls Tryz.prog 111 #[.iface 198 (.agg #[.int .u64 a, .int .u64 b]), .agg #[.int .u64 n, .slice D dl cd, .slice P pl cp], .int .i64 items] w fun e w' => e = .returned (.int .i64 (withinN n a b)) ∧ Ext w w' := by
  go_enter Tryz.func111, Tryz.ntmps111
  go_wp2_with fail
  refine (within_any n a b _).mono ?_
  rintro e w1 ⟨rfl, rfl⟩
  go_wp2
  go_ret
  exact ⟨rfl, ((Ext.refl _).alloc _).alloc _⟩
set_option maxRecDepth 100000 in
theorem bad_data (a b n : Nat) (D P : Option Addr) (dl cd pl cp : Nat) (items : Int) (w : World) (hdl : dl ≤ 4611686018427387904) :
    Calls Tryz.prog 111 #[.iface 204 (.agg #[.int .u64 a, .int .u64 b, .bool false]), .agg #[.int .u64 n, .slice D dl cd, .slice P pl cp], .int .i64 items] w fun e w' => e = .returned (.int .i64 (withinN dl a b)) ∧ Ext w w' := by
  go_enter Tryz.func111, Tryz.ntmps111
  go_wp2_with fail
  refine (within_any dl a b _).mono ?_
  rintro e w1 ⟨rfl, rfl⟩
  by_cases c : withinN dl a b = 0
  · have HE := Lib.hid c
    rw [HE.out]
    clear c
    go_wp2
    go_ret
    exact ⟨by rw [HE.out]; rfl, ((Ext.refl _).alloc _).alloc _⟩
  · have t : (((withinN dl a b : Nat) : Int) != 0) = true := by simp; exact c
    go_wp2
    go_ret
    exact ⟨rfl, ((Ext.refl _).alloc _).alloc _⟩
/-- A value as it lies in a slot. -/
def valC (n : Nat) (D : Option Addr) (dl cd : Nat) (P : Option Addr) (pl cp : Nat) : Value := .agg #[.int .u64 n, .slice D dl cd, .slice P pl cp]
/-- What is wrong with a value's bounds. -/
def badS (s : Sl) (n dl : Nat) : Nat := if s.kind = 5 ∨ s.kind = 6 then withinN dl s.least s.most else if s.kind = 4 then withinN n 0 1 else withinN n s.least s.most
theorem bad_any (s : Sl) (h6 : s.kind ≠ 6) (n : Nat) (D P : Option Addr) (dl cd pl cp : Nat) (items : Int) (w : World) (hdl : dl ≤ 4611686018427387904) :
    Calls Tryz.prog 111 #[shV s, valC n D dl cd P pl cp, .int .i64 items] w fun e w' => e = .returned (.int .i64 (badS s n dl)) ∧ Ext w w' := by
  unfold valC badS shV
  by_cases h : s.kind = 5 ∨ s.kind = 6
  · rw [if_pos h, if_pos h]
    have e : decide (s.kind = 6) = false := by simpa using h6
    rw [e]
    exact bad_data _ _ n D P dl cd pl cp items w hdl
  · rw [if_neg h, if_neg h]
    by_cases h4 : s.kind = 4
    · rw [if_pos h4, if_pos h4]
      exact bad_num 0 1 n D P dl cd pl cp items w
    · rw [if_neg h4, if_neg h4]
      exact bad_num _ _ n D P dl cd pl cp items w
set_option maxRecDepth 100000 in
theorem fit_ok (s : Sl) (h6 : s.kind ≠ 6) (n : Nat) (D P : Option Addr) (dl cd pl cp : Nat) (at_ : Int) (w : World) (hdl : dl ≤ 4611686018427387904) (hb : badS s n dl = 0) :
    Calls Tryz.prog 114 #[shV s, valC n D dl cd P pl cp, .int .i64 at_] w fun e w' => e = .returned (valC n D dl cd P pl cp) ∧ Ext w w' := by
  have HB := Lib.hid hb
  clear hb
  have hb1 := old_blk (new_blk w (.cells #[.int .u64 n, .slice D dl cd, .slice P pl cp] 78 (0, 0))) (.cells #[.int .u64 0, .slice none 0 0, .slice none 0 0] 78 (0, 0))
  have hb2 := new_blk (w.alloc (.cells #[.int .u64 n, .slice D dl cd, .slice P pl cp] 78 (0, 0))) (.cells #[.int .u64 0, .slice none 0 0, .slice none 0 0] 78 (0, 0))
  rw [World.size_alloc] at hb2
  have X0 : Ext w ((w.alloc (.cells #[.int .u64 n, .slice D dl cd, .slice P pl cp] 78 (0, 0))).alloc (.cells #[.int .u64 0, .slice none 0 0, .slice none 0 0] 78 (0, 0))) := ((Ext.refl _).alloc _).alloc _
  unfold valC
  go_enter Tryz.func114, Tryz.ntmps114
  go_wp2_with fail
  refine (bad_any s h6 n D P dl cd pl cp 0 _ hdl).mono ?_
  rintro e w1 ⟨rfl, hx1⟩
  have X1 := X0.trans hx1
  have y1 := hx1.heap hb1
  have y2 := hx1.heap hb2
  obtain ⟨a0, a1, a2, b0, b1, b2⟩ := blk3 y1
  obtain ⟨c0, c1, c2, d0, d1, d2⟩ := blk3 y2
  clear hb1 hb2 y1 y2 X0
  rw [HB.out]
  go_wp2
  refine bodyPost_ret (v := .agg #[.int .u64 n, .slice D dl cd, .slice P pl cp]) (by simp [results, Tryz.results114, go_sem, c0, c1, c2]) rfl ⟨rfl, ?_⟩
  exact ((X1.setCell (p := ⟨w.heap.size + 1, 0, none⟩) (by simp) _).setCell (p := ⟨w.heap.size + 1, 1, none⟩) (by simp) _).setCell (p := ⟨w.heap.size + 1, 2, none⟩) (by simp) _
set_option maxRecDepth 100000 in
theorem fit_bad (s : Sl) (h6 : s.kind ≠ 6) (n : Nat) (D P : Option Addr) (dl cd pl cp : Nat) (at_ : Int) (w : World) (hdl : dl ≤ 4611686018427387904) (hb : badS s n dl ≠ 0) :
    Calls Tryz.prog 114 #[shV s, valC n D dl cd P pl cp, .int .i64 at_] w fun e w' => e = .panicked [{ v := .iface 34 (faultC 0 at_ (badS s n dl)), recovered := false }] ∧ Ext w w' := by
  have t : (((badS s n dl : Nat) : Int) != 0) = true := by simp; exact hb
  clear hb
  have hb1 := old_blk (new_blk w (.cells #[.int .u64 n, .slice D dl cd, .slice P pl cp] 78 (0, 0))) (.cells #[.int .u64 0, .slice none 0 0, .slice none 0 0] 78 (0, 0))
  have hb2 := new_blk (w.alloc (.cells #[.int .u64 n, .slice D dl cd, .slice P pl cp] 78 (0, 0))) (.cells #[.int .u64 0, .slice none 0 0, .slice none 0 0] 78 (0, 0))
  rw [World.size_alloc] at hb2
  have X0 : Ext w ((w.alloc (.cells #[.int .u64 n, .slice D dl cd, .slice P pl cp] 78 (0, 0))).alloc (.cells #[.int .u64 0, .slice none 0 0, .slice none 0 0] 78 (0, 0))) := ((Ext.refl _).alloc _).alloc _
  unfold valC
  go_enter Tryz.func114, Tryz.ntmps114
  go_wp2_with fail
  refine (bad_any s h6 n D P dl cd pl cp 0 _ hdl).mono ?_
  rintro e w1 ⟨rfl, hx1⟩
  have X1 := X0.trans hx1
  have y1 := hx1.heap hb1
  have y2 := hx1.heap hb2
  obtain ⟨a0, a1, a2, b0, b1, b2⟩ := blk3 y1
  obtain ⟨c0, c1, c2, d0, d1, d2⟩ := blk3 y2
  clear hb1 hb2 y1 y2 X0
  go_wp2_with fail
  refine (give_any _ _ _ _).mono ?_
  rintro e w2 ⟨rfl, rfl⟩
  go_wp2
  exact ⟨rfl, rfl, X1⟩
end Go.Proofs.YtehfoddnlecmjaaGreatDoor
