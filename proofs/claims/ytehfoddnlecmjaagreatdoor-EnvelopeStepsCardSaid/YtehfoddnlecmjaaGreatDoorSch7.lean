/- The contracts of package schema: what a slot's closures do. -/
import Derived.Test.YtehfoddnlecmjaaGreatDoorSch6
set_option linter.unusedVariables false
set_option linter.unusedSimpArgs false
namespace Go.Proofs.YtehfoddnlecmjaaGreatDoor
open Go.RowKit

set_option maxRecDepth 100000 in
theorem write_num (n : Nat) (D P : Option Addr) (dl cd pl cp : Nat) (w : World) :
    Calls Tryz.prog 112 #[valC n D dl cd P pl cp] w fun e w' => e = .returned (.agg #[.int .i64 0, .int .i64 0, .int .u64 n, .slice none 0 0]) ∧ Ext w w' := by
  unfold valC
  go_enter Tryz.func112, Tryz.ntmps112
  go_wp2
  refine bodyPost_ret (v := .agg #[.int .i64 0, .int .i64 0, .int .u64 n, .slice none 0 0]) (by simp [results, Tryz.results112, go_sem]) rfl ⟨rfl, ?_⟩
  exact ((Ext.refl _).alloc _).alloc _
set_option maxRecDepth 100000 in
theorem write_data (n : Nat) (D P : Option Addr) (dl cd pl cp : Nat) (w : World) :
    Calls Tryz.prog 115 #[valC n D dl cd P pl cp] w fun e w' => e = .returned (.agg #[.int .i64 0, .int .i64 0, .int .u64 0, .slice D dl cd]) ∧ Ext w w' := by
  unfold valC
  go_enter Tryz.func115, Tryz.ntmps115
  go_wp2
  refine bodyPost_ret (v := .agg #[.int .i64 0, .int .i64 0, .int .u64 0, .slice D dl cd]) (by simp [results, Tryz.results115, go_sem]) rfl ⟨rfl, ?_⟩
  exact ((Ext.refl _).alloc _).alloc _
set_option maxRecDepth 100000 in
theorem is_num (a b : Int) (n : Nat) (D P : Option Addr) (cd cp : Nat) (w : World) :
    Calls Tryz.prog 183 #[.agg #[.int .u64 a, .int .u64 b], .agg #[.int .u64 n, .slice D 0 cd, .slice P 0 cp]] w fun e w' => e = .returned (.bool true) ∧ Ext w w' := by
  go_enter Tryz.func183, Tryz.ntmps183
  go_wp2
  go_ret
  exact ⟨rfl, ((Ext.refl _).alloc _).alloc _⟩
set_option maxRecDepth 100000 in
theorem is_data (a b : Int) (t : Bool) (D P : Option Addr) (dl cd cp : Nat) (w : World) :
    Calls Tryz.prog 185 #[.agg #[.int .u64 a, .int .u64 b, .bool t], .agg #[.int .u64 0, .slice D dl cd, .slice P 0 cp]] w fun e w' => e = .returned (.bool true) ∧ Ext w w' := by
  go_enter Tryz.func185, Tryz.ntmps185
  go_wp2
  go_ret
  exact ⟨rfl, ((Ext.refl _).alloc _).alloc _⟩
theorem is_data' (a b : Int) (n : Nat) (t : Bool) (D P : Option Addr) (dl cd cp : Nat) (w : World) (hn : n = 0) :
    Calls Tryz.prog 185 #[.agg #[.int .u64 a, .int .u64 b, .bool t], .agg #[.int .u64 n, .slice D dl cd, .slice P 0 cp]] w fun e w' => e = .returned (.bool true) ∧ Ext w w' := by
  subst hn
  exact is_data a b t D P dl cd cp w
theorem is_num' (a b : Int) (n : Nat) (D P : Option Addr) (dl cd cp : Nat) (w : World) (hn : dl = 0) :
    Calls Tryz.prog 183 #[.agg #[.int .u64 a, .int .u64 b], .agg #[.int .u64 n, .slice D dl cd, .slice P 0 cp]] w fun e w' => e = .returned (.bool true) ∧ Ext w w' := by
  subst hn
  exact is_num a b n D P cd cp w
/-- What reading a slot of numbers leaves. -/
def RdPost (s : Sl) (at_ : Int) (n dl : Nat) (v : Value) (w : World) (e : Ending) (w' : World) : Prop :=
  e = (if badS s n dl = 0 then .returned v else .panicked [{ v := .iface 34 (faultC 0 at_ (badS s n dl)), recovered := false }]) ∧ Ext w w'
theorem fit_any (s : Sl) (h6 : s.kind ≠ 6) (n : Nat) (D P : Option Addr) (dl cd pl cp : Nat) (at_ : Int) (w : World) (hdl : dl ≤ 4611686018427387904) :
    Calls Tryz.prog 114 #[shV s, valC n D dl cd P pl cp, .int .i64 at_] w (RdPost s at_ n dl (valC n D dl cd P pl cp) w) := by
  unfold RdPost
  by_cases h : badS s n dl = 0
  · rw [if_pos h]
    exact fit_ok s h6 n D P dl cd pl cp at_ w hdl h
  · rw [if_neg h]
    exact fit_bad s h6 n D P dl cd pl cp at_ w hdl h
set_option maxRecDepth 100000 in
theorem read_num (s : Sl) (h6 : s.kind ≠ 6) (S : Nat) (no ty n : Nat) (D : Option Addr) (dl cd : Nat) (at_ : Int) (w : World) (hdl : dl ≤ 4611686018427387904) (hS : w.heap[S]? = some (.cells #[shV s] 187 (0, 0))) :
    Calls Tryz.prog 113 #[.agg #[.int .i64 no, .int .i64 ty, .int .u64 n, .slice D dl cd], .int .i64 at_, .pointer (some ⟨S, 0, none⟩)] w (RdPost s at_ n 0 (valC n none 0 0 none 0 0) w) := by
  have hS1 := old_blk (old_blk hS (.cells #[.int .i64 no, .int .i64 ty, .int .u64 n, .slice D dl cd] 60 (0, 0))) (.cells #[.int .u64 0, .slice none 0 0, .slice none 0 0] 78 (0, 0))
  have c0 := cell_of_one hS1
  have hb2 := new_blk (w.alloc (.cells #[.int .i64 no, .int .i64 ty, .int .u64 n, .slice D dl cd] 60 (0, 0))) (.cells #[.int .u64 0, .slice none 0 0, .slice none 0 0] 78 (0, 0))
  rw [World.size_alloc] at hb2
  have X0 : Ext w ((w.alloc (.cells #[.int .i64 no, .int .i64 ty, .int .u64 n, .slice D dl cd] 60 (0, 0))).alloc (.cells #[.int .u64 0, .slice none 0 0, .slice none 0 0] 78 (0, 0))) := ((Ext.refl _).alloc _).alloc _
  go_enter Tryz.func113, Tryz.ntmps113
  go_wp2_with fail
  refine (fit_any s h6 n none none 0 0 0 0 at_ _ (by decide)).mono ?_
  rintro e w1 ⟨rfl, hx1⟩
  have X1 := X0.trans hx1
  obtain ⟨a0, a1, a2, d0, d1, d2⟩ := blk3 (hx1.heap hb2)
  clear hb2 X0
  by_cases h : badS s n 0 = 0
  · have H := Lib.hid h
    rw [if_pos h]
    clear h
    unfold valC
    go_wp2
    unfold RdPost
    rw [if_pos H.out]
    refine bodyPost_ret (v := valC n none 0 0 none 0 0) (by simp [results, Tryz.results113, go_sem, a0, a1, a2, valC]) rfl ⟨rfl, ?_⟩
    exact ((X1.setCell (p := ⟨w.heap.size + 1, 0, none⟩) (by simp) _).setCell (p := ⟨w.heap.size + 1, 1, none⟩) (by simp) _).setCell (p := ⟨w.heap.size + 1, 2, none⟩) (by simp) _
  · have H := Lib.hid h
    rw [if_neg h]
    clear h
    go_wp2
    unfold RdPost
    rw [if_neg H.out]
    exact ⟨rfl, rfl, X1⟩
set_option maxRecDepth 100000 in
theorem read_data (s : Sl) (h6 : s.kind ≠ 6) (S : Nat) (no ty n : Nat) (D : Option Addr) (dl cd : Nat) (at_ : Int) (w : World) (hdl : dl ≤ 4611686018427387904) (hS : w.heap[S]? = some (.cells #[shV s] 187 (0, 0))) :
    Calls Tryz.prog 116 #[.agg #[.int .i64 no, .int .i64 ty, .int .u64 n, .slice D dl cd], .int .i64 at_, .pointer (some ⟨S, 0, none⟩)] w (RdPost s at_ 0 dl (valC 0 D dl cd none 0 0) w) := by
  have hS1 := old_blk (old_blk hS (.cells #[.int .i64 no, .int .i64 ty, .int .u64 n, .slice D dl cd] 60 (0, 0))) (.cells #[.int .u64 0, .slice none 0 0, .slice none 0 0] 78 (0, 0))
  have c0 := cell_of_one hS1
  have hb2 := new_blk (w.alloc (.cells #[.int .i64 no, .int .i64 ty, .int .u64 n, .slice D dl cd] 60 (0, 0))) (.cells #[.int .u64 0, .slice none 0 0, .slice none 0 0] 78 (0, 0))
  rw [World.size_alloc] at hb2
  have X0 : Ext w ((w.alloc (.cells #[.int .i64 no, .int .i64 ty, .int .u64 n, .slice D dl cd] 60 (0, 0))).alloc (.cells #[.int .u64 0, .slice none 0 0, .slice none 0 0] 78 (0, 0))) := ((Ext.refl _).alloc _).alloc _
  go_enter Tryz.func116, Tryz.ntmps116
  go_wp2_with fail
  refine (fit_any s h6 0 D none dl cd 0 0 at_ _ hdl).mono ?_
  rintro e w1 ⟨rfl, hx1⟩
  have X1 := X0.trans hx1
  obtain ⟨a0, a1, a2, d0, d1, d2⟩ := blk3 (hx1.heap hb2)
  clear hb2 X0
  by_cases h : badS s 0 dl = 0
  · have H := Lib.hid h
    rw [if_pos h]
    clear h
    unfold valC
    go_wp2
    unfold RdPost
    rw [if_pos H.out]
    refine bodyPost_ret (v := valC 0 D dl cd none 0 0) (by simp [results, Tryz.results116, go_sem, a0, a1, a2, valC]) rfl ⟨rfl, ?_⟩
    exact ((X1.setCell (p := ⟨w.heap.size + 1, 0, none⟩) (by simp) _).setCell (p := ⟨w.heap.size + 1, 1, none⟩) (by simp) _).setCell (p := ⟨w.heap.size + 1, 2, none⟩) (by simp) _
  · have H := Lib.hid h
    rw [if_neg h]
    clear h
    go_wp2
    unfold RdPost
    rw [if_neg H.out]
    exact ⟨rfl, rfl, X1⟩
/-- A value that a slot takes. -/
def okPart (s : Sl) (n dl : Nat) : Prop := badS s n dl = 0 ∧ (if s.kind = 5 ∨ s.kind = 6 then n = 0 else dl = 0)
set_option maxRecDepth 100000 in
set_option maxHeartbeats 1600000 in
theorem check_slot (s : Sl) (hk : s.kind = 1 ∨ s.kind = 2 ∨ s.kind = 4 ∨ s.kind = 5) (S T n : Nat) (D P : Option Addr) (dl cd cp : Nat) (deep : Int) (w : World) (hdl : dl ≤ 4611686018427387904) (hS : SlotAt w s S T) (hok : okPart s n dl) :
    Calls Tryz.prog 110 #[valC n D dl cd P 0 cp, .int .i64 deep, .pointer (some ⟨S, 0, none⟩), .pointer (some ⟨T, 0, none⟩)] w fun e w' => e = .returned (.tuple #[]) ∧ Ext w w' := by
  have h6 : s.kind ≠ 6 := by omega
  obtain ⟨hb, hc⟩ := hok
  have HB := Lib.hid hb
  have hsh := shV_cases s (by omega)
  have X0 : Ext w (w.alloc (.cells #[.int .u64 n, .slice D dl cd, .slice P 0 cp] 78 (0, 0))) := (Ext.refl _).alloc _
  have hS1 := X0.heap hS.1
  have hv := new_blk w (.cells #[.int .u64 n, .slice D dl cd, .slice P 0 cp] 78 (0, 0))
  have c0 := cell_of_one hS1
  clear hb hS
  rcases hsh with ⟨hd, a, b, t, hsv⟩ | ⟨hd, a, b, hsv⟩
  · rw [if_pos hd] at hc
    have HC := Lib.hid hc
    clear hc
    have HSV := Lib.hid hsv
    have HS1 := Lib.hid hS1
    have HV := Lib.hid hv
    have hbad := fun W => bad_any s h6 n D P dl cd 0 cp 0 W hdl
    rw [hsv] at c0 hbad
    rw [HB.out] at hbad
    have HBAD := Lib.hid hbad
    clear hsv hv hS1 hd hk hbad
    unfold valC
    go_enter Tryz.func110, Tryz.ntmps110
    go_wp2_with fail
    refine (is_data' a b n t D P dl cd cp _ HC.out).mono ?_
    rintro e w1 ⟨rfl, hx1⟩
    have d0 := hx1.cell c0
    obtain ⟨e0, e1, e2, _⟩ := blk3 (hx1.heap HV.out)
    go_wp2_with fail
    refine (HBAD.out _).mono ?_
    rintro e w2 ⟨rfl, hx2⟩
    have d2 := hx2.cell d0
    go_wp2
    go_end0
    exact ⟨rfl, ((X0.trans hx1).trans hx2).alloc _⟩
  · rw [if_neg hd] at hc
    have HC := Lib.hid hc
    clear hc
    have HSV := Lib.hid hsv
    have HS1 := Lib.hid hS1
    have HV := Lib.hid hv
    have hbad := fun W => bad_any s h6 n D P dl cd 0 cp 0 W hdl
    rw [hsv] at c0 hbad
    rw [HB.out] at hbad
    have HBAD := Lib.hid hbad
    clear hsv hv hS1 hd hk hbad
    unfold valC
    go_enter Tryz.func110, Tryz.ntmps110
    go_wp2_with fail
    refine (is_num' a b n D P dl cd cp _ HC.out).mono ?_
    rintro e w1 ⟨rfl, hx1⟩
    have d0 := hx1.cell c0
    obtain ⟨e0, e1, e2, _⟩ := blk3 (hx1.heap HV.out)
    go_wp2_with fail
    refine (HBAD.out _).mono ?_
    rintro e w2 ⟨rfl, hx2⟩
    have d2 := hx2.cell d0
    go_wp2
    go_end0
    exact ⟨rfl, ((X0.trans hx1).trans hx2).alloc _⟩
end Go.Proofs.YtehfoddnlecmjaaGreatDoor
