/- The contracts of package wire: a field's value read. -/
import Derived.Test.YtehfoddnlecmjaaGreatDoorWire5
import Derived.BigRegion
set_option linter.unusedVariables false
set_option linter.unusedSimpArgs false
namespace Go.Proofs.YtehfoddnlecmjaaGreatDoor
open Go.RowKit

def fldC (no ty num : Nat) (dv : Value) : Obj := .cells #[.int .i64 no, .int .i64 ty, .int .u64 num, dv] 60 (0, 0)
theorem RB.drop_take {w : World} {b o : Nat} {l : Bytes} (h : ∀ j (h : j < l.length), w.cell? ⟨b, o + j, none⟩ = some (.int .u8 (l[j].toNat : Int))) (k n : Nat) : RB w (some ⟨b, o + k, none⟩) ((l.drop k).take n) := by
  refine .inr ⟨b, o + k, rfl, fun i hi => ?_⟩
  simp only [List.length_take, List.length_drop] at hi
  have := h (k + i) (by omega)
  rw [Nat.add_assoc, this]
  simp
/-- The bytes lie in another block than a field. -/
theorem RB.ne_fld {w : World} {b o : Nat} {l : Bytes} (h : ∀ j (h : j < l.length), w.cell? ⟨b, o + j, none⟩ = some (.int .u8 (l[j].toNat : Int))) (hl : 0 < l.length) {g no ty num : Nat} {A : Option Addr} {n c : Nat}
    (hg : w.heap[g]? = some (fldC no ty num (.slice A n c))) : b ≠ g := by
  rintro rfl
  have h0 := h 0 hl
  rw [blk_cell hg] at h0
  match o with
  | 0 => simp at h0
  | 1 => simp at h0
  | 2 => simp at h0
  | 3 => simp at h0
  | o + 4 => simp at h0
set_option maxRecDepth 100000 in
set_option maxHeartbeats 1600000 in
theorem value_num (A : Option Addr) (c : Nat) (l : Bytes) (q no g : Nat) (w : World) (h : RB w A l) (hl : l.length ≤ 4194304) (hq : q ≤ l.length) (hg : w.heap[g]? = some (fldC no 0 0 (.slice none 0 0))) :
    Calls Tryz.prog 70 #[.slice A l.length c, .pointer (some ⟨g, 0, none⟩), .int .i64 q] w fun e w' =>
      e = .returned (.tuple #[.int .i64 (num l q).2.1, .int .i64 (num l q).2.2]) ∧ w'.heap[g]? = some (fldC no 0 (num l q).1 (.slice none 0 0)) ∧ w.grownBy w' (some g) := by
  obtain ⟨b0, b1, b2, b3, f0, f1, f2, f3⟩ := blk4 (show w.heap[g]? = some (.cells #[.int .i64 no, .int .i64 0, .int .u64 0, .slice none 0 0] 60 (0, 0)) from hg)
  go_enter Tryz.func70, Tryz.ntmps70
  go_wp2_with fail
  refine (number_any A c l q _ h (by omega) hq).mono ?_
  rintro e w1 ⟨rfl, rfl⟩
  go_wp2
  go_ret2
  refine ⟨rfl, ?_, ?_⟩
  · simp [World.setCell, Array.getElem?_modify, hg, fldC]
  · exact ⟨rfl, rfl, rfl, by simp [World.setCell], fun k hk hne => Below.heap_setCell _ _ _ k (fun e => hne (by rw [e]))⟩
/-- What 'value' leaves of a field of bytes. -/
def ValPost (l : Bytes) (q no g : Nat) (w : World) (e : Ending) (w' : World) : Prop := ∃ dv, e = .returned (.tuple #[.int .i64 (valueR l 2 q).2.2.1, .int .i64 (valueR l 2 q).2.2.2]) ∧ w'.heap[g]? = some (fldC no 2 0 dv) ∧ OB w' w.heap.size dv (valueR l 2 q).2.1 ∧ w.grownBy w' (some g)
set_option maxRecDepth 100000 in
set_option maxHeartbeats 1600000 in
theorem value_bytes (A : Option Addr) (c : Nat) (l : Bytes) (q no g : Nat) (w : World) (h : RB w A l) (hl : l.length ≤ 4194304) (hlc : l.length ≤ c) (hc : c ≤ 9223372036854775807) (hq : q ≤ l.length) (hg : w.heap[g]? = some (fldC no 2 0 (.slice none 0 0))) :
    Calls Tryz.prog 70 #[.slice A l.length c, .pointer (some ⟨g, 0, none⟩), .int .i64 q] w (ValPost l q no g w) := by
  obtain ⟨b0, b1, b2, b3, f0, f1, f2, f3⟩ := blk4 (show w.heap[g]? = some (.cells #[.int .i64 no, .int .i64 2, .int .u64 0, .slice none 0 0] 60 (0, 0)) from hg)
  obtain ⟨hn1, hn2, hn3, hn4⟩ := num_ok hq
  by_cases c1 : (num l q).2.2 ≠ 0
  · have HE : Hid (valueR l 2 q = (0, [], 0, (num l q).2.2)) := by exact (by unfold valueR; rw [if_neg (by decide), if_pos rfl, if_pos c1] : valueR l 2 q = (0, [], 0, (num l q).2.2))
    have t1 : (((num l q).2.2 : Int) != 0) = true := by simp; omega
    clear c1 hn4 hn1
    go_enter Tryz.func70, Tryz.ntmps70
    go_wp2_with fail
    refine (number_any A c l q _ h (by omega) hq).mono ?_
    rintro e w1 ⟨rfl, rfl⟩
    go_wp2
    go_ret2
    unfold ValPost
    rw [HE.out]
    exact ⟨_, rfl, hg, OB.nil _ _, World.grownBy.refl _ _⟩
  · have e0 : (num l q).2.2 = 0 := by omega
    have HE0 := Lib.hid e0
    have hlt := hn3 e0
    by_cases c2 : l.length - (num l q).2.1 < (num l q).1
    · have HE : Hid (valueR l 2 q = (0, [], 0, 73)) := by exact (by unfold valueR; rw [if_neg (by decide), if_pos rfl, if_neg c1, if_pos c2] : valueR l 2 q = (0, [], 0, 73))
      have k1 : (l.length : Int) - ((num l q).2.1 : Int) < ((num l q).1 : Int) := by omega
      clear c1 hn4 hn1 e0 c2
      go_enter Tryz.func70, Tryz.ntmps70
      go_wp2_with fail
      refine (number_any A c l q _ h (by omega) hq).mono ?_
      rintro e w1 ⟨rfl, rfl⟩
      rw [HE0.out]
      go_wp2
      go_ret2
      unfold ValPost
      rw [HE.out]
      exact ⟨_, rfl, hg, OB.nil _ _, World.grownBy.refl _ _⟩
    · have HE : Hid (valueR l 2 q = (0, (l.drop (num l q).2.1).take (num l q).1, (num l q).2.1 + (num l q).1, 0)) := by
        exact (by unfold valueR; rw [if_neg (by decide), if_pos rfl, if_neg c1, if_neg c2] : valueR l 2 q = (0, (l.drop (num l q).2.1).take (num l q).1, (num l q).2.1 + (num l q).1, 0))
      have k1 : ((num l q).1 : Int) ≤ (l.length : Int) - ((num l q).2.1 : Int) := by omega
      obtain ⟨b, o, rfl, hc'⟩ := h.at_ (i := q) (by omega)
      have hr := RB.drop_take hc' (num l q).2.1 (num l q).1
      have hdl : ((l.drop (num l q).2.1).take (num l q).1).length = (num l q).1 := by simp; omega
      have hdl8 : ((l.drop (num l q).2.1).take (num l q).1).length ≤ 4194304 := by omega
      have hne := RB.ne_fld hc' (by omega) hg
      have hgl := lt_of_heap hg
      have HDL := Lib.hid hdl
      clear c1 hn4 e0 c2 hdl
      by_cases hcap : c = (num l q).2.1
      · have hv0 : (num l q).1 = 0 := by omega
        have hd0 : (l.drop (num l q).2.1).take (num l q).1 = [] := by rw [hv0]; rfl
        have HV := Lib.hid hv0
        have HD0 := Lib.hid hd0
        have HCP := Lib.hid hcap
        clear hv0 hd0 hn1 k1 hcap
        go_enter Tryz.func70, Tryz.ntmps70
        go_wp2_with fail
        refine (number_any _ c l q _ h (by omega) hq).mono ?_
        rintro e w1 ⟨rfl, rfl⟩
        rw [HE0.out, HV.out]
        go_wp2_with (at_builtin; go_must (refine wpList_appB (by rfl) (.const (.slice none 0 0)) (.tmp 61) (by rfl) Tryz.underlying22 u8_info (by rfl) (OB.nil w w.heap.size) (if c = (num l q).2.1 then some ⟨b, o, none⟩ else some ⟨b, o + (num l q).2.1, none⟩) (c - (num l q).2.1) [] (by rfl) (RB.nil _ _) (by simp) (Nat.le_refl _) ?_); intro v1 w1 ho1 hg1 hat1; obtain ⟨A1, c1, rfl, _, _, _, _⟩ := ho1.reads; have hgw := (hg1.block g hgl (by simp [Value.ownBlock])).trans hg; obtain ⟨e0, e1, e2, e3, x0, x1, x2, x3⟩ := blk4 (show w1.heap[g]? = some (.cells #[.int .i64 no, .int .i64 2, .int .u64 0, .slice none 0 0] 60 (0, 0)) from hgw))
        go_ret2
        unfold ValPost
        rw [HE.out]
        refine ⟨Value.slice A1 ([] ++ [] : Bytes).length c1, ?_, ?_, ?_, ?_⟩
        · rw [HV.out]; rfl
        · simp [World.setCell, Array.getElem?_modify, hgw, fldC]
        · have hne1 : ∀ k, (Value.slice A1 ([] ++ [] : Bytes).length c1).ownBlock = some k → (some g : Option Nat) ≠ some k := fun k hk e => by have := ho1.ge k hk; injection e with e; omega
          have hs := grown_store w1 g 3 (.slice A1 ([] ++ [] : Bytes).length c1)
          rw [HD0.out]; exact ho1.grown hs hne1
        · exact grown_trans (grown_none hg1 (some g)) (grown_store _ _ _ _)
      · have HDLS : Hid ((num l q).2.1 + (num l q).1 - (num l q).2.1 = ((l.drop (num l q).2.1).take (num l q).1).length) := by exact (by rw [HDL.out]; omega : (num l q).2.1 + (num l q).1 - (num l q).2.1 = ((l.drop (num l q).2.1).take (num l q).1).length)
        have hdl9 : ([] : Bytes).length + ((l.drop (num l q).2.1).take (num l q).1).length ≤ 140737488355328 := by simp only [List.length_nil]; omega
        go_enter Tryz.func70, Tryz.ntmps70
        go_wp2_with fail
        refine (number_any _ c l q _ h (by omega) hq).mono ?_
        rintro e w1 ⟨rfl, rfl⟩
        rw [HE0.out]
        clear hn1
        go_wp2_with (at_builtin; go_must (refine wpList_appB (by rfl) (.const (.slice none 0 0)) (.tmp 61) (by rfl) Tryz.underlying22 u8_info (by rfl) (OB.nil w w.heap.size) (some ⟨b, o + (num l q).2.1, none⟩) (c - (num l q).2.1) ((l.drop (num l q).2.1).take (num l q).1) (congrArg (fun k => Value.slice (some ⟨b, o + (num l q).2.1, none⟩) k (c - (num l q).2.1)) HDLS.out) hr hdl9 (Nat.le_refl _) ?_); intro v1 w1 ho1 hg1 hat1; obtain ⟨A1, c1, rfl, _, _, _, _⟩ := ho1.reads; have hgw := (hg1.block g hgl (by simp [Value.ownBlock])).trans hg; obtain ⟨e0, e1, e2, e3, x0, x1, x2, x3⟩ := blk4 (show w1.heap[g]? = some (.cells #[.int .i64 no, .int .i64 2, .int .u64 0, .slice none 0 0] 60 (0, 0)) from hgw))
        go_ret2
        unfold ValPost
        rw [HE.out]
        refine ⟨Value.slice A1 (min (num l q).1 (l.length - (num l q).2.1)) c1, rfl, ?_, ?_, ?_⟩
        · simp [World.setCell, Array.getElem?_modify, hgw, fldC]
        · have hs := grown_store w1 g 3 (.slice A1 ([] ++ (l.drop (num l q).2.1).take (num l q).1 : Bytes).length c1)
          have hne1 : ∀ k, (Value.slice A1 ([] ++ (l.drop (num l q).2.1).take (num l q).1 : Bytes).length c1).ownBlock = some k → (some g : Option Nat) ≠ some k := fun k hk e => by have := ho1.ge k hk; injection e with e; omega
          simpa using ho1.grown hs hne1
        · exact grown_trans (grown_none hg1 (some g)) (grown_store _ _ _ _)
theorem or_join8 {acc x j : Nat} (h : acc < 256 ^ j) (hx : x < 256) (hj : j < 8) : bits .or .u64 (acc : Int) (IntKind.u64.wrap ((x : Int) * 2 ^ (8 * j))) = ((acc + x * 256 ^ j : Nat) : Int) := by
  have e : (256 : Nat) ^ j = 2 ^ (8 * j) := by rw [Nat.pow_mul]
  rw [e] at h
  have h1 : x * 2 ^ (8 * j) ≤ 255 * 2 ^ (8 * j) := Nat.mul_le_mul_right _ (by omega)
  have h2 : (2 : Nat) ^ (8 * j) ≤ 2 ^ 56 := Nat.pow_le_pow_right (by omega) (by omega)
  rw [or_join h (by omega), e]
theorem take_little (l : Bytes) (q j : Nat) (h : q + j < l.length) : little ((l.drop q).take (j + 1)) = little ((l.drop q).take j) + l[q + j].toNat * 256 ^ j := by
  have h1 : j < (l.drop q).length := by simp; omega
  rw [List.take_succ_eq_append_getElem h1, little_snoc]
  rw [show (List.take j (List.drop q l)).length = j by simp; omega]
  simp
set_option maxRecDepth 100000 in
set_option maxHeartbeats 1600000 in
theorem value_fixed (ty : Nat) (hty : ty = 1 ∨ ty = 5) (A : Option Addr) (c : Nat) (l : Bytes) (q no g : Nat) (w : World) (h : RB w A l) (hl : l.length ≤ 4194304) (hq : q ≤ l.length) (hg : w.heap[g]? = some (fldC no ty 0 (.slice none 0 0))) :
    Calls Tryz.prog 70 #[.slice A l.length c, .pointer (some ⟨g, 0, none⟩), .int .i64 q] w fun e w' =>
      e = .returned (.tuple #[.int .i64 (valueR l ty q).2.2.1, .int .i64 (valueR l ty q).2.2.2]) ∧ w'.heap[g]? = some (fldC no ty (valueR l ty q).1 (.slice none 0 0)) ∧ w.grownBy w' (some g) := by
  obtain ⟨b0, b1, b2, b3, f0, f1, f2, f3⟩ := blk4 (show w.heap[g]? = some (.cells #[.int .i64 no, .int .i64 ty, .int .u64 0, .slice none 0 0] 60 (0, 0)) from hg)
  by_cases c1 : l.length - q < wideOf ty
  · have HE : Hid (valueR l ty q = (0, [], 0, 73)) := by
      exact (by unfold valueR; rw [if_neg (by omega), if_neg (by omega), if_pos c1] : valueR l ty q = (0, [], 0, 73))
    rcases hty with rfl | rfl
    · have k1 : (l.length : Int) - (q : Int) < 8 := by simp [wideOf] at c1; omega
      clear c1
      go_enter Tryz.func70, Tryz.ntmps70
      go_wp2
      go_ret2
      rw [HE.out]
      exact ⟨rfl, hg, World.grownBy.refl _ _⟩
    · have k1 : (l.length : Int) - (q : Int) < 4 := by simp [wideOf] at c1; omega
      clear c1
      go_enter Tryz.func70, Tryz.ntmps70
      go_wp2
      go_ret2
      rw [HE.out]
      exact ⟨rfl, hg, World.grownBy.refl _ _⟩
  · have HE : Hid (valueR l ty q = (little ((l.drop q).take (wideOf ty)), [], q + wideOf ty, 0)) := by
      exact (by unfold valueR; rw [if_neg (by omega), if_neg (by omega), if_neg c1] : valueR l ty q = (little ((l.drop q).take (wideOf ty)), [], q + wideOf ty, 0))
    rcases hty with rfl | rfl
    · have k1 : (8 : Int) ≤ (l.length : Int) - (q : Int) := by simp [wideOf] at c1; omega
      clear c1
      obtain ⟨b, o, rfl, hc'⟩ := h.at_ (i := q) (by omega)
      have hne := RB.ne_fld hc' (by omega) hg
      go_enter Tryz.func70, Tryz.ntmps70
      go_wp2
      go_loopw [78] (fun i wr => ∃ j : Nat, j ≤ 8 ∧ i = .int .i64 j ∧ wr.heap[g]? = some (fldC no 1 (little ((l.drop q).take j)) (.slice none 0 0)) ∧ w.grownBy wr (some g)) (fun i _ => 8 - (intOf i).toNat)
      case atStart => exact ⟨0, by omega, rfl, by simpa [little] using hg, World.grownBy.refl _ _⟩
      case round =>
        obtain ⟨j, hj, rfl, hgr, hgrow⟩ := hrel
        by_cases hlt : j < 8
        · have hcell := hgrow.cell (hc' (q + j) (by omega)) (by simpa using hne)
          have HT := Lib.hid (take_little l q j (by omega))
          have hx8 := u8_lt l[q + j]
          have hacc := little_lt ((l.drop q).take j)
          rw [show ((l.drop q).take j).length = j by simp; omega] at hacc
          have HOR := Lib.hid (or_join8 hacc hx8 (by omega))
          generalize l[q + j].toNat = x at *
          generalize little ((l.drop q).take j) = acc at *
          clear hacc
          obtain ⟨c0, c1, c2, c3, g0, g1, g2, g3⟩ := blk4 (show wr.heap[g]? = some (.cells #[.int .i64 no, .int .i64 1, .int .u64 acc, .slice none 0 0] 60 (0, 0)) from hgr)
          have i0 : (0 : Int) ≤ (q : Int) + (j : Int) := by omega
          have i1 : (q : Int) + (j : Int) < (l.length : Int) := by omega
          go_wp2
          go_region
          go_wp2
          refine ⟨⟨j + 1, by omega, by simp, ?_, ?_⟩, by simp [intOf]; omega⟩
          · rw [HOR.out, HT.out]
            show (wr.setCell ⟨g, 2, none⟩ _).heap[g]? = _
            simp [World.setCell, Array.getElem?_modify, hgr, fldC]
          · have G := grown_store wr g 2 (.int .u64 (bits .or .u64 (acc : Int) (IntKind.u64.wrap ((x : Int) * 2 ^ (8 * j)))))
            exact grown_trans hgrow ⟨G.os, G.tape, G.output, G.size, G.block⟩
        · obtain rfl : j = 8 := by omega
          go_wp2
          go_ret2
          rw [HE.out]
          exact ⟨by simp [wideOf], hgr, hgrow⟩
    · have k1 : (4 : Int) ≤ (l.length : Int) - (q : Int) := by simp [wideOf] at c1; omega
      clear c1
      obtain ⟨b, o, rfl, hc'⟩ := h.at_ (i := q) (by omega)
      have hne := RB.ne_fld hc' (by omega) hg
      go_enter Tryz.func70, Tryz.ntmps70
      go_wp2
      go_loopw [78] (fun i wr => ∃ j : Nat, j ≤ 4 ∧ i = .int .i64 j ∧ wr.heap[g]? = some (fldC no 5 (little ((l.drop q).take j)) (.slice none 0 0)) ∧ w.grownBy wr (some g)) (fun i _ => 4 - (intOf i).toNat)
      case atStart => exact ⟨0, by omega, rfl, by simpa [little] using hg, World.grownBy.refl _ _⟩
      case round =>
        obtain ⟨j, hj, rfl, hgr, hgrow⟩ := hrel
        by_cases hlt : j < 4
        · have hcell := hgrow.cell (hc' (q + j) (by omega)) (by simpa using hne)
          have HT := Lib.hid (take_little l q j (by omega))
          have hx8 := u8_lt l[q + j]
          have hacc := little_lt ((l.drop q).take j)
          rw [show ((l.drop q).take j).length = j by simp; omega] at hacc
          have HOR := Lib.hid (or_join8 hacc hx8 (by omega))
          generalize l[q + j].toNat = x at *
          generalize little ((l.drop q).take j) = acc at *
          clear hacc
          obtain ⟨c0, c1, c2, c3, g0, g1, g2, g3⟩ := blk4 (show wr.heap[g]? = some (.cells #[.int .i64 no, .int .i64 5, .int .u64 acc, .slice none 0 0] 60 (0, 0)) from hgr)
          have i0 : (0 : Int) ≤ (q : Int) + (j : Int) := by omega
          have i1 : (q : Int) + (j : Int) < (l.length : Int) := by omega
          go_wp2
          go_region
          go_wp2
          refine ⟨⟨j + 1, by omega, by simp, ?_, ?_⟩, by simp [intOf]; omega⟩
          · rw [HOR.out, HT.out]
            show (wr.setCell ⟨g, 2, none⟩ _).heap[g]? = _
            simp [World.setCell, Array.getElem?_modify, hgr, fldC]
          · have G := grown_store wr g 2 (.int .u64 (bits .or .u64 (acc : Int) (IntKind.u64.wrap ((x : Int) * 2 ^ (8 * j)))))
            exact grown_trans hgrow ⟨G.os, G.tape, G.output, G.size, G.block⟩
        · obtain rfl : j = 4 := by omega
          go_wp2
          go_ret2
          rw [HE.out]
          exact ⟨by simp [wideOf], hgr, hgrow⟩
/-- What 'value' leaves. -/
def ValPost2 (l : Bytes) (ty q no g : Nat) (w : World) (e : Ending) (w' : World) : Prop := ∃ dv, e = .returned (.tuple #[.int .i64 (valueR l ty q).2.2.1, .int .i64 (valueR l ty q).2.2.2]) ∧ w'.heap[g]? = some (fldC no ty (valueR l ty q).1 dv) ∧ OB w' w.heap.size dv (valueR l ty q).2.1 ∧ w.grownBy w' (some g)
theorem value_any (ty : Nat) (hty : ty = 0 ∨ ty = 1 ∨ ty = 2 ∨ ty = 5) (A : Option Addr) (c : Nat) (l : Bytes) (q no g : Nat) (w : World) (h : RB w A l) (hl : l.length ≤ 4194304) (hlc : l.length ≤ c) (hc : c ≤ 9223372036854775807) (hq : q ≤ l.length) (hg : w.heap[g]? = some (fldC no ty 0 (.slice none 0 0))) :
    Calls Tryz.prog 70 #[.slice A l.length c, .pointer (some ⟨g, 0, none⟩), .int .i64 q] w (ValPost2 l ty q no g w) := by
  by_cases h0 : ty = 0
  · subst h0
    refine (value_num A c l q no g w h hl hq hg).mono ?_
    rintro e w' ⟨rfl, h1, h2⟩
    exact ⟨.slice none 0 0, by simp [valueR], by simpa [valueR] using h1, by simp only [valueR, if_pos]; exact OB.nil _ _, h2⟩
  · by_cases h2 : ty = 2
    · subst h2
      refine (value_bytes A c l q no g w h hl hlc hc hq hg).mono ?_
      rintro e w' ⟨dv, rfl, h1, h2, h3⟩
      have e0 : (valueR l 2 q).1 = 0 := by
        unfold valueR
        rw [if_neg (by decide), if_pos rfl]
        split
        · rfl
        · split <;> rfl
      exact ⟨dv, rfl, by rw [e0]; exact h1, h2, h3⟩
    · refine (value_fixed ty (by omega) A c l q no g w h hl hq hg).mono ?_
      rintro e w' ⟨rfl, h1, h3⟩
      have e0 : (valueR l ty q).2.1 = [] := by
        unfold valueR
        rw [if_neg h0, if_neg h2]
        split <;> rfl
      exact ⟨.slice none 0 0, rfl, h1, by rw [e0]; exact OB.nil _ _, h3⟩
end Go.Proofs.YtehfoddnlecmjaaGreatDoor
